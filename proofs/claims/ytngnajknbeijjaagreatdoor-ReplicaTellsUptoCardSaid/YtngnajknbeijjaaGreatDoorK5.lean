/-
  Part 5 of what the claim leans on: P10 P11 P21 AxRen J5 AxLend J2 J3 J4 AxByt Lg Cl L6 J6 J7 P22 L17.
-/
import Derived.Test.YtngnajknbeijjaaGreatDoorK4
import Derived.Lib.AppendStr
import Derived.Lib.ConvBytes
import Derived.Laws.BytesString
set_option linter.all false

namespace Go.Proofs.YtngnajknbeijjaaGreatDoor
open Go.AX Go.RF
theorem setV_by (h:Bool) (v w:Version):(setV h v w).by_=w.by_:=by
 unfold setV
 split
 ·
  next hh=>exact hh.2.symm
 ·
  rfl
theorem bvs_map {h hit:Bool}{x:Int}{v:Version}:∀ {l:List Version}{out:Version},bvs h x (setV hit v out) (l.map (setV hit v))=setV hit v (bvs h x out l)
 | [],out=>rfl
 |w::l,out=>by
  simp only[List.map_cons,bvs,setV_by]
  have e:(if (h&&decide (w.by_ < x))=true then setV hit v w else setV hit v out)=setV hit v (if (h&&decide (w.by_ < x))=true then w else out):=by split <;> rfl
  rw[e]
  exact bvs_map
theorem beforeGo_set {k:Str}{x:Int}{v:Version}:∀ {l:List Chain}{out:Version},beforeGo k x (setV true v out) (setChains l k v)=setV true v (beforeGo k x out l)
 | [],out=>rfl
 |c::l,out=>by
  simp only[setChains,List.map_cons,beforeGo,setC]
  by_cases hk:c.key=k
  ·
   rw[decide_eq_true hk,bvs_map]
   exact beforeGo_set (l:=l)
  ·
   rw[decide_eq_false hk,bvs_false,bvs_false]
   exact beforeGo_set (l:=l)
theorem beforeGo_set_ne {k k':Str}{x:Int}{v:Version}(hne:k≠k'):∀ {l:List Chain}{out:Version},beforeGo k x out (setChains l k' v)=beforeGo k x out l
 | [],out=>rfl
 |c::l,out=>by
  simp only[setChains,List.map_cons,beforeGo,setC]
  by_cases hk:c.key=k
  ·
   have hk':¬ c.key=k':=fun e=>hne (hk.symm.trans e)
   have hid:c.vs.map (setV (decide (c.key=k')) v)=c.vs:=by
    rw[decide_eq_false hk']
    exact(List.map_congr_left fun w _=>show setV false v w=w by unfold setV;simp).trans (List.map_id _)
   rw[hid]
   exact beforeGo_set_ne hne (l:=l)
  ·
   rw[decide_eq_false hk,bvs_false,bvs_false]
   exact beforeGo_set_ne hne (l:=l)
theorem before_setG {l:List Chain}{k k':Str}{x:Int}{v:Version}(hv:v.by_ ≠ -1):before (setChains l k' v) k x=if k'=k then setV true v (before l k x) else before l k x:=by
 unfold before
 by_cases h:k'=k
 ·
  subst h
  rw[if_pos rfl,← beforeGo_set]
  congr 1
  unfold setV
  rw[if_neg (fun e=>hv e.2.symm)]
 ·
  rw[if_neg h]
  exact beforeGo_set_ne (fun e=>h e.symm)
def doneV (r:List Pair) (b:Int) (k:Str):Version:=⟨b,true,(RF.get r k).2,(RF.get r k).1⟩
theorem before_goSets {r:List Pair}{b:Int}(hb:b ≠ -1) {k:Str}{x:Int}:∀ {ks:List Str}{l:List Chain},before (goSets r b l ks) k x=if k∈ks∧(before l k x).by_=b then doneV r b k else before l k x
 | [],l=>by simp[goSets]
 |k'::ks,l=>by
  simp only[goSets]
  rw[before_goSets hb,before_setG hb]
  by_cases h:k'=k
  ·
   subst h
   rw[if_pos rfl,setV_by]
   by_cases hx:(before l k' x).by_=b
   ·
    have e:setV true (⟨b,true,(RF.get r k').2,(RF.get r k').1⟩:Version) (before l k' x)=doneV r b k':=by unfold setV;rw[if_pos ⟨rfl,hx⟩];rfl
    rw[e,ite_self,if_pos ⟨List.mem_cons_self ..,hx⟩]
   ·
    rw[if_neg (fun e=>hx e.2),if_neg (fun e=>hx e.2)]
    unfold setV
    rw[if_neg (fun e=>hx e.2)]
  ·
   rw[if_neg h]
   by_cases hk:k∈ks∧(before l k x).by_=b
   ·
    rw[if_pos hk,if_pos ⟨List.mem_cons_of_mem _ hk.1,hk.2⟩]
   ·
    rw[if_neg hk,if_neg]
    rintro ⟨h1,h2⟩
    rcases List.mem_cons.1 h1 with h1|h1
    ·
     exact h h1.symm
    ·
     exact hk ⟨h1,h2⟩
def sq (r:List Pair) (l:List Deed) (i:Nat):List Pair:=(allD r (l.take i)).1
theorem allD_snoc:∀ {l:List Deed}{r:List Pair}{d:Deed},allD r (l++[d])=((doD (allD r l).1 d).1,(allD r l).2++[(doD (allD r l).1 d).2])
 | [],r,d=>rfl
 |x::l,r,d=>by simp only[List.cons_append,allD];rw[allD_snoc]
theorem sq_succ {r:List Pair}{l:List Deed}{i:Nat}{d:Deed}(h:l[i]? = some d):sq r l (i+1)=(doD (sq r l i) d).1:=by
 unfold sq
 rw[List.take_add_one,h]
 show(allD r (l.take i++[d])).1=_
 rw[allD_snoc]
theorem sq_srt {r:List Pair}{l:List Deed}(hs:Srt Pair.key r) (hw:∀ d∈l,wrongDeed d=0):∀ (i:Nat),Srt Pair.key (sq r l i)
 |0=>hs
 |i+1=>by
  cases h:l[i]? with
  |none =>
   have hle:=List.getElem?_eq_none_iff.1 h
   have:sq r l (i+1)=sq r l i:=by unfold sq;rw[List.take_of_length_le (by omega),List.take_of_length_le hle]
   rw[this];exact sq_srt hs hw i
  |some d =>
   rw[sq_succ h]
   exact doD_srt (sq_srt hs hw i) (wrong_keyed (hw d (List.mem_of_getElem? h)))
theorem sq_append {r:List Pair}{l m:List Deed}{i:Nat}(h:i≤l.length):sq r (l++m) i=sq r l i:=by
 unfold sq;rw[List.take_append_of_le_length h]
structure QInv (e:Engine) (r:List Pair):Prop where
 s:Srt Pair.key r
 z:∀ k,(before e.chains k e.base).made=true
 m:∀ (k:Str) (i:Nat),i≤e.deeds.length→(before e.chains k (e.base+i)).made=true→RF.get (sq r e.deeds i) k=((before e.chains k (e.base+i)).n,(before e.chains k (e.base+i)).has)
 p:∀ (k:Str) (i:Nat) (d:Deed),e.deeds[i]? = some d→k∈d.writes→(before e.chains k (e.base+(i+1:Nat))).by_=e.base+i∧(e.state[i]? = some 1→(before e.chains k (e.base+(i+1:Nat))).made=true)
 q:∀ (k:Str) (i:Nat) (d:Deed),e.deeds[i]? = some d→k∉d.writes→before e.chains k (e.base+(i+1:Nat))=before e.chains k (e.base+i)
 w:∀ (i:Nat) (d:Deed),e.deeds[i]? = some d→e.state[i]? = some 1→e.ends[i]? = some (doD (sq r e.deeds i) d).2
 b:0≤e.base
theorem newE_q {r:List Pair}(hs:Srt Pair.key r):QInv (newE r) r:=by
 have hv:∀ k x,-1 < x→((∃ p∈r,p.key=k∧before (r.map rowChain) k x=⟨-1,true,true,p.n⟩)∨((∀ p∈r,p.key≠k)∧before (r.map rowChain) k x=noV)):=fun k x hx=>by
  by_cases h:∃ p∈r,p.key=k
  ·
   obtain⟨p,hp,rfl⟩:=h
   exact .inl ⟨p,hp,rfl,before_row hs hp hx⟩
  ·
   have hn:∀ p∈r,p.key≠k:=fun p hp he=>h ⟨p,hp,he⟩
   refine .inr ⟨hn,beforeGo_none fun c hc=>?_⟩
   obtain⟨p,hp,rfl⟩:=List.mem_map.1 hc
   exact hn p hp
 refine⟨hs,fun k=>?_,fun k i hi hm=>?_,fun k i d h=>by simp[newE]at h,fun k i d h=>by simp[newE]at h,fun i d h=>by simp[newE]at h,by simp[newE]⟩
 ·
  rcases hv k 0 (by omega) with ⟨p,_,_,h⟩|⟨_,h⟩
  ·
   show(before (r.map rowChain) k 0).made=true
   rw[h]
  ·
   show(before (r.map rowChain) k 0).made=true
   rw[h];rfl
 ·
  have hi0:i=0:=by simpa[newE] using hi
  subst hi0
  show RF.get r k=((before (r.map rowChain) k (0+((0:Nat):Int))).n,(before (r.map rowChain) k (0+((0:Nat):Int))).has)
  rcases hv k (0+((0:Nat):Int)) (by omega) with ⟨p,hp,rfl,h⟩|⟨hn,h⟩
  ·
   rw[h,get_of_mem hs hp]
  ·
   rw[h,get_absent hn];rfl
theorem addKeys_le {k:Str}{b x:Int}(hx:x≤b):∀ {ks:List Str}{l:List Chain},Srt Chain.key l→before (addKeys b l ks) k x=before l k x
 | [],l,_=>rfl
 |k'::ks,l,hs=>by
  simp only[addKeys]
  rw[addC_srt hs,addKeys_le hx (addS_srt hs)]
  exact before_addS fun _=>hx
theorem addKeys_out {k:Str}{b x:Int}:∀ {ks:List Str}{l:List Chain},Srt Chain.key l→k∉ks→before (addKeys b l ks) k x=before l k x
 | [],l,_,_=>rfl
 |k'::ks,l,hs,hk=>by
  simp only[addKeys]
  rw[addC_srt hs,addKeys_out (addS_srt hs) (fun h=>hk (List.mem_cons_of_mem _ h))]
  exact before_addS fun e=>absurd (List.mem_cons.2 (.inl e)) hk
theorem addKeys_in {k:Str}{b x:Int}(hx:b < x):∀ {ks:List Str}{l:List Chain},Srt Chain.key l→ks.Nodup→k∈ks→before (addKeys b l ks) k x=newV b
 | [],l,_,_,hk=>by simp at hk
 |k'::ks,l,hs,hn,hk=>by
  obtain⟨hn1,hn2⟩:=List.nodup_cons.1 hn
  simp only[addKeys]
  rw[addC_srt hs]
  by_cases h:k=k'
  ·
   subst h
   rw[addKeys_out (addS_srt hs) hn1]
   exact behind_add hx hs
  ·
   exact addKeys_in hx (addS_srt hs) hn2 (by
    rcases List.mem_cons.1 hk with e|e
    ·
     exact absurd e h
    ·
     exact e)
theorem bvs_top {h:Bool}{x y B:Int}(hx:B≤x) (hy:B≤y):∀ {l:List Version}{out:Version},(∀ v∈l,v.by_ < B)→bvs h x out l=bvs h y out l
 | [],out,_=>rfl
 |v::l,out,hl=>by
  have hv:=hl v (List.mem_cons_self ..)
  simp only[bvs]
  rw[decide_eq_true (show v.by_ < x by omega),decide_eq_true (show v.by_ < y by omega)]
  exact bvs_top hx hy fun w hw=>hl w (List.mem_cons_of_mem _ hw)
theorem before_top {x y B:Int}{k:Str}(hx:B≤x) (hy:B≤y):∀ {l:List Chain}{out:Version},(∀ c∈l,∀ v∈c.vs,v.by_ < B)→beforeGo k x out l=beforeGo k y out l
 | [],out,_=>rfl
 |c::l,out,hl=>by
  simp only[beforeGo]
  rw[bvs_top hx hy (hl c (List.mem_cons_self ..))]
  exact before_top hx hy fun d hd=>hl d (List.mem_cons_of_mem _ hd)
theorem QInv.add1 {e:Engine}{r:List Pair}(h:QInv e r) (hS:SInv e) (hW:WInv e) (hn:e.ends.length=e.deeds.length) {d:Deed}(hd:wrongDeed d=0):QInv (RF.add1 e d) r:=by
 have hnd:=(wrong_keys hd).2
 have hle:∀ k (i:Nat),i≤e.deeds.length→before (RF.add1 e d).chains k (e.base+i)=before e.chains k (e.base+i):=fun k i hi=>addKeys_le (by omega) hS.k
 have hlt:∀ (i:Nat) (x:Deed),(RF.add1 e d).deeds[i]? = some x→(i < e.deeds.length∧e.deeds[i]? = some x)∨(i=e.deeds.length∧x=d):=fun i x hx=>by
  have hx':(e.deeds++[d])[i]? = some x:=hx
  rcases Nat.lt_or_ge i e.deeds.length with hi|hi
  ·
   rw[List.getElem?_append_left hi]at hx'
   exact .inl ⟨hi,hx'⟩
  ·
   rw[List.getElem?_append_right hi]at hx'
   have h0:i - e.deeds.length=0:=by
    have:=(List.getElem?_eq_some_iff.1 hx').1
    simpa using this
   rw[h0]at hx'
   exact .inr ⟨by omega,by simpa using hx'.symm⟩
 have hsqe:∀ i,i≤e.deeds.length→sq r (e.deeds++[d]) i=sq r e.deeds i:=fun i hi=>sq_append hi
 have hst:∀ i,i < e.deeds.length→(e.state++[0])[i]? = e.state[i]? := fun i hi=>List.getElem?_append_left (by rw[hW.l];exact hi)
 have hst1:(e.state++[0])[e.deeds.length]? ≠ some 1:=by rw[← hW.l];simp
 have htop:∀ k,before e.chains k (e.base+(e.deeds.length+1:Nat))=before e.chains k (e.base+e.deeds.length):=fun k=>before_top (B:=e.base+e.deeds.length) (by omega) (by omega) hS.b
 refine⟨h.s,fun k=>?_,fun k i hi hm=>?_,fun k i x hx hk=>?_,fun k i x hx hk=>?_,fun i x hx h1=>?_,h.b⟩
 ·
  have:=hle k 0 (by omega)
  simp only[Int.natCast_zero,Int.add_zero]at this
  show(before (RF.add1 e d).chains k e.base).made=true
  rw[this];exact h.z k
 ·
  have hi':i≤e.deeds.length+1:=by simpa[RF.add1] using hi
  show RF.get (sq r (e.deeds++[d]) i) k=((before (RF.add1 e d).chains k (e.base+i)).n,(before (RF.add1 e d).chains k (e.base+i)).has)
  have hm':(before (RF.add1 e d).chains k (e.base+i)).made=true:=hm
  by_cases hil:i≤e.deeds.length
  ·
   rw[hle k i hil]at hm' ⊢
   rw[hsqe i hil]
   exact h.m k i hil hm'
  ·
   obtain rfl:i=e.deeds.length+1:=by omega
   by_cases hkw:k∈d.writes
   ·
    have:before (RF.add1 e d).chains k (e.base+(e.deeds.length+1:Nat))=newV (e.base+e.deeds.length):=addKeys_in (by omega) hS.k hnd hkw
    rw[this]at hm';cases hm'
   ·
    have hb:before (RF.add1 e d).chains k (e.base+(e.deeds.length+1:Nat))=before e.chains k (e.base+(e.deeds.length+1:Nat)):=addKeys_out hS.k hkw
    rw[hb,htop]at hm' ⊢
    have hg:(e.deeds++[d])[e.deeds.length]? = some d:=by simp
    rw[sq_succ hg,do_same (sq_srt h.s (fun x hx=>by
     rcases List.mem_append.1 hx with hx|hx
     ·
      exact hW.d x hx
     ·
      simp at hx;subst hx;exact hd) _) hd hkw,hsqe _ (Nat.le_refl _)]
    exact h.m k _ (Nat.le_refl _) hm'
 ·
  rcases hlt i x hx with ⟨hi,hx'⟩|⟨rfl,rfl⟩
  ·
   have:=h.p k i x hx' hk
   show(before (RF.add1 e d).chains k (e.base+(i+1:Nat))).by_=e.base+i∧((e.state++[0])[i]? = some 1→(before (RF.add1 e d).chains k (e.base+(i+1:Nat))).made=true)
   rw[hle k (i+1) (by omega),hst i hi]
   exact this
  ·
   have hb:before (RF.add1 e x).chains k (e.base+(e.deeds.length+1:Nat))=newV (e.base+e.deeds.length):=addKeys_in (by omega) hS.k hnd hk
   refine⟨by show(before (RF.add1 e x).chains k (e.base+(e.deeds.length+1:Nat))).by_=_;rw[hb];rfl,fun h1=>absurd h1 hst1⟩
 ·
  rcases hlt i x hx with ⟨hi,hx'⟩|⟨rfl,rfl⟩
  ·
   show before (RF.add1 e d).chains k (e.base+(i+1:Nat))=before (RF.add1 e d).chains k (e.base+i)
   rw[hle k (i+1) (by omega),hle k i (by omega)]
   exact h.q k i x hx' hk
  ·
   show before (RF.add1 e x).chains k (e.base+(e.deeds.length+1:Nat))=before (RF.add1 e x).chains k (e.base+e.deeds.length)
   have h1:before (RF.add1 e x).chains k (e.base+(e.deeds.length+1:Nat))=before e.chains k (e.base+(e.deeds.length+1:Nat)):=addKeys_out hS.k hk
   rw[h1,hle k _ (Nat.le_refl _),htop]
 ·
  rcases hlt i x hx with ⟨hi,hx'⟩|⟨rfl,rfl⟩
  ·
   show(e.ends++[done0])[i]? = some (doD (sq r (e.deeds++[d]) i) x).2
   have h1':(e.state++[0])[i]? = some 1:=h1
   rw[hst i hi]at h1'
   rw[List.getElem?_append_left (by rw[hn];exact hi),hsqe i (by omega)]
   exact h.w i x hx' h1'
  ·
   exact absurd h1 hst1
theorem before_lt {l:List Chain}{k:Str}{b:Int}(h:(before l k b).by_ ≠ -1):(before l k b).by_ < b:=by
 rcases before_mem l k b with e|⟨c,_,_,_,h4⟩
 ·
  rw[e]at h;exact absurd rfl h
 ·
  exact h4
theorem QInv.stay {e:Engine}{r:List Pair}(h:QInv e r) (hW:WInv e) (k:Str) (A:Nat):∀ (i:Nat),A < i→i≤e.deeds.length→(before e.chains k (e.base+i)).by_=e.base+A→RF.get (sq r e.deeds i) k=RF.get (sq r e.deeds (A+1)) k
 |0,hA,_,_=>by omega
 |i+1,hA,hi,hb=>by
  by_cases he:i=A
  ·
   subst he;rfl
  ·
   obtain⟨d,hd⟩:∃ d,e.deeds[i]? = some d:=⟨e.deeds[i]'(by omega),List.getElem?_eq_getElem (by omega)⟩
   by_cases hk:k∈d.writes
   ·
    have:=(h.p k i d hd hk).1
    rw[hb]at this
    omega
   ·
    rw[h.q k i d hd hk]at hb
    rw[sq_succ hd,do_same (sq_srt h.s hW.d i) (hW.d d (List.mem_of_getElem? hd)) hk]
    exact h.stay hW k A i (by omega) (by omega) hb
theorem needs_made {e:Engine}(hW:WInv e) {A:Nat}{d:Deed}(hne:needs e A d=[]):∀ k∈keysD d,(before e.chains k (e.base+A)).made=true:=by
 intro k hk
 cases hm:(before e.chains k (e.base+A)).made with
 |true=>rfl
 |false =>
  obtain⟨h1,h2⟩:=hW.nb A k hm
  have:((before e.chains k (e.base+A)).by_ - e.base)∈needs e A d:=by
   unfold needs
   rw[needsGo_mem]
   exact⟨((before e.chains k (e.base+A)).by_ - e.base).toNat,List.mem_range.2 (by omega),by omega,anyHit_iff.2 ⟨k,hk,hm,by omega⟩⟩
  rw[hne]at this
  simp at this
theorem go_done {e:Engine}{r:List Pair}(h:QInv e r) (hW:WInv e) {A:Nat}{d:Deed}(hd:e.deeds[A]? = some d) (hne:needs e A d=[]) :
  (goDone e A d).2=(doD (sq r e.deeds A) d).2∧∀ k∈d.writes,RF.get (goDone e A d).1 k=RF.get (sq r e.deeds (A+1)) k:=by
 have hA:=(List.getElem?_eq_some_iff.1 hd).1
 have hw:=hW.d d (List.mem_of_getElem? hd)
 have hmade:=needs_made hW hne
 obtain⟨hs0,hget⟩:=goRows_get (cs:=e.chains) (b:=e.base+A) (ks:=keysD d) (r:=[]) List.Pairwise.nil
 have hsq:=sq_srt h.s hW.d A
 have hsame:∀ k,k∈d.reads∨k∈d.writes→RF.get (goRows e.chains (e.base+A) [] (keysD d)) k=RF.get (sq r e.deeds A) k:=fun k hk=>by
  have hm:k∈keysD d:=by
   unfold keysD
   rw[keysGo'_mem]
   exact .inr (by simpa using hk)
  rw[h.m k A (by omega) (hmade k hm),hget k]
  cases hh:(before e.chains k (e.base+A)).has with
  |true=>rw[if_pos ⟨hm,rfl⟩]
  |false =>
   rw[if_neg (by simp),hW.bh k _ hh]
   rfl
 have hrun:runM (RF.get (goRows e.chains (e.base+A) [] (keysD d))) d=runM (RF.get (sq r e.deeds A)) d :=
  runGo_congr fun i hi hk=>by rw[hsame i.key (.inl (wrong_reads hw i hi hk))]
 unfold goDone
 refine⟨by rw[do_end hs0 hw,do_end hsq hw,hrun],fun k hk=>?_⟩
 rw[sq_succ hd,do_get hs0 hw,do_get hsq hw,hrun,hsame k (.inr hk)]
 unfold chAt
 rw[hsame k (.inr hk)]
theorem QInv.goNew {e:Engine}{r:List Pair}(h:QInv e r) (hW:WInv e) (hn:e.ends.length=e.deeds.length) {A:Nat}{d:Deed}(hd:e.deeds[A]? = some d) (hne:needs e A d=[]):QInv (Proofs.YtngnajknbeijjaaGreatDoor.goNew e A d) r:=by
 have hA:=(List.getElem?_eq_some_iff.1 hd).1
 obtain⟨hg1,hg2⟩:=go_done h hW hd hne
 have hb:=h.b
 have hbf:∀ k x,before (Proofs.YtngnajknbeijjaaGreatDoor.goNew e A d).chains k x=if k∈d.writes∧(before e.chains k x).by_=e.base+A then doneV (goDone e A d).1 (e.base+A) k else before e.chains k x:=fun k x=>before_goSets (by omega)
 refine⟨h.s,fun k=>?_,fun k i hi hm=>?_,fun k i x hx hk=>?_,fun k i x hx hk=>?_,fun i x hx h1=>?_,h.b⟩
 ·
  show(before (Proofs.YtngnajknbeijjaaGreatDoor.goNew e A d).chains k e.base).made=true
  rw[hbf]
  split
  ·
   rfl
  ·
   exact h.z k
 ·
  have hi':i≤e.deeds.length:=hi
  show RF.get (sq r e.deeds i) k=((before (Proofs.YtngnajknbeijjaaGreatDoor.goNew e A d).chains k (e.base+i)).n,(before (Proofs.YtngnajknbeijjaaGreatDoor.goNew e A d).chains k (e.base+i)).has)
  have hm':(before (Proofs.YtngnajknbeijjaaGreatDoor.goNew e A d).chains k (e.base+i)).made=true:=hm
  rw[hbf]at hm' ⊢
  by_cases hc:k∈d.writes∧(before e.chains k (e.base+i)).by_=e.base+A
  ·
   rw[if_pos hc]
   have hlt:=before_lt (l:=e.chains) (k:=k) (b:=e.base+i) (by rw[hc.2];omega)
   rw[hc.2]at hlt
   rw[h.stay hW k A i (by omega) hi' hc.2,← hg2 k hc.1]
   rfl
  ·
   rw[if_neg hc]at hm' ⊢
   exact h.m k i hi' hm'
 ·
  have hx':e.deeds[i]? = some x:=hx
  have hp:=h.p k i x hx' hk
  show(before (Proofs.YtngnajknbeijjaaGreatDoor.goNew e A d).chains k (e.base+(i+1:Nat))).by_=e.base+i∧((e.state.set A 1)[i]? = some 1→(before (Proofs.YtngnajknbeijjaaGreatDoor.goNew e A d).chains k (e.base+(i+1:Nat))).made=true)
  rw[hbf]
  by_cases hc:k∈d.writes∧(before e.chains k (e.base+(i+1:Nat))).by_=e.base+A
  ·
   rw[if_pos hc]
   refine⟨?_,fun _=>rfl⟩
   show e.base+A=e.base+i
   rw[← hc.2];exact hp.1
  ·
   rw[if_neg hc]
   refine⟨hp.1,fun h1=>?_⟩
   by_cases he:i=A
   ·
    subst he
    rw[hd]at hx'
    cases hx'
    exact absurd ⟨hk,hp.1⟩ hc
   ·
    rw[List.getElem?_set_ne (fun e=>he e.symm)]at h1
    exact hp.2 h1
 ·
  have hx':e.deeds[i]? = some x:=hx
  show before (Proofs.YtngnajknbeijjaaGreatDoor.goNew e A d).chains k (e.base+(i+1:Nat))=before (Proofs.YtngnajknbeijjaaGreatDoor.goNew e A d).chains k (e.base+i)
  rw[hbf,hbf,h.q k i x hx' hk]
 ·
  have hx':e.deeds[i]? = some x:=hx
  show(e.ends.set A (goDone e A d).2)[i]? = some (doD (sq r e.deeds i) x).2
  have h1':(e.state.set A 1)[i]? = some 1:=h1
  by_cases he:i=A
  ·
   subst he
   rw[hd]at hx'
   cases hx'
   rw[List.getElem?_set_self (by omega),hg1]
  ·
   rw[List.getElem?_set_ne (fun e=>he e.symm)]at h1' ⊢
   exact h.w i x hx' h1'
theorem sq_drop {r:List Pair}{l:List Deed}{m:Nat}:∀ (i:Nat),m+i≤l.length→sq (sq r l m) (l.drop m) i=sq r l (m+i)
 |0,_=>rfl
 |i+1,h=>by
  obtain⟨d,hd⟩:∃ d,l[m+i]? = some d:=⟨l[m+i]'(by omega),List.getElem?_eq_getElem (by omega)⟩
  have hd':(l.drop m)[i]? = some d:=by rw[List.getElem?_drop];exact hd
  rw[sq_succ hd',sq_drop i (by omega),← Nat.add_assoc,sq_succ hd]
theorem clrV_keep {b:Int}{w:Version}:∀ {l:List Version},w∈clrV b l→¬ (w.by_ < b∧w.made=true∧w.has=false)
 | [],h=>by simp[clrV]at h
 |v::l,h=>by
  simp only[clrV]at h
  split at h
  ·
   exact clrV_keep h
  ·
   next ho =>
   rcases List.mem_cons.1 h with rfl|h
   ·
    rintro ⟨h1,h2,h3⟩
    exact ho (by simp[old,h1,h2,h3])
   ·
    exact clrV_keep h
theorem before_clear {l:List Chain}(hs:Srt Chain.key l) (hv:∀ c∈l,VSrt c.vs) {b x:Int}(hx:b≤x) (k:Str) :
  before (clear b l) k x=if (before l k x).by_ < b∧(before l k x).made=true∧(before l k x).has=false then noV else before l k x:=by
 have h:=seen_clear2 (k:=k) (out:=noV) hx hs hv
 by_cases hc:(before l k x).by_ < b∧(before l k x).made=true∧(before l k x).has=false
 ·
  rw[if_pos hc]
  rcases h with h|h
  ·
   have h':before (clear b l) k x=before l k x:=h
   rcases before_mem (clear b l) k x with h1|⟨c,h1,h2,h3,h4⟩
   ·
    exact h1
   ·
    obtain⟨c0,h5,rfl⟩:=clear_mem h1
    rw[h']at h3
    exact absurd hc (clrV_keep h3)
  ·
   exact h.2.2.1
 ·
  rw[if_neg hc]
  rcases h with h|h
  ·
   exact h
  ·
   exact absurd ⟨h.2.2.2,h.1,h.2.1⟩ hc
theorem QInv.clearE {e:Engine}{r:List Pair}(h:QInv e r) (hS:SInv e) (hW:WInv e):QInv (clearE e) (sq r e.deeds (markN e.state)):=by
 have hml:markN e.state≤e.deeds.length:=by rw[← hW.l];exact markN_le e.state
 have hb:=h.b
 obtain⟨M,hM⟩:∃ M,markN e.state=M:=⟨_,rfl⟩
 have hform:∀ k x,e.base+M≤x→before (clear (e.base+M) e.chains) k x=if (before e.chains k x).by_ < e.base+M∧(before e.chains k x).made=true∧(before e.chains k x).has=false then noV else before e.chains k x:=fun k x hx=>before_clear hS.k hS.v hx k
 unfold RF.clearE
 rw[hM]at hml ⊢
 have hmade:∀ k,(before e.chains k (e.base+M)).made=true:=fun k=>by
  cases hm:(before e.chains k (e.base+M)).made with
  |true=>rfl
  |false =>
   rcases before_mem e.chains k (e.base+M) with h1|⟨c,h1,h2,h3,h4⟩
   ·
    rw[h1]at hm;cases hm
   ·
    obtain⟨j,x,h5,h6,_⟩:=hW.n c h1 _ h3 hm
    have:j < markN e.state:=by omega
    have:=markN_one this
    rw[h6]at this;cases this
 refine⟨sq_srt h.s hW.d M,fun k=>?_,fun k i hi hm=>?_,fun k i x hx hk=>?_,fun k i x hx hk=>?_,fun i x hx h1=>?_,by show 0≤e.base+(M:Int);omega⟩
 ·
  show(before (clear (e.base+M) e.chains) k (e.base+M)).made=true
  rw[hform k _ (Int.le_refl _)]
  split
  ·
   rfl
  ·
   exact hmade k
 ·
  have hi':i≤e.deeds.length - M:=by simpa using hi
  show RF.get (sq (sq r e.deeds M) (e.deeds.drop M) i) k=((before (clear (e.base+M) e.chains) k (e.base+M+i)).n,(before (clear (e.base+M) e.chains) k (e.base+M+i)).has)
  have hm':(before (clear (e.base+M) e.chains) k (e.base+M+i)).made=true:=hm
  have hx:e.base+(M:Int)+(i:Int)=e.base+((M+i:Nat):Int):=by omega
  rw[sq_drop i (by omega)]
  rw[hx]at hm' ⊢
  rw[hform k _ (by omega)]at hm' ⊢
  by_cases hc:(before e.chains k (e.base+((M+i:Nat):Int))).by_ < e.base+M∧(before e.chains k (e.base+((M+i:Nat):Int))).made=true∧(before e.chains k (e.base+((M+i:Nat):Int))).has=false
  ·
   rw[if_pos hc,h.m k (M+i) (by omega) hc.2.1,hc.2.2,hW.bh k _ hc.2.2]
   rfl
  ·
   rw[if_neg hc]at hm' ⊢
   exact h.m k (M+i) (by omega) hm'
 ·
  have hx':e.deeds[M+i]? = some x:=by
   have:(e.deeds.drop M)[i]? = some x:=hx
   rwa [List.getElem?_drop]at this
  obtain⟨h1,h2⟩:=h.p k (M+i) x hx' hk
  show(before (clear (e.base+M) e.chains) k (e.base+M+(i+1:Nat))).by_=e.base+M+i∧((e.state.drop M)[i]? = some 1→(before (clear (e.base+M) e.chains) k (e.base+M+(i+1:Nat))).made=true)
  have hxx:e.base+(M:Int)+((i+1:Nat):Int)=e.base+((M+i+1:Nat):Int):=by omega
  rw[hxx,List.getElem?_drop]
  rw[hform k _ (by omega),if_neg (by rw[h1];omega)]
  exact⟨by rw[h1];omega,h2⟩
 ·
  have hx':e.deeds[M+i]? = some x:=by
   have:(e.deeds.drop M)[i]? = some x:=hx
   rwa [List.getElem?_drop]at this
  have hq:=h.q k (M+i) x hx' hk
  show before (clear (e.base+M) e.chains) k (e.base+M+(i+1:Nat))=before (clear (e.base+M) e.chains) k (e.base+M+i)
  have hxx:e.base+(M:Int)+((i+1:Nat):Int)=e.base+((M+i+1:Nat):Int):=by omega
  have hxy:e.base+(M:Int)+(i:Int)=e.base+((M+i:Nat):Int):=by omega
  rw[hxx,hxy]
  rw[hform k _ (by omega),hform k _ (by omega),hq]
 ·
  have hx':e.deeds[M+i]? = some x:=by
   have:(e.deeds.drop M)[i]? = some x:=hx
   rwa [List.getElem?_drop]at this
  have h1':(e.state.drop M)[i]? = some 1:=h1
  rw[List.getElem?_drop]at h1'
  show(e.ends.drop M)[i]? = some (doD (sq (sq r e.deeds M) (e.deeds.drop M) i) x).2
  have hlt:=(List.getElem?_eq_some_iff.1 hx').1
  rw[List.getElem?_drop,sq_drop i (by omega)]
  exact h.w (M+i) x hx' h1'
structure BInv (e:Engine) (r:List Pair):Prop where
 S:SInv e
 W:WInv e
 Q:QInv e r
 n:e.ends.length=e.deeds.length
 t:∀ s∈e.state,s=0∨s=1
 u:∀ (k:Str) (i:Nat) (d:Deed),e.deeds[i]? = some d→k∈d.writes→e.state[i]? = some 0→(before e.chains k (e.base+(i+1:Nat))).made=false
theorem newE_b {r:List Pair}(h:wrongRows r=0):BInv (newE r) r :=
 ⟨newE_srt (wrongRows_srt h).1,newE_w r,newE_q (wrongRows_srt h).1,rfl,by simp[newE],fun k i d h=>by simp[newE]at h⟩
theorem BInv.add1 {e:Engine}{r:List Pair}(h:BInv e r) {d:Deed}(hd:wrongDeed d=0):BInv (RF.add1 e d) r:=by
 refine⟨h.S.add1 (wrong_keys hd).2,h.W.add1 h.S hd,h.Q.add1 h.S h.W h.n hd,by simp[RF.add1,h.n],fun s hs=>?_,fun k i x hx hk h0=>?_⟩
 ·
  rcases List.mem_append.1 (show s∈e.state++[0] from hs) with hs|hs
  ·
   exact h.t s hs
  ·
   simp at hs;exact .inl hs
 ·
  have hx':(e.deeds++[d])[i]? = some x:=hx
  show(before (addKeys (e.base+e.deeds.length) e.chains d.writes) k (e.base+(i+1:Nat))).made=false
  rcases Nat.lt_or_ge i e.deeds.length with hi|hi
  ·
   rw[List.getElem?_append_left hi]at hx'
   have h0':(e.state++[0])[i]? = some 0:=h0
   rw[List.getElem?_append_left (by rw[h.W.l];exact hi)]at h0'
   rw[addKeys_le (by omega) h.S.k]
   exact h.u k i x hx' hk h0'
  ·
   rw[List.getElem?_append_right hi]at hx'
   have hz:i - e.deeds.length=0:=by
    have:=(List.getElem?_eq_some_iff.1 hx').1
    simpa using this
   rw[hz]at hx'
   have hx2:x=d:=by simpa using hx'.symm
   subst hx2
   rw[addKeys_in (by omega) h.S.k (wrong_keys hd).2 hk]
   rfl
theorem BInv.addAll:∀ {l:List Deed}{e:Engine}{r:List Pair},BInv e r→(∀ d∈l,wrongDeed d=0)→BInv (RF.addAll e l) r
 | [],e,r,h,_=>h
 |d::l,e,r,h,hl=>by
  simp only[RF.addAll]
  exact BInv.addAll (h.add1 (hl d (List.mem_cons_self ..))) fun x hx=>hl x (List.mem_cons_of_mem _ hx)
theorem BInv.addE {e:Engine}{r:List Pair}(h:BInv e r) {l:List Deed}(hw:(RF.addE e l).2=0):BInv (RF.addE e l).1 r:=by
 unfold RF.addE at hw ⊢
 by_cases h0:wrongs l=0
 ·
  rw[if_pos h0]
  exact h.addAll fun d hd=>wrongs_mem h0 d hd
 ·
  rw[if_neg h0]at hw;exact absurd hw h0
theorem BInv.goNew {e:Engine}{r:List Pair}(h:BInv e r) {A:Nat}{d:Deed}(hd:e.deeds[A]? = some d) (hne:needs e A d=[]):BInv (Proofs.YtngnajknbeijjaaGreatDoor.goNew e A d) r:=by
 have hb:=h.Q.b
 refine⟨h.S.goNew A d,h.W.goNew A d hd,h.Q.goNew h.W h.n hd hne,?_,fun s hs=>?_,fun k i x hx hk h0=>?_⟩
 ·
  show(e.ends.set A _).length=e.deeds.length
  rw[List.length_set];exact h.n
 ·
  rcases List.mem_or_eq_of_mem_set (show s∈e.state.set A 1 from hs) with hs|hs
  ·
   exact h.t s hs
  ·
   exact .inr hs
 ·
  have hx':e.deeds[i]? = some x:=hx
  have h0':(e.state.set A 1)[i]? = some 0:=h0
  have hiA:i≠A:=fun e1=>by
   subst e1
   rw[List.getElem?_set_self (by rw[h.W.l];exact(List.getElem?_eq_some_iff.1 hd).1)]at h0'
   simp at h0'
  rw[List.getElem?_set_ne (fun e1=>hiA e1.symm)]at h0'
  have hp:=(h.Q.p k i x hx' hk).1
  show(before (goSets (goDone e A d).1 (e.base+A) e.chains d.writes) k (e.base+(i+1:Nat))).made=false
  rw[before_goSets (by omega),if_neg (fun e1=>by have:=e1.2;rw[hp]at this;omega)]
  exact h.u k i x hx' hk h0'
theorem BInv.goE {e:Engine}{r:List Pair}(h:BInv e r) (x:Int):BInv (Proofs.YtngnajknbeijjaaGreatDoor.goE e x).1 r:=by
 unfold Proofs.YtngnajknbeijjaaGreatDoor.goE
 split
 ·
  exact h
 unfold goAt
 cases hA:e.deeds[x.toNat]? with
 |none=>exact h
 |some d =>
  dsimp only
  split
  ·
   exact h
  split
  ·
   next hn=>exact h.goNew hA hn
  ·
   exact h
theorem BInv.clearE {e:Engine}{r:List Pair}(h:BInv e r):BInv (RF.clearE e) (sq r e.deeds (markN e.state)):=by
 refine⟨h.S.clearE,h.W.clearE,h.Q.clearE h.S h.W,?_,fun s hs=>h.t s (List.mem_of_mem_drop hs),fun k i x hx hk h0=>?_⟩
 ·
  show(e.ends.drop _).length=(e.deeds.drop _).length
  simp[h.n]
 ·
  have hx':e.deeds[markN e.state+i]? = some x:=by
   have:(e.deeds.drop (markN e.state))[i]? = some x:=hx
   rwa [List.getElem?_drop]at this
  have h0':e.state[markN e.state+i]? = some 0:=by
   have:(e.state.drop (markN e.state))[i]? = some 0:=h0
   rwa [List.getElem?_drop]at this
  show(before (clear (e.base+markN e.state) e.chains) k (e.base+markN e.state+(i+1:Nat))).made=false
  have hp:=(h.Q.p k _ x hx' hk).1
  have hu:=h.u k _ x hx' hk h0'
  rw[before_clear h.S.k h.S.v (by omega)]
  rw[show e.base+(markN e.state:Int)+((i+1:Nat):Int)=e.base+((markN e.state+i+1:Nat):Int) by omega]
  rw[if_neg (by rw[hp];omega)]
  exact hu
theorem readyGo_mem {e:Engine}{x:Int}:∀ {l:List Int}{i:Nat},x∈readyGo e i l↔∃ j:Nat,x=((i+j:Nat):Int)∧l[j]? = some 0∧needsAt e (i+j)=[]
 | [],i=>by simp[readyGo]
 |s::l,i=>by
  have tl:x∈readyGo e (i+1) l→∃ j:Nat,x=((i+j:Nat):Int)∧(s::l)[j]? = some 0∧needsAt e (i+j)=[]:=fun h=>by
   obtain⟨j,h1,h2,h3⟩:=readyGo_mem.1 h
   exact⟨j+1,by rw[h1];omega,by rw[List.getElem?_cons_succ];exact h2,by rw[show i+(j+1)=i+1+j by omega];exact h3⟩
  simp only[readyGo]
  constructor
  ·
   intro h
   by_cases hc:s=0∧needsAt e i=[]
   ·
    rw[if_pos hc]at h
    rcases List.mem_cons.1 h with h|h
    ·
     exact⟨0,h,by rw[hc.1];rfl,hc.2⟩
    ·
     exact tl h
   ·
    rw[if_neg hc]at h
    exact tl h
  ·
   rintro ⟨j,h1,h2,h3⟩
   cases j with
   |zero =>
    have h4:s=0:=by simpa using h2
    rw[if_pos ⟨h4,h3⟩,h1];exact List.mem_cons_self ..
   |succ j =>
    have:x∈readyGo e (i+1) l:=readyGo_mem.2 ⟨j,by rw[h1];omega,by rw[List.getElem?_cons_succ]at h2;exact h2,by rw[show i+1+j=i+(j+1) by omega];exact h3⟩
    split
    ·
     exact List.mem_cons_of_mem _ this
    ·
     exact this
theorem ready_mem {e:Engine}{x:Int}:x∈ready e↔∃ A:Nat,x=(A:Int)∧e.state[A]? = some 0∧needsAt e A=[]:=by
 unfold ready
 rw[readyGo_mem]
 simp only[Nat.zero_add]
theorem go_ready {e:Engine}(hl:e.state.length=e.deeds.length) {A:Nat}(h0:e.state[A]? = some 0) (hn:needsAt e A=[]) :
  ∃ d,e.deeds[A]? = some d∧needs e A d=[]∧goE e (A:Int)=(goNew e A d,0):=by
 have hA:=(List.getElem?_eq_some_iff.1 h0).1
 obtain⟨d,hd⟩:∃ d,e.deeds[A]? = some d:=⟨e.deeds[A]'(by omega),List.getElem?_eq_getElem (by omega)⟩
 unfold needsAt at hn
 rw[hd]at hn
 refine⟨d,hd,hn,?_⟩
 unfold goE goAt
 rw[if_neg (by omega),Int.toNat_natCast,hd]
 dsimp only
 rw[h0,if_neg (by simp),if_pos hn]
def seenP (cs:List Chain) (b:Int) (c:Chain):Option Pair:=if (before cs c.key b).has=true then some ⟨c.key,(before cs c.key b).n⟩ else none
theorem rowsAtGo_made {cs:List Chain}{b:Int}:∀ {l:List Chain}{out:List Pair},(∀ c∈l,(before cs c.key b).made=true)→rowsAtGo cs b out l=(out++l.filterMap (seenP cs b),true)
 | [],out,_=>by simp[rowsAtGo]
 |c::l,out,h=>by
  have h1:=h c (List.mem_cons_self ..)
  have h2:∀ c∈l,(before cs c.key b).made=true:=fun x hx=>h x (List.mem_cons_of_mem _ hx)
  simp only[rowsAtGo]
  rw[if_neg (by rw[h1];simp)]
  by_cases hh:(before cs c.key b).has=true
  ·
   rw[if_pos hh,rowsAtGo_made h2,List.filterMap_cons_some (show seenP cs b c=some _ from if_pos hh)]
   simp
  ·
   rw[if_neg hh,rowsAtGo_made h2,List.filterMap_cons_none (show seenP cs b c=none from if_neg hh)]
theorem rowsAt_made {cs:List Chain}{b:Int}(hs:Srt Chain.key cs) (hb:∀ k,(before cs k b).has=false→(before cs k b).n=0) (h:∀ k,(before cs k b).made=true) :
  (rowsAt cs b).2=true∧Srt Pair.key (rowsAt cs b).1∧∀ k,RF.get (rowsAt cs b).1 k=((before cs k b).n,(before cs k b).has):=by
 have he:rowsAt cs b=(cs.filterMap (seenP cs b),true):=rowsAtGo_made fun c _=>h c.key
 have hsr:Srt Pair.key (cs.filterMap (seenP cs b)):=by
  refine List.pairwise_filterMap.2 (List.Pairwise.imp (fun {x y} hxy p hp q hq=>?_) hs)
  unfold seenP at hp hq
  split at hp
  ·
   split at hq
   ·
    cases hp;cases hq;exact hxy
   ·
    cases hq
  ·
   cases hp
 rw[he]
 refine⟨rfl,hsr,fun k=>?_⟩
 show RF.get (cs.filterMap (seenP cs b)) k=_
 cases hh:(before cs k b).has with
 |true =>
  rcases before_mem cs k b with h1|⟨c,h1,rfl,_,_⟩
  ·
   rw[h1]at hh;cases hh
  ·
   have hm:(⟨c.key,(before cs c.key b).n⟩:Pair)∈cs.filterMap (seenP cs b):=List.mem_filterMap.2 ⟨c,h1,if_pos hh⟩
   exact get_of_mem hsr hm
 |false =>
  rw[hb k hh]
  refine get_absent fun p hp e=>?_
  obtain⟨c,h1,h2⟩:=List.mem_filterMap.1 hp
  unfold seenP at h2
  split at h2
  ·
   next hc =>
   cases h2
   have e':c.key=k:=e
   rw[e',hh]at hc
   cases hc
  ·
   cases h2
theorem BInv.rows {e:Engine}{r:List Pair}(h:BInv e r) {i:Nat}(hi:i≤e.deeds.length) (hm:∀ k,(before e.chains k (e.base+i)).made=true):rowsAt e.chains (e.base+i)=(sq r e.deeds i,true):=by
 obtain⟨h1,h2,h3⟩:=rowsAt_made h.S.k (fun k=>h.W.bh k _) hm
 exact Prod.ext (get_ext h2 (sq_srt h.Q.s h.W.d i) fun k=>by rw[h3,h.Q.m k i hi (hm k)]) h1
theorem allD_ends:∀ {l:List Deed}{r:List Pair}{i:Nat}{d:Deed},l[i]? = some d→(allD r l).2[i]? = some (doD (sq r l i) d).2
 | [],r,i,d,h=>by simp at h
 |x::l,r,0,d,h=>by simp at h;subst h;rfl
 |x::l,r,i+1,d,h=>by
  rw[List.getElem?_cons_succ]at h
  have:=allD_ends (r:=(doD r x).1) h
  simp only[allD]
  rw[List.getElem?_cons_succ,this]
  rfl
theorem allD_len:∀ {l:List Deed}{r:List Pair},(allD r l).2.length=l.length
 | [],r=>rfl
 |x::l,r=>by simp only[allD,List.length_cons];rw[allD_len]
theorem BInv.ends {e:Engine}{r:List Pair}(h:BInv e r) (h1:∀ s∈e.state,s=1):e.ends=(allD r e.deeds).2:=by
 refine List.ext_getElem? fun i=>?_
 rcases Nat.lt_or_ge i e.deeds.length with hi|hi
 ·
  have hd:e.deeds[i]? = some e.deeds[i]:=List.getElem?_eq_getElem hi
  have hs:i < e.state.length:=by rw[h.W.l];exact hi
  have hs1:e.state[i]? = some 1:=by
   rw[List.getElem?_eq_getElem hs,h1 _ (List.getElem_mem hs)]
  rw[h.Q.w i _ hd hs1,allD_ends hd]
 ·
  rw[List.getElem?_eq_none (by rw[h.n];exact hi),List.getElem?_eq_none (by rw[allD_len];exact hi)]
theorem wrongEntry_out {e:Entry}(h:wrongEntry e=0):(0≤e.number∧e.number≤11)∧e.deeds.length≤6∧wrongs e.deeds=0∧∀ d∈e.deeds,wrongDeed d=0:=by
 unfold wrongEntry at h
 split at h
 ·
  cases h
 split at h
 ·
  cases h
 exact⟨by omega,by omega,h,wrongs_mem h⟩
theorem addE_right {e:Engine}{l:List Deed}(h:wrongs l=0):addE e l=(addAll e l,0):=by unfold RF.addE;rw[if_pos h]
structure RInv (r:Replica):Prop where
 e:EInv r.engine (1+30*r.next.toNat)
 b:∃ q,BInv r.engine q
 n:0≤r.next∧r.next≤12
 l:r.early.length≤4
 w:∀ x∈r.early,wrongEntry x=0
 g:∀ x∈r.early,r.next < x.number
 d:(r.early.map Entry.number).Nodup
theorem noR_inv:RInv noR:=by
 have h1:EInv (newE []) ([].length+1):=newE_inv (r:=[]) (by simp[rowsOk])
 have h2:BInv (newE []) []:=newE_b (r:=[]) (by decide)
 exact⟨h1,⟨_,h2⟩,by simp[noR],by simp[noR],by simp[noR],by simp[noR],by simp[noR]⟩
structure DInv (r:Replica):Prop where
 e:EInv r.engine (1+30*r.next.toNat)
 b:∃ q,BInv r.engine q
 n:0≤r.next∧r.next≤12
 l:r.early.length≤5
 w:∀ x∈r.early,wrongEntry x=0
 g:∀ x∈r.early,r.next≤x.number
 d:(r.early.map Entry.number).Nodup
theorem RInv.D {r:Replica}(h:RInv r):DInv r:=⟨h.e,h.b,h.n,by have:=h.l;omega,h.w,fun x hx=>by have:=h.g x hx;omega,h.d⟩
theorem erase_sub {l:List Entry}{k:Nat}{x:Entry}(h:x∈l.eraseIdx k):x∈l:=List.mem_of_mem_eraseIdx h
theorem take_inv {r:Replica}(h:DInv r) {k:Nat}{x:Entry}(hx:r.early[k]? = some x) (hn:x.number=r.next) :
  DInv ⟨(addE r.engine x.deeds).1,r.next+1,r.early.eraseIdx k⟩:=by
 obtain⟨he,⟨q,hb⟩,hnn,hl,hw,hg,hd⟩:=h
 have hm:=List.mem_of_getElem? hx
 obtain⟨hx1,hx2,hx3,hx4⟩:=wrongEntry_out (hw x hm)
 have ha:=addE_right (e:=r.engine) hx3
 have hkl:=(List.getElem?_eq_some_iff.1 hx).1
 have hlen:=List.length_eraseIdx_of_lt hkl
 refine⟨?_,⟨q,?_⟩,by dsimp only;omega,by dsimp only;omega,fun y hy=>hw y (erase_sub hy),fun y hy=>?_,?_⟩
 ·
  exact(he.addE (fun d hd=>wrong_sm (hx4 d hd)) (by rw[ha])).mono (by dsimp only;omega)
 ·
  exact hb.addE (by rw[ha])
 ·
  have h1:=hg y (erase_sub hy)
  dsimp only
  refine Classical.byContradiction fun hlt=>?_
  have h2:y.number=r.next:=by omega
  obtain⟨j,hj⟩:=List.mem_iff_getElem?.1 hy
  rw[List.getElem?_eraseIdx]at hj
  have key:∀ (i:Nat),i≠k→r.early[i]? = some y→False:=fun i hik hi=>by
   have hi':(r.early.map Entry.number)[i]? = some r.next:=by rw[List.getElem?_map,hi];simp[h2]
   have hk':(r.early.map Entry.number)[k]? = some r.next:=by rw[List.getElem?_map,hx];simp[hn]
   have hil:=(List.getElem?_eq_some_iff.1 hi').1
   exact hik ((List.getElem?_inj hil hd).1 (by rw[hi',hk']))
  split at hj
  ·
   exact key j (by omega) hj
  ·
   exact key (j+1) (by omega) hj
 ·
  dsimp only
  exact hd.sublist ((List.eraseIdx_sublist _ _).map _)
theorem drainR_inv:∀ {f:Nat}{r:Replica},DInv r→r.early.length≤f→DInv (drainR f r)∧(drainR f r).early.length≤r.early.length∧(∀ x∈(drainR f r).early,(drainR f r).next < x.number)∧(∀ x∈(drainR f r).early,x∈r.early)∧r.next≤(drainR f r).next
 |0,r,h,hf=>by
  have:r.early=[]:=List.eq_nil_of_length_eq_zero (by omega)
  have hd:drainR 0 r=r:=rfl
  rw[hd]
  exact⟨h,Nat.le_refl _,by rw[this];simp,fun x hx=>hx,Int.le_refl _⟩
 |f+1,r,h,hf=>by
  rcases firstN_cases (n:=r.next) (l:=r.early) (i:=0) with ⟨h1,h2⟩|⟨k,x,h1,h2,h3⟩
  ·
   rw[drainR_none (by omega)]
   exact⟨h,Nat.le_refl _,fun x hx=>by have:=h.g x hx;have:=h2 x hx;omega,fun x hx=>hx,Int.le_refl _⟩
  ·
   rw[Nat.zero_add]at h1
   rw[drainR_some h1 h2]
   have hkl:=(List.getElem?_eq_some_iff.1 h2).1
   have hlen:=List.length_eraseIdx_of_lt hkl
   obtain⟨g1,g2,g3,g4,g5⟩:=drainR_inv (f:=f) (take_inv h h2 h3) (by dsimp only;omega)
   dsimp only at g2 g4 g5
   exact⟨g1,by omega,g3,fun y hy=>erase_sub (g4 y hy),by omega⟩
theorem DInv.R {r:Replica}(h:DInv r) (hl:r.early.length≤4) (hg:∀ x∈r.early,r.next < x.number):RInv r:=⟨h.e,h.b,h.n,hl,h.w,hg,h.d⟩
theorem snoc_nodup {l:List Entry}{e:Entry}(hd:(l.map Entry.number).Nodup) (hh:hasN e.number l=false):((l++[e]).map Entry.number).Nodup:=by
 rw[List.map_append,List.nodup_append]
 refine⟨hd,by simp,fun a ha b hb=>?_⟩
 simp at hb
 subst hb
 obtain⟨x,hx,rfl⟩:=List.mem_map.1 ha
 exact hasN_false.1 hh x hx
theorem snoc_inv {r:Replica}(h:RInv r) {e:Entry}(he:wrongEntry e=0) (h1:¬ e.number < r.next) (h2:hasN e.number r.early=false):DInv ⟨r.engine,r.next,r.early++[e]⟩:=by
 refine⟨h.e,h.b,h.n,by have:=h.l;simp;omega,fun x hx=>?_,fun x hx=>?_,snoc_nodup h.d h2⟩
 ·
  rcases List.mem_append.1 hx with hx|hx
  ·
   exact h.w x hx
  ·
   rw[List.mem_singleton.1 hx];exact he
 ·
  dsimp only
  rcases List.mem_append.1 hx with hx|hx
  ·
   have:=h.g x hx;omega
  ·
   rw[List.mem_singleton.1 hx];omega
theorem drainR_snoc {r:Replica}{e:Entry}(hn:e.number=r.next) (h2:hasN e.number r.early=false) :
  drainR (r.early.length+1) ⟨r.engine,r.next,r.early++[e]⟩=drainR r.early.length ⟨(addE r.engine e.deeds).1,r.next+1,r.early⟩:=by
 have h3:∀ x∈r.early,x.number≠r.next:=fun x hx=>by rw[← hn];exact hasN_false.1 h2 x hx
 have h4:=firstN_app hn (i:=0) h3
 rw[Nat.zero_add]at h4
 rw[drainR_some (r:=⟨r.engine,r.next,r.early++[e]⟩) (k:=r.early.length) (x:=e) h4 (by simp)]
 dsimp only
 rw[List.eraseIdx_append_of_length_le (Nat.le_refl _)]
 simp
theorem comeE_inv {r:Replica}(h:RInv r) {e:Entry}(he:wrongEntry e=0):RInv (comeE r e).1:=by
 unfold comeE
 split
 ·
  exact h
 next h1 =>
  have h2:hasN e.number r.early=false:=by cases hh:hasN e.number r.early with
   |false=>rfl
   |true=>exact absurd (.inr hh) h1
  have h3:¬ e.number < r.next:=fun hh=>h1 (.inl hh)
  have hD:=snoc_inv h he h3 h2
  split
  ·
   next h4 =>
   split
   ·
    exact h
   ·
    next h5 =>
    refine hD.R (by simp;omega) fun x hx=>?_
    dsimp only at hx ⊢
    rcases List.mem_append.1 hx with hx|hx
    ·
     exact h.g x hx
    ·
     rw[List.mem_singleton.1 hx];exact h4
  ·
   next h4 =>
   have hn:e.number=r.next:=by omega
   dsimp only
   rw[← drainR_snoc hn h2]
   obtain⟨g1,g2,g3,g4,g5⟩:=drainR_inv (f:=r.early.length+1) hD (by simp)
   rw[drainR_snoc hn h2]at g1 g2 g3 g4 g5 ⊢
   have hT:=take_inv hD (k:=r.early.length) (x:=e) (by simp) hn
   rw[List.eraseIdx_append_of_length_le (Nat.le_refl _)]at hT
   simp at hT
   obtain⟨k1,k2,k3,k4,k5⟩:=drainR_inv (f:=r.early.length) hT (Nat.le_refl _)
   exact k1.R (by have:=h.l;dsimp only at k2;omega) k3
end Go.Proofs.YtngnajknbeijjaaGreatDoor
namespace Go.AX
open Go.RowKit
def swN (i j k:Nat):Nat:=match Nat.beq k i with
 |true=>j
 |false=>match Nat.beq k j with
  |true=>i
  |false=>k
theorem swN_eq (i j k:Nat):swN i j k=if k=i then j else if k=j then i else k:=by
 unfold swN
 by_cases h1:k=i
 ·
  rw[if_pos h1,show Nat.beq k i=true by rw[h1];exact Nat.beq_refl _]
 ·
  rw[if_neg h1]
  have:Nat.beq k i=false:=by
   cases h:Nat.beq k i
   ·
    rfl
   ·
    exact absurd (Nat.eq_of_beq_eq_true h) h1
  rw[this]
  by_cases h2:k=j
  ·
   rw[if_pos h2,show Nat.beq k j=true by rw[h2];exact Nat.beq_refl _]
  ·
   rw[if_neg h2]
   have:Nat.beq k j=false:=by
    cases h:Nat.beq k j
    ·
     rfl
    ·
     exact absurd (Nat.eq_of_beq_eq_true h) h2
   rw[this]
theorem swN_swN (i j k:Nat):swN i j (swN i j k)=k:=by
 simp only[swN_eq]
 repeat' split
 all_goals omega
theorem swN_inj {i j a b:Nat}(h:swN i j a=swN i j b):a=b:=by rw[← swN_swN i j a,h,swN_swN]
theorem swN_lt {i j k n:Nat}(hi:i < n) (hj:j < n) (h:k < n):swN i j k < n:=by
 rw[swN_eq]
 repeat' split
 all_goals omega
def swA1 (i j:Nat):AV→AV
 |.d x => .d x
 |.pd x => .pd x
 |.ptr id off => .ptr (swN i j id) off
 |.own id n => .own (swN i j id) n
 |.pe id n a b => .pe (swN i j id) n a b
 |.agg c => .agg c
 |.tup v => .tup v
 |.h id => .h (swN i j id)
 |.any => .any
def swA2 (i j:Nat):AV→AV
 |.agg c => .agg (c.map (swA1 i j))
 |av=>swA1 i j av
def swA (i j:Nat):AV→AV
 |.tup v => .tup (v.map (swA2 i j))
 |av=>swA2 i j av
def swO (i j:Nat):Ob→Ob
 |.box c => .box (c.map (swA1 i j))
 |.lit k V ids => .lit k V (ids.map (swN i j))
 |.tok o b => .tok (swN i j o) b
 |o=>o
def swK (i j:Nat):Key→Key
 |.o k => .o (swN i j k)
 |k=>k
def swV (i j:Nat):Val→Val
 |.av x => .av (swA i j x)
 |.ob x => .ob (swO i j x)
 |v=>v
def swS (i j:Nat):St→St
 | []=>[]
 |(k,v)::r=>(swK i j k,swV i j v)::swS i j r
theorem swK_inj {i j:Nat}{a b:Key}(h:swK i j a=swK i j b):a=b:=by
 cases a <;> cases b <;> simp[swK]at h ⊢
 ·
  exact h
 ·
  exact swN_inj h
theorem get_sw {i j:Nat}{k:Key}:∀ {σ:St},get (swS i j σ) (swK i j k)=swV i j (get σ k)
 | []=>rfl
 |(q,v)::r=>by
  show get ((swK i j q,swV i j v)::swS i j r) (swK i j k)=_
  by_cases h:q=k
  ·
   subst h;rw[get_cons_same,get_cons_same]
  ·
   rw[get_cons_ne h,get_cons_ne fun e=>h (swK_inj e),get_sw]
theorem get_swo {i j id:Nat}{σ:St}:get (swS i j σ) (.o id)=swV i j (get σ (.o (swN i j id))):=by
 have:=get_sw (i:=i) (j:=j) (k := .o (swN i j id)) (σ:=σ)
 rwa [show swK i j (.o (swN i j id)) = .o id by simp[swK,swN_swN]]at this
theorem swV_ob {i j:Nat}{v:Val}{o:Ob}(h:swV i j v = .ob o):∃ o0,v = .ob o0∧swO i j o0=o:=by
 cases v <;> simp[swV]at h
 exact⟨_,rfl,h⟩
theorem swV_av {i j:Nat}{v:Val}{o:AV}(h:swV i j v = .av o):∃ o0,v = .av o0∧swA i j o0=o:=by
 cases v <;> simp[swV]at h
 exact⟨_,rfl,h⟩
variable {cx:Cx}{g:Nat→Value}{σ:St}{a:Act}{w:World}{nx:Nat}{c:Code}{Q:Exit→St→Prop}{i j:Nat}
theorem own_sw {b:Nat}(h:cx.own (fun k=>g (swN i j k)) (swS i j σ) b):cx.own g σ b:=by
 rcases h with h|⟨id,o,h1,h2⟩
 ·
  exact .inl h
 ·
  rw[get_swo]at h1
  obtain⟨o0,h3,_⟩:=swV_ob h1
  exact .inr ⟨_,o0,h3,h2⟩
theorem nr_sw {id:Nat}(h:NR σ id):NR (swS i j σ) (swN i j id):=fun hg=>by
 rw[get_swo,swN_swN]at hg
 obtain⟨o0,h1,h2⟩:=swV_ob hg
 refine h ?_
 rw[h1]
 cases o0 <;> simp[swO]at h2 ⊢
theorem rep1_sw {x:Value}{av:AV}(h:Rep1 cx g σ w x av):Rep1 cx (fun k=>g (swN i j k)) (swS i j σ) w x (swA1 i j av):=by
 cases av with
 |d y=>exact Rd.less (fun b hb=>own_sw hb) h
 |pd ds =>
  obtain⟨ad,h1,h2,h3,h4⟩:=h
  refine⟨ad,h1,?_,h3,fun q z hz=>by obtain⟨u,h5,h6,h7⟩:=h4 q z hz;exact⟨u,h5,h6,h7.less fun b hb=>own_sw hb⟩⟩
  rcases h2 with h2|h2
  ·
   exact .inl h2
  ·
   exact .inr fun hb=>h2 (own_sw hb)
 |ptr id off =>
  refine⟨nr_sw h.1,fun cells hg=>?_⟩
  rw[get_swo,swN_swN]at hg
  obtain⟨o0,h1,h2⟩:=swV_ob hg
  cases o0 <;> simp[swO]at h2
  obtain⟨b,h3,h4⟩:=h.2 _ h1
  exact⟨b,by dsimp only;rw[swN_swN];exact h3,h4⟩
 |own id n =>
  refine⟨nr_sw h.1,fun e k rows hg=>?_⟩
  rw[get_swo,swN_swN]at hg
  obtain⟨o0,h1,h2⟩:=swV_ob hg
  cases o0 <;> simp[swO]at h2
  obtain⟨rfl,rfl,rfl⟩:=h2
  dsimp only
  rw[swN_swN]
  exact h.2 _ _ _ h1
 |pe id n q f =>
  refine⟨nr_sw h.1,fun e k rows hg=>?_⟩
  rw[get_swo,swN_swN]at hg
  obtain⟨o0,h1,h2⟩:=swV_ob hg
  cases o0 <;> simp[swO]at h2
  obtain⟨rfl,rfl,rfl⟩:=h2
  dsimp only
  rw[swN_swN]
  exact h.2 _ _ _ h1
 |h id =>
  refine⟨nr_sw h.1,fun o hg ho=>?_⟩
  rw[get_swo,swN_swN]at hg
  obtain⟨o0,h1,h2⟩:=swV_ob hg
  dsimp only
  rw[swN_swN]
  refine h.2 o0 h1 ?_
  subst h2
  cases o0 <;> first|rfl|cases ho
 |any=>trivial
 |agg _=>exact h.elim
 |tup _=>exact h.elim
theorem cells_sw {cells:List AV}{cs:Array Value}(h:∀ (q:Nat) (c:Value) (av:AV),cells[q]? = some av→cs[q]? = some c→Rep1 cx g σ w c av) :
  ∀ (q:Nat) (c:Value) (av:AV),(cells.map (swA1 i j))[q]? = some av→cs[q]? = some c→Rep1 cx (fun k=>g (swN i j k)) (swS i j σ) w c av:=by
 intro q c av hq hc
 rw[List.getElem?_map,Option.map_eq_some_iff]at hq
 obtain⟨av0,h1,rfl⟩:=hq
 exact rep1_sw (h q c av0 h1 hc)
theorem rep2_sw {x:Value}{av:AV}(h:Rep2 cx g σ w x av):Rep2 cx (fun k=>g (swN i j k)) (swS i j σ) w x (swA2 i j av):=by
 cases av with
 |agg cells =>
  obtain⟨cs,h1,h2,h3,h4⟩:=h
  exact⟨cs,h1,by simpa using h2,h3,cells_sw h4⟩
 |tup _=>exact h.elim
 |d y=>exact rep1_sw (cx:=cx) (w:=w) (av := .d y) h
 |pd y=>exact rep1_sw (cx:=cx) (w:=w) (av := .pd y) h
 |ptr p q=>exact rep1_sw (cx:=cx) (w:=w) (av := .ptr p q) h
 |own p q=>exact rep1_sw (cx:=cx) (w:=w) (av := .own p q) h
 |pe p q r s=>exact rep1_sw (cx:=cx) (w:=w) (av := .pe p q r s) h
 |h p=>exact rep1_sw (cx:=cx) (w:=w) (av := .h p) h
 |any=>trivial
theorem rep_sw {x:Value}{av:AV}(h:Rep cx g σ w x av):Rep cx (fun k=>g (swN i j k)) (swS i j σ) w x (swA i j av):=by
 cases av with
 |tup vs =>
  obtain⟨us,h1,h2,h3⟩:=h
  refine⟨us,h1,by simpa using h2,fun q c av hq hc=>?_⟩
  rw[List.getElem?_map,Option.map_eq_some_iff]at hq
  obtain⟨av0,h4,rfl⟩:=hq
  exact rep2_sw (h3 q c av0 h4 hc)
 |agg cells=>exact rep2_sw (cx:=cx) (w:=w) (av := .agg cells) h
 |d y=>exact rep2_sw (cx:=cx) (w:=w) (av := .d y) h
 |pd y=>exact rep2_sw (cx:=cx) (w:=w) (av := .pd y) h
 |ptr p q=>exact rep2_sw (cx:=cx) (w:=w) (av := .ptr p q) h
 |own p q=>exact rep2_sw (cx:=cx) (w:=w) (av := .own p q) h
 |pe p q r s=>exact rep2_sw (cx:=cx) (w:=w) (av := .pe p q r s) h
 |h p=>exact rep2_sw (cx:=cx) (w:=w) (av := .h p) h
 |any=>trivial
theorem bd1_sw (hi:i < nx) (hj:j < nx) {av:AV}(h:av.bd1 nx):(swA1 i j av).bd1 nx:=by
 cases av <;> first|exact swN_lt hi hj h|exact h
theorem bd_sw (hi:i < nx) (hj:j < nx) {av:AV}(h:av.bd nx):(swA i j av).bd nx:=by
 cases av with
 |agg cells =>
  intro x hx
  obtain⟨y,hy,rfl⟩:=List.mem_map.1 hx
  exact bd1_sw hi hj (h y hy)
 |tup vs =>
  intro x hx
  obtain⟨y,hy,rfl⟩:=List.mem_map.1 hx
  have hb:=h y hy
  cases y with
  |agg cells =>
   intro x hx
   obtain⟨z,hz,rfl⟩:=List.mem_map.1 hx
   exact bd1_sw hi hj (hb z hz)
  |tup _=>exact hb
  |d _=>exact hb
  |pd _=>exact hb
  |ptr p q=>exact bd1_sw (av := .ptr p q) hi hj hb
  |own p q=>exact bd1_sw (av := .own p q) hi hj hb
  |pe p q r s=>exact bd1_sw (av := .pe p q r s) hi hj hb
  |h p=>exact bd1_sw (av := .h p) hi hj hb
  |any=>exact hb
 |d _=>exact h
 |pd _=>exact h
 |ptr p q=>exact bd1_sw (av := .ptr p q) hi hj h
 |own p q=>exact bd1_sw (av := .own p q) hi hj h
 |pe p q r s=>exact bd1_sw (av := .pe p q r s) hi hj h
 |h p=>exact bd1_sw (av := .h p) hi hj h
 |any=>exact h
theorem rows_sw {e k:Nat}{v:Value}{rows:List (List D)}(h:∃ xs:List Value,w.ownsRow cx.w0.heap.size e k v rows.length xs∧(∀ x∈xs,Value.oneCell' x=true)∧(∀ r∈rows,r.length=k) ∧
   ∀ (p q:Nat) (r:List D) (d:D) (x:Value),rows[p]? = some r→r[q]? = some d→xs[p*k+q]? = some x→Rd w (cx.own g σ) x d) :
  ∃ xs:List Value,w.ownsRow cx.w0.heap.size e k v rows.length xs∧(∀ x∈xs,Value.oneCell' x=true)∧(∀ r∈rows,r.length=k) ∧
   ∀ (p q:Nat) (r:List D) (d:D) (x:Value),rows[p]? = some r→r[q]? = some d→xs[p*k+q]? = some x→Rd w (cx.own (fun k=>g (swN i j k)) (swS i j σ)) x d:=by
 obtain⟨xs,h1,h2,h3,h4⟩:=h
 exact⟨xs,h1,h2,h3,fun p q r d x hp hq hx=>Rd.less (fun b hb=>own_sw hb) (h4 p q r d x hp hq hx)⟩
theorem ob_sw {id:Nat}{o:Ob}(h:ObOk cx g σ w (swN i j id) o):ObOk cx (fun k=>g (swN i j k)) (swS i j σ) w id (swO i j o):=by
 cases o with
 |box cells =>
  obtain⟨b,cs,t,h1,h2,h3,h4,h5,h6⟩:=h
  exact⟨b,cs,t,h1,h2,h3,by simpa using h4,h5,cells_sw h6⟩
 |arr e k rows=>exact rows_sw h
 |pin e k rows x=>exact⟨h.1,rows_sw h.2⟩
 |mp M x=>exact h
 |mi M x=>exact h
 |gen p=>exact h
 |res=>exact h
 |tok o b=>exact h
 |lit kk V ids =>
  obtain⟨b,es,clock,h1,h2,h3,h4,h5⟩:=h
  refine⟨b,es,clock,h1,h2,h3,h4,fun q k p hq hp hg=>?_⟩
  rw[List.getElem?_map,Option.map_eq_some_iff]at hq
  obtain⟨k0,h6,rfl⟩:=hq
  rw[get_swo,swN_swN]at hg
  obtain⟨o0,h7,h8⟩:=swV_ob hg
  cases o0 <;> simp[swO]at h8
  obtain⟨h9,rfl⟩:=h8
  refine h5 q k0 p h6 hp ?_
  rw[h7,← h9,swN_swN]
theorem obd_sw (hi:i < nx) (hj:j < nx) {o:Ob}(h:o.bd nx):(swO i j o).bd nx:=by
 cases o with
 |box cells =>
  intro x hx
  obtain⟨y,hy,rfl⟩:=List.mem_map.1 hx
  exact bd1_sw hi hj (h y hy)
 |lit kk V ids =>
  intro x hx
  obtain⟨y,hy,rfl⟩:=List.mem_map.1 hx
  exact swN_lt hi hj (h y hy)
 |_=>exact h
theorem SimG.sw (hs:SimG cx σ a w g nx) (hi:i < nx) (hj:j < nx) (hgn:cx.gn=0) (hgh:cx.gh=[]):SimG cx (swS i j σ) a w (fun k=>g (swN i j k)) nx:=by
 refine⟨?_,hs.size,hs.defers,hs.below,hs.own0,fun k av hk=>?_,fun id o ho=>?_,fun id id' o o' b h1 h2 h3 h4=>?_,by rw[hgn];exact Nat.zero_le _,fun p hp=>by rw[hgh]at hp;cases hp⟩
 ·
  have:=get_sw (i:=i) (j:=j) (k := .nx) (σ:=σ)
  rw[hs.hnx]at this
  exact this
 ·
  have:=get_sw (i:=i) (j:=j) (k := .s k) (σ:=σ)
  rw[show swK i j (.s k) = .s k from rfl,hk]at this
  obtain⟨av0,h1,rfl⟩:=swV_av this.symm
  obtain⟨h2,h3⟩:=hs.slots k av0 h1
  exact⟨rep_sw h2,bd_sw hi hj h3⟩
 ·
  rw[get_swo]at ho
  obtain⟨o0,h1,rfl⟩:=swV_ob ho
  obtain⟨h2,h3,h4⟩:=hs.objs _ o0 h1
  refine⟨?_,ob_sw h3,obd_sw hi hj h4⟩
  have:=swN_lt hi hj h2
  rwa [swN_swN]at this
 ·
  rw[get_swo]at h1 h2
  obtain⟨o0,h5,_⟩:=swV_ob h1
  obtain⟨o1,h6,_⟩:=swV_ob h2
  exact swN_inj (hs.sep _ _ o0 o1 b h5 h6 h3 h4)
theorem CW.ren (i j:Nat) {n:Nat}(hn:get σ .nx = .num n) (hi:Nat.blt i n=true) (hj:Nat.blt j n=true) (h:CW cx c Q (swS i j σ)) (hgn:cx.gn=0:=by rfl) (hgh:cx.gh=[]:=by rfl):CW cx c Q σ:=by
 rintro a w ⟨g,nx,hs⟩
 obtain rfl:nx=n:=by
  have:=hs.hnx
  rw[hn]at this
  simpa using this.symm
 exact h a w ⟨_,_,hs.sw (lt_of_blt hi) (lt_of_blt hj) hgn hgh⟩
def stutQ (t:Tr) (Q:Exit→St→Prop):Exit→St→Prop
 |.normal,σ=>App σ t.rd∧Q .normal (t.wr++σ)
 |e,σ=>Q e σ
theorem CW.aft {t:Tr}(ht:Stut cx t) (h:CW cx c (stutQ t Q) σ):CW cx c Q σ:=fun a w hs=>wp_mono (h a w hs) fun e a' w' he=>by
 obtain⟨σ',h1,h2⟩:=he
 cases e with
 |normal=>exact⟨_,ht σ' a' w' h1 h2.1,h2.2⟩
 |exit j=>exact⟨σ',h1,h2⟩
 |goto j=>exact⟨σ',h1,h2⟩
 |ret=>exact⟨σ',h1,h2⟩
 |panic c=>exact⟨σ',h1,h2⟩
 |outgrown=>exact⟨σ',h1,h2⟩
theorem q_aft {t:Tr}(ha:App σ t.rd) (h:Q .normal (t.wr++σ)):stutQ t Q .normal σ:=⟨ha,h⟩
end Go.AX
namespace Go.Proofs.YtngnajknbeijjaaGreatDoor
open Go.AX Go.RF
set_option maxRecDepth 100000
set_option maxHeartbeats 8000000
structure PInv (r:Replica) (x:Entry) (tgt:Replica):Prop where
 e:EInv r.engine 400
 w:wrongs x.deeds=0∧x.deeds.length≤6
 d:DInv ⟨(addE r.engine x.deeds).1,r.next+1,r.early⟩
 t:drainR r.early.length ⟨(addE r.engine x.deeds).1,r.next+1,r.early⟩=tgt
theorem ok_rcome (r:Replica) (e:Entry) (h:RInv r) (he:wrongEntry e=0):FnOk Tryz.prog 25 [.d (.agg r.enc),.d (.agg e.enc)] (.tup [.agg (comeE r e).1.enc,dint (comeE r e).2]):=by
 refine fnOk_of tbl_ok mixed_ok Tryz.func25 rfl (by kernel_rfl) rfl rfl fun w0 own0=>?_
 have hl:=h.l
 have hn:=h.n
 obtain⟨hn1,hn2,hn3,hn4⟩:=wrongEntry_out he
 try refine wk ?_
 refine CW.loopT (fun t:Nat×Bool=>[sp 2 0,ob 0 r.enc,sp 3 1,ob 1 e.enc,sp 4 2,ob 2 [.v nilS,.v nilS,.v nilS,.v nilS,dint 0,dint 0,.v nilS],sd 5 (dint 0),sd 6 (dbool t.2),sd 18 (encEntries r.early),sd 19 (dint r.early.length),sd 20 (dint t.1),nxt 3])
  (fun t=>t.1≤r.early.length∧(t.2 || hasN e.number (r.early.drop t.1))=(decide (e.number < r.next) || hasN e.number r.early)) (fun t=>r.early.length - t.1) (0,decide (e.number < r.next)) ⟨by dsimp only;omega,rfl⟩ ?_ ?_
 ·
  exact by_less
 ·
  rintro ⟨i,b⟩ ⟨hi,hI⟩
  dsimp only at hi hI ⊢
  rcases drop_case hi with ⟨h1,h2⟩|⟨x,h1,h2,h3⟩
  ·
   rw[h1,hasN,Bool.or_false]at hI
   unfold comeE
   cases b with
   |true =>
    have hc:e.number < r.next∨hasN e.number r.early=true:=by simpa using hI.symm
    rw[if_pos hc]
    try refine wk ?_
    exact .two (.cell rfl rfl rfl rfl (.aggd (ds:=r.enc) rfl (.refl _))) (.tmp rfl (.one (.d (.refl _))))
   |false =>
    have hc:¬ (e.number < r.next)∧hasN e.number r.early=false:=by simpa using hI.symm
    rw[if_neg (by rw[hc.2];simp;omega)]
    have hc1:=hc.1
    by_cases h4:r.next < e.number
    ·
     rw[if_pos h4]
     by_cases h5:4≤r.early.length
     ·
      rw[if_pos h5]
      try refine wk ?_
      exact .two (.cell rfl rfl rfl rfl (.aggd (ds:=r.enc) rfl (.refl _))) (.tmp rfl (.one (.d (.refl _))))
     ·
      rw[if_neg h5]
      try refine wk ?_
      exact .two (.cell rfl rfl rfl rfl (.agg (.cons (.d (.refl _)) (.cons (.d (.refl _)) (.cons (.d (.refl _)) (.cons (.d (.refl _)) (.cons (.d (.refl _)) (.cons (.d (.refl _)) (.cons (.own rfl (by simp) (dle_eq (by simp[encEntries];rfl))) .nil))))))))) (.tmp rfl (.one (.d (.refl _))))
    ·
     rw[if_neg h4]
     have hnx:e.number=r.next:=by omega
     have hT:=take_inv (snoc_inv h he hc.1 hc.2) (k:=r.early.length) (x:=e) (by simp) hnx
     rw[List.eraseIdx_append_of_length_le (Nat.le_refl _)]at hT
     simp at hT
     have hP:PInv r e (drainR r.early.length ⟨(addE r.engine e.deeds).1,r.next+1,r.early⟩):=⟨h.e.mono (by omega),⟨hn3,hn2⟩,hT,rfl⟩
     generalize drainR r.early.length ⟨(addE r.engine e.deeds).1,r.next+1,r.early⟩=tgt at *
     try refine wk ?_
     refine CW.loopT (fun t:Replica×Entry=>[sp 2 0,ob 0 t.1.enc,sp 3 1,ob 1 t.2.enc,sp 4 2,ob 2 [.v nilS,.v nilS,.v nilS,.v nilS,dint 0,dint 0,.v nilS],sd 5 (dint 0),nxt 3])
      (fun t=>PInv t.1 t.2 tgt) (fun t=>t.1.early.length) (r,e) hP ?_ ?_
     ·
      exact by_less
     ·
      rintro ⟨⟨E,n,y⟩,e'⟩ ⟨p1,⟨p2,p3⟩,p4,p5⟩
      dsimp only at p1 p2 p3 p4 p5 ⊢
      have ca:=ok_addE E e'.deeds _ p1.z (fun d hd=>wrong_sm (wrongs_mem p2 d hd)) (by omega) (by omega)
      generalize (addE E e'.deeds).1=E2 at *
      generalize (addE E e'.deeds).2=v2 at *
      have hyl:=p4.l
      have hyn:=p4.n
      have hlf:=lastN_first (n:=n+1) (i:=0) p4.d
      dsimp only at hyl hyn hlf
      try refine wk ?_
      refine CW.loopT (fun t:Nat×Int=>[sp 2 0,ob 0 (Replica.enc ⟨E2,n+1,y⟩),sp 3 1,ob 1 e'.enc,sp 4 2,ob 2 [.v nilS,.v nilS,.v nilS,.v nilS,dint 0,dint 0,.v nilS],sd 5 (dint 0),sd 9 (dint t.2),sd 68 (encEntries y),sd 69 (dint y.length),sd 70 (dint t.1),nxt 3])
       (fun t=>t.1≤y.length∧lastN (n+1) t.2 t.1 (y.drop t.1)=firstN (n+1) 0 y) (fun t=>y.length - t.1) (0,-1) ⟨by dsimp only;omega,hlf⟩ ?_ ?_
      ·
       exact by_less
      ·
       rintro ⟨j,k⟩ ⟨hj,hJ⟩
       dsimp only at hj hJ ⊢
       rcases drop_case hj with ⟨g1,g2⟩|⟨z,g1,g2,g3⟩
       ·
        rw[g1,lastN]at hJ
        rcases firstN_cases (n:=n+1) (l:=y) (i:=0) with ⟨k1,k2⟩|⟨m,x,k1,k2,k3⟩
        ·
         rw[k1]at hJ
         rw[drainR_none (by dsimp only;omega)]at p5
         subst p5
         try refine wk ?_
         exact .two (.cell rfl rfl rfl rfl (.aggd (ds:=Replica.enc ⟨E2,n+1,y⟩) rfl (.refl _))) (.tmp rfl (.one (.d (.refl _))))
        ·
         rw[Nat.zero_add]at k1
         rw[k1]at hJ
         subst hJ
         have hkl:=(List.getElem?_eq_some_iff.1 k2).1
         have hel:=List.length_eraseIdx_of_lt hkl
         have hxm:(y.map Entry.enc)[m]? = some x.enc:=by rw[List.getElem?_map,k2];rfl
         obtain⟨x1,x2,x3,x4⟩:=wrongEntry_out (p4.w x (List.mem_of_getElem? k2))
         have hI2:=take_inv p4 k2 k3
         have hJ2:drainR (y.eraseIdx m).length ⟨(addE E2 x.deeds).1,n+1+1,y.eraseIdx m⟩=tgt:=by
          rw[hel,← p5]
          obtain⟨q,hq⟩:∃ q,y.length=q+1:=⟨y.length - 1,by omega⟩
          rw[hq,drainR_some (r:=⟨E2,n+1,y⟩) k1 k2,Nat.add_sub_cancel]
         have hml:m≤(y.map Entry.enc).length:=by simp;omega
         have hml2:m+1≤(y.map Entry.enc).length:=by simp;omega
         have hbox:[AV.d (encChains E2.chains),AV.d (encDeeds E2.deeds),AV.d (encInts E2.state),AV.d (encEnds E2.ends),AV.d (dint E2.base),AV.d (dint (n+1)),AV.d (.sl 2 (([]++(y.map Entry.enc).take m)++(y.map Entry.enc).drop (m+1)))]=(Replica.enc ⟨E2,n+1,y.eraseIdx m⟩).map AV.d:=by
          simp[Replica.enc,encEntries,List.eraseIdx_eq_take_drop_succ]
         have hcf:cutI (y.map Entry.enc) (some ((m:Int)+1)) none=some ((y.map Entry.enc).drop (m+1)):=by
          have:=cut_from hml2
          rwa [show((m+1:Nat):Int)=(m:Int)+1 by omega]at this
         have hst0:StopX 26:=⟨rfl⟩
         try refine wkS ?_
         clear hst0
         refine Stop.go (CW.aft (stut_freeze_cell (id:=0) (j:=6) (i:=3) (n:=0+((y.map Entry.enc).take m).length+((y.map Entry.enc).drop (m+1)).length) (e:=50) (k:=2) (cells:=[.d (encChains E2.chains),.d (encDeeds E2.deeds),.d (encInts E2.state),.d (encEnds E2.ends),.d (dint E2.base),.d (dint (n+1)),.own 3 (0+((y.map Entry.enc).take m).length+((y.map Entry.enc).drop (m+1)).length)]) (rows:=([]++(y.map Entry.enc).take m)++(y.map Entry.enc).drop (m+1)) rfl (by simp)) ?_)
         repeat(first|refine wa ?_|((with_reducible apply s5);(first|((with_reducible apply a_from);(iterate 5 exact rfl);exact hcf)|exact by_oa|exact by_ca);exact by_g)|refine wb ?_)
         refine q_aft ⟨rfl,rfl,trivial⟩ ?_
         try refine wk ?_
         refine q_loopT (⟨E2,n+1,y.eraseIdx m⟩,x) ⟨p4.e.mono (by dsimp only;omega),⟨x3,x2⟩,hI2,hJ2⟩ (by dsimp only;omega) ?_
         exact by_less
       ·
        rw[g1]at hJ
        simp only[lastN]at hJ
        by_cases hz:z.number=n+1
        ·
         rw[if_pos hz]at hJ
         try refine wk ?_
         refine q_loopT (j+1,(j:Int)) ⟨by dsimp only;omega,hJ⟩ (by dsimp only;omega) ?_
         exact by_less
        ·
         rw[if_neg hz]at hJ
         try refine wk ?_
         refine q_loopT (j+1,k) ⟨by dsimp only;omega,hJ⟩ (by dsimp only;omega) ?_
         exact by_less
  ·
   rw[h1]at hI
   simp only[hasN]at hI
   cases b with
   |true =>
    try refine wk ?_
    refine q_loopT (i+1,true) ⟨by dsimp only;omega,by simpa using hI⟩ (by dsimp only;omega) ?_
    exact by_less
   |false =>
    by_cases h4:x.number=e.number
    ·
     rw[if_pos h4]at hI
     try refine wk ?_
     refine q_loopT (i+1,true) ⟨by dsimp only;omega,by simpa using hI⟩ (by dsimp only;omega) ?_
     exact by_less
    ·
     rw[if_neg h4]at hI
     try refine wk ?_
     refine q_loopT (i+1,false) ⟨by dsimp only;omega,hI⟩ (by dsimp only;omega) ?_
     exact by_less
end Go.Proofs.YtngnajknbeijjaaGreatDoor
namespace Go.AX
open Go.RowKit
variable {cx:Cx}{g:Nat→Value}{σ σ':St}{a:Act}{w w':World}{nx:Nat}{c:Code}{Q:Exit→St→Prop}
variable {ty:TypeId}{pos:String}{af:Array Edge}{gd:Option (Nat×Bool)}{d:Nat}
theorem ref_pd {v:Value}{ds:List D}(h:Rep cx g σ w v (.d (refD ds))):Rep cx g σ w v (.pd ds):=by
 obtain⟨ad,h1,h2,h3,h4⟩:=rd_x h
 exact⟨ad,h1,.inr h2,h3,h4⟩
theorem a_faref {t:TypeId}{x:Operand}{cells:List D}{ti:TI}{f off:Nat}(hx:ev σ x=some (.d (refD cells))) (ht:tget cx.T t=some ti) (hf:fldOff ti f=some off) (hd:Nat.blt d cx.n=true) :
  OA cx σ ⟨some d,.fieldAddr t x f,ty,pos,af,gd⟩ ⟨rdOf x (.d (refD cells)),[(.s d,.av (.pd (cells.drop off)))]⟩:=by
 refine⟨ok_val rfl (lt_of_blt hd) fun _ a w _ _ hs hr=>?_,(ev_out hx).2⟩
 obtain⟨ad,hv,h1,h2,hc⟩:=ref_pd (hs.ev (ev_out hx).1 hr).1
 exact⟨.pointer (some (ad.add off)),w,by simp[execOp,hv,fieldAt_of (cx.hT t ti ht) hf],Below.refl _ _,
  ⟨_,rfl,by rw[add_block];exact h1,by rw[add_block];exact h2,hc.drop off⟩,trivial⟩
theorem a_ldref {t:TypeId}{x:Operand}{cells:List D}{ti:TI}{y:D}(hx:ev σ x=some (.d (refD cells))) (ht:tget cx.T t=some ti) (hl:ldD ti cells=some y) (hd:Nat.blt d cx.n=true) :
  OA cx σ ⟨some d,.load t x,ty,pos,af,gd⟩ ⟨rdOf x (.d (refD cells)),[(.s d,.av (.d y))]⟩:=by
 refine⟨ok_val rfl (lt_of_blt hd) fun _ a w _ _ hs hr=>?_,(ev_out hx).2⟩
 obtain⟨ad,hv,_,_,hc⟩:=ref_pd (hs.ev (ev_out hx).1 hr).1
 obtain⟨v,h1,h2⟩:=run_load_cells (cx.hT t ti ht) hc hl
 exact⟨v,w,by simp[execOp,hv,h1],Below.refl _ _,h2,trivial⟩
theorem a_nilref {x:Operand}{cells:List D}(hx:ev σ x=some (.d (refD cells))) (hd:Nat.blt d cx.n=true) :
  OA cx σ ⟨some d,.nilCheck x,ty,pos,af,gd⟩ ⟨rdOf x (.d (refD cells)),[(.s d,.av (.d (refD cells)))]⟩:=by
 refine⟨ok_val rfl (lt_of_blt hd) fun _ a w _ _ hs hr=>?_,(ev_out hx).2⟩
 have h:=(hs.ev (ev_out hx).1 hr).1
 obtain⟨ad,hv,_,_,hc⟩:=ref_pd h
 refine⟨_,w,?_,Below.refl _ _,h,trivial⟩
 simp[execOp,hv]
inductive Lent (σ:St):List AV→List D→List (Key×Val)→Prop
 |nil:Lent σ [] [] []
 |d {x:D} {cs:List AV} {ds:List D} {l:List (Key×Val)} (h:Lent σ cs ds l):Lent σ (.d x::cs) (x::ds) l
 |own {id n e k:Nat} {rows:List (List D)} {cs:List AV} {ds:List D} {l:List (Key×Val)} (ho:get σ (.o id) = .ob (.arr e k rows)) (hn:n=rows.length) (h:Lent σ cs ds l) :
   Lent σ (.own id n::cs) (.sl k rows::ds) ((.o id,.ob (.arr e k rows))::l)
theorem Lent.app {cs:List AV}{ds:List D}{l:List (Key×Val)}(h:Lent σ cs ds l):App σ l:=by
 induction h with
 |nil=>trivial
 |d h ih=>exact ih
 |own ho hn h ih=>exact⟨ho,ih⟩
def lids:List AV→List Nat
 | []=>[]
 |.own id _::r=>id::lids r
 |_::r=>lids r
theorem Lent.rd {σ0:St}{own':Nat→Prop}(hs:SimG cx σ a w g nx) (hle:∀ b,own' b→cx.own g σ b):∀ {cs:List AV}{ds:List D}{l:List (Key×Val)},Lent σ0 cs ds l→App σ l→(∀ i∈lids cs,∀ b,own' b→blk (g i)≠some b) →
  ds.length=cs.length∧∀ (j:Nat) (z:D) (av:AV) (v:Value),ds[j]? = some z→cs[j]? = some av→Rep1 cx g σ w v av→Rd w own' v z:=by
 intro cs ds l h
 induction h with
 |nil=>exact fun _ _=>⟨rfl,fun j z av v hz=>by simp at hz⟩
 |@d x cs ds l h ih =>
  intro ha hb
  obtain⟨h1,h2⟩:=ih ha hb
  refine⟨by simp[h1],fun j z av v hz hav hr=>?_⟩
  cases j with
  |zero=>simp at hz hav;subst hz hav;exact Rd.less hle hr
  |succ j=>exact h2 j z av v (by simpa using hz) (by simpa using hav) hr
 |@own id n e k rows cs ds l ho hn h ih =>
  intro ha hb
  obtain⟨h1,h2⟩:=ih ha.2 fun i hi=>hb i (List.mem_cons_of_mem _ hi)
  refine⟨by simp[h1],fun j z av v hz hav hr=>?_⟩
  cases j with
  |zero =>
   simp at hz hav
   subst hz hav
   have ho':get σ (.o id) = .ob (.arr e k rows):=ha.1
   have hv:v=g id:=(hr.2 e k rows ho').2 hn
   rw[hv]
   exact(objRows hs ho').rd fun b h=>⟨hle b h,hb id (List.mem_cons_self ..) b h⟩
  |succ j=>exact h2 j z av v (by simpa using hz) (by simpa using hav) hr
theorem a_lendbox {f:FuncId}{x:Operand}{r:Res}{ats:Array TypeId}{id:Nat}{cells:List AV}{ds:List D}{lv:List (Key×Val)}
  (hc:FnOk cx.P f [.d (refD ds)] r) (hx:ev σ x=some (.ptr id 0)) (ho:get σ (.o id) = .ob (.box cells)) (hv:Lent σ cells ds lv) (hp:plainR r=true) (hd:Nat.blt d cx.n=true) :
  OA cx σ ⟨some d,.call { callee := .value (.func f),args := #[x],argTypes:=ats },ty,pos,af,gd⟩ ⟨rdOf x (.ptr id 0)++((.o id,.ob (.box cells))::lv),[(.s d,.av r.av)]⟩:=by
 refine⟨?_,(ev_out hx).2.append ⟨ho,hv.app⟩⟩
 rintro σ1 a w K Q ⟨g,nx,hs⟩ hr hK
 have hxv:=hs.ev (ev_out hx).1 hr.left
 have ho1:get σ1 (.o id) = .ob (.box cells):=hr.right.1
 have hlv:App σ1 lv:=hr.right.2
 obtain⟨b0,hg0,hval⟩:=hxv.1.2 _ ho1
 obtain⟨_,⟨b,cs,t,h0,h1,h2,h3,h4,h5⟩,_⟩:=hs.objs id _ ho1
 obtain rfl:b0=b:=by rw[hg0]at h0;simpa using h0
 have hlt:b0 < w.heap.size:=by
  rcases Nat.lt_or_ge b0 w.heap.size with h|h
  ·
   exact h
  ·
   rw[Array.getElem?_eq_none h]at h2;cases h2
 obtain⟨hlen,hrd⟩:=Lent.rd (own':=fun b=>cx.own g σ1 b∧blk (g id)≠some b∧∀ i∈lids cells,blk (g i)≠some b) hs (fun b hb=>hb.1) hv hlv (fun i hi b hb=>hb.2.2 i hi)
 have harg:Rd w (fun b=>cx.own g σ1 b∧blk (g id)≠some b∧∀ i∈lids cells,blk (g i)≠some b) (a.eval x) (refD ds):=by
  refine rd_ref ⟨_,hval,fun h=>h.2.1 (by rw[hg0];rfl),hlt,fun j z hz=>?_⟩
  have hjd:=(List.getElem?_eq_some_iff.1 hz).1
  have hjl:j < cs.size:=by rw[h3];omega
  have hcs:cs[j]? = some cs[j]:=Array.getElem?_eq_getElem hjl
  have hav:cells[j]? = some (cells[j]'(by omega)):=List.getElem?_eq_getElem (by omega)
  exact⟨cs[j],by rw[add_lit];simp[World.cell?,h2,hcs],h4 _ _ hcs,hrd j z _ _ hz hav (h5 j _ _ hav hcs)⟩
 have hcall:=hc.calls w _ [a.eval x] ⟨fun b hb=>own_lt hs hb.1,hs.gl⟩ ⟨harg,trivial⟩
 unfold Oper.wp
 have hrun:=call_run (a:=a) (d:=d) (ty:=ty) (pos:=pos) (af:=af) (gd:=gd) (w:=w) (xs:=[x]) (ats:=ats) hc.run
 rw[hrun]
 refine hcall.mono fun z w' he=>?_
 obtain⟨v,rfl,hb,hres⟩:=he
 obtain⟨h1,h2⟩:=Res.rep (nx:=nx) (plainR_ok hp (own':=cx.own g σ1) hres)
 exact hK _ _ (Sim.put hs (lt_of_blt hd) hb h1 h2)
end Go.AX
namespace Go.Proofs.YtngnajknbeijjaaGreatDoor
open Go.AX Go.RF
set_option maxRecDepth 100000
set_option maxHeartbeats 8000000
theorem new_logOwn (l:List Entry) (hl:l.length≤134217728) (hd:∀ e∈l,e.deeds.length≤134217728∧∀ d∈e.deeds,d.Sm):FnNew Tryz.prog 55 [.d (encEntries l)] 50 2 (l.map Entry.enc):=by
 refine fnNew_of tbl_ok mixed_ok Tryz.func55 rfl (by kernel_rfl) rfl rfl fun w0 own0=>?_
 try refine wk ?_
 refine CW.stut (stut_promote (i:=3) 50 2) ⟨rfl,rfl,trivial⟩ ?_
 refine CW.loopT (fun i:Nat=>[sd 9 (encEntries l),sd 10 (dint l.length),sd 11 (dint i),so 3 0 i,oa 0 50 2 ((l.take i).map Entry.enc),nxt 1]) (fun i=>i≤l.length) (fun i=>l.length - i) 0 (by omega) ?_ ?_
 ·
  exact by_less
 ·
  rintro i hi
  rcases drop_case hi with ⟨h1,h2⟩|⟨e,h1,h2,h3⟩
  ·
   subst h2
   rw[List.take_length]
   try refine wk ?_
   exact RetNew.own rfl rfl (by simp)
  ·
   have h4:(l.take i).map Entry.enc++[e.enc]=(l.take (i+1)).map Entry.enc:=by rw[List.take_add_one,h2];simp
   obtain⟨hel,hed⟩:=hd e (List.mem_of_getElem? h2)
   try refine wk ?_
   refine CW.stut (stut_promote_cell (id:=2) (j:=1) 42 3 rfl) ⟨rfl,rfl,trivial⟩ ?_
   refine CW.loopT (fun j:Nat=>[sd 9 (encEntries l),sd 10 (dint l.length),sd 11 (dint i),so 3 0 i,oa 0 50 2 ((l.take i).map Entry.enc),sp 6 2,(.o 2,.ob (.box [.d (dint e.number),.own 3 j])),oa 3 42 3 ((e.deeds.take j).map Deed.enc),sd 19 (encDeeds e.deeds),sd 20 (dint e.deeds.length),sd 21 (dint j),nxt 4])
    (fun j=>j≤e.deeds.length) (fun j=>e.deeds.length - j) 0 (by omega) ?_ ?_
   ·
    exact by_less
   ·
    rintro j hj
    rcases drop_case hj with ⟨h5,h6⟩|⟨d,h5,h6,h7⟩
    ·
     subst h6
     rw[List.take_length]
     have hst0:StopX 11:=⟨rfl⟩
     try refine wkS ?_
     clear hst0
     refine Stop.go (CW.stut (stut_freeze_cell (id:=2) (j:=1) (i:=3) rfl (by simp)) ⟨rfl,rfl,trivial⟩ ?_)
     have h8:(l.take i).map Entry.enc++[[dint e.number,.sl 3 (e.deeds.map Deed.enc)]]=(l.take (i+1)).map Entry.enc:=h4
     try refine wk ?_
     refine q_loopT (i+1) (by omega) (by omega) ?_
     exact by_less
    ·
     have h8:(e.deeds.take j).map Deed.enc++[d.enc]=(e.deeds.take (j+1)).map Deed.enc:=by rw[List.take_add_one,h6];simp
     have hd:=ok_deedOwn d (hed d (List.mem_of_getElem? h6))
     try refine wk ?_
     refine q_loopT (j+1) (by omega) (by omega) ?_
     exact by_less
theorem ok_logOwn (l:List Entry) (hl:l.length≤134217728) (hd:∀ e∈l,e.deeds.length≤134217728∧∀ d∈e.deeds,d.Sm):FnOk Tryz.prog 55 [.d (encEntries l)] (.one (encEntries l)):=(new_logOwn l hl hd).ok
theorem ok_repNew:FnOk Tryz.prog 21 [] (.one (.agg noR.enc)):=by
 refine fnOk_of tbl_ok mixed_ok Tryz.func21 rfl (by kernel_rfl) rfl rfl fun w0 own0=>?_
 have c1:=ok_pnew [] (by simp)
 have hc:FnOk Tryz.prog 7 [.d (.sl 2 [])] (.one (.agg (newE []).enc)):=c1
 repeat(first|refine wa ?_|((with_reducible apply s5);(first|exact a_call hc rfl by_sub|((with_reducible apply a_buildA);(iterate 4 exact rfl);(repeat(first|exact PartsV.nil|(apply PartsV.cons;exact rfl;exact rfl;(first|exact⟨rfl,trivial⟩|(apply nw_own;exact rfl;(focus first|exact rfl|(simp;done)|(simp;omega)))))));exact rfl)|exact by_oa|exact by_ca);exact by_g)|refine wb ?_)
 exact .one (.cell rfl rfl rfl rfl (.aggd (ds:=[encChains [],encDeeds [],encInts [],encEnds [],dint 0,dint 0,.v nilS]) rfl (DLes.agg (.cons (.refl _) (.cons (.refl _) (.cons (.refl _) (.cons (.refl _) (.cons (.refl _) (.cons (.refl _) (.cons (dle_nil 2) .nil))))))))))
abbrev ownR (r:Replica):List Part:=[.d (encChains r.engine.chains),.d (encDeeds r.engine.deeds),.d (encInts r.engine.state),.d (encEnds r.engine.ends),.d (dint r.engine.base),.d (dint r.next),.own 50 2 (r.early.map Entry.enc)]
theorem news_repOwn (r:Replica) (hs:Replica.Sm r):FnNews Tryz.prog 22 [.d (.agg r.enc)] (ownR r):=by
 refine fnNews_of tbl_ok mixed_ok Tryz.func22 rfl (by kernel_rfl) rfl rfl fun w0 own0=>?_
 have c1:=ok_planOwn r.engine hs.e
 have c2:=new_logOwn r.early hs.l hs.d
 repeat(first|refine wa ?_|((with_reducible apply s5);(first|((with_reducible apply a_buildA);(iterate 4 exact rfl);(repeat(first|exact PartsV.nil|(apply PartsV.cons;exact rfl;exact rfl;(first|exact⟨rfl,trivial⟩|(apply nw_own;exact rfl;(focus first|exact rfl|(simp;done)|(simp;omega)))))));exact rfl)|exact a_callnew c2 rfl rfl by_sub|exact by_oa|exact by_ca);exact by_g)|refine wb ?_)
 refine .cell rfl rfl rfl rfl (.cons .d (.cons .d (.cons .d (.cons .d (.cons .d (.cons .d (.cons (.own rfl (by simp)) .nil))))))) (show([2]:List Nat).Nodup by decide)
theorem ok_repOwn (r:Replica) (hs:Replica.Sm r):FnOk Tryz.prog 22 [.d (.agg r.enc)] (.one (.agg r.enc)):=by
 refine fnOk_of tbl_ok mixed_ok Tryz.func22 rfl (by kernel_rfl) rfl rfl fun w0 own0=>?_
 have c1:=ok_planOwn r.engine hs.e
 have c2:=ok_logOwn r.early hs.l hs.d
 repeat(first|refine wa ?_|((with_reducible apply s5);(first|((with_reducible apply a_buildA);(iterate 4 exact rfl);(repeat(first|exact PartsV.nil|(apply PartsV.cons;exact rfl;exact rfl;(first|exact⟨rfl,trivial⟩|(apply nw_own;exact rfl;(focus first|exact rfl|(simp;done)|(simp;omega)))))));exact rfl)|exact by_oa|exact by_ca);exact by_g)|refine wb ?_)
 exact .one (.cell rfl rfl rfl rfl (.aggd (ds:=r.enc) rfl (.refl _)))
theorem ok_indexE (l:List Entry) (n:Int) (f:FuncId) (ds:List D) (zs:List Arg) (hcap:Caps ds zs) (hp:∀ x∈l,FnOk Tryz.prog f ([.d (.agg x.enc)]++zs) (.one (dbool (decide (x.number=n))))) (hl:l.length≤1073741824) :
  FnOk Tryz.prog 85 [.d (encEntries l),.d (fnD f ds)] (.one (dint (firstN n 0 l))):=by
 refine fnOk_of tbl_ok mixed_ok Tryz.func85 rfl (by kernel_rfl) rfl rfl fun w0 own0=>?_
 try refine wk ?_
 refine CW.loopT (fun t:Nat=>[sd 0 (encEntries l),sd 1 (fnD f ds),sd 7 (dint l.length),sd 8 (dint t),nxt 0])
  (fun t=>t≤l.length∧firstN n t (l.drop t)=firstN n 0 l) (fun t=>l.length - t) 0 ⟨by omega,rfl⟩ ?_ ?_
 ·
  exact by_less
 ·
  rintro t ⟨ht,hI⟩
  rcases drop_case ht with ⟨h1,h2⟩|⟨x,h1,h2,h3⟩
  ·
   rw[h1,firstN]at hI
   try refine wk ?_
   rw[← hI]
   exact .one (.tmp rfl (.one (.d (.refl _))))
  ·
   rw[h1,firstN]at hI
   have hx:=hp x (List.mem_of_getElem? h2)
   by_cases h:x.number=n
   ·
    rw[if_pos h]at hI
    rw[decide_eq_true h]at hx
    repeat(first|refine wa ?_|((with_reducible apply s5);(first|(focus (with_reducible apply(a_callfn (ys:=[.d (.agg x.enc)])));exact hx;exact hcap;exact rfl;exact rfl;exact by_sub)|exact by_oa|exact by_ca);exact by_g)|refine wb ?_)
    rw[← hI]
    exact .one (.tmp rfl (.one (.d (.refl _))))
   ·
    rw[if_neg h]at hI
    rw[decide_eq_false h]at hx
    repeat(first|refine wa ?_|((with_reducible apply s5);(first|(focus (with_reducible apply(a_callfn (ys:=[.d (.agg x.enc)])));exact hx;exact hcap;exact rfl;exact rfl;exact by_sub)|exact by_oa|exact by_ca);exact by_g)|refine wb ?_)
    refine q_loopT (t+1) ⟨by omega,hI⟩ (by omega) ?_
    exact by_less
theorem firstN_has {n:Int}:∀ {l:List Entry}{i:Nat},decide (0≤firstN n i l)=hasN n l
 | [],i=>rfl
 |x::l,i=>by
  simp only[hasN]
  by_cases h:x.number=n
  ·
   have h1:firstN n i (x::l)=(i:Int):=by simp only[firstN];rw[if_pos h]
   rw[if_pos h,h1];exact decide_eq_true (by omega)
  ·
   have h1:firstN n i (x::l)=firstN n (i+1) l:=by simp only[firstN];rw[if_neg h]
   rw[if_neg h,h1,firstN_has]
theorem ok_containsE (l:List Entry) (n:Int) (f:FuncId) (ds:List D) (zs:List Arg) (hcap:Caps ds zs) (hp:∀ x∈l,FnOk Tryz.prog f ([.d (.agg x.enc)]++zs) (.one (dbool (decide (x.number=n))))) (hl:l.length≤1073741824) :
  FnOk Tryz.prog 56 [.d (encEntries l),.d (fnD f ds)] (.one (dbool (hasN n l))):=by
 refine fnOk_of tbl_ok mixed_ok Tryz.func56 rfl (by kernel_rfl) rfl rfl fun w0 own0=>?_
 have c1:=ok_indexE l n f ds zs hcap hp hl
 have h:=firstN_has (n:=n) (l:=l) (i:=0)
 rw[← h]
 generalize firstN n 0 l=k at *
 try refine wk ?_
 exact .one (.tmp rfl (.one (.d (dle_bool rfl))))
end Go.Proofs.YtngnajknbeijjaaGreatDoor
namespace Go.Proofs.YtngnajknbeijjaaGreatDoor
open Go.AX Go.RF Go.RowKit Go.Shelf Go.Lib
set_option maxHeartbeats 4000000 in
set_option maxRecDepth 100000 in
theorem delete_walkE (g n cap m:Nat) (w:World) (cur:Array Value) (hg:w.heap[g]? = some (.cells cur 50 (0,0))) (hsz:cur.size=cap*2) (hm:m < n) (hn:n≤268435456) (hnc:n≤cap) (hcm:cap≤maxLen) (hone:∀ v∈cur.toList.take (n*2),v.oneCell'=true) :
  Calls Tryz.prog 59 #[.slice (some ⟨g,0,none⟩) n cap,.int .i64 (m:Int),.int .i64 ((m:Int)+1)] w fun e w' =>
   e = .returned (.slice (some ⟨g,0,none⟩) (n - 1) cap)∧∃ m1 cs',w'=(w.drew.setRow g m1).setRow g cs'∧cs'.size=cap*2∧cs'.toList.take ((n - 1)*2)=(cur.toList.take (n*2)).take (m*2)++(cur.toList.take (n*2)).drop ((m+1)*2):=by
 have mixed:=mixed_ok
 have hnm:¬ ((m:Int)=(m:Int)+1):=by omega
 have hT:Tryz.prog.underlying 48=some (.slice 50):=Tryz.underlying48
 have htb:∃ ti,tget tbl 50=some ti∧ti.n=2∧ti.zero=[.int .i64 0,.slice none 0 0]:=⟨_,rfl,rfl,rfl⟩
 obtain⟨ti,ht1,ht2,ht4⟩:=htb
 obtain⟨i0,hi0,hzs,_,z,hz0,hzc⟩:=(tbl_ok _ _ ht1).info
 rw[ht2]at hzs
 rw[ht4]at hzc
 have hcl:n*2≤cur.size:=by rw[hsz];exact Nat.mul_le_mul_right 2 hnc
 obtain⟨news,hnews⟩:∃ news,news=(cur.toList.drop ((m+1)*2)).take ((n - (m+1))*2):=⟨_,rfl⟩
 have hnl:news.length=(n - (m+1))*2:=by rw[hnews];simp;omega
 obtain⟨m1,hm1⟩:∃ m1:List Value,m1=cur.toList.take (m*2)++news++cur.toList.drop (m*2+news.length):=⟨_,rfl⟩
 have hm1l:m1.length=cur.size:=by rw[hm1];simp;omega
 obtain⟨zs,hzs2⟩:∃ zs:List Value,zs=[.int .i64 0,.slice none 0 0]:=⟨_,rfl⟩
 obtain⟨m2,hm2⟩:∃ m2:List Value,m2=m1.take ((m+(n - (m+1)))*2)++zs++m1.drop ((m+(n - (m+1)))*2+zs.length):=⟨_,rfl⟩
 have hm2l:m2.length=cur.size:=by rw[hm2,hzs2];simp;omega
 have hlast:m2.take ((n - 1)*2)=(cur.toList.take (n*2)).take (m*2)++(cur.toList.take (n*2)).drop ((m+1)*2):=by
  have h:=del_cells (cur:=cur.toList) (zs:=zs) hm (by simpa using hcl)
  rw[hm2,hm1,hnews]
  exact h
 have hap:∀ (A:Addr),(cap=m+1∨A=⟨g,(m+1)*2,none⟩)→∀ ty,(Builtin.append_ #[48,48] ty #[.slice (some ⟨g,0,none⟩) m cap,.slice (some A) (n - (m+1)) (cap - (m+1))]).run Tryz.prog w.drew =
   .ok (.slice (some ⟨g,0,none⟩) (m+(n - (m+1))) cap) (w.drew.setRow g m1.toArray):=fun A hA ty=>by
  have hnw:∀ j u,news[j]? = some u→w.drew.cell? (A.add j)=some u:=fun j u hj=>by
   rcases hA with hA|rfl
   ·
    have:news=[]:=List.eq_nil_of_length_eq_zero (by rw[hnl];omega)
    rw[this]at hj;simp at hj
   ·
    rw[hnews,List.getElem?_take]at hj
    split at hj
    ·
     rw[List.getElem?_drop]at hj
     rw[Addr.add_lit]
     have hgd:w.drew.heap[g]? = some (.cells cur 50 (0,0)):=hg
     simp[World.cell?,hgd]
     simpa using hj
    ·
     cases hj
  have ho1:∀ u∈news,u.oneCell'=true:=fun u hu=>by
   obtain⟨j,hj⟩:=List.getElem?_of_mem hu
   rw[hnews,List.getElem?_take]at hj
   split at hj
   ·
    rw[List.getElem?_drop]at hj
    refine hone u (List.mem_of_getElem? (i:=(m+1)*2+j) ?_)
    rw[List.getElem?_take,if_pos (by omega)];exact hj
   ·
    cases hj
  have h:=run_append_room (P:=Tryz.prog) (w:=w.drew) (ty:=ty) 48 50 i0 hT hi0 g m cap cur hg A (n - (m+1)) (cap - (m+1)) news (by rw[hzs];exact hnl) hnw ho1 (by omega) (by rw[hzs,hnl];omega)
  rw[hzs]at h
  rw[hm1]
  exact h
 have hg1:(w.drew.setRow g m1.toArray).heap[g]? = some (.cells m1.toArray 50 (0,0)):=setRow_heap _ _ _ _ _ _ hg
 have hclr:∀ ty,(Builtin.clear_ #[48] ty #[.slice (some ⟨g,(m+(n - (m+1)))*2,none⟩) (n - (m+(n - (m+1)))) (cap - (m+(n - (m+1))))]).run Tryz.prog (w.drew.setRow g m1.toArray) =
   .ok (.tuple #[]) ((w.drew.setRow g m1.toArray).setRow g m2.toArray):=fun ty=>by
  have e1:n - (m+(n - (m+1)))=1:=by omega
  have hst:=run_storeCells_at Tryz.prog g ((m+(n - (m+1)))*2) 50 zs 0 m1.toArray (w.drew.setRow g m1.toArray) hg1 (by rw[hzs2];simp;omega) (by rw[hzs2];simp[Value.oneCell'])
  have hzz:(Builtin.zeroCells z.cells 1).toList=zs:=by
   rw[hzs2,← hzc]
   have h2:z.cells.size=2:=by rw[← Array.length_toList,hzc];rfl
   apply List.ext_getElem
   ·
    simp[Builtin.zeroCells,h2]
   ·
    intro i h3 h4
    have h5:i < 2:=by simpa[h2] using h4
    simp[Builtin.zeroCells,Nat.mod_eq_of_lt h5,h2]
    exact getElem!_pos z.cells i (by omega)
  have hzv:(zeroValue 50).run Tryz.prog (w.drew.setRow g m1.toArray) = .ok z (w.drew.setRow g m1.toArray):=by simp[zeroValue,typeInfo,hi0,hz0]
  rw[e1]
  simp only[Nat.add_zero]at hst
  simp[Builtin.clear_,run_underlying hT,hzv,hzz,hst,hm2]
 have hi1:m≤cap:=by omega
 have hi2:m+1≤cap:=by omega
 have hi3:m+1≤n:=by omega
 clear hm1 hm2 hnews hzs2
 have hj1:(0:Int)≤(m:Int)+1:=by omega
 have hj2:(m:Int)+1≤(n:Int):=by omega
 have hj3:(m:Int)≤(m:Int)+1:=by omega
 have htn:((m:Int)+1).toNat=m+1:=by omega
 by_cases hcj:cap=m+1
 ·
  have hap1:=hap ⟨g,0,none⟩ (.inl hcj)
  obtain rfl:n=m+1:=by omega
  subst hcj
  have hap2:∀ ty,(Builtin.append_ #[48,48] ty #[.slice (some ⟨g,0,none⟩) m (m+1),.slice (some ⟨g,0,none⟩) 0 0]).run Tryz.prog w.drew = .ok (.slice (some ⟨g,0,none⟩) m (m+1)) (w.drew.setRow g m1.toArray):=fun ty=>by simpa using hap1 ty
  have hclr2:∀ ty,(Builtin.clear_ #[48] ty #[.slice (some ⟨g,m*2,none⟩) 1 1]).run Tryz.prog (w.drew.setRow g m1.toArray) = .ok (.tuple #[]) ((w.drew.setRow g m1.toArray).setRow g m2.toArray):=fun ty=>by
   have h:=hclr ty
   rw[show m+1 - (m+1)=0 by omega,show m+0=m by omega,show m+1 - m=1 by omega]at h
   exact h
  clear hap hap1 hclr
  go_enter Tryz.func59,Tryz.ntmps59
  go_wp2_with fail
  go_region_law_o (refine step_append_runI rfl _ _ 48 48 rfl (.slice (some ⟨g,0,none⟩) m (m+1)) (.slice (some ⟨g,0,none⟩) 0 0) (by simp[Act.eval,Act.put]) (by simp[Act.eval,Act.put]) (hap2 _) ?_)
  go_wp2_with (at_builtin;refine wpList_clear_runI rfl _ 48 rfl _ rfl (hclr2 _) ?_)
  go_ret
  exact⟨by rw[show m+1 - 1=m by omega];rfl,_,_,rfl,by simp[hm2l,hsz],by simpa using hlast⟩
 ·
  have hap1:=hap ⟨g,(m+1)*2,none⟩ (.inr rfl)
  clear hap
  go_enter Tryz.func59,Tryz.ntmps59
  go_wp2_with fail
  go_region_law_o (refine step_append_runI rfl _ _ 48 48 rfl (.slice (some ⟨g,0,none⟩) m cap) (.slice (some ⟨g,(m+1)*2,none⟩) (n - (m+1)) (cap - (m+1))) (by simp[Act.eval,Act.put]) (by simp[Act.eval,Act.put]) (hap1 _) ?_)
  go_wp2_with (at_builtin;refine wpList_clear_runI rfl _ 48 rfl _ rfl (hclr _) ?_)
  go_ret
  exact⟨by rw[show n - 1=m+(n - (m+1)) by omega];rfl,_,_,rfl,by simp[hm2l,hsz],by simpa using hlast⟩
theorem upd_deleteE (rows:List (List D)) (m:Nat) (hm:m < rows.length) (hl:rows.length≤268435456) :
  FnUpd Tryz.prog 59 50 2 rows [.d (dint m),.d (dint ((m:Int)+1))] (rows.take m++rows.drop (m+1)):=by
 refine⟨⟨_,Tryz.func59,by kernel_rfl,by kernel_rfl⟩,fun w own v vs hown hR hsep ha=>?_⟩
 match vs,ha with
 | [v1,v2],⟨h1,h2,_⟩ =>
  have e1:=rd_v h1
  have e2:=rd_v h2
  subst e1 e2
  obtain⟨xs,hrow,hone,hrl,hrd⟩:=hR
  have hxl:=hrow.1
  rcases hrow.2 with ⟨_,h0⟩|⟨g,cap,cur,rfl,_,hg,hnc,hcm,hsz,htk⟩
  ·
   omega
  ·
   refine(delete_walkE g rows.length cap m w cur hg hsz hm hl hnc hcm (by rw[htk];exact hone)).mono fun e w'=>?_
   rintro ⟨rfl,m1,cs',rfl,q1,q2⟩
   have hp:∀ b,blk (.slice (some ⟨g,0,none⟩) (rows.length - 1) cap)=some b→blk (.slice (some ⟨g,0,none⟩) rows.length cap)=some b∨w.heap.size≤b:=fun b hb => .inl hb
   have hbb:BelowBut (.slice (some ⟨g,0,none⟩) rows.length cap) w ((w.drew.setRow g m1).setRow g cs'):=⟨rfl,rfl,rfl,by simp[setRow_size],fun b hb hn=>by
    have hbg:b≠g:=fun h=>hn (by rw[h];rfl)
    rw[setRow_other _ _ _ _ hbg,setRow_other _ _ _ _ hbg];rfl⟩
   refine⟨_,rfl,hbb,hp,rows_del hm hbb hp hxl hone hrl hrd ⟨by simp;omega,.inr ⟨g,cap,cs',rfl,Nat.zero_le _,setRow_heap _ _ _ _ _ _ (setRow_heap _ _ _ _ _ _ hg),by omega,hcm,q1,?_⟩⟩⟩
   rw[q2,htk]
end Go.Proofs.YtngnajknbeijjaaGreatDoor
namespace Go.Proofs.YtngnajknbeijjaaGreatDoor
open Go.AX Go.RF
set_option maxRecDepth 100000
set_option maxHeartbeats 8000000
theorem ok_come1 (x e:Entry):FnOk Tryz.prog 57 [.d (.agg x.enc),.pd e.enc] (.one (dbool (decide (x.number=e.number)))):=by
 refine fnOk_of tbl_ok mixed_ok Tryz.func57 rfl (by kernel_rfl) rfl rfl fun w0 own0=>?_
 try refine wk ?_
 exact .one (.tmp rfl (.one (.d (.refl _))))
theorem ok_early1 (x:Entry) (r:Replica):FnOk Tryz.prog 86 [.d (.agg x.enc),.pd [refD r.enc]] (.one (dbool (decide (x.number=r.next)))):=by
 refine fnOk_of tbl_ok mixed_ok Tryz.func86 rfl (by kernel_rfl) rfl rfl fun w0 own0=>?_
 repeat(first|refine wa ?_|((with_reducible apply s5);(first|((with_reducible apply a_nilref);(iterate 2 exact rfl))|((with_reducible apply a_faref);(iterate 4 exact rfl))|exact by_oa|exact by_ca);exact by_g)|refine wb ?_)
 exact .one (.tmp rfl (.one (.d (.refl _))))
theorem ok_early (r:Replica) (hl:r.early.length≤1073741824):FnOk Tryz.prog 58 [.d (refD r.enc)] (.one (dint (firstN r.next 0 r.early))):=by
 refine fnOk_of tbl_ok mixed_ok Tryz.func58 rfl (by kernel_rfl) rfl rfl fun w0 own0=>?_
 have c1:=ok_indexE r.early r.next 86 [refD [refD r.enc]] [.pd [refD r.enc]] (.ref .nil) (fun x _=>ok_early1 x r) hl
 generalize firstN r.next 0 r.early=k at *
 have hst0:StopR 1:=⟨rfl⟩
 try refine wkS ?_
 clear hst0
 refine Stop.go (CW.stut (stut_freezebox (i:=1) (id:=0) (ds:=[refD r.enc]) rfl) ⟨rfl,rfl,trivial⟩ ?_)
 repeat(first|refine wa ?_|((with_reducible apply s5);(first|((with_reducible apply a_nilref);(iterate 2 exact rfl))|((with_reducible apply a_faref);(iterate 4 exact rfl))|((with_reducible apply a_ldref);(iterate 4 exact rfl))|((with_reducible apply(a_mkfn (ds:=[refD [refD r.enc]])));exact rfl;exact by_sub)|exact by_oa|exact by_ca);exact by_g)|refine wb ?_)
 exact .one (.tmp rfl (.one (.d (.refl _))))
theorem RInv.sm {r:Replica}(h:RInv r):Replica.Sm r:=by
 have hn:=h.n
 refine⟨h.e.z.sm (by omega),by have:=h.l;omega,fun e he=>?_⟩
 obtain⟨_,h2,_,h4⟩:=wrongEntry_out (h.w e he)
 exact⟨by omega,fun d hd=>wrong_sm (h4 d hd)⟩
def noR0:List D:=[.v nilS,.v nilS,.v nilS,.v nilS,dint 0,dint 0,.v nilS]
theorem ok_come (r:Replica) (e:Entry) (h:RInv r) (he:wrongEntry e=0):FnOk Tryz.prog 24 [.d (.agg r.enc),.d (.agg e.enc)] (.tup [.agg (comeE r e).1.enc,dint (comeE r e).2]):=by
 refine fnOk_of tbl_ok mixed_ok Tryz.func24 rfl (by kernel_rfl) rfl rfl fun w0 own0=>?_
 have hl:=h.l
 obtain⟨hn1,hn2,hn3,hn4⟩:=wrongEntry_out he
 have c0:=news_repOwn r h.sm
 have c1:=ok_containsE r.early e.number 57 [refD e.enc] [.pd e.enc] (.ref .nil) (fun x _=>ok_come1 x e) (by omega)
 have c2:=ok_logOwn [e] (by simp) (by simp;exact⟨by omega,fun d hd=>wrong_sm (hn4 d hd)⟩)
 unfold comeE
 have hst0:StopR 2:=⟨rfl⟩
 repeat(first|refine waS ?_|((with_reducible apply s5);(first|exact a_callnews c0 rfl rfl by_sub|exact by_oa|exact by_ca);exact by_g)|refine wb ?_)
 clear hst0
 refine Stop.go (CW.stut (stut_freezebox (i:=3) (id:=1) (ds:=e.enc) rfl) ⟨rfl,rfl,trivial⟩ ?_)
 by_cases h1:e.number < r.next
 ·
  rw[if_pos (.inl h1)]
  repeat(first|refine wa ?_|((with_reducible apply s5);(first|((with_reducible apply a_faref);(iterate 4 exact rfl))|exact by_oa|exact by_ca);exact by_g)|refine wb ?_)
  exact .two (.cell rfl rfl rfl rfl (.agg (.cons (.d (.refl _)) (.cons (.d (.refl _)) (.cons (.d (.refl _)) (.cons (.d (.refl _)) (.cons (.d (.refl _)) (.cons (.d (.refl _)) (.cons (.own rfl (by simp) (.refl _)) .nil))))))))) (.tmp rfl (.one (.d (.refl _))))
 cases h2:hasN e.number r.early with
 |true =>
  rw[if_pos (.inr rfl)]
  rw[h2]at c1
  repeat(first|refine wa ?_|((with_reducible apply s5);(first|((with_reducible apply a_faref);(iterate 4 exact rfl))|((with_reducible apply(a_mkfn (ds:=[refD e.enc])));exact rfl;exact by_sub)|exact by_oa|exact by_ca);exact by_g)|refine wb ?_)
  exact .two (.cell rfl rfl rfl rfl (.agg (.cons (.d (.refl _)) (.cons (.d (.refl _)) (.cons (.d (.refl _)) (.cons (.d (.refl _)) (.cons (.d (.refl _)) (.cons (.d (.refl _)) (.cons (.own rfl (by simp) (.refl _)) .nil))))))))) (.tmp rfl (.one (.d (.refl _))))
 |false =>
  rw[if_neg (by simp;omega)]
  rw[h2]at c1
  by_cases h3:r.next < e.number
  ·
   rw[if_pos h3]
   by_cases h4:4≤r.early.length
   ·
    rw[if_pos h4]
    repeat(first|refine wa ?_|((with_reducible apply s5);(first|((with_reducible apply a_faref);(iterate 4 exact rfl))|((with_reducible apply(a_mkfn (ds:=[refD e.enc])));exact rfl;exact by_sub)|exact by_oa|exact by_ca);exact by_g)|refine wb ?_)
    exact .two (.cell rfl rfl rfl rfl (.agg (.cons (.d (.refl _)) (.cons (.d (.refl _)) (.cons (.d (.refl _)) (.cons (.d (.refl _)) (.cons (.d (.refl _)) (.cons (.d (.refl _)) (.cons (.own rfl (by simp) (.refl _)) .nil))))))))) (.tmp rfl (.one (.d (.refl _))))
   ·
    rw[if_neg h4]
    repeat(first|((with_reducible apply s5);((with_reducible apply a_bs [e.enc]);(iterate 9 exact rfl);(repeat(first|exact PartsE.nil|(apply PartsE.cons;exact rfl;exact rfl))));exact by_g)|refine wa1 ?_|((with_reducible apply s5);(first|((with_reducible apply a_faref);(iterate 4 exact rfl))|((with_reducible apply a_ldref);(iterate 4 exact rfl))|((with_reducible apply(a_mkfn (ds:=[refD e.enc])));exact rfl;exact by_sub)|exact by_oa|exact by_ca);exact by_g)|refine wb ?_)
    exact .two (.cell rfl rfl rfl rfl (.agg (.cons (.d (.refl _)) (.cons (.d (.refl _)) (.cons (.d (.refl _)) (.cons (.d (.refl _)) (.cons (.d (.refl _)) (.cons (.d (.refl _)) (.cons (.own rfl (by simp) (dle_eq (by simp[encEntries]))) .nil))))))))) (.tmp rfl (.one (.d (.refl _))))
  ·
   rw[if_neg h3]
   have hnx:e.number=r.next:=by omega
   have hD:=snoc_inv h he h1 h2
   have hT:drainR (r.early++[e]).length ⟨r.engine,r.next,r.early++[e]⟩=drainR r.early.length ⟨(addE r.engine e.deeds).1,r.next+1,r.early⟩:=by
    rw[← drainR_snoc hnx h2];simp
   generalize drainR r.early.length ⟨(addE r.engine e.deeds).1,r.next+1,r.early⟩=tgt at *
   have hE:FnOk Tryz.prog 58 [.d (refD [encChains r.engine.chains,encDeeds r.engine.deeds,encInts r.engine.state,encEnds r.engine.ends,dint r.engine.base,dint r.next,.sl 2 (r.early.map Entry.enc++[e.enc])])] (.one (dint (firstN r.next 0 (r.early++[e])))):=by
    have:=ok_early ⟨r.engine,r.next,r.early++[e]⟩ (by simp;omega)
    unfold Replica.enc encEntries at this
    rw[List.map_append]at this
    exact this
   have h8:r.early.map Entry.enc++[e.enc]=(r.early++[e]).map Entry.enc:=by simp
   repeat(first|((with_reducible apply s5);((with_reducible apply a_bs [e.enc]);(iterate 9 exact rfl);(repeat(first|exact PartsE.nil|(apply PartsE.cons;exact rfl;exact rfl))));exact by_g)|refine wa1 ?_|((with_reducible apply s5);(first|((with_reducible apply a_faref);(iterate 4 exact rfl))|((with_reducible apply a_ldref);(iterate 4 exact rfl))|((with_reducible apply(a_mkfn (ds:=[refD e.enc])));exact rfl;exact by_sub)|(focus (with_reducible apply a_lendbox);exact hE;exact rfl;exact rfl;exact .d (.d (.d (.d (.d (.d (.own rfl (by simp) .nil))))));exact rfl;exact rfl)|exact by_oa|exact by_ca);exact by_g)|refine wb ?_)
   refine CW.loopT (fun t:Replica=>[sp 4 2,ob 2 noR0,sd 5 (dint 0),sp 6 4,(.o 4,.ob (.box [.d (encChains t.engine.chains),.d (encDeeds t.engine.deeds),.d (encInts t.engine.state),.d (encEnds t.engine.ends),.d (dint t.engine.base),.d (dint t.next),.own 3 t.early.length])),oa 3 50 2 (t.early.map Entry.enc),sd 7 (dint (firstN t.next 0 t.early)),nxt 5])
    (fun t=>DInv t∧drainR t.early.length t=tgt) (fun t=>t.early.length) ⟨r.engine,r.next,r.early++[e]⟩ ⟨hD,hT⟩ ?_ ?_
   ·
    exact by_less
   ·
    rintro t ⟨hI,hJ⟩
    dsimp only
    have htl:=hI.l
    have htn:=hI.n
    rcases firstN_cases (n:=t.next) (l:=t.early) (i:=0) with ⟨k1,k2⟩|⟨k,x,k1,k2,k3⟩
    ·
     rw[drainR_none (by omega)]at hJ
     subst hJ
     rw[k1]
     try refine wk ?_
     exact .two (.cell rfl rfl rfl rfl (.agg (.cons (.d (.refl _)) (.cons (.d (.refl _)) (.cons (.d (.refl _)) (.cons (.d (.refl _)) (.cons (.d (.refl _)) (.cons (.d (.refl _)) (.cons (.own rfl (by simp) (.refl _)) .nil))))))))) (.tmp rfl (.one (.d (.refl _))))
    ·
     rw[Nat.zero_add]at k1
     have hkl:=(List.getElem?_eq_some_iff.1 k2).1
     have hel:=List.length_eraseIdx_of_lt hkl
     have hxm:(t.early.map Entry.enc)[k]? = some x.enc:=by rw[List.getElem?_map,k2];rfl
     obtain⟨x1,x2,x3,x4⟩:=wrongEntry_out (hI.w x (List.mem_of_getElem? k2))
     obtain⟨q,hb⟩:=hI.b
     have ca:=ok_padde t.engine x.deeds _ hI.e hb.S (fun d hd=>wrong_sm (x4 d hd)) (by omega) (by omega)
     have hI2:=take_inv hI k2 k3
     have hJ2:drainR (t.early.eraseIdx k).length ⟨(addE t.engine x.deeds).1,t.next+1,t.early.eraseIdx k⟩=tgt:=by
      rw[hel,← hJ]
      obtain⟨m,hm⟩:∃ m,t.early.length=m+1:=⟨t.early.length - 1,by omega⟩
      rw[hm,drainR_some k1 k2,Nat.add_sub_cancel]
     have hU:=upd_deleteE (t.early.map Entry.enc) k (by simpa using hkl) (by simp;omega)
     have hrw:(t.early.map Entry.enc).take k++(t.early.map Entry.enc).drop (k+1)=(t.early.eraseIdx k).map Entry.enc:=by
      rw[List.eraseIdx_eq_take_drop_succ,List.map_append,List.map_take,List.map_drop]
     rw[hrw]at hU
     generalize (addE t.engine x.deeds).1=E2 at *
     generalize (addE t.engine x.deeds).2=v2 at *
     have hE1:=ok_early ⟨E2,t.next+1,t.early.eraseIdx k⟩ (by dsimp only;omega)
     dsimp only at hE1
     rw[k1]
     have hkk:k < (t.early.map Entry.enc).length:=by simpa using hkl
     have hst0:StopX 15:=⟨rfl⟩
     repeat(first|refine waS ?_|((with_reducible apply s5);(first|(focus ((with_reducible apply a_upd);exact hU;(iterate 3 exact rfl);(focus first|exact rfl|(simp;done)|(simp;omega));exact rfl;exact by_sub))|exact by_oa|exact by_ca);exact by_g)|refine wb ?_)
     clear hst0
     refine Stop.go (CW.ren 3 6 rfl rfl rfl ?_)
     repeat(first|refine wa ?_|((with_reducible apply s5);(first|(focus (with_reducible apply a_lendbox);exact hE1;exact rfl;exact rfl;exact .d (.d (.d (.d (.d (.d (.own rfl (by simp) .nil))))));exact rfl;exact rfl)|exact by_oa|exact by_ca);exact by_g)|refine wb ?_)
     refine q_loopT ⟨E2,t.next+1,t.early.eraseIdx k⟩ ⟨hI2,hJ2⟩ (by dsimp only;omega) ?_
     exact by_less
end Go.Proofs.YtngnajknbeijjaaGreatDoor
namespace Go.AX
open Go.RowKit Go.Lib
variable {cx:Cx}{g:Nat→Value}{σ σ':St}{a:Act}{w w':World}{nx:Nat}
variable {ty:TypeId}{pos:String}{af:Array Edge}{gd:Option (Nat×Bool)}{d:Nat}
def byteD (c:UInt8):List D:=[.v (.int .u8 c.toNat)]
end Go.AX
namespace Go.RF
open Go.AX
abbrev encBytes (b:Str):D := .sl 1 (b.map byteD)
end Go.RF
namespace Go.Proofs.YtngnajknbeijjaaGreatDoor
open Go.AX Go.RF
structure Packet where
 dst:Int
 data:Str
 deriving DecidableEq
structure Cluster where
 log:List Entry
 reps:List Replica
 net:List Packet
 deriving DecidableEq
structure Step where
 kind:Int
 n:Int
 m:Int
 deeds:List Deed
 deriving DecidableEq
def Packet.enc (p:Packet):List D:=[dint p.dst,encBytes p.data]
def encNet (l:List Packet):D := .sl 2 (l.map Packet.enc)
def encReps (l:List Replica):D := .sl 7 (l.map Replica.enc)
def Cluster.enc (c:Cluster):List D:=[encEntries c.log,encReps c.reps,encNet c.net]
def Step.enc (s:Step):List D:=[dint s.kind,dint s.n,dint s.m,encDeeds s.deeds]
def goR (r:Replica) (n:Int):Replica×Int:=if n < 0 then (r,6) else match (ready r.engine)[n.toNat]? with
 |some x=>(⟨(goE r.engine x).1,r.next,r.early⟩,0)
 |none=>(r,6)
set_option maxRecDepth 100000
set_option maxHeartbeats 8000000
theorem ok_pgoE (e:Engine) (at_:Int) (hs:e.Sm) (hS:SInv e) (hW:WInv e) (hc:chOk e.chains) (hn:e.ends.length=e.deeds.length) :
  FnOk Tryz.prog 61 [.d (.agg e.enc),.d (dint at_)] (.tup [.agg (goE e at_).1.enc,dint (goE e at_).2]):=by
 have hdl:=hs.d
 have co:=ok_planOwn e hs
 unfold goE
 by_cases h1:at_ < 0
 ·
  rw[if_pos h1]
  refine fnOk_of tbl_ok mixed_ok Tryz.func61 rfl (by kernel_rfl) rfl rfl fun w0 own0=>?_
  try refine wk ?_
  exact .two (.cell rfl rfl rfl rfl (.aggd rfl (.refl _))) (.tmp rfl (.one (.d (.refl _))))
 rw[if_neg h1]
 obtain⟨A,rfl⟩:=Int.eq_ofNat_of_zero_le (show 0≤at_ by omega)
 rw[Int.toNat_natCast]
 unfold goAt
 cases hd:e.deeds[A]? with
 |none =>
  have hge:e.deeds.length≤A:=List.getElem?_eq_none_iff.1 hd
  refine fnOk_of tbl_ok mixed_ok Tryz.func61 rfl (by kernel_rfl) rfl rfl fun w0 own0=>?_
  try refine wk ?_
  exact .two (.cell rfl rfl rfl rfl (.aggd rfl (.refl _))) (.tmp rfl (.one (.d (.refl _))))
 |some d =>
  have hA:=(List.getElem?_eq_some_iff.1 hd).1
  dsimp only
  obtain⟨s,hsA⟩:∃ s,e.state[A]? = some s:=⟨e.state[A]'(by rw[hW.l];exact hA),List.getElem?_eq_getElem (by rw[hW.l];exact hA)⟩
  by_cases hs1:s=1
  ·
   subst hs1
   rw[if_pos hsA]
   refine fnOk_of tbl_ok mixed_ok Tryz.func61 rfl (by kernel_rfl) rfl rfl fun w0 own0=>?_
   try refine wk ?_
   exact .two (.cell rfl rfl rfl rfl (.aggd rfl (.refl _))) (.tmp rfl (.one (.d (.refl _))))
  rw[if_neg (by rw[hsA];simpa using hs1)]
  have hw:=hW.d d (List.mem_of_getElem? hd)
  have cn:=ok_pneeds e A d hs hd (wrong_keys hw).1 hS.k hW.nb
  cases hne:needs e A d with
  |nil =>
   rw[if_pos rfl]
   rw[hne]at cn
   have:=pgo_loop e A d hs hd hW.l hn hS.k hw hc (e.base+e.deeds.length) (fun c hc=>⟨hS.v c hc,hS.b c hc⟩) hne s hsA hs1 cn
   rw[pgoNew_eq hW hd]at this
   exact this
  |cons x l =>
   rw[if_neg (by simp)]
   rw[hne]at cn
   have hnl:(needs e A d).length≤268435456:=by
    have:=needs_len e.chains e.base (e.base+A) (keysD d) (List.range A) 0
    unfold needs
    simp at this
    omega
   rw[hne]at hnl
   have hpos:((x::l).length:Int) > 0:=by simp
   refine fnOk_of tbl_ok mixed_ok Tryz.func61 rfl (by kernel_rfl) rfl rfl fun w0 own0=>?_
   try refine wk ?_
   exact .two (.cell rfl rfl rfl rfl (.aggd rfl (.refl _))) (.tmp rfl (.one (.d (.refl _))))
theorem ready_ok {e:Engine}(hW:WInv e) {x:Int}(hx:x∈ready e):(goE e x).2=0:=by
 obtain⟨A,rfl,h1,h2⟩:=ready_mem.1 hx
 obtain⟨d,_,_,h3⟩:=go_ready hW.l h1 h2
 rw[h3]
theorem RInv.go {r:Replica}(h:RInv r) (n:Int):RInv (goR r n).1:=by
 unfold goR
 split
 ·
  exact h
 split
 ·
  next x hx =>
  obtain⟨q,hb⟩:=h.b
  exact⟨h.e.goE x,⟨q,hb.goE x⟩,h.n,h.l,h.w,h.g,h.d⟩
 ·
  exact h
theorem RInv.clear {r:Replica}(h:RInv r):RInv (clearR r):=by
 obtain⟨q,hb⟩:=h.b
 exact⟨h.e.clearE,⟨_,hb.clearE⟩,h.n,h.l,h.w,h.g,h.d⟩
theorem ready_small {e:Engine}(hs:e.Sm):(ready e).length≤134217728:=by
 have:=readyGo_len (e:=e) e.state 0
 have h5:=hs.s
 unfold ready;omega
theorem ok_repGo (r:Replica) (n:Int) (h:RInv r):FnOk Tryz.prog 26 [.d (.agg r.enc),.d (dint n)] (.tup [.agg (goR r n).1.enc,dint (goR r n).2]):=by
 refine fnOk_of tbl_ok mixed_ok Tryz.func26 rfl (by kernel_rfl) rfl rfl fun w0 own0=>?_
 obtain⟨q,hb⟩:=h.b
 have hs:=h.sm.e
 have c0:=ok_repOwn r h.sm
 have c1:=ok_pready r.engine hs h.e.z.s (fun d hd=>(wrong_keys (hb.W.d d hd)).1) hb.S.k hb.W.nb
 have c2:=fun x=>ok_pgoE r.engine x hs hb.S hb.W h.e.c h.e.z.n
 have hrl:=ready_small hs
 unfold goR
 by_cases h1:n < 0
 ·
  rw[if_pos h1]
  try refine wk ?_
  exact .two (.cell rfl rfl rfl rfl (.aggd (ds:=r.enc) rfl (.refl _))) (.tmp rfl (.one (.d (.refl _))))
 rw[if_neg h1]
 obtain⟨N,rfl⟩:=Int.eq_ofNat_of_zero_le (show 0≤n by omega)
 rw[Int.toNat_natCast]
 generalize ready r.engine=l at *
 cases hx:l[N]? with
 |none =>
  have hle:l.length≤N:=List.getElem?_eq_none_iff.1 hx
  try refine wk ?_
  exact .two (.cell rfl rfl rfl rfl (.aggd (ds:=r.enc) rfl (.refl _))) (.tmp rfl (.one (.d (.refl _))))
 |some x =>
  have hlt:=(List.getElem?_eq_some_iff.1 hx).1
  dsimp only
  have c3:=c2 x
  generalize (goE r.engine x).1=E at *
  generalize (goE r.engine x).2=v at *
  have hxm:(l.map encInt1)[N]? = some (encInt1 x):=by rw[List.getElem?_map,hx];rfl
  repeat(first|refine wa ?_|((with_reducible apply s5);(first|exact a_call c3 rfl by_sub|exact by_oa|exact by_ca);exact by_g)|refine wb ?_)
  exact .two (.cell rfl rfl rfl rfl (.aggd (ds:=Replica.enc ⟨E,r.next,r.early⟩) rfl (.refl _))) (.tmp rfl (.one (.d (.refl _))))
theorem ok_repClear (r:Replica) (h:RInv r):FnOk Tryz.prog 32 [.d (.agg r.enc)] (.one (.agg (clearR r).enc)):=by
 refine fnOk_of tbl_ok mixed_ok Tryz.func32 rfl (by kernel_rfl) rfl rfl fun w0 own0=>?_
 obtain⟨q,hb⟩:=h.b
 have c0:=ok_repOwn r h.sm
 have c1:=ok_pclearE r.engine h.sm.e h.e.z.s h.e.z.n
 rw[pclearE_eq hb.S]at c1
 unfold clearR
 generalize clearE r.engine=E at *
 try refine wk ?_
 exact .one (.cell rfl rfl rfl rfl (.aggd (ds:=Replica.enc ⟨E,r.next,r.early⟩) rfl (.refl _)))
theorem ok_repSeen (r:Replica) (h:RInv r):FnOk Tryz.prog 34 [.d (.agg r.enc)] (.one (encRows (seenE r.engine (markN r.engine.state)).1)):=by
 refine fnOk_of tbl_ok mixed_ok Tryz.func34 rfl (by kernel_rfl) rfl rfl fun w0 own0=>?_
 obtain⟨q,hb⟩:=h.b
 have hs:=h.sm.e
 have c0:=ok_tmark r.engine hs.s
 have c1:=ok_pseen r.engine (markN r.engine.state) hs hb.S.k
 generalize seenE r.engine (markN r.engine.state)=p at *
 obtain⟨p1,p2⟩:=p
 try refine wk ?_
 exact .one (.tmp rfl (.one (.d (.refl _))))
inductive ArgsLe:List Arg→List Arg→Prop
 |nil:ArgsLe [] []
 |d {x y:D} {xs ys:List Arg} (h:DLe x y) (hr:ArgsLe xs ys):ArgsLe (.d x::xs) (.d y::ys)
theorem ArgsLe.ok {w:World}{own:Nat→Prop}{xs ys:List Arg}(h:ArgsLe xs ys):∀ {vs:List Value},ArgsOk w own vs xs→ArgsOk w own vs ys:=by
 induction h with
 |nil=>exact fun ha=>ha
 |d h hr ih =>
  intro vs ha
  cases vs with
  |nil=>exact ha.elim
  |cons v vs=>exact⟨Rd.le h ha.1,ih ha.2⟩
theorem fnOk_le {P:Program}{f:FuncId}{xs ys:List Arg}{r:Res}(h:FnOk P f ys r) (hle:ArgsLe xs ys):FnOk P f xs r:=⟨h.run,fun w own vs ho ha=>h.calls w own vs ho (hle.ok ha)⟩
theorem dles_ob {g:Nat→Value}{cx:Cx}{σ:St}{w:World}{a b:List D}(h:DLes a b):∀ {cs:Array Value},(∀ (j:Nat) (c:Value) (av:AV),(a.map AV.d)[j]? = some av→cs[j]? = some c→Rep1 cx g σ w c av) →
  ∀ (j:Nat) (c:Value) (av:AV),(b.map AV.d)[j]? = some av→cs[j]? = some c→Rep1 cx g σ w c av:=by
 intro cs h1 j c av hj hc
 obtain⟨hl,hd⟩:=h.at
 rw[List.getElem?_map,Option.map_eq_some_iff]at hj
 obtain⟨y,hy,rfl⟩:=hj
 obtain⟨x,hx⟩:=get_pair hl hy
 exact Rd.le (hd j x y hx hy) (h1 j c (.d x) (by rw[List.getElem?_map,hx];rfl) hc)
theorem stut_boxle {cx:Cx}{id:Nat}{a b:List D}(h:DLes a b):Stut cx ⟨[(.o id,.ob (.box (a.map AV.d)))],[(.o id,.ob (.box (b.map AV.d)))]⟩:=by
 rintro σ ac w ⟨g,nx,hs⟩ hr
 have ho:get σ (.o id) = .ob (.box (a.map AV.d)):=hr.1
 obtain⟨_,⟨bk,cs,t,h1,h2,h3,h4,h5,h6⟩,_⟩:=hs.objs id _ ho
 exact⟨g,nx,hs.reob ho (o' := .box (b.map AV.d)) rfl ⟨bk,cs,t,h1,h2,h3,by rw[h4];simp[h.at.1],h5,dles_ob h h6⟩ (fun av hav=>by obtain⟨x,_,rfl⟩:=List.mem_map.1 hav;trivial)⟩
theorem noR_le:DLes [.v nilS,.v nilS,.v nilS,.v nilS,dint 0,dint 0,.v nilS] noR.enc := .cons (dle_nil 2) (.cons (dle_nil 3) (.cons (dle_nil 1) (.cons (dle_nil 5) (.cons (.refl _) (.cons (.refl _) (.cons (dle_nil 2) .nil))))))
def pickR (r:Replica):Option Int→Replica
 |none=>r
 |some p=>if 0≤p∧p < (ready r.engine).length then (goR r p).1 else if p=7 then clearR r else r
def buildR:Replica→List Entry→List Int→Replica
 |r,[],_=>r
 |r,e::l,ps=>buildR (if wrongEntry e=0 then pickR (comeE r e).1 ps.head? else r) l ps.tail
theorem RInv.pick {r:Replica}(h:RInv r) (p:Option Int):RInv (pickR r p):=by
 unfold pickR
 split
 ·
  exact h
 split
 ·
  exact h.go _
 split
 ·
  exact h.clear
 ·
  exact h
theorem buildR_inv:∀ {l:List Entry}{ps:List Int}{r:Replica},RInv r→RInv (buildR r l ps)
 | [],_,r,h=>h
 |e::l,ps,r,h=>by
  simp only[buildR]
  split
  ·
   next he=>exact buildR_inv ((comeE_inv h he).pick _)
  ·
   exact buildR_inv h
theorem ok_build10 (l:List Entry) (ps:List Int) (hl:l.length≤10000000) (hd:∀ e∈l,e.deeds.length≤10000000∧∀ d∈e.deeds,d.Sm) (hp:ps.length≤10000000) :
  FnOk Tryz.prog 19 [.d (encEntries l),.d (encInts ps)] (.one (.agg (buildR noR l ps).enc)):=by
 refine fnOk_of tbl_ok mixed_ok Tryz.func19 rfl (by kernel_rfl) rfl rfl fun w0 own0=>?_
 have hst0:StopR 2:=⟨rfl⟩
 repeat(first|refine waS ?_|((with_reducible apply s5);(first|((with_reducible apply a_buildA);(iterate 4 exact rfl);(repeat(first|exact PartsV.nil|(apply PartsV.cons;exact rfl;exact rfl;(first|exact⟨rfl,trivial⟩|(apply nw_own;exact rfl;(focus first|exact rfl|(simp;done)|(simp;omega)))))));exact rfl)|exact by_oa|exact by_ca);exact by_g)|refine wb ?_)
 clear hst0
 refine Stop.go (CW.stut (stut_boxle (id:=1) noR_le) ⟨rfl,trivial⟩ ?_)
 try refine wk ?_
 refine CW.loopT (fun t:Nat×Replica=>[sd 0 (encEntries l),sd 1 (encInts ps),sp 4 0,ob 0 noR0,sp 5 1,ob 1 t.2.enc,sd 12 (encEntries l),sd 13 (dint l.length),sd 14 (dint t.1),nxt 2])
  (fun t=>t.1≤l.length∧RInv t.2∧buildR t.2 (l.drop t.1) (ps.drop t.1)=buildR noR l ps) (fun t=>l.length - t.1) (0,noR) ⟨by dsimp only;omega,noR_inv,rfl⟩ ?_ ?_
 ·
  exact by_less
 ·
  rintro ⟨i,r⟩ ⟨hi,hR,hI⟩
  dsimp only at hi hR hI ⊢
  rcases drop_case hi with ⟨h1,h2⟩|⟨e,h1,h2,h3⟩
  ·
   rw[h1,buildR]at hI
   try refine wk ?_
   rw[← hI]
   exact .one (.cell rfl rfl rfl rfl (.aggd (ds:=r.enc) rfl (.refl _)))
  ·
   obtain⟨hel,hed⟩:=hd e (List.mem_of_getElem? h2)
   rw[h1]at hI
   simp only[buildR]at hI
   rw[List.tail_drop,List.head?_drop]at hI
   have c1:=ok_rwrongEntry e hed (by omega)
   by_cases h4:wrongEntry e=0
   ·
    rw[if_pos h4]at hI
    rw[h4]at c1
    have c2:=ok_rcome r e hR h4
    have hR2:=comeE_inv hR h4
    generalize (comeE r e).1=x at *
    generalize (comeE r e).2=v at *
    have hs:=hR2.sm.e
    have c3:=ok_ready x.engine hs hR2.e.z.s
    have hrl:=ready_small hs
    rcases Nat.lt_or_ge i ps.length with h5|h5
    ·
     obtain⟨p,h6⟩:∃ p,ps[i]? = some p:=⟨ps[i],List.getElem?_eq_getElem h5⟩
     rw[h6]at hI
     unfold pickR at hI
     dsimp only at hI
     have h6m:(ps.map encInt1)[i]? = some (encInt1 p):=by rw[List.getElem?_map,h6];rfl
     by_cases h7:0≤p∧p < (ready x.engine).length
     ·
      rw[if_pos h7]at hI
      obtain⟨h7a,h7b⟩:=h7
      obtain⟨P,rfl⟩:=Int.eq_ofNat_of_zero_le h7a
      obtain⟨y,hy⟩:∃ y,(ready x.engine)[P]? = some y:=⟨(ready x.engine)[P]'(by omega),List.getElem?_eq_getElem (by omega)⟩
      have hgo:goR x P=(⟨(goE x.engine y).1,x.next,x.early⟩,0):=by
       unfold goR
       rw[if_neg (by omega),Int.toNat_natCast,hy]
      rw[hgo]at hI
      have hR3:=hR2.go (P:Int)
      rw[hgo]at hR3
      have c4:=ok_go x.engine y _ hR2.e.z (by have:=hR2.n;omega) hR2.e.o hR2.e.c
      generalize ready x.engine=L at *
      generalize (goE x.engine y).1=E at *
      generalize (goE x.engine y).2=u at *
      have hym:(L.map encInt1)[P]? = some (encInt1 y):=by rw[List.getElem?_map,hy];rfl
      try refine wk ?_
      refine q_loopT (i+1,⟨E,x.next,x.early⟩) ⟨by dsimp only;omega,hR3,hI⟩ (by dsimp only;omega) ?_
      exact by_less
     ·
      rw[if_neg h7]at hI
      generalize ready x.engine=L at *
      by_cases h8:p=7
      ·
       rw[if_pos h8]at hI
       have c5:=ok_clearE x.engine hs hR2.e.z.s hR2.e.z.n
       have hR3:=hR2.clear
       unfold clearR at hI hR3
       generalize clearE x.engine=E at *
       try refine wk ?_
       refine q_loopT (i+1,⟨E,x.next,x.early⟩) ⟨by dsimp only;omega,hR3,hI⟩ (by dsimp only;omega) ?_
       exact by_less
      ·
       rw[if_neg h8]at hI
       by_cases h9:0≤p
       ·
        try refine wk ?_
        refine q_loopT (i+1,x) ⟨by dsimp only;omega,hR2,hI⟩ (by dsimp only;omega) ?_
        exact by_less
       ·
        try refine wk ?_
        refine q_loopT (i+1,x) ⟨by dsimp only;omega,hR2,hI⟩ (by dsimp only;omega) ?_
        exact by_less
    ·
     rw[List.getElem?_eq_none h5]at hI
     try refine wk ?_
     refine q_loopT (i+1,x) ⟨by dsimp only;omega,hR2,hI⟩ (by dsimp only;omega) ?_
     exact by_less
   ·
    rw[if_neg h4]at hI
    generalize wrongEntry e=we at *
    try refine wk ?_
    refine q_loopT (i+1,r) ⟨by dsimp only;omega,hR,hI⟩ (by dsimp only;omega) ?_
    exact by_less
theorem come_had {r:Replica}{e:Entry}(h:e.number < r.next∨hasN e.number r.early=true):comeE r e=(r,11):=by
 unfold comeE;rw[if_pos h]
structure CInv (L:List Entry) (Q:Nat→Engine→Prop) (r:Replica):Prop where
 n:∃ k:Nat,r.next=k∧k≤L.length∧Q k r.engine
 e:∀ x∈r.early,r.next≤x.number∧∃ i:Nat,x.number=i∧L[i]? = some x
 d:(r.early.map Entry.number).Nodup
def Adds (L:List Entry) (Q:Nat→Engine→Prop):Prop:=∀ (k:Nat) (e:Engine) (x:Entry),Q k e→L[k]? = some x→Q (k+1) (addE e x.deeds).1
theorem CInv.take {L:List Entry}{Q:Nat→Engine→Prop}(hQ:Adds L Q) {r:Replica}(h:CInv L Q r) {k:Nat}{x:Entry}(hx:r.early[k]? = some x) (hn:x.number=r.next) :
  CInv L Q ⟨(addE r.engine x.deeds).1,r.next+1,r.early.eraseIdx k⟩:=by
 obtain⟨⟨m,hm,hml,hq⟩,he,hd⟩:=h
 obtain⟨h1,i,h2,h3⟩:=he x (List.mem_of_getElem? hx)
 obtain rfl:i=m:=by omega
 have hil:=(List.getElem?_eq_some_iff.1 h3).1
 refine⟨⟨i+1,by dsimp only;omega,hil,hQ i _ x hq h3⟩,fun y hy=>?_,hd.sublist ((List.eraseIdx_sublist _ _).map _)⟩
 obtain⟨g1,g2⟩:=he y (erase_sub hy)
 refine⟨?_,g2⟩
 dsimp only
 refine Classical.byContradiction fun hlt=>?_
 have h4:y.number=r.next:=by omega
 obtain⟨j,hj⟩:=List.mem_iff_getElem?.1 hy
 rw[List.getElem?_eraseIdx]at hj
 have key:∀ (a:Nat),a≠k→r.early[a]? = some y→False:=fun a hak ha=>by
  have ha':(r.early.map Entry.number)[a]? = some r.next:=by rw[List.getElem?_map,ha];simp[h4]
  have hk':(r.early.map Entry.number)[k]? = some r.next:=by rw[List.getElem?_map,hx];simp[hn]
  exact hak ((List.getElem?_inj (List.getElem?_eq_some_iff.1 ha').1 hd).1 (by rw[ha',hk']))
 split at hj
 ·
  exact key j (by omega) hj
 ·
  exact key (j+1) (by omega) hj
theorem CInv.drain {L:List Entry}{Q:Nat→Engine→Prop}(hQ:Adds L Q):∀ {f:Nat}{r:Replica},CInv L Q r→r.early.length≤f →
  CInv L Q (drainR f r)∧(∀ x∈(drainR f r).early,(drainR f r).next < x.number)∧r.next≤(drainR f r).next∧∀ x∈r.early,x.number < (drainR f r).next∨x∈(drainR f r).early
 |0,r,h,hf=>by
  have:r.early=[]:=List.eq_nil_of_length_eq_zero (by omega)
  have hd:drainR 0 r=r:=rfl
  rw[hd]
  exact⟨h,by rw[this];simp,Int.le_refl _,fun x hx => .inr hx⟩
 |f+1,r,h,hf=>by
  rcases firstN_cases (n:=r.next) (l:=r.early) (i:=0) with ⟨h1,h2⟩|⟨k,x,h1,h2,h3⟩
  ·
   rw[drainR_none (by omega)]
   exact⟨h,fun x hx=>by have:=(h.e x hx).1;have:=h2 x hx;omega,Int.le_refl _,fun x hx => .inr hx⟩
  ·
   rw[Nat.zero_add]at h1
   rw[drainR_some h1 h2]
   have hkl:=(List.getElem?_eq_some_iff.1 h2).1
   have hlen:=List.length_eraseIdx_of_lt hkl
   obtain⟨g1,g2,g3,g4⟩:=CInv.drain hQ (f:=f) (h.take hQ h2 h3) (by dsimp only;omega)
   dsimp only at g3 g4
   refine⟨g1,g2,by omega,fun y hy=>?_⟩
   obtain⟨j,hj⟩:=List.mem_iff_getElem?.1 hy
   by_cases hjk:j=k
   ·
    subst hjk
    rw[h2]at hj
    cases hj
    exact .inl (by omega)
   ·
    refine g4 y (List.mem_iff_getElem?.2 ?_)
    rcases Nat.lt_or_ge j k with hlt|hge
    ·
     exact⟨j,by rw[List.getElem?_eraseIdx,if_pos hlt];exact hj⟩
    ·
     exact⟨j - 1,by rw[List.getElem?_eraseIdx,if_neg (by omega),show j - 1+1=j by omega];exact hj⟩
def Has (r:Replica) (x:Entry):Prop:=x.number < r.next∨hasN x.number r.early=true
theorem CInv.come {L:List Entry}{Q:Nat→Engine→Prop}(hQ:Adds L Q) {r:Replica}(h:CInv L Q r) {i:Nat}{x:Entry}(hx:L[i]? = some x) (hn:x.number=i) :
  CInv L Q (comeE r x).1∧r.next≤(comeE r x).1.next∧(∀ y,Has r y→Has (comeE r x).1 y)∧((∀ y∈r.early,r.next < y.number)→∀ y∈(comeE r x).1.early,(comeE r x).1.next < y.number)∧(Has (comeE r x).1 x∨(4≤r.early.length∧(comeE r x).1=r)):=by
 by_cases h1:x.number < r.next∨hasN x.number r.early=true
 ·
  rw[come_had h1]
  exact⟨h,Int.le_refl _,fun y hy=>hy,fun h=>h,.inl h1⟩
 have h2:hasN x.number r.early=false:=by cases hh:hasN x.number r.early with
  |false=>rfl
  |true=>exact absurd (.inr hh) h1
 have h3:¬ x.number < r.next:=fun hh=>h1 (.inl hh)
 by_cases h4:r.next < x.number
 ·
  by_cases h5:4≤r.early.length
  ·
   have:comeE r x=(r,5):=by unfold comeE;rw[if_neg h1,if_pos h4,if_pos h5]
   rw[this]
   exact⟨h,Int.le_refl _,fun y hy=>hy,fun h=>h,.inr ⟨h5,rfl⟩⟩
  ·
   have:comeE r x=(⟨r.engine,r.next,r.early++[x]⟩,12):=by unfold comeE;rw[if_neg h1,if_pos h4,if_neg h5]
   rw[this]
   refine⟨⟨h.n,fun y hy=>?_,snoc_nodup h.d h2⟩,Int.le_refl _,fun y hy=>?_,fun hg y hy=>?_,.inl (.inr (hasN_true.2 ⟨x,by simp,rfl⟩))⟩
   ·
    rcases List.mem_append.1 hy with hy|hy
    ·
     exact h.e y hy
    ·
     rw[List.mem_singleton.1 hy];exact⟨by dsimp only;omega,i,hn,hx⟩
   ·
    rcases hy with hy|hy
    ·
     exact .inl hy
    ·
     obtain⟨z,hz,he⟩:=hasN_true.1 hy
     exact .inr (hasN_true.2 ⟨z,List.mem_append.2 (.inl hz),he⟩)
   ·
    dsimp only at hy ⊢
    rcases List.mem_append.1 hy with hy|hy
    ·
     exact hg y hy
    ·
     rw[List.mem_singleton.1 hy];exact h4
 ·
  have hnx:x.number=r.next:=by omega
  have:comeE r x=(drainR r.early.length ⟨(addE r.engine x.deeds).1,r.next+1,r.early⟩,0):=by unfold comeE;rw[if_neg h1,if_neg h4]
  rw[this,← drainR_snoc hnx h2]
  have hC:CInv L Q ⟨r.engine,r.next,r.early++[x]⟩:=by
   refine⟨h.n,fun y hy=>?_,snoc_nodup h.d h2⟩
   rcases List.mem_append.1 hy with hy|hy
   ·
    exact h.e y hy
   ·
    rw[List.mem_singleton.1 hy];exact⟨by dsimp only;omega,i,hn,hx⟩
  obtain⟨g1,g2,g3,g4⟩:=hC.drain hQ (f:=r.early.length+1) (by simp)
  dsimp only at g3 g4 ⊢
  have hh:∀ y,y∈r.early++[x]→Has (drainR (r.early.length+1) ⟨r.engine,r.next,r.early++[x]⟩) y:=fun y hy=>by
   rcases g4 y hy with h|h
   ·
    exact .inl h
   ·
    exact .inr (hasN_true.2 ⟨y,h,rfl⟩)
  refine⟨g1,g3,fun y hy=>?_,fun _=>g2,.inl (hh x (by simp))⟩
  rcases hy with hy|hy
  ·
   exact .inl (by omega)
  ·
   obtain⟨z,hz,he⟩:=hasN_true.1 hy
   have:=hh z (List.mem_append.2 (.inl hz))
   unfold Has at this ⊢
   rw[← he];exact this
theorem ok_ReplicaTells (l:List Entry) (ps:List Int) (e:Entry) (n:Int) (hl:l.length≤10000000) (hd:∀ e∈l,e.deeds.length≤10000000∧∀ d∈e.deeds,d.Sm) (hp:ps.length≤10000000) (he:e.deeds.length≤10000000∧∀ d∈e.deeds,d.Sm) :
  FnOk Tryz.prog 4 [.d (encEntries l),.d (encInts ps),.d (.agg e.enc),.d (dint n)] (.one (dbool true)):=by
 refine fnOk_of tbl_ok mixed_ok Tryz.func4 rfl (by kernel_rfl) rfl rfl fun w0 own0=>?_
 have c1:=ok_build10 l ps hl hd hp
 have hR:=buildR_inv (l:=l) (ps:=ps) noR_inv
 generalize buildR noR l ps=r at *
 have c2:=ok_repNew
 have c3:=fnOk_le (ok_sameR noR noR noR_inv.sm) (.d (.refl _) (.d noR_le.agg .nil))
 rw[sameR_refl]at c3
 have c4:=ok_repOwn r hR.sm
 have c5:=ok_sameR r r hR.sm
 rw[sameR_refl]at c5
 have c6:=ok_rwrongEntry e he.2 (by omega)
 have hst0:StopA 4:=⟨rfl⟩
 repeat(first|refine waS ?_|((with_reducible apply s5);(first|((with_reducible apply a_buildA);(iterate 4 exact rfl);(repeat(first|exact PartsV.nil|(apply PartsV.cons;exact rfl;exact rfl;(first|exact⟨rfl,trivial⟩|(apply nw_own;exact rfl;(focus first|exact rfl|(simp;done)|(simp;omega)))))));exact rfl)|exact a_call c3 rfl by_sub|exact a_call c5 rfl by_sub|exact by_oa|exact by_ca);exact by_g)|refine wb ?_)
 clear hst0
 refine Stop.cutk [] [.s 3,.s 8,.s 9,.o 1,.nx] ?_ ?_
 ·
  by_cases hw:wrongEntry e=0
  ·
   rw[hw]at c6
   have c7:=ok_come r e hR hw
   have c8:=ok_rcome r e hR hw
   have c9:=ok_sameR (comeE r e).1 (comeE r e).1 (comeE_inv hR hw).sm
   rw[sameR_refl]at c9
   generalize (comeE r e).1=x at *
   generalize (comeE r e).2=v at *
   repeat(first|refine wa ?_|((with_reducible apply s5);(first|exact a_call c9 rfl by_sub|exact by_oa|exact by_ca);exact by_g)|refine wb ?_)
   refine q_cut ?_
   exact by_less
  ·
   generalize wrongEntry e=we at *
   try refine wk ?_
   refine q_cut ?_
   exact by_less
 obtain⟨q,hb⟩:=hR.b
 have hs:=hR.sm.e
 have c10:=ok_repGo r n hR
 have c11:=ok_ready r.engine hs hR.e.z.s
 have hrl:=ready_small hs
 have c13:=ok_sameR (goR r n).1 (goR r n).1 (hR.go n).sm
 rw[sameR_refl]at c13
 have c14:=ok_clearE r.engine hs hR.e.z.s hR.e.z.n
 have c15:=ok_mark r.engine hs.s
 have c16:=ok_seen r.engine (markN r.engine.state) hs
 have c17:=ok_repClear r hR
 have c18:=ok_sameR (clearR r) (clearR r) hR.clear.sm
 rw[sameR_refl]at c18
 have c19:=ok_repSeen r hR
 have hsl:=seenE_len r.engine (markN r.engine.state)
 have hcl:=hs.c
 have c20:=ok_SameRows (seenE r.engine (markN r.engine.state)).1 (seenE r.engine (markN r.engine.state)).1 (by omega)
 rw[allB_refl (by simp)]at c20
 unfold clearR at c17 c18
 generalize clearE r.engine=CE at *
 generalize seenE r.engine (markN r.engine.state)=S at *
 obtain⟨S1,S2⟩:=S
 dsimp only at c16 c19 c20
 by_cases h1:n < 0
 ·
  have hg:goR r n=(r,6):=by unfold goR;rw[if_pos h1]
  rw[hg]at c10 c13
  repeat(first|refine wa ?_|((with_reducible apply s5);(first|exact a_call c13 rfl by_sub|exact a_call c18 rfl by_sub|exact by_oa|exact by_ca);exact by_g)|refine wb ?_)
  exact .one (.tmp rfl (.one (.d (.refl _))))
 ·
  obtain⟨N,rfl⟩:=Int.eq_ofNat_of_zero_le (show 0≤n by omega)
  cases hx:(ready r.engine)[N]? with
  |none =>
   have hle:(ready r.engine).length≤N:=List.getElem?_eq_none_iff.1 hx
   have hg:goR r N=(r,6):=by unfold goR;rw[if_neg h1,Int.toNat_natCast,hx]
   rw[hg]at c10 c13
   generalize ready r.engine=L at *
   repeat(first|refine wa ?_|((with_reducible apply s5);(first|exact a_call c13 rfl by_sub|exact a_call c18 rfl by_sub|exact by_oa|exact by_ca);exact by_g)|refine wb ?_)
   exact .one (.tmp rfl (.one (.d (.refl _))))
  |some x =>
   have hlt:=(List.getElem?_eq_some_iff.1 hx).1
   have hg:goR r N=(⟨(goE r.engine x).1,r.next,r.early⟩,0):=by unfold goR;rw[if_neg h1,Int.toNat_natCast,hx]
   rw[hg]at c10 c13
   have c12:=ok_go r.engine x _ hR.e.z (by have:=hR.n;omega) hR.e.o hR.e.c
   rw[ready_ok hb.W (List.mem_of_getElem? hx)]at c12
   generalize (goE r.engine x).1=E at *
   generalize ready r.engine=L at *
   have hxm:(L.map encInt1)[N]? = some (encInt1 x):=by rw[List.getElem?_map,hx];rfl
   repeat(first|refine wa ?_|((with_reducible apply s5);(first|exact a_call c13 rfl by_sub|exact a_call c18 rfl by_sub|exact by_oa|exact by_ca);exact by_g)|refine wb ?_)
   exact .one (.tmp rfl (.one (.d (.refl _))))
end Go.Proofs.YtngnajknbeijjaaGreatDoor
