/-
  Part 2 of what the claim leans on: AxOwn AxMore AxBy Md Sh0 AxOpen AxLaw Pl Rf Rf2 Srt AxDec Tb Eq Eq2 F1 F6 F2 F7 F5 F8 F10 F12 F14 F13 F17 F18 F9 F15 F3 F16 F19.
-/
import Derived.Test.YtfpkamiobdkcpaaGreatDoorK1
import Derived.Lib.SliceRun
import Derived.ProofKit
import Derived.Test.YtfpkamiobdkcpaaGreatDoorRows
import Derived.Deep.Slices
import Derived.Carry
import Derived.JoinedCond
import Derived.OpenShut
import Derived.Test.YtfpkamiobdkcpaaGreatDoorProg
import Derived.KernelRfl
import Derived.Laws.StructEq
set_option linter.all false

namespace Go.AX
open Go.RowKit
variable {cx:Cx}{g:Nat→Value}{σ:St}{a:Act}{w:World}{nx:Nat}
variable {ty:TypeId}{pos:String}{af:Array Edge}{gd:Option (Nat×Bool)}{d:Nat}
theorem splice_get {α:Type}{l new:List α}{off j:Nat}(h:off+new.length≤l.length) :
  (splice l off new)[j]? = if off≤j∧j < off+new.length then new[j - off]? else l[j]? := by
 unfold splice
 have ht:(l.take off).length=off:=by simp;omega
 rw[List.append_assoc]
 rcases Nat.lt_or_ge j off with h1|h1
 ·
  rw[List.getElem?_append_left (by omega),List.getElem?_take,if_pos h1,if_neg (by omega)]
 ·
  rw[List.getElem?_append_right (by omega),ht]
  rcases Nat.lt_or_ge (j - off) new.length with h2|h2
  ·
   rw[List.getElem?_append_left h2,if_pos (by omega)]
  ·
   rw[List.getElem?_append_right h2,List.getElem?_drop,if_neg (by omega),show off+new.length+(j - off - new.length)=j by omega]
theorem splice_len {α:Type}{l new:List α}{off:Nat}(h:off+new.length≤l.length):(splice l off new).length=l.length:=by
 simp[splice];omega
theorem ok_len_own {t tt:TypeId}{x:Operand}{id n e k k':Nat}{rows:List (List D)}{ti:TI}(hd:d < cx.n) (hx:EvS x (.own id n)) (ht:tget cx.T t=some ti) (hk:slK ti=some k') (hn:n=rows.length) :
  OpOk cx ⟨some d,.call { callee := .builtin .len,args := #[x],argTypes := #[t] },tt,pos,af,gd⟩ ⟨rdOf x (.own id n)++[(.o id,.ob (.arr e k rows))],[(.s d,.av (.d (.v (.int .i64 n))))]⟩:=by
 refine ok_val rfl hd fun σ a w g nx hs hr=>?_
 obtain⟨_,ie,hu,_⟩:=slice_of (cx.hT t ti ht) hk
 have ho:get σ (.o id) = .ob (.arr e k rows):=hr.right.1
 have hv:a.eval x=g id:=((hs.ev hx hr.left).1.2 e k rows ho).2 hn
 obtain⟨_,⟨xs,h1,_⟩,_⟩:=hs.objs id _ ho
 refine⟨.int .i64 n,w,?_,Below.refl _ _,Rd.v _,trivial⟩
 rcases h1.2 with ⟨h2,h3⟩|⟨b,cap,cur,h2,_⟩
 ·
  simp[execOp,resolve,invoke,builtin,hv,h2,Builtin.len_,run_underlying hu,goInt,hn,h3]
 ·
  simp[execOp,resolve,invoke,builtin,hv,h2,Builtin.len_,run_underlying hu,goInt,hn]
theorem ok_ia_own {t:TypeId}{x y:Operand}{id n e k i:Nat}{rows:List (List D)}{kd:IntKind}{ti:TI}(hd:d < cx.n) (hx:EvS x (.own id n)) (hy:EvS y (.d (.v (.int kd (i:Int))))) (ht:tget cx.T t=some ti) (hk:slK ti=some k)
  (hn:n=rows.length) (hi:i < n) :
  OpOk cx ⟨some d,.indexAddr t x y,ty,pos,af,gd⟩ ⟨(rdOf x (.own id n)++rdOf y (.d (.v (.int kd (i:Int)))))++[(.o id,.ob (.arr e k rows))],[(.s d,.av (.pe id n i 0))]⟩:=by
 refine ok_val rfl hd fun σ a w g nx hs hr=>?_
 obtain⟨_,ie,hu,hie,hks,_⟩:=slice_of (cx.hT t ti ht) hk
 have ho:get σ (.o id) = .ob (.arr e k rows):=hr.right.1
 obtain⟨h0,hbd⟩:=hs.ev hx hr.left.left
 have hv:a.eval x=g id:=(h0.2 e k rows ho).2 hn
 have hy':=rep_v (hs.ev hy hr.left.right).1
 obtain⟨_,⟨xs,h1,_⟩,_⟩:=hs.objs id _ ho
 rcases h1.2 with ⟨h2,h3⟩|⟨b,cap,cur,h2,h3,h4,h5,_⟩
 ·
  omega
 ·
  refine⟨.pointer (some ⟨b,i*k,none⟩),w,?_,Below.refl _ _,?_,hbd⟩
  ·
   have:(⟨b,0,none⟩:Addr).add (i*k)=⟨b,i*k,none⟩:=by rw[add_lit,Nat.zero_add]
   simp[execOp,hy',hv,h2,Instr.indexAt,asIntOf,run_underlying hu,sizeOf,typeInfo,hie,hks,this]
   omega
  ·
   refine⟨.of ho,fun e' k' rows' ho'=>?_⟩
   rw[ho]at ho'
   cases ho'
   exact⟨by omega,fun _=>⟨b,by rw[h2];rfl,by rw[Nat.add_zero]⟩⟩
theorem ok_fa_pe {t:TypeId}{x:Operand}{id n i f:Nat}{ti:TI}{fl off:Nat}(hd:d < cx.n) (hx:EvS x (.pe id n i f)) (ht:tget cx.T t=some ti) (hf:fldOff ti fl=some off) {e k:Nat}{rows:List (List D)}(hn:n=rows.length) :
  OpOk cx ⟨some d,.fieldAddr t x fl,ty,pos,af,gd⟩ ⟨rdOf x (.pe id n i f)++[(.o id,.ob (.arr e k rows))],[(.s d,.av (.pe id n i (f+off)))]⟩:=by
 refine ok_val rfl hd fun σ a w g nx hs hr=>?_
 have ho:get σ (.o id) = .ob (.arr e k rows):=hr.right.1
 obtain⟨h0,hbd⟩:=hs.ev hx hr.left
 obtain⟨b,hb,hv⟩:=(h0.2 e k rows ho).2 hn
 refine⟨.pointer (some ⟨b,i*k+(f+off),none⟩),w,?_,Below.refl _ _,?_,hbd⟩
 ·
  have h2:=fieldAt_of (cx.hT t ti ht) hf ⟨b,i*k+f,none⟩ w
  rw[add_lit,Nat.add_assoc]at h2
  simp[execOp,hv,h2]
 ·
  refine⟨.of ho,fun e' k' rows' ho'=>?_⟩
  rw[ho]at ho'
  cases ho'
  exact⟨by omega,fun _=>⟨b,hb,rfl⟩⟩
theorem ok_load_pe {t:TypeId}{x:Operand}{id n i f e k:Nat}{rows:List (List D)}{r:List D}{ti:TI}{y:D}(hd:d < cx.n) (hx:EvS x (.pe id n i f)) (ht:tget cx.T t=some ti) (hn:n=rows.length) (hr:rows[i]? = some r)
  (hl:ldD ti (r.drop f)=some y) :
  OpOk cx ⟨some d,.load t x,ty,pos,af,gd⟩ ⟨rdOf x (.pe id n i f)++[(.o id,.ob (.arr e k rows))],[(.s d,.av (.d y))]⟩:=by
 refine ok_val rfl hd fun σ a w g nx hs hrd=>?_
 have ho:get σ (.o id) = .ob (.arr e k rows):=hrd.right.1
 obtain⟨b,hb,hv⟩:=((hs.ev hx hrd.left).1.2 e k rows ho).2 hn
 obtain⟨_,⟨xs,h1,h2,h3,h4⟩,_⟩:=hs.objs id _ ho
 have hil:=(List.getElem?_eq_some_iff.1 hr).1
 have hrk:=h3 r (List.mem_of_getElem? hr)
 have hc:RdCells w (cx.own g σ) ⟨b,i*k+f,none⟩ (r.drop f):=by
  intro j z hz
  rw[List.getElem?_drop]at hz
  have hj:f+j < k:=by rw[← hrk];exact(List.getElem?_eq_some_iff.1 hz).1
  have hlen:i*k+(f+j) < xs.length:=by
   rw[h1.1]
   have h5:(i+1)*k≤rows.length*k:=Nat.mul_le_mul_right _ hil
   rw[Nat.add_mul,Nat.one_mul]at h5
   omega
  refine⟨xs[i*k+(f+j)],?_,h2 _ (List.getElem_mem _),h4 i (f+j) r z _ hr hz (List.getElem?_eq_getElem hlen)⟩
  rw[add_lit,show i*k+f+j=i*k+(f+j) by omega]
  have:=h1.cells (g:=b) (by rw[← blk_own h1];exact hb) (i*k+(f+j)) _ (List.getElem?_eq_getElem hlen)
  rw[add_lit,Nat.zero_add]at this
  exact this
 obtain⟨v,h5,h6⟩:=run_load_cells (cx.hT t ti ht) hc hl
 have h5':(loadVar t ⟨b,i*k+f,none⟩).run cx.P w = .ok v w:=by simpa[Instr.loadAt,Instr.sureAddr] using h5
 exact⟨v,w,by simp[execOp,hv,Instr.loadAt,Instr.sureAddr,h5'],Below.refl _ _,h6,trivial⟩
theorem ok_store_pe {t:TypeId}{x y:Operand}{id n i f e k:Nat}{rows:List (List D)}{r new:List D}{av:AV}{ti:TI}(hx:EvS x (.pe id n i f)) (hy:EvS y av) (ht:tget cx.T t=some ti) (hc:dcells av=some new)
  (hn:n=rows.length) (hr:rows[i]? = some r) (hnn:Nat.beq new.length ti.n=true) (hle:f+new.length≤r.length) :
  OpOk cx ⟨none,.store t x y,ty,pos,af,gd⟩ ⟨rdOf x (.pe id n i f)++(rdOf y av++[(.o id,.ob (.arr e k rows))]),[(.o id,.ob (.arr e k (rows.set i (splice r f new))))]⟩:=by
 rintro σ a w K Q ⟨g,nx,hs⟩ hrd hK
 have ho:get σ (.o id) = .ob (.arr e k rows):=hrd.right.right.1
 obtain⟨b,hb,hv⟩:=((hs.ev hx hrd.left).1.2 e k rows ho).2 hn
 obtain⟨hav,hbd⟩:=hs.ev hy hrd.right.left
 obtain⟨hidn,⟨xs,h1,h2,h3,h4⟩,_⟩:=hs.objs id _ ho
 obtain⟨c1,c2,c3⟩:=dcells_ok hs hav hc
 have hF:=cx.hT t ti ht
 have hnn':new.length=ti.n:=by simpa using hnn
 have hil:=(List.getElem?_eq_some_iff.1 hr).1
 have hrk:=h3 r (List.mem_of_getElem? hr)
 have h5:(i+1)*k≤rows.length*k:=Nat.mul_le_mul_right _ hil
 rw[Nat.add_mul,Nat.one_mul]at h5
 rcases h1.2 with ⟨_,h6⟩|⟨b',cap,cur,hv',hge,hh,hle',hcm,hsz,htk⟩
 ·
  omega
 have hbb:b'=b:=by rw[hv']at hb;simpa[blk] using hb
 subst hbb
 generalize hX:a.eval y=X at hav c1 c2 c3
 have hlen:X.cells.toList.length=new.length:=c1
 have hcap:rows.length*k≤cap*k:=Nat.mul_le_mul_right _ hle'
 have hst:=run_storeCells_at (P:=cx.P) b' (i*k+f) e X.cells.toList 0 cur w hh (by rw[hlen];omega) c2
 simp only[Nat.add_zero]at hst
 have hX':X.cells.size=ti.n:=by rw[← hnn',← hlen];simp
 have hrun:(Instr.storeAt t (.pointer (some ⟨b',i*k+f,none⟩)) X).run cx.P w = .ok () (w.setRow b' (splice cur.toList (i*k+f) X.cells.toList).toArray):=by
  simp[Instr.storeAt,Instr.sureAddr,storeVar,sizeOf_of hF w,hX',hst,splice]
 generalize hcs':(splice cur.toList (i*k+f) X.cells.toList).toArray=cs' at hrun
 have hheap:(w.setRow b' cs').heap[b']? = some (.cells cs' e (0,0)):=setRow_heap w b' cur cs' e (0,0) hh
 have hle2:i*k+f+X.cells.toList.length≤cur.toList.length:=by rw[hlen];simp;omega
 have hrows:(rows.set i (splice r f new)).length=rows.length:=by simp
 have hOS:ObjStep cx σ g nx nx w (w.setRow b' cs') id (.arr e k (rows.set i (splice r f new))) (g id):=by
  refine⟨.inr ⟨rfl,.arr e k rows,ho,by simp[ObLe,upd_same]⟩,⟨rfl,rfl,rfl,by simp,fun k hk=>setRow_other w b' k cs' (by omega)⟩,fun b hb hne=>setRow_other w b' b cs' (fun e=>hne _ ho (by rw[hv',e];rfl)),fun b hb => .inl ⟨_,ho,hb⟩⟩
 have hxs':cs'.toList.take (rows.length*k)=splice xs (i*k+f) X.cells.toList:=by
  subst hcs'
  apply List.ext_getElem?
  intro j
  have hxl:xs.length=rows.length*k:=h1.1
  rw[List.getElem?_take]
  show(if j < rows.length*k then (splice cur.toList (i*k+f) X.cells.toList)[j]? else none)=_
  rw[splice_get hle2,splice_get (l:=xs) (by rw[hxl,hlen];omega)]
  by_cases hj:j < rows.length*k
  ·
   rw[if_pos hj]
   split
   ·
    rfl
   ·
    rw[← htk,List.getElem?_take,if_pos hj]
  ·
   rw[if_neg hj,if_neg (by rw[hlen];omega),List.getElem?_eq_none (by omega)]
 have hG:=SimG.obj hs hOS (fun hlat=>?_) trivial
 ·
  unfold Oper.wp
  simp only[execOp,hv,hX,Sem.run_bind,hrun,Result.andThen_ok,Sem.run_pure,Oper.upon,Act.put]
  refine hK _ _ (Sim.eqv ⟨_,_,hG⟩ fun k=>?_)
  cases k with
  |s i=>rw[objSt_s];exact(get_cons_ne (by simp)).symm
  |o i =>
   by_cases hi:i=id
   ·
    subst hi;rw[get_cons_same];exact get_cons_same.symm
   ·
    rw[objSt_o hi];exact(get_cons_ne (by simpa using fun e=>hi e.symm)).symm
  |nx=>rw[objSt_nx];exact hs.hnx.symm.trans (get_cons_ne (by simp)).symm
 ·
  have hsl:(splice xs (i*k+f) X.cells.toList).length=xs.length:=splice_len (by rw[h1.1,hlen];omega)
  refine⟨splice xs (i*k+f) X.cells.toList,⟨by rw[hsl,h1.1,hrows],.inr ⟨b',cap,cs',?_,hge,hheap,by rw[hrows];exact hle',hcm,?_,by rw[hrows];exact hxs'⟩⟩,fun x hx=>?_,fun r' hr'=>?_,fun i' j r' z x hi' hj hx=>?_⟩
  ·
   rw[upd_same,hv',hrows]
  ·
   subst hcs';rw[← hsz];simpa using splice_len hle2
  ·
   obtain⟨j,hj⟩:=List.getElem?_of_mem hx
   rw[splice_get (by rw[h1.1,hlen];omega)]at hj
   split at hj
   ·
    exact c2 x (List.mem_of_getElem? hj)
   ·
    exact h2 x (List.mem_of_getElem? hj)
  ·
   rcases List.mem_or_eq_of_mem_set hr' with h|h
   ·
    exact h3 r' h
   ·
    subst h;rw[splice_len hle,hrk]
  ·
   have hjk:j < k:=by
    have hm:r'∈rows.set i (splice r f new):=List.mem_of_getElem? hi'
    have:r'.length=k:=by
     rcases List.mem_or_eq_of_mem_set hm with h|h
     ·
      exact h3 r' h
     ·
      subst h;rw[splice_len hle,hrk]
    rw[← this];exact(List.getElem?_eq_some_iff.1 hj).1
   rw[splice_get (by rw[h1.1,hlen];omega)]at hx
   by_cases hii:i=i'
   ·
    subst hii
    rw[List.getElem?_set_self hil]at hi'
    cases hi'
    rw[splice_get hle]at hj
    by_cases hin:f≤j∧j < f+new.length
    ·
     rw[if_pos hin]at hj
     rw[if_pos (by rw[hlen];omega),show i*k+j - (i*k+f)=j - f by omega]at hx
     exact(c3 (j - f) x z hj hx).step hlat.ext hlat.own
    ·
     rw[if_neg hin]at hj
     rw[if_neg (by rw[hlen];omega)]at hx
     exact(h4 i j r z x hr hj hx).step hlat.ext hlat.own
   ·
    rw[List.getElem?_set_ne hii]at hi'
    have hout:¬ (i*k+f≤i'*k+j∧i'*k+j < i*k+f+X.cells.toList.length):=by
     rw[hlen]
     rcases Nat.lt_or_ge i' i with hlt|hge
     ·
      have:=Nat.mul_le_mul_right k hlt
      rw[Nat.succ_mul]at this
      omega
     ·
      have:=Nat.mul_le_mul_right k (show i+1≤i' by omega)
      rw[Nat.add_mul,Nat.one_mul]at this
      omega
    rw[if_neg hout]at hx
    exact(h4 i' j r' z x hi' hj hx).step hlat.ext hlat.own
variable {ops:Array Oper}{K:List Tr→St→Prop}{acc:List Tr}{rest:List Oper}
theorem a_leno {t tt:TypeId}{x:Operand}{id n e k k':Nat}{rows:List (List D)}{ti:TI}(hx:ev σ x=some (.own id n)) (ho:get σ (.o id) = .ob (.arr e k rows)) (ht:tget cx.T t=some ti) (hk:slK ti=some k') (hd:Nat.blt d cx.n=true) (hn:n=rows.length) :
  OA cx σ ⟨some d,.call { callee := .builtin .len,args := #[x],argTypes := #[t] },tt,pos,af,gd⟩ ⟨rdOf x (.own id n)++[(.o id,.ob (.arr e k rows))],[(.s d,.av (.d (.v (.int .i64 n))))]⟩ :=
 ⟨ok_len_own (lt_of_blt hd) (ev_out hx).1 ht hk hn,(ev_out hx).2.append ⟨ho,trivial⟩⟩
theorem a_io {t:TypeId}{x y:Operand}{id n e k i:Nat}{rows:List (List D)}{kd:IntKind}{ti:TI}(hx:ev σ x=some (.own id n)) (ho:get σ (.o id) = .ob (.arr e k rows)) (hy:ev σ y=some (.d (.v (.int kd (i:Int))))) (ht:tget cx.T t=some ti)
  (hk:slK ti=some k) (hd:Nat.blt d cx.n=true) (hn:n=rows.length) (hi:i < n) :
  OA cx σ ⟨some d,.indexAddr t x y,ty,pos,af,gd⟩ ⟨(rdOf x (.own id n)++rdOf y (.d (.v (.int kd (i:Int)))))++[(.o id,.ob (.arr e k rows))],[(.s d,.av (.pe id n i 0))]⟩ :=
 ⟨ok_ia_own (lt_of_blt hd) (ev_out hx).1 (ev_out hy).1 ht hk hn hi,((ev_out hx).2.append (ev_out hy).2).append ⟨ho,trivial⟩⟩
theorem a_fpe {t:TypeId}{x:Operand}{id n i f:Nat}{ti:TI}{fl off e k:Nat}{rows:List (List D)}(hx:ev σ x=some (.pe id n i f)) (ho:get σ (.o id) = .ob (.arr e k rows)) (ht:tget cx.T t=some ti) (hf:fldOff ti fl=some off) (hd:Nat.blt d cx.n=true) (hn:n=rows.length) :
  OA cx σ ⟨some d,.fieldAddr t x fl,ty,pos,af,gd⟩ ⟨rdOf x (.pe id n i f)++[(.o id,.ob (.arr e k rows))],[(.s d,.av (.pe id n i (f+off)))]⟩ :=
 ⟨ok_fa_pe (lt_of_blt hd) (ev_out hx).1 ht hf hn,(ev_out hx).2.append ⟨ho,trivial⟩⟩
theorem a_lpe {t:TypeId}{x:Operand}{id n i f e k:Nat}{rows:List (List D)}{r:List D}{ti:TI}{y:D}(hx:ev σ x=some (.pe id n i f)) (ho:get σ (.o id) = .ob (.arr e k rows)) (ht:tget cx.T t=some ti)
  (hd:Nat.blt d cx.n=true) (hr:rows[i]? = some r) (hl:ldD ti (r.drop f)=some y) (hn:n=rows.length) :
  OA cx σ ⟨some d,.load t x,ty,pos,af,gd⟩ ⟨rdOf x (.pe id n i f)++[(.o id,.ob (.arr e k rows))],[(.s d,.av (.d y))]⟩ :=
 ⟨ok_load_pe (lt_of_blt hd) (ev_out hx).1 ht hn hr hl,(ev_out hx).2.append ⟨ho,trivial⟩⟩
theorem a_spe {t:TypeId}{x y:Operand}{id n i f e k:Nat}{rows:List (List D)}{r new:List D}{av:AV}{ti:TI}(hx:ev σ x=some (.pe id n i f)) (ho:get σ (.o id) = .ob (.arr e k rows)) (hy:ev σ y=some av) (ht:tget cx.T t=some ti)
  (hc:dcells av=some new) (hnn:Nat.beq new.length ti.n=true) (hr:rows[i]? = some r) (hle:Nat.ble (f+new.length) r.length=true) (hn:n=rows.length) :
  OA cx σ ⟨none,.store t x y,ty,pos,af,gd⟩ ⟨rdOf x (.pe id n i f)++(rdOf y av++[(.o id,.ob (.arr e k rows))]),[(.o id,.ob (.arr e k (rows.set i (splice r f new))))]⟩ :=
 ⟨ok_store_pe (ev_out hx).1 (ev_out hy).1 ht hc hn hr hnn (by simpa using hle),(ev_out hx).2.append ((ev_out hy).2.append ⟨ho,trivial⟩)⟩
theorem a_lptr {t:TypeId}{x:Operand}{id off:Nat}{cells:List AV}{ti:TI}{y:AV}(hx:ev σ x=some (.ptr id off)) (ho:get σ (.o id) = .ob (.box cells)) (ht:tget cx.T t=some ti) (hd:Nat.blt d cx.n=true) (hl:ldA ti (cells.drop off)=some y) :
  OA cx σ ⟨some d,.load t x,ty,pos,af,gd⟩ ⟨rdOf x (.ptr id off)++[(.o id,.ob (.box cells))],[(.s d,.av y)]⟩ :=
 ⟨ok_load_ptr (lt_of_blt hd) (ev_out hx).1 ht hl,(ev_out hx).2.append ⟨ho,trivial⟩⟩
theorem map_at {α:Type}{l:List α}{f:α→List D}{k:Nat}{x:α}(h:l[k]? = some x):(l.map f)[k]? = some (f x):=by simp[h]
end Go.AX
namespace Go.AX
open Go.RowKit
variable {cx:Cx}{g:Nat→Value}{σ:St}{a:Act}{w:World}{nx:Nat}{c:Code}{Q:Exit→St→Prop}
variable {ty:TypeId}{pos:String}{af:Array Edge}{gd:Option (Nat×Bool)}{d:Nat}
theorem CW.empty {k:Nat}(i:Nat) (hi:get σ (.s i) = .av (.d (.sl k []))) (h:∀ (p:Option Addr) (cp:Nat),CW cx c Q ((.s i,.av (.d (.v (.slice p 0 cp))))::σ)):CW cx c Q σ:=by
 intro a w hs
 have hs0:=hs
 obtain⟨g,nx,hG⟩:=hs0
 have hr:Rd w (cx.own g σ) (a.tmps.getD i undef) (.sl k []):=(hG.slots i _ hi).1
 have key:∃ p cp,a.tmps.getD i undef = .slice p 0 cp:=by
  generalize a.tmps.getD i undef=x at hr
  generalize hD:D.sl k []=D0 at hr
  cases hr with
  |v=>cases hD
  |x=>cases hD
  |agg=>cases hD
  |nil p cp=>exact⟨p,cp,rfl⟩
  |sl ad cp k' rows f hb hsz hcap hk hc h1 hr=>cases hD;exact⟨_,_,rfl⟩
 obtain⟨p,cp,hv⟩:=key
 exact h p cp a w (Sim.retell hG (by rw[hv];exact Rd.v _) trivial)
theorem stut_nilv {i k cp:Nat}{p:Option Addr}:Stut cx ⟨[(.s i,.av (.d (.v (.slice p 0 cp))))],[(.s i,.av (.d (.sl k [])))]⟩:=by
 rintro σ a w ⟨g,nx,hs⟩ hr
 exact Sim.retell hs (av := .d (.sl k [])) (DLe_nilv p cp k (hs.slots i _ hr.1).1) trivial
theorem bin_isnil {P:Program}{t e:TypeId}{p:Option Addr}{n cp:Nat}(h:P.underlying t=some (.slice e)):BinR P .eql t (.slice p n cp) (.slice none 0 0) (.bool p.isNone):=by
 intro w x y
 rw[eqGuard_at_slice]
 simp only[Sem.run_bind,Sem.run_pure,Result.andThen_ok]
 exact Go.Lib.run_eql_slice_nil w t e p n cp 0 0 h
theorem tbl_slice {t:TypeId}{ti:TI}{k:Nat}(ht:tget cx.T t=some ti) (hk:slK ti=some k):∃ e,cx.P.underlying t=some (.slice e):=by
 obtain⟨e,ie,hu,_⟩:=slice_of (cx.hT t ti ht) hk
 exact⟨e,hu⟩
theorem a_nilv {t t':TypeId}{x y:Operand}{p:Option Addr}{n cp k:Nat}{ti:TI}(hx:ev σ x=some (.d (.v (.slice p n cp)))) (hy:ev σ y=some (.d (.v (.slice none 0 0)))) (ht:tget cx.T t=some ti) (hk:slK ti=some k) (hd:Nat.blt d cx.n=true) :
  OA cx σ ⟨some d,.binOp .eql t x y t',ty,pos,af,gd⟩ ⟨rdOf x (.d (.v (.slice p n cp)))++rdOf y (.d (.v (.slice none 0 0))),[(.s d,.av (.d (.v (.bool p.isNone))))]⟩:=by
 obtain⟨e,hu⟩:=tbl_slice (cx:=cx) ht hk
 exact a_bin hx hy (bin_isnil hu) hd
theorem ok_nilsl {t t':TypeId}{x y:Operand}{k k':Nat}{r:List D}{rows:List (List D)}{ti:TI}(hn:d < cx.n) (hx:EvS x (.d (.sl k (r::rows)))) (hy:EvS y (.d (.v (.slice none 0 0)))) (ht:tget cx.T t=some ti) (hk:slK ti=some k') :
  OpOk cx ⟨some d,.binOp .eql t x y t',ty,pos,af,gd⟩ ⟨rdOf x (.d (.sl k (r::rows)))++rdOf y (.d (.v (.slice none 0 0))),[(.s d,.av (.d (.v (.bool false))))]⟩:=by
 refine ok_val rfl hn fun σ a w g nx hs hr=>⟨.bool false,w,?_,Below.refl _ _,Rd.v _,trivial⟩
 obtain⟨e,hu⟩:=tbl_slice (cx:=cx) ht hk
 have h1:Rd w (cx.own g σ) (a.eval x) (.sl k (r::rows)):=(hs.ev hx hr.left).1
 have h2:=rep_v (hs.ev hy hr.right).1
 have key:∃ ad n cp,a.eval x = .slice (some ad) n cp:=by
  generalize a.eval x=v at h1
  generalize hD:D.sl k (r::rows)=D0 at h1
  cases h1 with
  |v=>cases hD
  |x=>cases hD
  |agg=>cases hD
  |nil p cp=>cases hD
  |sl ad cp k' rows f hb hsz hcap hk hc h1 hr=>exact⟨_,_,_,rfl⟩
 obtain⟨ad,n,cp,hv⟩:=key
 have:=bin_isnil (P:=cx.P) (p:=some ad) (n:=n) (cp:=cp) hu w x y
 simp only[execOp,hv,h2,Sem.run_bind]at this ⊢
 rw[this]
 rfl
theorem a_nilsl {t t':TypeId}{x y:Operand}{k k':Nat}{r:List D}{rows:List (List D)}{ti:TI}(hx:ev σ x=some (.d (.sl k (r::rows)))) (hy:ev σ y=some (.d (.v (.slice none 0 0)))) (ht:tget cx.T t=some ti) (hk:slK ti=some k') (hd:Nat.blt d cx.n=true) :
  OA cx σ ⟨some d,.binOp .eql t x y t',ty,pos,af,gd⟩ ⟨rdOf x (.d (.sl k (r::rows)))++rdOf y (.d (.v (.slice none 0 0))),[(.s d,.av (.d (.v (.bool false))))]⟩ :=
 ⟨ok_nilsl (lt_of_blt hd) (ev_out hx).1 (ev_out hy).1 ht hk,(ev_out hx).2.append (ev_out hy).2⟩
theorem ok_callv {f:FuncId}{z:Operand}{xs:List Operand}{avs:List AV}{ys:List Arg}{l:List (Key×Val)}{r:Res}{ats:Array TypeId}(hn:d < cx.n) (hz:EvS z (.d (.v (.func (.func f) #[] #[])))) (hc:FnOk cx.P f ys r) (hsub:Subs xs avs ys l) :
  OpOk cx ⟨some d,.call { callee := .value z,args:=⟨xs⟩,argTypes:=ats },ty,pos,af,gd⟩ ⟨rdOf z (.d (.v (.func (.func f) #[] #[])))++l,[(.s d,.av r.av)]⟩:=by
 rintro σ a w K Q ⟨g,nx,hs⟩ hr hK
 have hv:=rep_v (hs.ev hz hr.left).1
 have hcall:=hc.calls w (cx.own g σ) (xs.map a.eval) ⟨fun b hb=>own_lt hs hb,hs.gl⟩ (hsub.ok hs hr.right)
 have hrun:(execOp a.eval ⟨some d,.call { callee := .value z,args:=⟨xs⟩,argTypes:=ats },ty,pos,af,gd⟩).run cx.P w = .ok (.enter f (xs.map a.eval).toArray) w:=by
  obtain⟨fn,h1,h2,h3⟩:=hc.run
  simp only[execOp,resolve,Deferred.ofValue,hv,invoke,callFunc,Sem.run_bind,Sem.run_pure,Result.andThen_ok,run_program,h1,h2,h3,Bool.false_eq_true,if_false]
  simp
 unfold Oper.wp
 rw[hrun]
 refine hcall.mono fun e w' he=>?_
 obtain⟨v,rfl,hb,hres⟩:=he
 obtain⟨h1,h2⟩:=Res.rep (nx:=nx) hres
 exact hK _ _ (Sim.put hs hn hb h1 h2)
theorem a_callv {f:FuncId}{z:Operand}{xs:List Operand}{avs:List AV}{ys:List Arg}{l:List (Key×Val)}{r:Res}{ats:Array TypeId}(hc:FnOk cx.P f ys r) (hz:ev σ z=some (.d (.v (.func (.func f) #[] #[])))) (hd:Nat.blt d cx.n=true) (hsub:SubsE σ xs avs ys l) :
  OA cx σ ⟨some d,.call { callee := .value z,args:=⟨xs⟩,argTypes:=ats },ty,pos,af,gd⟩ ⟨rdOf z (.d (.v (.func (.func f) #[] #[])))++l,[(.s d,.av r.av)]⟩ :=
 ⟨ok_callv (lt_of_blt hd) (ev_out hz).1 hc hsub.out.1,(ev_out hz).2.append hsub.out.2⟩
def inK (ti:TI):Option IntKind:=match ti.kind with
 |.int k=>some k
 |_=>none
theorem int_of {t:TypeId}{ti:TI}{k:IntKind}(ht:tget cx.T t=some ti) (hk:inK ti=some k):cx.P.underlying t=some (.int k):=by
 have h:=(cx.hT t ti ht).kind
 unfold inK at hk
 split at hk
 ·
  next k' hkk=>cases hk;rw[hkk]at h;exact h.1
 ·
  cases hk
theorem ok_conv {s t:TypeId}{x:Operand}{ks kt:IntKind}{n:Int}{si ti:TI}(hn:d < cx.n) (hx:EvS x (.d (.v (.int ks n)))) (hs':tget cx.T s=some si) (hks:inK si=some ks) (ht:tget cx.T t=some ti) (hkt:inK ti=some kt) (hw:kt.wrap n=n) :
  OpOk cx ⟨some d,.convert s t x,ty,pos,af,gd⟩ ⟨rdOf x (.d (.v (.int ks n))),[(.s d,.av (.d (.v (.int kt n))))]⟩:=by
 refine ok_val rfl hn fun σ a w g nx hs hr=>⟨.int kt n,w,?_,Below.refl _ _,Rd.v _,trivial⟩
 have hv:=rep_v (hs.ev hx hr).1
 have h1:=int_of (cx:=cx) hs' hks
 have h2:=int_of (cx:=cx) ht hkt
 have h3:cx.P.intKind t=kt:=by simp[Program.intKind,h2]
 have:=run_convert_int (P:=cx.P) w s t ks n (by simp[h1]) (by rw[h3];exact h2)
 rw[h3,hw]at this
 simp[execOp,hv,this]
theorem a_conv {s t:TypeId}{x:Operand}{ks kt:IntKind}{n:Int}{si ti:TI}(hx:ev σ x=some (.d (.v (.int ks n)))) (hs':tget cx.T s=some si) (hks:inK si=some ks) (ht:tget cx.T t=some ti) (hkt:inK ti=some kt) (hd:Nat.blt d cx.n=true) (hw:kt.wrap n=n) :
  OA cx σ ⟨some d,.convert s t x,ty,pos,af,gd⟩ ⟨rdOf x (.d (.v (.int ks n))),[(.s d,.av (.d (.v (.int kt n))))]⟩ :=
 ⟨ok_conv (lt_of_blt hd) (ev_out hx).1 hs' hks ht hkt hw,(ev_out hx).2⟩
theorem wrap_u64_in {n:Int}(h:0≤n∧n≤9223372036854775807):IntKind.u64.wrap n=n:=by
 rw[IntKind.wrap_u64];omega
theorem bin_half {P:Program}{t:TypeId}{n:Int}:BinR P .shr t (.int .u64 n) (.int .u64 1) (.int .u64 (n / 2)):=by
 intro w x y
 have:=shift_shr .u64 .u64 n 1 (by omega) (by decide)
 rw[eqGuard_shr,binOp_shr,this]
 rfl
end Go.AX
namespace Go.AX
theorem by_k {p:Prop}(h:p:=by((focus first|exact rfl|assumption|((first|apply decide_eq_true|apply decide_eq_false);omega)|(simp;done)|(simp;omega)|(simp;assumption)))):p:=h
theorem by_ks {p:Prop}(h:p:=by((focus first|assumption|((first|apply decide_eq_true|apply decide_eq_false);omega)|(simp;done)|(simp;omega)|(simp;assumption)|exact rfl))):p:=h
theorem by_g {p:Prop}(h:p:=by((first|exact .none rfl|(refine .yes rfl rfl (gt rfl ?_);(focus first|exact rfl|assumption|((first|apply decide_eq_true|apply decide_eq_false);omega)|(simp;done)|(simp;omega)|(simp;assumption)))))):p:=h
theorem by_less {p:Prop}(h:p:=by((refine less_of rfl rfl rfl ?_);(repeat(first|exact lessL_nil|refine lessL_nx ?_|refine lessL_cons (by first|exact rfl|exact get_int rfl (by(focus first|omega|(simp;done)|(simp;omega)))|exact get_own rfl (by first|rfl|(simp;done)|(simp;omega))|exact get_bool rfl (by(focus first|exact rfl|assumption|((first|apply decide_eq_true|apply decide_eq_false);omega)|(simp;done)|(simp;omega)|(simp;assumption)))|exact get_sl rfl (by first|rfl|assumption|(simp;done)|(simp only[List.map_append];rfl)|(simp only[List.map_append,List.append_assoc];rfl)|(simp;rfl))|exact get_arr rfl (by first|rfl|assumption|(simp;done)|(simp only[List.map_append];rfl)|(simp only[List.map_append,List.append_assoc];rfl)|(simp;rfl))|exact get_box rfl (by first|rfl|assumption|(simp;done)|(simp;rfl))) rfl ?_)))):p:=h
theorem by_oa {p:Prop}(h:p:=by
  first
  |((with_reducible apply a_ia);(iterate 5 exact rfl);apply idx_map;assumption)
  |((with_reducible apply a_bin);(iterate 2 exact rfl);(first|with_reducible apply bin_add|with_reducible apply bin_sub|apply bin_add|apply bin_sub);(focus first|omega|(simp;done)|(simp;omega));exact rfl)
  |((with_reducible apply a_pick_t);exact rfl;(focus first|exact rfl|assumption|((first|apply decide_eq_true|apply decide_eq_false);omega)|(simp;done)|(simp;omega)|(simp;assumption));(iterate 2 exact rfl))
  |((with_reducible apply a_pick_f);exact rfl;(focus first|exact rfl|assumption|((first|apply decide_eq_true|apply decide_eq_false);omega)|(simp;done)|(simp;omega)|(simp;assumption));(iterate 2 exact rfl))
  |((with_reducible apply a_app);(iterate 8 exact rfl);(focus first|exact rfl|(simp;done)|(simp;omega));(focus first|omega|(simp;done)|(simp;omega)))
  |((with_reducible apply a_store);(iterate 7 exact rfl);(first|exact⟨rfl,trivial⟩|(apply nw_own;exact rfl;(focus first|exact rfl|(simp;done)|(simp;omega)))))
  |((with_reducible apply a_ib);(iterate 6 exact rfl);(first|omega|decide))
  |((with_reducible apply a_is);(iterate 5 exact rfl);assumption)
  |((with_reducible apply a_from);(iterate 5 exact rfl);apply cut_from;(focus first|omega|(simp;omega)|(simp;done)))
  |((with_reducible apply a_to);(iterate 5 exact rfl);apply cut_to;(focus first|omega|(simp;omega)|(simp;done)))
  |((with_reducible apply a_leno);(iterate 5 exact rfl);(focus first|exact rfl|(simp;done)|(simp;omega)))
  |((with_reducible apply a_io);(iterate 6 exact rfl);(focus first|exact rfl|(simp;done)|(simp;omega));(focus first|omega|(simp;done)|(simp;omega)))
  |((with_reducible apply a_fpe);(iterate 5 exact rfl);(focus first|exact rfl|(simp;done)|(simp;omega)))
  |((with_reducible apply a_lpe);(iterate 4 exact rfl);(focus first|assumption|(apply map_at;assumption));exact rfl;(focus first|exact rfl|(simp;done)|(simp;omega)))
  |((with_reducible apply a_spe);(iterate 6 exact rfl);(focus first|assumption|(apply map_at;assumption));exact rfl;(focus first|exact rfl|(simp;done)|(simp;omega)))
  |((with_reducible apply a_nilv);(iterate 5 exact rfl))
  |((with_reducible apply a_nilsl);(iterate 5 exact rfl))
  |((with_reducible apply a_conv);(iterate 6 exact rfl);(apply wrap_u64_in;(focus first|omega|(simp;done)|(simp;omega))))
  |((with_reducible apply a_conv);(iterate 6 exact rfl);(apply wrap_in;(focus first|omega|(simp;done)|(simp;omega))))
  |((with_reducible apply a_box);(iterate 4 exact rfl);(first|exact⟨rfl,trivial⟩|(apply nw_own;exact rfl;(focus first|exact rfl|(simp;done)|(simp;omega)))))
  ):p:=h
theorem by_sub {p:Prop}(h:p:=by(repeat(first|exact SubsE.nil|(apply SubsE.cons;exact rfl;(first|exact .d (.refl _)|exact .d (.nil _)|exact .agg rfl (.refl _)|exact .pd|exact .ptr rfl);(first|exact trivial|exact⟨rfl,trivial⟩))))):p:=h
theorem by_ca {p:Prop}(h:p:=by exact a_call (by assumption) rfl by_sub):p:=h
structure Hold (q:Prop):Prop where
 get:q
structure StopA (n:Nat):Prop where
 t:n=n
structure StopX (n:Nat):Prop where
 t:n=n
structure StopR (n:Nat):Prop where
 t:n=n
variable {cx:Cx}{σ:St}{Q:Exit→St→Prop}
theorem stop_atA {x y:Code}{n:Nat}(_h:firstRegion x=some n) (_hn:StopA n) (hs:Stop (CW cx (.seq x y) Q σ)):CW cx (.seq x y) Q σ:=hs
theorem stop_atX {ops:Array Oper}{b:Bool}{n:Nat}(_hn:StopX n) (hs:Stop (CW cx (.region n ops b) Q σ)):CW cx (.region n ops b) Q σ:=hs
theorem stop_atR {ops:Array Oper}{b:Bool}{y:Code}{n:Nat}(_hn:StopR n) (hs:Stop (CW cx (.seq (.region n ops b) y) Q σ)):CW cx (.seq (.region n ops b) y) Q σ:=hs
theorem wk {p q:Prop}(h:q) (s:Hold q→p:=by
  intro hq
  (first|((with_reducible apply s1);exact rfl)|(with_reducible first|apply CW.seq|apply CW.block|apply CW.region|apply CW.draw|apply CW.skip|apply CW.exit|apply CW.ret|apply q_then|apply q_then_exit|apply q_then_ret|apply q_block|apply q_block_ret|apply q_block_hit|apply q_ret|apply q_end|apply q_loop_exit|apply q_loop_ret|apply q_loopT_exit|apply q_loopT_ret|apply RW.nil)|((with_reducible apply s3);exact rfl;exact by_k)|((with_reducible apply s2);exact rfl;exact by_k)|((with_reducible apply s4);exact rfl)|((with_reducible apply s5);(first|exact by_oa|exact by_ca);exact by_g)|((with_reducible apply CW.cond_t);exact rfl;exact by_ks)|((with_reducible apply CW.cond_f);exact rfl;exact by_ks)|((with_reducible apply q_block_miss);exact rfl)|(refine And.intro (show chk [] [] _ _=true by kernel_rfl) ?_))
  (repeat(first|((with_reducible apply s1);exact rfl)|(with_reducible first|apply CW.seq|apply CW.block|apply CW.region|apply CW.draw|apply CW.skip|apply CW.exit|apply CW.ret|apply q_then|apply q_then_exit|apply q_then_ret|apply q_block|apply q_block_ret|apply q_block_hit|apply q_ret|apply q_end|apply q_loop_exit|apply q_loop_ret|apply q_loopT_exit|apply q_loopT_ret|apply RW.nil)|((with_reducible apply s3);exact rfl;exact by_k)|((with_reducible apply s2);exact rfl;exact by_k)|((with_reducible apply s4);exact rfl)|((with_reducible apply s5);(first|exact by_oa|exact by_ca);exact by_g)|((with_reducible apply CW.cond_t);exact rfl;exact by_ks)|((with_reducible apply CW.cond_f);exact rfl;exact by_ks)|((with_reducible apply q_block_miss);exact rfl)|(refine And.intro (show chk [] [] _ _=true by kernel_rfl) ?_)))
  exact hq.get):p:=s ⟨h⟩
theorem wkS {p q:Prop}(h:q) (s:Hold q→p:=by
  intro hq
  (first|((with_reducible apply stop_atA);exact rfl;assumption)|((with_reducible apply stop_atX);assumption)|((with_reducible apply stop_atR);assumption)|((with_reducible apply s1);exact rfl)|(with_reducible first|apply CW.seq|apply CW.block|apply CW.region|apply CW.draw|apply CW.skip|apply CW.exit|apply CW.ret|apply q_then|apply q_then_exit|apply q_then_ret|apply q_block|apply q_block_ret|apply q_block_hit|apply q_ret|apply q_end|apply q_loop_exit|apply q_loop_ret|apply q_loopT_exit|apply q_loopT_ret|apply RW.nil)|((with_reducible apply s3);exact rfl;exact by_k)|((with_reducible apply s2);exact rfl;exact by_k)|((with_reducible apply s4);exact rfl)|((with_reducible apply s5);(first|exact by_oa|exact by_ca);exact by_g)|((with_reducible apply CW.cond_t);exact rfl;exact by_ks)|((with_reducible apply CW.cond_f);exact rfl;exact by_ks)|((with_reducible apply q_block_miss);exact rfl)|(refine And.intro (show chk [] [] _ _=true by kernel_rfl) ?_))
  (repeat(first|((with_reducible apply stop_atA);exact rfl;assumption)|((with_reducible apply stop_atX);assumption)|((with_reducible apply stop_atR);assumption)|((with_reducible apply s1);exact rfl)|(with_reducible first|apply CW.seq|apply CW.block|apply CW.region|apply CW.draw|apply CW.skip|apply CW.exit|apply CW.ret|apply q_then|apply q_then_exit|apply q_then_ret|apply q_block|apply q_block_ret|apply q_block_hit|apply q_ret|apply q_end|apply q_loop_exit|apply q_loop_ret|apply q_loopT_exit|apply q_loopT_ret|apply RW.nil)|((with_reducible apply s3);exact rfl;exact by_k)|((with_reducible apply s2);exact rfl;exact by_k)|((with_reducible apply s4);exact rfl)|((with_reducible apply s5);(first|exact by_oa|exact by_ca);exact by_g)|((with_reducible apply CW.cond_t);exact rfl;exact by_ks)|((with_reducible apply CW.cond_f);exact rfl;exact by_ks)|((with_reducible apply q_block_miss);exact rfl)|(refine And.intro (show chk [] [] _ _=true by kernel_rfl) ?_)))
  exact hq.get):p:=s ⟨h⟩
theorem wa {p q:Prop}(h:q) (s:Hold q→p:=by
  intro hq
  (first|((with_reducible apply s1);exact rfl)|(with_reducible first|apply CW.seq|apply CW.block|apply CW.region|apply CW.draw|apply CW.skip|apply CW.exit|apply CW.ret|apply q_then|apply q_then_exit|apply q_then_ret|apply q_block|apply q_block_ret|apply q_block_hit|apply q_ret|apply q_end|apply q_loop_exit|apply q_loop_ret|apply q_loopT_exit|apply q_loopT_ret|apply RW.nil)|((with_reducible apply s3);exact rfl;exact by_k)|((with_reducible apply s2);exact rfl;exact by_k)|((with_reducible apply s4);exact rfl))
  (repeat(first|((with_reducible apply s1);exact rfl)|(with_reducible first|apply CW.seq|apply CW.block|apply CW.region|apply CW.draw|apply CW.skip|apply CW.exit|apply CW.ret|apply q_then|apply q_then_exit|apply q_then_ret|apply q_block|apply q_block_ret|apply q_block_hit|apply q_ret|apply q_end|apply q_loop_exit|apply q_loop_ret|apply q_loopT_exit|apply q_loopT_ret|apply RW.nil)|((with_reducible apply s3);exact rfl;exact by_k)|((with_reducible apply s2);exact rfl;exact by_k)|((with_reducible apply s4);exact rfl)))
  exact hq.get):p:=s ⟨h⟩
theorem waS {p q:Prop}(h:q) (s:Hold q→p:=by
  intro hq
  (first|((with_reducible apply stop_atA);exact rfl;assumption)|((with_reducible apply stop_atX);assumption)|((with_reducible apply stop_atR);assumption)|((with_reducible apply s1);exact rfl)|(with_reducible first|apply CW.seq|apply CW.block|apply CW.region|apply CW.draw|apply CW.skip|apply CW.exit|apply CW.ret|apply q_then|apply q_then_exit|apply q_then_ret|apply q_block|apply q_block_ret|apply q_block_hit|apply q_ret|apply q_end|apply q_loop_exit|apply q_loop_ret|apply q_loopT_exit|apply q_loopT_ret|apply RW.nil)|((with_reducible apply s3);exact rfl;exact by_k)|((with_reducible apply s2);exact rfl;exact by_k)|((with_reducible apply s4);exact rfl))
  (repeat(first|((with_reducible apply stop_atA);exact rfl;assumption)|((with_reducible apply stop_atX);assumption)|((with_reducible apply stop_atR);assumption)|((with_reducible apply s1);exact rfl)|(with_reducible first|apply CW.seq|apply CW.block|apply CW.region|apply CW.draw|apply CW.skip|apply CW.exit|apply CW.ret|apply q_then|apply q_then_exit|apply q_then_ret|apply q_block|apply q_block_ret|apply q_block_hit|apply q_ret|apply q_end|apply q_loop_exit|apply q_loop_ret|apply q_loopT_exit|apply q_loopT_ret|apply RW.nil)|((with_reducible apply s3);exact rfl;exact by_k)|((with_reducible apply s2);exact rfl;exact by_k)|((with_reducible apply s4);exact rfl)))
  exact hq.get):p:=s ⟨h⟩
theorem wa1 {p q:Prop}(h:q) (s:Hold q→p:=by
  intro hq
  (first|((with_reducible apply s1);exact rfl)|(with_reducible first|apply CW.seq|apply CW.block|apply CW.region|apply CW.draw|apply CW.skip|apply CW.exit|apply CW.ret|apply q_then|apply q_then_exit|apply q_then_ret|apply q_block|apply q_block_ret|apply q_block_hit|apply q_ret|apply q_end|apply q_loop_exit|apply q_loop_ret|apply q_loopT_exit|apply q_loopT_ret|apply RW.nil)|((with_reducible apply s3);exact rfl;exact by_k)|((with_reducible apply s2);exact rfl;exact by_k)|((with_reducible apply s4);exact rfl))
  exact hq.get):p:=s ⟨h⟩
theorem wa1S {p q:Prop}(h:q) (s:Hold q→p:=by
  intro hq
  (first|((with_reducible apply stop_atA);exact rfl;assumption)|((with_reducible apply stop_atX);assumption)|((with_reducible apply stop_atR);assumption)|((with_reducible apply s1);exact rfl)|(with_reducible first|apply CW.seq|apply CW.block|apply CW.region|apply CW.draw|apply CW.skip|apply CW.exit|apply CW.ret|apply q_then|apply q_then_exit|apply q_then_ret|apply q_block|apply q_block_ret|apply q_block_hit|apply q_ret|apply q_end|apply q_loop_exit|apply q_loop_ret|apply q_loopT_exit|apply q_loopT_ret|apply RW.nil)|((with_reducible apply s3);exact rfl;exact by_k)|((with_reducible apply s2);exact rfl;exact by_k)|((with_reducible apply s4);exact rfl))
  exact hq.get):p:=s ⟨h⟩
theorem wb {p q:Prop}(h:q) (s:Hold q→p:=by
  intro hq
  (first|((with_reducible apply CW.cond_t);exact rfl;exact by_ks)|((with_reducible apply CW.cond_f);exact rfl;exact by_ks)|((with_reducible apply q_block_miss);exact rfl)|(refine And.intro (show chk [] [] _ _=true by kernel_rfl) ?_))
  exact hq.get):p:=s ⟨h⟩
end Go.AX
namespace Go.RF
open Go.AX
abbrev Str:=List UInt8
abbrev i64 (n:Int):Value := .int .i64 n
abbrev dint (n:Int):D := .v (.int .i64 n)
abbrev dbool (b:Bool):D := .v (.bool b)
abbrev dstr (s:Str):D := .v (str s)
structure Pair where
 key:Str
 n:Int
 deriving DecidableEq
structure Version where
 by_:Int
 made:Bool
 has:Bool
 n:Int
 deriving DecidableEq
structure Chain where
 key:Str
 vs:List Version
 deriving DecidableEq
structure Ins where
 kind:Int
 a:Int
 b:Int
 n:Int
 key:Str
 deriving DecidableEq
structure Deed where
 reads:List Str
 writes:List Str
 code:List Ins
 deriving DecidableEq
structure Done where
 failed:Bool
 r0:Int
 r1:Int
 r2:Int
 r3:Int
 deriving DecidableEq
structure Engine where
 chains:List Chain
 deeds:List Deed
 state:List Int
 ends:List Done
 base:Int
 deriving DecidableEq
def Pair.enc (p:Pair):List D:=[dstr p.key,dint p.n]
def Version.enc (v:Version):List D:=[dint v.by_,dbool v.made,dbool v.has,dint v.n]
def encVs (l:List Version):D := .sl 4 (l.map Version.enc)
def Chain.enc (c:Chain):List D:=[dstr c.key,encVs c.vs]
def Ins.enc (i:Ins):List D:=[dint i.kind,dint i.a,dint i.b,dint i.n,dstr i.key]
def encStr1 (s:Str):List D:=[dstr s]
def encInt1 (n:Int):List D:=[dint n]
def encStrs (l:List Str):D := .sl 1 (l.map encStr1)
def encInts (l:List Int):D := .sl 1 (l.map encInt1)
def encCode (l:List Ins):D := .sl 5 (l.map Ins.enc)
def Deed.enc (d:Deed):List D:=[encStrs d.reads,encStrs d.writes,encCode d.code]
def Done.enc (d:Done):List D:=[dbool d.failed,dint d.r0,dint d.r1,dint d.r2,dint d.r3]
def encRows (l:List Pair):D := .sl 2 (l.map Pair.enc)
def encChains (l:List Chain):D := .sl 2 (l.map Chain.enc)
def encDeeds (l:List Deed):D := .sl 3 (l.map Deed.enc)
def encEnds (l:List Done):D := .sl 5 (l.map Done.enc)
def Engine.enc (e:Engine):List D:=[encChains e.chains,encDeeds e.deeds,encInts e.state,encEnds e.ends,dint e.base]
def Engine.enc0 (_e:Engine):List D:=[.v nilS,.v nilS,.v nilS,.v nilS,dint 0]
theorem dle_int {n m:Int}(h:n=m):DLe (dint n) (dint m):=by rw[h];exact .refl _
theorem dle_bool {n m:Bool}(h:n=m):DLe (dbool n) (dbool m):=by rw[h];exact .refl _
theorem dle_eq {x y:D}(h:x=y):DLe x y:=by rw[h];exact .refl _
inductive DLes:List D→List D→Prop
 |nil:DLes [] []
 |cons {x y:D} {xs ys:List D} (h:DLe x y) (hr:DLes xs ys):DLes (x::xs) (y::ys)
theorem DLes.at {a b:List D}(h:DLes a b):a.length=b.length∧∀ (j:Nat) (x y:D),a[j]? = some x→b[j]? = some y→DLe x y:=by
 induction h with
 |nil=>exact⟨rfl,fun j x y h=>by simp at h⟩
 |cons h hr ih =>
  refine⟨by simp[ih.1],fun j x y hx hy=>?_⟩
  cases j with
  |zero=>simp at hx hy;subst hx hy;exact h
  |succ j=>exact ih.2 j x y (by simpa using hx) (by simpa using hy)
theorem DLes.agg {a b:List D}(h:DLes a b):DLe (.agg a) (.agg b) := .agg a b h.at.1 h.at.2
theorem dle_nil (k:Nat):DLe (.v nilS) (.sl k []) := .nil k
theorem idx_map {α:Type}{l:List α}{f:α→List D}{k:Nat}{x:α}(h:l[k]? = some x):idx (l.map f) (k:Int)=some (f x):=by
 simp[idx,List.getElem?_map,h]
end Go.RF
namespace Go.AX
open Go.RowKit Go.WideShapes Go.ChangeShapes
section
variable {H:Type}{enc:TypeId×Value→H}{P:Program}
theorem post_of_below {f:Func}{s:ChangeSpec}{apart fresh handsOn again:Bool}{W W':World}{args:Array Value}{v:Value}{ds gs:List (DataW H)}{before pa pv:List MemPlace}
  (hW:DataW.Whole enc P f.params.toList s.vars apart W args.toList ds gs before)
  (hres:∀ (b:Nat) (sp:Nat→Bool) (hd:Bool),DataW.TrodAll enc P W' b sp hd f.resultTypes.toList (v.resultList f.resultTypes.size) (s.fn H (ds++gs)).results [])
  (hargs:∀ sp:Nat→Bool,(∀ p∈before,sp p.block=true)→DataW.TrodAll enc P W' 0 sp true f.params.toList args.toList (s.fn H (ds++gs)).args pa)
  (hvars:∀ sp:Nat→Bool,(∀ p∈before,sp p.block=true)→DataW.TrodVars enc P W' sp s.vars (s.fn H (ds++gs)).vars pv)
  (hps:before=pa++pv) (hb:Below W.heap.size W W')
  (hok:∀ (j:Nat) (t:TypeId) (r:Value),f.resultTypes[j]? = some t→(v.resultList f.resultTypes.size)[j]? = some r→Value.okWide P W' .any 0 t r) :
  s.post enc P f apart fresh handsOn again W args v W':=by
 have hlt:∀ p∈before,p.block < W.heap.size:=fun p hp=>hW.lt p hp
 have hold:∀ p∈before,(fun b=>decide (b < W.heap.size)) p.block=true:=fun p hp=>by simpa using hlt p hp
 refine⟨ds,gs,before,[],pa,pv,hW,hres _ _ _,hargs _ hold,hvars _ hold,World.keptBut_mono (fun p hp=>⟨hp,?_⟩) (hb.frame (· ∈ before)),fun _=>?_⟩
 ·
  rw[hps,List.mem_append]at hp
  exact Or.inr hp
 ·
  obtain⟨_,_,_,_,_,hz,hn⟩:=hW
  refine⟨hok,_,_,([]++pa)++pv,⟨[]++pa,pv,trodAll_append (hargs _ (fun _ _=>rfl)) (hres _ _ _),hvars _ (fun _ _=>rfl),rfl,?_,?_⟩,?_⟩
  ·
   intro b off hp
   have hin:MemPlace.cell b off∈before:=by rw[hps];simpa using hp
   rw[hb.frozen (hlt _ hin)]
   exact hz b off hin
  ·
   intro ha
   have:=hn ha
   rw[hps]at this
   simpa using this
  ·
   intro p hp _
   rw[hps]
   simpa using hp
end
theorem FnOk.bool {P:Program}{f:FuncId}{args:List Arg}{b:Bool}(h:FnOk P f args (.one (.v (.bool b)))) {w:World}{vs:List Value}(hgl:Gl P w) (ha:ArgsOk w (fun _=>False) vs args) :
  Calls P f vs.toArray w fun e w'=>e = .returned (.bool b)∧Below w.heap.size w w' :=
 (h.calls w (fun _=>False) vs ⟨fun _ h=>h.elim,hgl⟩ ha).mono fun _ _ ⟨v,h1,h2,h3⟩=>⟨by rw[h1,rd_v h3],h2⟩
end Go.AX
namespace Go.Proofs.YtfpkamiobdkcpaaGreatDoor
open Go.AX Go.RF Go.RowKit Go.ChangeShapes Go.WideShapes Go.Deep
inductive Sh where
 |num (k:IntKind)
 |str
 |bool
 |sl (fs:List Sh)
mutual
inductive Fits:Sh→Nat→D→Prop
 |num (k:IntKind) (n:Int) (m:Nat) (h:(Lit.int k n).wf=true):Fits (.num k) m (.v (.int k n))
 |str (s:Str) (m:Nat) (h:s.length≤m):Fits .str m (dstr s)
 |bool (b:Bool) (m:Nat):Fits .bool m (dbool b)
 |sl (fs:List Sh) (m:Nat) (rows:List (List D)) (h:FitsR fs m rows):Fits (.sl fs) m (.sl fs.length rows)
inductive FitsL:List Sh→Nat→List D→Prop
 |nil (m:Nat):FitsL [] m []
 |cons {s:Sh} {a b m:Nat} {d:D} {ss:List Sh} {ds:List D} (h:Fits s a d) (hr:FitsL ss b ds) (hm:a+b≤m):FitsL (s::ss) m (d::ds)
inductive FitsR:List Sh→Nat→List (List D)→Prop
 |nil (fs:List Sh) (m:Nat):FitsR fs m []
 |cons {fs:List Sh} {a b m:Nat} {r:List D} {rows:List (List D)} (h:FitsL fs a r) (hr:FitsR fs b rows) (hm:a+b+1≤m):FitsR fs m (r::rows)
end
mutual
inductive TySh (P:Program):TypeId→List Sh→Prop
 |num {t:TypeId} {k:IntKind} (h:P.underlying t=some (.int k)):TySh P t [.num k]
 |str {t:TypeId} (h:P.underlying t=some .string):TySh P t [.str]
 |bool {t:TypeId} (h:P.underlying t=some .bool):TySh P t [.bool]
 |sl {t e:TypeId} {fs:List Sh} (h:P.underlying t=some (.slice e)) (hk:P.cellsOf e=fs.length) (h0:0 < fs.length) (he:TySh P e fs):TySh P t [.sl fs]
 |arr {t e:TypeId} {n:Nat} {fs:List Sh} (h:P.underlying t=some (.array n e)) (hC:P.cellsOf t=n*fs.length) (hk:P.cellsOf e=fs.length) (he:TySh P e fs):TySh P t (List.replicate n fs).flatten
 |st {t:TypeId} {fs:Array Field} {ss:List Sh} (h:P.underlying t=some (.struct fs)) (hC:P.cellsOf t=ss.length) (hf:TyFs P fs.toList 0 ss):TySh P t ss
inductive TyFs (P:Program):List Field→Nat→List Sh→Prop
 |nil (o:Nat):TyFs P [] o []
 |cons {f:Field} {r:List Field} {o n:Nat} {s ss:List Sh} (ho:f.offset=o) (hc:P.cellsOf f.type=s.length) (hn:n=o+s.length) (ht:TySh P f.type s) (hr:TyFs P r n ss):TyFs P (f::r) o (s++ss)
end
theorem FitsL.mono {ss:List Sh}{m n:Nat}{ds:List D}(h:FitsL ss m ds) (hm:m≤n):FitsL ss n ds:=by
 cases h with
 |nil=>exact .nil _
 |cons h1 h2 h3=>exact .cons h1 h2 (by omega)
theorem FitsL.append:∀ {ss ts:List Sh}{a b m:Nat}{ds es:List D},FitsL ss a ds→FitsL ts b es→a+b≤m→FitsL (ss++ts) m (ds++es)
 | [],ts,a,b,m,ds,es,h,h',hm=>by cases h;exact h'.mono (by omega)
 |s::ss,ts,a,b,m,ds,es,h,h',hm=>by
  cases h with
  |cons h1 h2 h3=>exact .cons h1 (h2.append (m:=_) h' (Nat.le_refl _)) (by omega)
theorem FitsL.len:∀ {ss:List Sh}{m:Nat}{ds:List D},FitsL ss m ds→ds.length=ss.length
 | [],m,ds,h=>by cases h;rfl
 |s::ss,m,ds,h=>by
  cases h with
  |cons h1 h2 h3=>simp[h2.len]
theorem FitsR.row {fs:List Sh}:∀ {rows:List (List D)}{m:Nat},FitsR fs m rows→∀ r∈rows,r.length=fs.length
 | [],m,h,r,hr=>by simp at hr
 |x::rows,m,h,r,hr=>by
  cases h with
  |cons h1 h2 h3 =>
   rcases List.mem_cons.1 hr with rfl|hr
   ·
    exact h1.len
   ·
    exact h2.row r hr
theorem FitsR.mono {fs:List Sh}{m n:Nat}{rows:List (List D)}(h:FitsR fs m rows) (hm:m≤n):FitsR fs n rows:=by
 cases h with
 |nil=>exact .nil _ _
 |cons h1 h2 h3=>exact .cons h1 h2 (by omega)
section
variable {H:Type}{enc:TypeId×Value→H}{P:Program}{w:World}
theorem bulk_append (l r:List (DataW H)):Rows.uptoBulkAll (l++r)=Rows.uptoBulkAll l+Rows.uptoBulkAll r:=by
 induction l with
 |nil=>simp[Rows.uptoBulkAll]
 |cons x l ih=>simp only[List.cons_append,Rows.uptoBulkAll,ih];omega
theorem fitsR_of {fs:List Sh}{ι:Type}{D0:ι→DataW H}{f:ι→List D}:∀ {l:List ι},(∀ i∈l,FitsL fs (Rows.uptoBulk (D0 i) - 1) (f i)∧1≤Rows.uptoBulk (D0 i))→FitsR fs (Rows.uptoBulkAll (l.map D0)) (l.map f)
 | [],_ => .nil _ _
 |i::l,h=>by
  have h1:=h i (List.mem_cons_self ..)
  refine .cons h1.1 (fitsR_of fun j hj=>h j (List.mem_cons_of_mem _ hj)) ?_
  simp only[List.map_cons,Rows.uptoBulkAll]
  omega
theorem one_le (d:DataW H):1≤Rows.uptoBulk d:=by
 cases d with
 |lit l=>cases l <;> simp[Rows.uptoBulk]
 |nil=>simp[Rows.uptoBulk]
 |ptr d=>simp[Rows.uptoBulk]
 |slice elems spare=>simp[Rows.uptoBulk]
 |agg parts=>simp[Rows.uptoBulk]
 |iface t d=>simp[Rows.uptoBulk]
 |map entries=>simp[Rows.uptoBulk]
 |held h=>simp[Rows.uptoBulk]
def RdL (w:World) (own:Nat→Prop) (cs:List Value) (ds:List D):Prop :=
 cs.length=ds.length∧∀ (j:Nat) (c:Value) (d:D),cs[j]? = some c→ds[j]? = some d→c.oneCell'=true∧Rd w own c d
theorem RdL.one {own:Nat→Prop}{c:Value}{d:D}(h1:c.oneCell'=true) (h:Rd w own c d):RdL w own [c] [d]:=by
 refine⟨rfl,fun j c' d' hc hd=>?_⟩
 cases j with
 |zero=>simp at hc hd;subst hc hd;exact⟨h1,h⟩
 |succ j=>simp at hc
theorem RdL.append {own:Nat→Prop}{a b:List Value}{x y:List D}(h:RdL w own a x) (h':RdL w own b y):RdL w own (a++b) (x++y):=by
 refine⟨by simp[h.1,h'.1],fun j c d hc hd=>?_⟩
 rcases Nat.lt_or_ge j a.length with hj|hj
 ·
  rw[List.getElem?_append_left hj]at hc
  rw[List.getElem?_append_left (by rw[← h.1];exact hj)]at hd
  exact h.2 j c d hc hd
 ·
  rw[List.getElem?_append_right hj]at hc
  rw[List.getElem?_append_right (by rw[← h.1];exact hj),← h.1]at hd
  exact h'.2 _ c d hc hd
abbrev noOwn:Nat→Prop:=fun _=>False
theorem block_lt {a:Addr}{c:Value}(h:w.cell? (a.add 0)=some c):a.block < w.heap.size:=by
 rcases Nat.lt_or_ge a.block w.heap.size with hlt|hge
 ·
  exact hlt
 ·
  exfalso
  have:w.heap[a.block]? = none:=Array.getElem?_eq_none hge
  simp[World.cell?,add_zero,this]at h
theorem open_fields {n:Nat}(ih:∀ {t:TypeId}{ss:List Sh}{cs:List Value}{x:DataW H×List MemPlace},TySh P t ss→DataW.trod enc P w 0 (fun _=>true) true n t cs=some x →
   ∃ ds:List D,RdL w noOwn cs ds∧FitsL ss (Rows.uptoBulk x.1 - 1) ds):∀ {fs:List Field} {o:Nat} {ss:List Sh} {cs:List Value} {xs:List (DataW H×List MemPlace)},TyFs P fs o ss→xs.length=fs.length →
  (∀ (i:Nat) (f:Field),fs[i]? = some f→DataW.trod enc P w 0 (fun _=>true) true n f.type ((cs.drop f.offset).take (P.cellsOf f.type))=xs[i]?)→cs.length=o+ss.length →
  ∃ ds:List D,RdL w noOwn (cs.drop o) ds∧FitsL ss (Rows.uptoBulkAll (xs.map (·.1))) ds
 | [],o,ss,cs,xs,hT,hl,hat,hc=>by
  cases hT
  refine⟨[],⟨by simp;simp at hc;omega,fun j c d _ hd=>by simp at hd⟩,.nil _⟩
 |f::r,o,ss,cs,xs,hT,hl,hat,hc=>by
  cases hT with
  |@cons _ _ _ n' s ss' ho hcc hn ht hr =>
   cases xs with
   |nil=>simp at hl
   |cons x xs =>
    have h0:=hat 0 f rfl
    rw[List.getElem?_cons_zero,ho,hcc]at h0
    obtain⟨ds,h1,h2⟩:=ih ht h0
    rw[List.length_append]at hc
    obtain⟨es,h3,h4⟩:=open_fields ih (cs:=cs) hr (by simpa using hl) (fun i g hg=>by simpa using hat (i+1) g hg) (by omega)
    refine⟨ds++es,?_,h2.append h4 ?_⟩
    ·
     have:=h1.append h3
     rw[hn,← List.drop_drop,List.take_append_drop]at this
     exact this
    ·
     simp only[List.map_cons,Rows.uptoBulkAll];omega
theorem open_elems {n N:Nat}{e:TypeId}{fs:List Sh}(ih:∀ {cs:List Value}{x:DataW H×List MemPlace},DataW.trod enc P w 0 (fun _=>true) true n e cs=some x →
   ∃ ds:List D,RdL w noOwn cs ds∧FitsL fs (Rows.uptoBulk x.1 - 1) ds) {cs:List Value} {xs:List (DataW H×List MemPlace)} (hk:P.cellsOf e=fs.length) (hl:xs.length=N)
  (hat:∀ (i:Nat),i < N→DataW.trod enc P w 0 (fun _=>true) true n e ((cs.drop (i*P.cellsOf e)).take (P.cellsOf e))=xs[i]?):∀ (m:Nat),m≤N →
  ∃ ds:List D,RdL w noOwn (cs.take (m*fs.length)) ds∧FitsL (List.replicate m fs).flatten (Rows.uptoBulkAll ((xs.take m).map (·.1))) ds
 |0,_=>⟨[],⟨by simp,fun j c d _ hd=>by simp at hd⟩,.nil _⟩
 |m+1,hm=>by
  obtain⟨ds,h1,h2⟩:=open_elems ih hk hl hat m (by omega)
  have hx:xs[m]? = some (xs[m]'(by omega)):=List.getElem?_eq_getElem (by omega)
  have h0:=hat m (by omega)
  rw[hx,hk]at h0
  obtain⟨es,h3,h4⟩:=ih h0
  refine⟨ds++es,?_,?_⟩
  ·
   have:=h1.append h3
   rwa [← List.take_add,show m*fs.length+fs.length=(m+1)*fs.length by rw[Nat.add_mul,Nat.one_mul]]at this
  ·
   rw[List.replicate_succ',List.flatten_append,List.take_add_one,hx,List.map_append,bulk_append]
   have h5:=one_le (xs[m]'(by omega)).1
   have:=h2.append (m:=Rows.uptoBulkAll ((xs.take m).map (·.1))+Rows.uptoBulkAll [(xs[m]'(by omega)).1]) h4 (by simp only[Rows.uptoBulkAll];omega)
   simpa using this
theorem open_cells:∀ (n:Nat) {t:TypeId}{ss:List Sh}{cs:List Value}{x:DataW H×List MemPlace},TySh P t ss→DataW.trod enc P w 0 (fun _=>true) true n t cs=some x →
  ∃ ds:List D,RdL w noOwn cs ds∧FitsL ss (Rows.uptoBulk x.1 - 1) ds
 |0,t,ss,cs,x,_,h=>by simp[DataW.trod]at h
 |n+1,t,ss,cs,x,hT,h=>by
  cases hT with
  |num ht =>
   obtain⟨v,rfl,rfl,hw⟩:=DataW.trod_int ht h
   exact⟨[.v (.int _ v)],.one (by simp[Value.oneCell']) (.v _),.cons (a:=0) (b:=0) (.num _ v _ hw) (.nil _) (by omega)⟩
  |str ht =>
   obtain⟨s,rfl,rfl,hm⟩:=DataW.trod_string ht h
   refine⟨[dstr s.data.toList],.one (by simp[Value.oneCell']) (.v _),.cons (a:=s.data.toList.length) (b:=0) (.str _ _ (Nat.le_refl _)) (.nil _) ?_⟩
   simp[Rows.uptoBulk]
  |bool ht =>
   obtain⟨v,rfl,rfl⟩:=DataW.trod_bool ht h
   exact⟨[dbool v],.one (by simp[Value.oneCell']) (.v _),.cons (a:=0) (b:=0) (.bool v _) (.nil _) (by omega)⟩
  |@sl _ e fs ht hk h0 he =>
   rcases DataW.trod_slice ht h with ⟨rfl,rfl⟩|⟨a,len,cap,elems,rest,n',hn,rfl,rfl,hb,hl,hm,hlen,hel,_,_⟩
   ·
    exact⟨[.sl fs.length []],.one (by simp[Value.oneCell']) (.nil none 0 _),.cons (a:=0) (b:=0) (.sl fs 0 [] (.nil _ _)) (.nil _) (by omega)⟩
   ·
    obtain rfl:n=n':=by omega
    obtain⟨D0,hD0⟩:∃ D0:Nat→DataW H,D0=fun i=>(elems.getD i (.nil,[])).1:=⟨_,rfl⟩
    have hmap:elems.map (·.1)=(List.range len).map D0:=by rw[hD0,← hlen];exact map_by_index elems (.nil,[]) (·.1)
    rw[hmap]
    obtain⟨F,hF⟩:=choose_lt (α:=List Value×List D) (n:=len) (p:=fun i y=>w.cells? 0 (a.add (i*P.cellsOf e)) (P.cellsOf e)=some y.1∧RdL w noOwn y.1 y.2∧FitsL fs (Rows.uptoBulk (D0 i) - 1) y.2) fun i hil=>by
     have hei:elems[i]? = some (elems[i]'(by omega)):=List.getElem?_eq_getElem (by omega)
     have h0:=hel i hil
     rw[hei]at h0
     obtain⟨cs',h1,h2⟩:=Option.bind_eq_some_iff.1 h0
     obtain⟨ds,h3,h4⟩:=open_cells n he h2
     have hDi:D0 i=(elems[i]'(by omega)).1:=by rw[hD0];simp[List.getD,hei]
     rw[← hDi]at h4
     exact⟨(cs',ds),h1,h3,h4⟩
    have hx:∀ i,i < len→(F i).1.length=fs.length∧(F i).2.length=fs.length∧∀ j c,(F i).1[j]? = some c→w.cell? (a.add (i*fs.length+j))=some c:=fun i hil=>by
     obtain⟨h1,h2,h3⟩:=hF i hil
     obtain⟨_,hlen,hat⟩:=World.cells?_some h1
     rw[hk]at hlen hat
     refine⟨hlen,by rw[← h2.1,hlen],fun j c hj=>?_⟩
     rw[← AX.add_add,hat j (by rw[← hlen];exact(List.getElem?_eq_some_iff.1 hj).1)]
     exact hj
    have hrow:∀ i r,((List.range len).map fun i=>(F i).2)[i]? = some r→i < len∧r=(F i).2:=fun i r hir=>by
     obtain⟨hi1,hi2⟩:=List.getElem?_eq_some_iff.1 hir
     simp at hi1 hi2
     exact⟨hi1,hi2.symm⟩
    refine⟨[.sl fs.length ((List.range len).map fun i=>(F i).2)],.one (by simp[Value.oneCell']) ?_,.cons (a:=Rows.uptoBulkAll ((List.range len).map D0)) (b:=0) (.sl fs _ _ (fitsR_of fun i hir=>⟨(hF i (by simpa using hir)).2.2,one_le _⟩)) (.nil _) ?_⟩
    ·
     rcases Nat.eq_zero_or_pos len with rfl|hlen
     ·
      exact .nil _ _ _
     ·
      have hpos:=(hx 0 hlen)
      have hcell:∃ c,w.cell? (a.add 0)=some c:=by
       have h1:0 < (F 0).1.length:=by rw[hpos.1];exact h0
       exact⟨_,by simpa using hpos.2.2 0 _ (List.getElem?_eq_getElem h1)⟩
      have hsz:a.block < w.heap.size:=by
       obtain⟨c,hc⟩:=hcell
       exact block_lt hc
      have key:=Rd.sl (w:=w) (own:=noOwn) a cap fs.length ((List.range len).map fun i=>(F i).2) (fun i j=>((F i).1[j]?).getD undef) (fun h=>h) hsz (by simpa using hl)
       (fun r hr=>by
        obtain⟨i,hi2,rfl⟩:=List.mem_map.1 hr
        exact(hx i (by simpa using hi2)).2.1)
       (fun i j r d hr hd=>by
        obtain⟨hil,rfl⟩:=hrow i r hr
        obtain⟨h1,h2,h3⟩:=hx i hil
        have hj:j < (F i).1.length:=by rw[h1,← h2];exact(List.getElem?_eq_some_iff.1 hd).1
        rw[List.getElem?_eq_getElem hj]
        exact h3 j _ (List.getElem?_eq_getElem hj))
       (fun i j r d hr hd=>by
        obtain⟨hil,rfl⟩:=hrow i r hr
        obtain⟨h1,h2,h3⟩:=hx i hil
        have hj:j < (F i).1.length:=by rw[h1,← h2];exact(List.getElem?_eq_some_iff.1 hd).1
        rw[List.getElem?_eq_getElem hj]
        exact((hF i hil).2.1.2 j _ d (List.getElem?_eq_getElem hj) hd).1)
       (fun i j r d hr hd=>by
        obtain⟨hil,rfl⟩:=hrow i r hr
        obtain⟨h1,h2,h3⟩:=hx i hil
        have hj:j < (F i).1.length:=by rw[h1,← h2];exact(List.getElem?_eq_some_iff.1 hd).1
        rw[List.getElem?_eq_getElem hj]
        exact((hF i hil).2.1.2 j _ d (List.getElem?_eq_getElem hj) hd).2)
      simpa using key
    ·
     simp only[Rows.uptoBulk];omega
  |@arr _ e m fs ht hC hk he =>
   obtain⟨xs,n',hn,rfl,hcl,hxl,hat⟩:=DataW.trod_array ht h
   obtain rfl:n=n':=by omega
   obtain⟨ds,h1,h2⟩:=open_elems (N:=m) (fun {cs x} h=>open_cells n he h) hk hxl hat m (Nat.le_refl _)
   rw[List.take_of_length_le (by rw[hcl,hC];exact Nat.le_refl _)]at h1
   rw[List.take_of_length_le (by omega)]at h2
   exact⟨ds,h1,h2.mono (by simp only[Rows.uptoBulk];omega)⟩
  |@st _ fs _ ht hC hf =>
   obtain⟨xs,n',hn,rfl,hcl,hxl,hat⟩:=DataW.trod_struct ht h
   obtain rfl:n=n':=by omega
   obtain⟨ds,h1,h2⟩:=open_fields (fun {t ss cs x} hT h=>open_cells n hT h) hf (by simpa using hxl) (fun i f hi=>hat i f (by simpa using hi)) (by omega)
   exact⟨ds,by simpa using h1,h2.mono (by simp only[Rows.uptoBulk];omega)⟩
end
end Go.Proofs.YtfpkamiobdkcpaaGreatDoor
namespace Go.Proofs.YtfpkamiobdkcpaaGreatDoor
open Go.AX Go.RF Go.RowKit Go.ChangeShapes Go.WideShapes Go.Deep
inductive PS where
 |one (s:Sh)
 |st (ss:List Sh)
def isSt (P:Program) (t:TypeId):Bool:=match P.underlying t with
 |some (.struct _)=>true
 |_=>false
def isOne (P:Program) (t:TypeId):Bool:=match P.underlying t with
 |some (.int _)=>true
 |some .string=>true
 |some .bool=>true
 |some (.slice _)=>true
 |_=>false
inductive TyPs (P:Program):List TypeId→List PS→Prop
 |nil:TyPs P [] []
 |one {t:TypeId} {s:Sh} {ts:List TypeId} {ps:List PS} (h:TySh P t [s]) (hn:isOne P t=true) (hr:TyPs P ts ps):TyPs P (t::ts) (.one s::ps)
 |st {t:TypeId} {ss:List Sh} {ts:List TypeId} {ps:List PS} (h:TySh P t ss) (hn:isSt P t=true) (hr:TyPs P ts ps):TyPs P (t::ts) (.st ss::ps)
inductive FitsPs:List PS→Nat→List D→Prop
 |nil (m:Nat):FitsPs [] m []
 |one {s:Sh} {a b m:Nat} {d:D} {ps:List PS} {ds:List D} (h:Fits s a d) (hr:FitsPs ps b ds) (hm:a+b≤m):FitsPs (.one s::ps) m (d::ds)
 |st {ss:List Sh} {a b m:Nat} {es:List D} {ps:List PS} {ds:List D} (h:FitsL ss a es) (hr:FitsPs ps b ds) (hm:a+b≤m):FitsPs (.st ss::ps) m (.agg es::ds)
def fldsB (P:Program) (ty:TypeId→Option (List Sh)):List Field→Nat→Option (List Sh)
 | [],_=>some []
 |f::r,o=>match ty f.type with
  |some s=>match Nat.beq f.offset o&&Nat.beq (P.cellsOf f.type) s.length with
   |true=>match fldsB P ty r (o+s.length) with
    |some ss=>some (s++ss)
    |none=>none
   |false=>none
  |none=>none
def tyB (P:Program):Nat→TypeId→Option (List Sh)
 |0,_=>none
 |n+1,t=>match P.underlying t with
  |some (.int k)=>some [.num k]
  |some .string=>some [.str]
  |some .bool=>some [.bool]
  |some (.slice e)=>match tyB P n e with
   |some fs=>match Nat.beq (P.cellsOf e) fs.length&&Nat.blt 0 fs.length with
    |true=>some [.sl fs]
    |false=>none
   |none=>none
  |some (.struct fs)=>match fldsB P (tyB P n) fs.toList 0 with
   |some ss=>match Nat.beq (P.cellsOf t) ss.length with
    |true=>some ss
    |false=>none
   |none=>none
  |some (.array m e)=>match tyB P n e with
   |some fs=>match Nat.beq (P.cellsOf t) (m*fs.length)&&Nat.beq (P.cellsOf e) fs.length with
    |true=>some (List.replicate m fs).flatten
    |false=>none
   |none=>none
  |_=>none
def parB (P:Program):List TypeId→Option (List PS)
 | []=>some []
 |t::ts=>match tyB P 9 t with
  |some ss=>match parB P ts with
   |some ps=>match isSt P t with
    |true=>some (.st ss::ps)
    |false=>match isOne P t with
     |true=>(match ss with
      | [s]=>some (.one s::ps)
      |_=>none)
     |false=>none
   |none=>none
  |none=>none
theorem fldsB_ok {P:Program}{ty:TypeId→Option (List Sh)}(hty:∀ t ss,ty t=some ss→TySh P t ss):∀ {fs:List Field}{o:Nat}{ss:List Sh},fldsB P ty fs o=some ss→TyFs P fs o ss
 | [],o,ss,h=>by cases h;exact .nil _
 |f::r,o,ss,h=>by
  simp only[fldsB]at h
  split at h
  ·
   next s hs =>
   split at h
   ·
    next hb =>
    split at h
    ·
     next ss' hr =>
     cases h
     simp only[Bool.and_eq_true,Nat.beq_eq]at hb
     exact .cons hb.1 hb.2 rfl (hty _ _ hs) (fldsB_ok hty hr)
    ·
     cases h
   ·
    cases h
  ·
   cases h
theorem tyB_ok {P:Program}:∀ {n:Nat}{t:TypeId}{ss:List Sh},tyB P n t=some ss→TySh P t ss
 |0,t,ss,h=>by cases h
 |n+1,t,ss,h=>by
  simp only[tyB]at h
  split at h
  ·
   next k hu=>cases h;exact .num hu
  ·
   next hu=>cases h;exact .str hu
  ·
   next hu=>cases h;exact .bool hu
  ·
   next e hu =>
   split at h
   ·
    next fs hf =>
    split at h
    ·
     next hb =>
     cases h
     simp only[Bool.and_eq_true,Nat.beq_eq]at hb
     exact .sl hu hb.1 (by simpa[Nat.blt_eq] using hb.2) (tyB_ok hf)
    ·
     cases h
   ·
    cases h
  ·
   next fs hu =>
   split at h
   ·
    next ss' hf =>
    split at h
    ·
     next hb=>cases h;exact .st hu (by simpa using hb) (fldsB_ok (fun t ss h=>tyB_ok h) hf)
    ·
     cases h
   ·
    cases h
  ·
   next m e hu =>
   split at h
   ·
    next fs hf =>
    split at h
    ·
     next hb =>
     cases h
     simp only[Bool.and_eq_true,Nat.beq_eq]at hb
     exact .arr hu hb.1 hb.2 (tyB_ok hf)
    ·
     cases h
   ·
    cases h
  ·
   cases h
theorem parB_ok {P:Program}:∀ {ts:List TypeId}{ps:List PS},parB P ts=some ps→TyPs P ts ps
 | [],ps,h=>by cases h;exact .nil
 |t::ts,ps,h=>by
  simp only[parB]at h
  split at h
  ·
   next ss hs =>
   split at h
   ·
    next ps' hp =>
    split at h
    ·
     next hi=>cases h;exact .st (tyB_ok hs) hi (parB_ok hp)
    ·
     split at h
     ·
      next hi =>
      split at h
      ·
       next s=>cases h;exact .one (tyB_ok hs) hi (parB_ok hp)
      ·
       cases h
     ·
      cases h
   ·
    cases h
  ·
   cases h
theorem FitsPs.mono {ps:List PS}{m n:Nat}{xs:List D}(h:FitsPs ps m xs) (hm:m≤n):FitsPs ps n xs:=by
 cases h with
 |nil=>exact .nil _
 |one h1 h2 h3=>exact .one h1 h2 (by omega)
 |st h1 h2 h3=>exact .st h1 h2 (by omega)
theorem Fits.mono' {s:Sh}{m n:Nat}{d:D}(h:Fits s m d) (hm:m≤n):Fits s n d:=by
 cases h with
 |num k v m h=>exact .num k v n h
 |str s m h=>exact .str s n (by omega)
 |bool b m=>exact .bool b n
 |sl fs m rows h=>exact .sl fs n rows (h.mono hm)
theorem fits_one {s:Sh}{ps:List PS}{m:Nat}{xs:List D}(h:FitsPs (.one s::ps) m xs):∃ d r,xs=d::r∧Fits s m d∧FitsPs ps m r:=by
 cases h with
 |one h1 h2 h3=>exact⟨_,_,rfl,h1.mono' (by omega),h2.mono (by omega)⟩
theorem fits_st {ss:List Sh}{ps:List PS}{m:Nat}{xs:List D}(h:FitsPs (.st ss::ps) m xs):∃ es r,xs = .agg es::r∧FitsL ss m es∧FitsPs ps m r:=by
 cases h with
 |st h1 h2 h3=>exact⟨_,_,rfl,h1.mono (by omega),h2.mono (by omega)⟩
theorem fits_nil {m:Nat}{xs:List D}(h:FitsPs [] m xs):xs=[]:=by
 cases h;rfl
section
variable {H:Type}{enc:TypeId×Value→H}{P:Program}{w:World}
theorem one_cell {t:TypeId}{s:Sh}{r:Reach}{b:Nat}{v:Value}(hT:TySh P t [s]) (hn:isOne P t=true) (hv:Value.okWide P w r b t v):v.cells.toList=[v]:=by
 generalize hs:[s]=ss at hT
 cases hT with
 |num h=>obtain⟨n,rfl⟩:=okWide_int h hv;rfl
 |str h=>obtain⟨n,rfl⟩:=okWide_string h hv;rfl
 |bool h=>obtain⟨n,rfl⟩:=okWide_bool h hv;rfl
 |sl h=>obtain⟨a,l,c,rfl⟩:=okWide_slice h hv;rfl
 |arr h=>simp[isOne,h]at hn
 |st h=>simp[isOne,h]at hn
theorem open_args {r:Reach}{b:Nat}:∀ {ts:List TypeId}{ps:List PS}{vs:List Value}{ds:List (DataW H)}{p:List MemPlace},TyPs P ts ps →
  (∀ (j:Nat) (t:TypeId) (v:Value),ts[j]? = some t→vs[j]? = some v→Value.okWide P w r b t v)→DataW.TrodAll enc P w 0 (fun _=>true) true ts vs ds p →
  ∃ xs:List D,ArgsOk w noOwn vs (xs.map Arg.d)∧FitsPs ps (Rows.uptoBulkAll ds) xs∧ds.length=ts.length
 | [],ps,vs,ds,p,hT,hv,h=>by
  cases hT
  obtain⟨rfl,rfl,rfl⟩:=trodAll_nil h
  exact⟨[],trivial,.nil _,rfl⟩
 |t::ts,ps,vs,ds,p,hT,hv,h=>by
  obtain⟨v,vs,d,ds,p,q,rfl,rfl,rfl,⟨n,h0⟩,hr⟩:=trodAll_cons h
  have hv0:=hv 0 t v rfl rfl
  have hvr:∀ (j:Nat) (t:TypeId) (v:Value),ts[j]? = some t→vs[j]? = some v→Value.okWide P w r b t v:=fun j t' v' h1 h2=>hv (j+1) t' v' (by simpa using h1) (by simpa using h2)
  have hb:=one_le d
  cases hT with
  |one hT hn hTr =>
   obtain⟨xs,h1,h2,h3⟩:=open_args hTr hvr hr
   rw[one_cell hT hn hv0]at h0
   obtain⟨es,⟨h4,h5⟩,h6⟩:=open_cells n hT h0
   cases h6 with
   |@cons _ a b _ e _ es h7 h8 h9 =>
    cases h8
    have h9':a+b≤Rows.uptoBulk d - 1:=h9
    exact⟨e::xs,⟨(h5 0 v e rfl rfl).2,h1⟩,.one h7 h2 (by simp only[Rows.uptoBulkAll];omega),by simp[h3]⟩
  |st hT hn hTr =>
   obtain⟨xs,h1,h2,h3⟩:=open_args hTr hvr hr
   obtain⟨es,h5,h6⟩:=open_cells n hT h0
   have h6':FitsL _ (Rows.uptoBulk d - 1) es:=h6
   have hs:∃ fs,P.underlying t=some (.struct fs):=by
    unfold isSt at hn
    split at hn
    ·
     exact⟨_,by assumption⟩
    ·
     cases hn
   obtain⟨fs,hs⟩:=hs
   obtain⟨cs,rfl,hsz⟩:=okWide_struct hs hv0
   refine⟨.agg es::xs,⟨.agg cs es ?_ (fun j c hj=>?_) fun j d c hd hc=>?_,h1⟩,.st h6' h2 (by simp only[Rows.uptoBulkAll];omega),by simp[h3]⟩
   ·
    simpa[Value.cells] using h5.1
   ·
    have hj':j < es.length:=by rw[← h5.1];simpa[Value.cells] using(Array.getElem?_eq_some_iff.1 hj).1
    exact(h5.2 j c _ (by simpa[Value.cells] using hj) (List.getElem?_eq_getElem hj')).1
   ·
    exact(h5.2 j c d (by simpa[Value.cells] using hc) hd).2
theorem again_args {W W':World}{sp:Nat→Bool}(hl:laidOutB P=true) (hb:Below W.heap.size W W'):∀ {ts:List TypeId}{vs:List Value}{ds:List (DataW H)}{p:List MemPlace},
  (∀ t∈ts,P.readableRec t=true∧t < P.types.size)→DataW.TrodAll enc P W 0 (fun _=>true) true ts vs ds p→(∀ x∈p,x.block < W.heap.size)→(∀ x∈p,sp x.block=true) →
  DataW.TrodAll enc P W' 0 sp true ts vs ds p
 | [],vs,ds,p,_,h,_,_=>by
  obtain⟨rfl,rfl,rfl⟩:=trodAll_nil h
  exact trodAll_mk0
 |t::ts,vs,ds,p,hr,h,hlt,hsp=>by
  obtain⟨v,vs,d,ds,p,q,rfl,rfl,rfl,h0,hq⟩:=trodAll_cons h
  have ht:=hr t (List.mem_cons_self ..)
  exact trodAll_cons_mk (WideElems.Trod_stays hl ht.1 ht.2 h0 (fun x hx=>hb.same (hlt x (List.mem_append_left _ hx))) fun x hx=>hsp x (List.mem_append_left _ hx))
   (again_args hl hb (fun t h=>hr t (List.mem_cons_of_mem _ h)) hq (fun x hx=>hlt x (List.mem_append_right _ hx)) fun x hx=>hsp x (List.mem_append_right _ hx))
end
theorem law_contract {H:Type}{enc:TypeId×Value→H}{P:Program}{f:FuncId}{fn:Func}{s:ChangeSpec}{tb:TypeId}{ps:List PS}
  (hT:TyPs P fn.params.toList ps) (hl:laidOutB P=true) (hread:fn.params.toList.all (fun t=>P.readableRec t&&decide (t < P.types.size))=true) (hvars:s.vars=[])
  (hres:fn.resultTypes = #[tb]) (htb:P.underlying tb=some .bool)
  (hfn:∀ ds:List (DataW H),ds.length=fn.params.toList.length→s.fn H ds={ results:=[.lit (.bool true)],args:=ds })
  (hlaw:∀ (xs:List D) (m:Nat),m≤1048576→FitsPs ps m xs→FnOk P f (xs.map Arg.d) (.one (dbool true)))
  (W:World) (base:Nat) (args:Array Value) (ds gs:List (DataW H)) (before:List MemPlace)
  (hval:∀ (j:Nat) t v,fn.params[j]? = some t→args[j]? = some v→Value.okWide P W .any base t v)
  (hW:DataW.Whole enc P fn.params.toList s.vars false W args.toList ds gs before) (hk:Rows.uptoSmall H (ds++gs)=true) (hgl:Gl P W) :
  Calls P f args W fun e W'=>∃ v,e = .returned v∧s.post enc P fn false true false false W args v W':=by
 have hW':=hW
 obtain⟨p,q,hA,hV,rfl,hfz,hnd⟩:=hW
 rw[hvars]at hV
 obtain⟨rfl,rfl⟩:=trodVars_none hV
 obtain⟨xs,h1,h2,h3⟩:=open_args hT (fun j t v ht hv=>hval j t v (by simpa using ht) (by simpa using hv)) hA
 rw[List.append_nil]at hk
 have hk':Rows.uptoBulkAll ds≤1048576:=of_decide_eq_true hk
 have hc:=hlaw xs _ hk' h2
 have key:=FnOk.bool hc (w:=W) (vs:=args.toList) hgl h1
 rw[Array.toArray_toList]at key
 refine key.mono fun e W' ⟨he,hg⟩=>?_
 subst he
 have hf:=hfn ds h3
 have hlt:∀ x∈p,x.block < W.heap.size:=fun x hx=>hW'.lt x (by simpa using hx)
 refine⟨_,rfl,Go.AX.post_of_below (pa:=p) (pv:=[]) hW' (fun _ _ _=>?_) (fun sp hsp=>?_) (fun _ _=>?_) rfl hg (ok_one hres rfl (okWide_bool_mk htb _))⟩
 ·
  rw[List.append_nil,hf,hres]
  exact trodAll_cons_mk (shut_bool htb _) trodAll_mk0
 ·
  rw[List.append_nil,hf]
  refine again_args hl hg (fun t ht=>?_) hA hlt fun x hx=>hsp x (by simpa using hx)
  have:=List.all_eq_true.1 hread t ht
  simpa using this
 ·
  rw[List.append_nil,hf,hvars]
  rfl
end Go.Proofs.YtfpkamiobdkcpaaGreatDoor
namespace Go.RF
def agree {α β:Type}(f:α→β→Bool):List α→List β→Nat
 |a::l,b::r=>match f a b with
  |true=>agree f l r+1
  |false=>0
 |_,_=>0
theorem agree_le {α β:Type}{f:α→β→Bool}:∀ {l:List α}{r:List β},agree f l r≤l.length
 | [],_=>by simp[agree]
 |a::l,[]=>by simp[agree]
 |a::l,b::r=>by
  have:=agree_le (f:=f) (l:=l) (r:=r)
  simp only[agree]
  split <;> simp <;> omega
theorem agree_lt {α β:Type}{f:α→β→Bool}:∀ {l:List α}{r:List β}{k:Nat},k < agree f l r→∃ a b,l[k]? = some a∧r[k]? = some b∧f a b=true
 | [],_,k,h=>by simp[agree]at h
 |a::l,[],k,h=>by simp[agree]at h
 |a::l,b::r,k,h=>by
  simp only[agree]at h
  split at h
  ·
   next hf =>
   cases k with
   |zero=>exact⟨a,b,rfl,rfl,hf⟩
   |succ k=>simpa using agree_lt (l:=l) (r:=r) (k:=k) (by omega)
  ·
   omega
theorem agree_at {α β:Type}{f:α→β→Bool}:∀ {l:List α}{r:List β}{a:α}{b:β},l[agree f l r]? = some a→r[agree f l r]? = some b→f a b=false
 | [],_,a,b,h,_=>by simp at h
 |a::l,[],x,y,_,h=>by simp at h
 |a::l,b::r,x,y,h,h'=>by
  simp only[agree]at h h'
  split at h
  ·
   next hf =>
   simp only[hf]at h'
   exact agree_at (l:=l) (r:=r) (by simpa using h) (by simpa using h')
  ·
   next hf=>simp only[hf]at h';simp at h h';subst h h';exact hf
def allB {α β:Type}(f:α→β→Bool):List α→List β→Bool
 | [],[]=>true
 |a::l,b::r=>f a b&&allB f l r
 |_,_=>false
theorem allB_agree {α β:Type}{f:α→β→Bool}:∀ {l:List α}{r:List β},l.length=r.length→(allB f l r=true↔agree f l r=l.length)
 | [],[],_=>by simp[allB,agree]
 | [],b::r,h=>by simp at h
 |a::l,[],h=>by simp at h
 |a::l,b::r,h=>by
  have ih:=allB_agree (f:=f) (l:=l) (r:=r) (by simpa using h)
  simp only[allB,agree,Bool.and_eq_true]
  split
  ·
   next hf=>simp[hf,ih]
  ·
   next hf=>simp[hf]
theorem allB_len {α β:Type}{f:α→β→Bool}:∀ {l:List α}{r:List β},allB f l r=true→l.length=r.length
 | [],[],_=>rfl
 | [],b::r,h=>by simp[allB]at h
 |a::l,[],h=>by simp[allB]at h
 |a::l,b::r,h=>by simp only[allB,Bool.and_eq_true]at h;simp[allB_len h.2]
theorem allB_eq {α:Type} [DecidableEq α] {f:α→α→Bool}(hf:∀ a b,f a b=decide (a=b)):∀ {l r:List α},allB f l r=decide (l=r)
 | [],[]=>by simp[allB]
 | [],b::r=>by simp[allB]
 |a::l,[]=>by simp[allB]
 |a::l,b::r=>by
  simp only[allB,hf,allB_eq hf (l:=l) (r:=r)]
  by_cases h1:a=b <;> by_cases h2:l=r <;> simp[h1,h2]
theorem agree_case {α β:Type}{f:α→β→Bool}{l:List α}{r:List β}(hl:l.length=r.length) {k:Nat}(hk:k≤agree f l r) :
  (k < agree f l r∧k < l.length∧∃ a b,l[k]? = some a∧r[k]? = some b∧f a b=true)∨(k=l.length∧allB f l r=true) ∨
   (k < l.length∧allB f l r=false∧∃ a b,l[k]? = some a∧r[k]? = some b∧f a b=false):=by
 rcases Nat.lt_or_ge k (agree f l r) with h|h
 ·
  exact .inl ⟨h,by have:=agree_le (f:=f) (l:=l) (r:=r);omega,agree_lt h⟩
 ·
  have he:k=agree f l r:=by omega
  have hle:=agree_le (f:=f) (l:=l) (r:=r)
  rcases Nat.lt_or_ge k l.length with h2|h2
  ·
   refine .inr (.inr ⟨h2,?_,l[k],r[k]'(by omega),List.getElem?_eq_getElem h2,List.getElem?_eq_getElem (by omega),?_⟩)
   ·
    cases hb:allB f l r
    ·
     rfl
    ·
     have:=(allB_agree hl).1 hb;omega
   ·
    exact agree_at (f:=f) (l:=l) (r:=r) (by rw[← he];exact List.getElem?_eq_getElem h2) (by rw[← he];exact List.getElem?_eq_getElem (by omega))
  ·
   exact .inr (.inl ⟨by omega,(allB_agree hl).2 (by omega)⟩)
end Go.RF
namespace Go.RF
open Go.AX
abbrev slt (a b:Str):Bool:=Go.Op.bytesLess a b
abbrev sle (a b:Str):Bool:=slt a b || decide (a=b)
def bad (c:UInt8):Bool:=decide ((c.toNat:Int) < 97) || decide ((122:Int) < (c.toNat:Int))
def keyGo (s:Str):Str→Bool
 | []=>decide (0 < s.length)&&decide (s.length < 7)
 |c::r=>if bad c then false else keyGo s r
def key (s:Str):Bool:=keyGo s s
def get (r:List Pair) (k:Str):Int×Bool:=match r with
 | []=>(0,false)
 |p::r=>if p.key=k then (p.n,true) else get r k
def isIn (l:List Str) (s:Str):Bool:=match l with
 | []=>false
 |x::l=>if x=s then true else isIn l s
def putGo (k:Str) (n:Int) (h:Bool):Bool→List Pair→List Pair→List Pair
 |done,out,[]=>if !done&&h then out++[⟨k,n⟩] else out
 |done,out,p::r =>
  let done':=done || !slt p.key k
  let out':=if !done && !slt p.key k&&h then out++[⟨k,n⟩] else out
  putGo k n h done' (if p.key=k then out' else out'++[p]) r
def put (r:List Pair) (k:Str) (n:Int) (h:Bool):List Pair:=putGo k n h false [] r
def round (n:Int):Int:=n - n.tdiv 1073741825*1073741825
def wrongRowsGo:Nat→Str→List Pair→Int
 |_,_,[]=>0
 |i,last,p::r=>if key p.key=false then 7 else if 0 < i∧sle p.key last=true then 2 else if 1073741824 < p.n∨p.n < -1073741824 then 3 else wrongRowsGo (i+1) p.key r
def wrongRows (r:List Pair):Int:=wrongRowsGo 0 [] r
def forms:List Str:=[[],[114,107],[114,110],[114,115],[114,115],[114,115],[114,107],[107],[114,110],[114]]
def form (k:Nat):Str:=forms.getD k []
def hasGo (c:UInt8):Str→Bool
 | []=>false
 |x::r=>if x=c then true else hasGo c r
def has (k:Nat) (c:UInt8):Bool:=hasGo c (form k)
def keysGo (l:List Str):Nat→List Str→Int
 |_,[]=>0
 |i,k::r=>if key k=false then 7 else if isIn (l.take i) k=true then 7 else keysGo l (i+1) r
def keysWrong (l:List Str):Int:=if 5 < l.length then 5 else keysGo l 0 l
def lsGo:List (List Str)→Int
 | []=>0
 |l::r=>if keysWrong l=0 then lsGo r else keysWrong l
def insA (k:Nat):Int:=if has k 114=true then 3 else 0
def insB (k:Nat):Int:=if has k 115=true then 3 else 0
def insLow (k:Nat):Int:=if k=2 then -1073741824 else if k=8 then 1 else 0
def insHigh (k:Nat) (m:Int):Int:=if k=2 then 1073741824 else if k=8 then m else 0
def insOut (k:Nat) (a b n m:Int):Bool:=decide (a < 0) || (decide (insA k < a) || (decide (b < 0) || (decide (insB k < b) || (decide (n < insLow k) || decide (insHigh k m < n)))))
def wrongIns (d:Deed) (m:Int) (i:Ins):Int :=
 if i.kind < 1∨9 < i.kind then 1
 else if insOut i.kind.toNat i.a i.b i.n m=true then 3
 else if has i.kind.toNat 107=false then (if i.key=[] then 0 else 2)
 else if isIn (if i.kind=1 then d.reads else d.writes) i.key=true then 0 else 9
def codeGo (d:Deed):Nat→List Ins→Int
 |_,[]=>0
 |k,i::r=>if wrongIns d ((d.code.length:Int) - 1 - k) i=0 then codeGo d (k+1) r else wrongIns d ((d.code.length:Int) - 1 - k) i
def wrongDeed (d:Deed):Int :=
 if lsGo [d.reads,d.writes]=0 then (if 12 < d.code.length then 5 else codeGo d 0 d.code) else lsGo [d.reads,d.writes]
structure Deed.Sm (d:Deed):Prop where
 r:d.reads.length≤268435456
 w:d.writes.length≤268435456
 c:d.code.length≤268435456
 rk:∀ s∈d.reads,s.length≤1073741824
 wk:∀ s∈d.writes,s.length≤1073741824
def right:List Deed→Bool
 | []=>true
 |d::r=>if wrongDeed d=0 then right r else false
def bvs (hit:Bool) (b:Int):Version→List Version→Version
 |out,[]=>out
 |out,v::r=>bvs hit b (if hit&&decide (v.by_ < b) then v else out) r
def beforeGo (k:Str) (b:Int):Version→List Chain→Version
 |out,[]=>out
 |out,c::r=>beforeGo k b (bvs (decide (c.key=k)) b out c.vs) r
def before (l:List Chain) (k:Str) (b:Int):Version:=beforeGo k b ⟨-1,true,false,0⟩ l
def rowsAtGo (l:List Chain) (b:Int):List Pair→List Chain→List Pair×Bool
 |out,[]=>(out,true)
 |out,c::r=>if (before l c.key b).made=false then ([],false) else if (before l c.key b).has=true then rowsAtGo l b (out++[⟨c.key,(before l c.key b).n⟩]) r else rowsAtGo l b out r
def rowsAt (l:List Chain) (b:Int):List Pair×Bool:=rowsAtGo l b [] l
def setV (hit:Bool) (v w:Version):Version:=if hit=true∧w.by_=v.by_ then v else w
def setC (k:Str) (v:Version) (c:Chain):Chain:=⟨c.key,c.vs.map (setV (decide (c.key=k)) v)⟩
def setChains (l:List Chain) (k:Str) (v:Version):List Chain:=l.map (setC k v)
def later (b:Int):List Version→Bool
 | []=>false
 |w::_=>decide (w.by_ < b)
def old (b:Int) (r:List Version) (v:Version):Bool:=(later b r&&decide (v.by_ < b)) || (decide (v.by_ < b)&&(v.made && !v.has))
def clrV (b:Int):List Version→List Version
 | []=>[]
 |v::r=>if old b r v=true then clrV b r else v::clrV b r
def clear (b:Int):List Chain→List Chain
 | []=>[]
 |c::r=>if clrV b c.vs=[] then clear b r else ⟨c.key,clrV b c.vs⟩::clear b r
structure Chain.Sm (c:Chain):Prop where
 k:c.key.length≤1073741824
 v:c.vs.length≤268435456
def sameC (a b:Chain):Bool:=decide (a.key=b.key)&&allB (fun x y=>decide (x=y)) a.vs b.vs
def addGo (k:Str) (b:Int):Bool→List Chain→List Chain→List Chain
 |done,out,[]=>if done=true then out else out++[⟨k,[⟨b,false,false,0⟩]⟩]
 |done,out,c::r =>
  let now := !done && !(slt c.key k || decide (c.key=k))
  let out':=if now=true then out++[⟨k,[⟨b,false,false,0⟩]⟩] else out
  if c.key=k then addGo k b true (out'++[⟨c.key,c.vs++[⟨b,false,false,0⟩]⟩]) r else addGo k b (done || now) (out'++[c]) r
def addC (l:List Chain) (k:Str) (b:Int):List Chain:=addGo k b false [] l
def rowChain (p:Pair):Chain:=⟨p.key,[⟨-1,true,true,p.n⟩]⟩
def newE (r:List Pair):Engine:=⟨r.map rowChain,[],[],[],0⟩
def noE:Engine:=⟨[],[],[],[],0⟩
def done0:Done:=⟨false,0,0,0,0⟩
def addKeys (b:Int):List Chain→List Str→List Chain
 |cs,[]=>cs
 |cs,k::r=>addKeys b (addC cs k b) r
def add1 (e:Engine) (d:Deed):Engine:=⟨addKeys (e.base+e.deeds.length) e.chains d.writes,e.deeds++[d],e.state++[0],e.ends++[done0],e.base⟩
def addAll:Engine→List Deed→Engine
 |e,[]=>e
 |e,d::r=>addAll (add1 e d) r
def wrongs:List Deed→Int
 | []=>0
 |d::r=>if wrongDeed d=0 then wrongs r else wrongDeed d
def addE (e:Engine) (l:List Deed):Engine×Int:=if wrongs l=0 then (addAll e l,0) else (noE,wrongs l)
def keysGo':List Str→List Str→List Str
 |out,[]=>out
 |out,k::r=>keysGo' (if isIn out k=true then out else out++[k]) r
def keysD (d:Deed):List Str:=keysGo' [] (d.reads++d.writes)
def hit (cs:List Chain) (b:Int) (want:Int) (k:Str):Bool := !(before cs k b).made&&decide ((before cs k b).by_=want)
def anyHit (cs:List Chain) (b:Int) (want:Int):List Str→Bool
 | []=>false
 |k::r=>if hit cs b want k=true then true else anyHit cs b want r
def needsGo (cs:List Chain) (base b:Int) (ks:List Str):Nat→List Nat→List Int
 |_,[]=>[]
 |_,k::r=>if anyHit cs b (base+k) ks=true then (k:Int)::needsGo cs base b ks 0 r else needsGo cs base b ks 0 r
def needs (e:Engine) (at_:Nat) (d:Deed):List Int:=needsGo e.chains e.base (e.base+at_) (keysD d) 0 (List.range at_)
def markN:List Int→Nat
 | []=>0
 |s::r=>if s=1 then markN r+1 else 0
def clearE (e:Engine):Engine:=⟨clear (e.base+markN e.state) e.chains,e.deeds.drop (markN e.state),e.state.drop (markN e.state),e.ends.drop (markN e.state),e.base+markN e.state⟩
def seenE (e:Engine) (at_:Int):List Pair×Int :=
 if at_ < 0∨(e.deeds.length:Int) < at_ then ([],6) else if (rowsAt e.chains (e.base+at_)).2=true then ((rowsAt e.chains (e.base+at_)).1,0) else ([],10)
def sameE (a b:Engine):Bool :=
 allB sameC a.chains b.chains&&(allB (fun x y=>decide (x=y)) a.deeds b.deeds&&(allB (fun x y=>decide (x=y)) a.state b.state&&(allB (fun x y=>decide (x=y)) a.ends b.ends&&decide (a.base=b.base))))
def rget (e:Done):Nat→Int
 |0=>e.r0
 |1=>e.r1
 |2=>e.r2
 |_=>e.r3
def rset (e:Done) (k:Nat) (x:Int):Done:=match k with
 |0=>⟨e.failed,x,e.r1,e.r2,e.r3⟩
 |1=>⟨e.failed,e.r0,x,e.r2,e.r3⟩
 |2=>⟨e.failed,e.r0,e.r1,x,e.r3⟩
 |_=>⟨e.failed,e.r0,e.r1,e.r2,x⟩
def bustE (e:Done):Done:=⟨true,e.r0,e.r1,e.r2,e.r3⟩
def doGo (r0:List Pair):Int→List Pair→Done→List Ins→List Pair×Done
 |_,now,e,[]=>(now,e)
 |sk,now,e,i::r =>
  if 0 < sk then doGo r0 (sk - 1) now e r
  else if i.kind=1 then doGo r0 sk now (rset e i.a.toNat (get now i.key).1) r
  else if i.kind=2 then doGo r0 sk now (rset e i.a.toNat i.n) r
  else if i.kind=3 then doGo r0 sk now (rset e i.a.toNat (round (rget e i.a.toNat+rget e i.b.toNat))) r
  else if i.kind=4 then doGo r0 sk now (rset e i.a.toNat (round (rget e i.a.toNat - rget e i.b.toNat))) r
  else if i.kind=5 then doGo r0 sk now (rset e i.a.toNat (round (rget e i.a.toNat*rget e i.b.toNat))) r
  else if i.kind=6 then doGo r0 sk (put now i.key (rget e i.a.toNat) true) e r
  else if i.kind=7 then doGo r0 sk (put now i.key 0 false) e r
  else if i.kind=8 then doGo r0 (if rget e i.a.toNat < 1 then i.n else sk) now e r
  else if rget e i.a.toNat < 0 then (r0,bustE e) else doGo r0 sk now e r
def doD (r:List Pair) (d:Deed):List Pair×Done:=doGo r 0 r done0 d.code
def allD:List Pair→List Deed→List Pair×List Done
 |r,[]=>(r,[])
 |r,d::l=>((allD (doD r d).1 l).1,(doD r d).2::(allD (doD r d).1 l).2)
def nOk (n:Int):Prop := -1073741824≤n∧n≤1073741824
structure Ins.Ok (i:Ins):Prop where
 k:1≤i.kind∧i.kind≤9
 a:0≤i.a∧i.a≤3
 b:0≤i.b∧i.b≤3
 c:i.kind=2→nOk i.n
 s:i.kind=8→0≤i.n∧i.n≤1073741824
def encBatch1 (b:List Deed):List D:=[encDeeds b]
def encBatches (bs:List (List Deed)):D := .sl 1 (bs.map encBatch1)
structure Done.Ok (e:Done):Prop where
 a:nOk e.r0
 b:nOk e.r1
 c:nOk e.r2
 d:nOk e.r3
def rowsOk (r:List Pair):Prop:=∀ p∈r,nOk p.n
theorem rset_self (e:Done) (k:Nat):rset e k (rget e k)=e:=by
 match k with
 |0=>rfl
 |1=>rfl
 |2=>rfl
 |_+3=>rfl
theorem rget_ok {e:Done}(h:e.Ok) (k:Nat):nOk (rget e k):=by
 unfold rget
 split
 ·
  exact h.a
 ·
  exact h.b
 ·
  exact h.c
 ·
  exact h.d
theorem rset_ok {e:Done}(h:e.Ok) (k:Nat) {x:Int}(hx:nOk x):(rset e k x).Ok:=by
 unfold rset
 split
 ·
  exact⟨hx,h.b,h.c,h.d⟩
 ·
  exact⟨h.a,hx,h.c,h.d⟩
 ·
  exact⟨h.a,h.b,hx,h.d⟩
 ·
  exact⟨h.a,h.b,h.c,hx⟩
theorem rset_failed (e:Done) (k:Nat) (x:Int):(rset e k x).failed=e.failed:=by
 unfold rset
 split <;> rfl
theorem round_ok (n:Int):nOk (round n):=by
 have h1:n.tdiv 1073741825*1073741825+n.tmod 1073741825=n:=Int.tdiv_mul_add_tmod n 1073741825
 have h2:n.tmod 1073741825 < 1073741825:=Int.tmod_lt_of_pos n (by omega)
 have h4:=Int.tmod_lt_of_pos (-n) (show(0:Int) < 1073741825 by omega)
 rw[Int.neg_tmod]at h4
 unfold nOk round
 omega
theorem get_ok {r:List Pair}(h:rowsOk r) (k:Str):nOk (get r k).1:=by
 induction r with
 |nil=>simp[get,nOk]
 |cons p r ih =>
  simp only[get]
  split
  ·
   exact h p (List.mem_cons_self ..)
  ·
   exact ih fun q hq=>h q (List.mem_cons_of_mem _ hq)
theorem putGo_mem {k:Str}{n:Int}{hs:Bool}:∀ {l:List Pair}{dn:Bool}{out:List Pair}{q:Pair},q∈putGo k n hs dn out l→q∈out∨q∈l∨(q=⟨k,n⟩∧hs=true)
 | [],dn,out,q,h=>by
  simp only[putGo]at h
  split at h
  ·
   next hb =>
   rcases List.mem_append.1 h with h|h
   ·
    exact .inl h
   ·
    simp at hb;exact .inr (.inr ⟨by simpa using h,hb.2⟩)
  ·
   exact .inl h
 |p::l,dn,out,q,h=>by
  simp only[putGo]at h
  rcases putGo_mem h with h|h|h
  ·
   have key:∀ out':List Pair,(q∈out'→q∈out∨(q=⟨k,n⟩∧hs=true))→q∈(if p.key=k then out' else out'++[p])→q∈out∨q∈p::l∨(q=⟨k,n⟩∧hs=true):=by
    intro out' h1 h2
    split at h2
    ·
     rcases h1 h2 with h|h
     ·
      exact .inl h
     ·
      exact .inr (.inr h)
    ·
     rcases List.mem_append.1 h2 with h2|h2
     ·
      rcases h1 h2 with h|h
      ·
       exact .inl h
      ·
       exact .inr (.inr h)
     ·
      exact .inr (.inl (by simp at h2;simp[h2]))
   refine key _ (fun h1=>?_) h
   split at h1
   ·
    next hb =>
    rcases List.mem_append.1 h1 with h1|h1
    ·
     exact .inl h1
    ·
     simp at hb;exact .inr ⟨by simpa using h1,hb.2⟩
   ·
    exact .inl h1
  ·
   exact .inr (.inl (List.mem_cons_of_mem _ h))
  ·
   exact .inr (.inr h)
theorem putGo_len {k:Str}{n:Int}{hs:Bool}:∀ (l:List Pair) (dn:Bool) (out:List Pair),(putGo k n hs dn out l).length≤out.length+l.length+(if dn=true then 0 else 1)
 | [],dn,out=>by
  simp only[putGo]
  cases dn <;> cases hs <;> simp
 |p::l,dn,out=>by
  simp only[putGo]
  have:=putGo_len (k:=k) (n:=n) (hs:=hs) l (dn || !slt p.key k) (if p.key=k then (if (!dn && !slt p.key k&&hs)=true then out++[⟨k,n⟩] else out) else (if (!dn && !slt p.key k&&hs)=true then out++[⟨k,n⟩] else out)++[p])
  refine Nat.le_trans this ?_
  cases dn <;> cases hq:slt p.key k <;> cases hs <;> by_cases hk:p.key=k <;> simp[hk] <;> omega
theorem put_len (l:List Pair) (k:Str) (n:Int) (hs:Bool):(put l k n hs).length≤l.length+1:=by
 have:=putGo_len (k:=k) (n:=n) (hs:=hs) l false []
 unfold put
 simpa using this
theorem put_ok {l:List Pair}(h:rowsOk l) (k:Str) {n:Int}(hn:nOk n) (hs:Bool):rowsOk (put l k n hs):=by
 intro q hq
 rcases putGo_mem hq with h1|h1|h1
 ·
  simp at h1
 ·
  exact h q h1
 ·
  rw[h1.1];exact hn
structure Engine.Sm (e:Engine):Prop where
 c:e.chains.length≤134217728
 v:∀ c∈e.chains,c.vs.length≤134217728
 d:e.deeds.length≤134217728
 s:e.state.length≤134217728
 n:e.ends.length≤134217728
 b:0≤e.base∧e.base≤134217728
 dd:∀ d∈e.deeds,d.Sm
def inI (n:Int):Prop := -9223372036854775808≤n∧n≤9223372036854775807
theorem bl_nil_cons (b:UInt8) (r:Str):slt [] (b::r)=true:=by simp[slt,Op.bytesLess]
theorem bl_nil (a:Str):slt a []=false:=by cases a <;> simp[slt,Op.bytesLess]
theorem bl_cons (a b:UInt8) (l r:Str):slt (a::l) (b::r)=if a < b then true else if b < a then false else slt l r:=by
 simp only[slt,Op.bytesLess]
 by_cases h1:a < b
 ·
  simp[h1]
 ·
  by_cases h2:b < a
  ·
   have h3:¬ a=b:=fun h=>by subst h;exact h1 h2
   simp[h1,h2,h3]
  ·
   have h3:a=b:=UInt8.le_antisymm (UInt8.not_lt.1 h2) (UInt8.not_lt.1 h1)
   subst h3
   simp[h1]
theorem slt_irrefl (a:Str):slt a a=false:=by
 induction a with
 |nil=>exact bl_nil []
 |cons x l ih=>rw[bl_cons];simp[ih]
theorem slt_trans:∀ {a b c:Str},slt a b=true→slt b c=true→slt a c=true
 | [],[],c,h,_=>by simp[bl_nil]at h
 |a::l,[],c,h,_=>by simp[bl_nil]at h
 |a,b::r,[],_,h=>by simp[bl_nil]at h
 | [],b::r,c::s,_,_=>bl_nil_cons _ _
 |a::l,b::r,c::s,h,h'=>by
  rw[bl_cons]at h h' ⊢
  by_cases h1:a < b
  ·
   by_cases h2:b < c
   ·
    simp[UInt8.lt_trans h1 h2]
   ·
    by_cases h3:c < b
    ·
     simp[h2,h3]at h'
    ·
     have h4:b=c:=UInt8.le_antisymm (UInt8.not_lt.1 h3) (UInt8.not_lt.1 h2)
     subst h4;simp[h1]
  ·
   by_cases h2:b < a
   ·
    simp[h1,h2]at h
   ·
    have h4:a=b:=UInt8.le_antisymm (UInt8.not_lt.1 h2) (UInt8.not_lt.1 h1)
    subst h4
    simp only[UInt8.lt_irrefl,if_false]at h
    by_cases h2:a < c
    ·
     simp[h2]
    ·
     by_cases h3:c < a
     ·
      simp[h2,h3]at h'
     ·
      simp only[h2,h3,if_false]at h' ⊢
      exact slt_trans h h'
theorem slt_tri:∀ (a b:Str),slt a b=true∨a=b∨slt b a=true
 | [],[] => .inr (.inl rfl)
 | [],b::r => .inl (bl_nil_cons _ _)
 |a::l,[] => .inr (.inr (bl_nil_cons _ _))
 |a::l,b::r=>by
  rw[bl_cons,bl_cons]
  by_cases h1:a < b
  ·
   simp[h1]
  ·
   by_cases h2:b < a
   ·
    simp[h2]
   ·
    have h4:a=b:=UInt8.le_antisymm (UInt8.not_lt.1 h2) (UInt8.not_lt.1 h1)
    subst h4
    rcases slt_tri l r with h|h|h
    ·
     simp[h]
    ·
     subst h;simp
    ·
     simp[h]
theorem slt_ne {a b:Str}(h:slt a b=true):a≠b:=fun e=>by subst e;rw[slt_irrefl]at h;cases h
structure AtK {α:Type} (f:α→Str) (l:List α) (k:Str) (m:Nat):Prop where
 le:m≤l.length
 lt:∀ x c,l[x]? = some c→x < m→slt (f c) k=true
 ge:∀ x c,l[x]? = some c→m≤x→slt (f c) k=false
def isAtK {α:Type}(f:α→Str) (l:List α) (k:Str) (m:Nat):Bool:=match l[m]? with
 |some c=>decide (f c=k)
 |none=>false
def Srt {α:Type}(f:α→Str) (l:List α):Prop:=l.Pairwise fun a b=>slt (f a) (f b)=true
theorem Srt.at {α:Type}{f:α→Str}(k:Str):∀ {l:List α},Srt f l→∃ m,AtK f l k m
 | [],_=>⟨0,⟨by simp,by simp,by simp⟩⟩
 |c::l,h=>by
  have h':(∀ a∈l,slt (f c) (f a)=true)∧Srt f l:=List.pairwise_cons.1 h
  cases hc:slt (f c) k with
  |true =>
   obtain⟨m,hm⟩:=Srt.at k h'.2
   refine⟨m+1,⟨by have:=hm.le;simpa using this,fun x d hx hlt=>?_,fun x d hx hge=>?_⟩⟩
   ·
    cases x with
    |zero=>simp at hx;subst hx;exact hc
    |succ x=>exact hm.lt x d (by simpa using hx) (by omega)
   ·
    cases x with
    |zero=>omega
    |succ x=>exact hm.ge x d (by simpa using hx) (by omega)
  |false =>
   refine⟨0,⟨by simp,fun x d _ hlt=>by omega,fun x d hx _=>?_⟩⟩
   cases x with
   |zero=>simp at hx;subst hx;exact hc
   |succ x =>
    have h1:=h'.1 d (List.mem_of_getElem? (by simpa using hx))
    cases hd:slt (f d) k with
    |false=>rfl
    |true=>rw[slt_trans h1 hd]at hc;cases hc
theorem Srt.lt {α:Type}{f:α→Str}{l:List α}(h:Srt f l) {i j:Nat}{a b:α}(hi:l[i]? = some a) (hj:l[j]? = some b) (hlt:i < j):slt (f a) (f b)=true:=by
 obtain⟨h1,rfl⟩:=List.getElem?_eq_some_iff.1 hi
 obtain⟨h2,rfl⟩:=List.getElem?_eq_some_iff.1 hj
 exact List.pairwise_iff_getElem.1 h i j h1 h2 hlt
theorem Srt.ne {α:Type}{f:α→Str}{l:List α}(h:Srt f l) {i j:Nat}{a b:α}(hi:l[i]? = some a) (hj:l[j]? = some b) (hne:i≠j):f a≠f b:=by
 rcases Nat.lt_or_gt_of_ne hne with hlt|hgt
 ·
  exact slt_ne (h.lt hi hj hlt)
 ·
  exact fun e=>slt_ne (h.lt hj hi hgt) e.symm
def noV:Version:=⟨-1,true,false,0⟩
theorem bvs_false {b:Int}:∀ {l:List Version}{out:Version},bvs false b out l=out
 | [],out=>rfl
 |v::l,out=>by simp only[bvs];exact bvs_false
theorem bvs_append {h:Bool}{b:Int}:∀ {l r:List Version}{out:Version},bvs h b out (l++r)=bvs h b (bvs h b out l) r
 | [],r,out=>rfl
 |v::l,r,out=>by simp only[List.cons_append,bvs];exact bvs_append
theorem bvs_ge {h:Bool}{b:Int}:∀ {l:List Version}{out:Version},(∀ v∈l,b≤v.by_)→bvs h b out l=out
 | [],out,_=>rfl
 |v::l,out,hl=>by
  have:=hl v (List.mem_cons_self ..)
  simp only[bvs]
  rw[if_neg (by simp;omega)]
  exact bvs_ge fun w hw=>hl w (List.mem_cons_of_mem _ hw)
theorem beforeGo_none {k:Str}{b:Int}:∀ {l:List Chain}{out:Version},(∀ c∈l,c.key≠k)→beforeGo k b out l=out
 | [],out,_=>rfl
 |c::l,out,h=>by
  simp only[beforeGo]
  rw[decide_eq_false (h c (List.mem_cons_self ..)),bvs_false]
  exact beforeGo_none fun d hd=>h d (List.mem_cons_of_mem _ hd)
theorem beforeGo_append {k:Str}{b:Int}:∀ {l r:List Chain}{out:Version},beforeGo k b out (l++r)=beforeGo k b (beforeGo k b out l) r
 | [],r,out=>rfl
 |c::l,r,out=>by simp only[List.cons_append,beforeGo];exact beforeGo_append
theorem split_at {α:Type}{l:List α}{m:Nat}{c:α}(h:l[m]? = some c):l=l.take m++c::l.drop (m+1):=by
 obtain⟨h1,rfl⟩:=List.getElem?_eq_some_iff.1 h
 rw[List.getElem_cons_drop,List.take_append_drop]
theorem before_yes {l:List Chain}(hs:Srt Chain.key l) {k:Str}{b:Int}{m:Nat}{c:Chain}(hc:l[m]? = some c) (hk:c.key=k):before l k b=bvs true b noV c.vs:=by
 have hl:=split_at hc
 unfold before
 have hlt:m < l.length:=(List.getElem?_eq_some_iff.1 hc).1
 rw[hl,beforeGo_append,beforeGo_none (l:=l.take m) (fun d hd=>?_)]
 ·
  simp only[beforeGo]
  rw[hk,decide_eq_true rfl,beforeGo_none fun d hd=>?_]
  ·
   rfl
  obtain⟨j,hj⟩:=List.getElem?_of_mem hd
  rw[List.getElem?_drop]at hj
  rw[← hk]
  exact hs.ne hj hc (by omega)
 ·
  obtain⟨j,hj⟩:=List.getElem?_of_mem hd
  rw[List.getElem?_take]at hj
  split at hj
  ·
   rw[← hk];exact hs.ne hj hc (by omega)
  ·
   cases hj
theorem before_no {l:List Chain}(hs:Srt Chain.key l) {k:Str}{b:Int}{m:Nat}(hm:AtK Chain.key l k m) (hn:isAtK Chain.key l k m=false):before l k b=noV:=by
 unfold before
 refine beforeGo_none fun d hd e=>?_
 obtain⟨j,hj⟩:=List.getElem?_of_mem hd
 rcases Nat.lt_trichotomy j m with h|h|h
 ·
  have:=hm.lt j d hj h
  rw[e,slt_irrefl]at this;cases this
 ·
  subst h
  rw[isAtK,hj]at hn
  simp[e]at hn
 ·
  have hml:m < l.length:=by have:=(List.getElem?_eq_some_iff.1 hj).1;omega
  have hme:l[m]? = some l[m]:=List.getElem?_eq_getElem hml
  have h1:=hm.ge m l[m] hme (Nat.le_refl _)
  have h2:=hs.lt hme hj h
  rw[e,h1]at h2;cases h2
end Go.RF
namespace Go.Proofs.YtfpkamiobdkcpaaGreatDoor
open Go.AX Go.RF
abbrev i64s:Sh := .num .i64
abbrev shPair:List Sh:=[.str,i64s]
abbrev shIns:List Sh:=[i64s,i64s,i64s,i64s,.str]
abbrev shDeed:List Sh:=[.sl [.str],.sl [.str],.sl shIns]
theorem inI_of {n:Int}(h:(Lit.int .i64 n).wf=true):inI n:=by
 simpa[Lit.wf,IntKind.min,IntKind.max,IntKind.signed,IntKind.bits,inI] using h
theorem fitsR_map {α:Type}{enc:α→List D}{Q:α→Nat→Prop}{fs:List Sh}(h:∀ r m,FitsL fs m r→∃ x,r=enc x∧Q x m):∀ {rows:List (List D)}{m:Nat},FitsR fs m rows →
  ∃ l:List (α×Nat),rows=(l.map (·.1)).map enc∧(∀ y∈l,Q y.1 y.2)∧(l.map (·.2)).sum+l.length≤m
 | [],m,_=>⟨[],rfl,by simp,by simp⟩
 |r::rows,m,hR=>by
  cases hR with
  |@cons _ a b _ _ _ h1 h2 h3 =>
   obtain⟨x,rfl,hx⟩:=h r a h1
   obtain⟨l,rfl,hl,hs⟩:=fitsR_map h h2
   refine⟨(x,a)::l,rfl,fun y hy=>?_,by simp;omega⟩
   rcases List.mem_cons.1 hy with rfl|hy
   ·
    exact hx
   ·
    exact hl y hy
theorem sum_mem {l:List Nat}{n:Nat}(h:n∈l):n≤l.sum:=by
 induction l with
 |nil=>simp at h
 |cons x l ih =>
  rcases List.mem_cons.1 h with rfl|h
  ·
   simp
  ·
   have:=ih h;simp;omega
theorem fitsR_all {α:Type}{enc:α→List D}{Q:α→Nat→Prop}{fs:List Sh}(h:∀ r m,FitsL fs m r→∃ x,r=enc x∧Q x m) {rows:List (List D)}{m:Nat}(hR:FitsR fs m rows) :
  ∃ l:List α,rows=l.map enc∧(∀ x∈l,∃ k,k≤m∧Q x k)∧l.length≤m:=by
 obtain⟨l,h1,h2,h3⟩:=fitsR_map h hR
 refine⟨l.map (·.1),h1,fun x hx=>?_,by simp;omega⟩
 obtain⟨y,hy,rfl⟩:=List.mem_map.1 hx
 have:=sum_mem (List.mem_map.2 ⟨y,hy,rfl⟩:y.2∈l.map (·.2))
 exact⟨y.2,by omega,h2 y hy⟩
theorem dec_int {m:Nat}{d:D}(h:Fits i64s m d):∃ n,d=dint n∧inI n:=by
 cases h with
 |num k n m h=>exact⟨n,rfl,inI_of h⟩
theorem dec_str {m:Nat}{d:D}(h:Fits .str m d):∃ s,d=dstr s∧s.length≤m:=by
 cases h with
 |str s m h=>exact⟨s,rfl,h⟩
theorem dec_one {s:Sh}{m:Nat}{r:List D}(h:FitsL [s] m r):∃ d,r=[d]∧Fits s m d:=by
 cases h with
 |@cons _ a b _ d _ ds h1 h2 h3 =>
  cases h2
  exact⟨d,rfl,h1.mono' (by omega)⟩
theorem dec_two {s t:Sh}{m:Nat}{r:List D}(h:FitsL [s,t] m r):∃ d e,r=[d,e]∧Fits s m d∧Fits t m e:=by
 cases h with
 |@cons _ a b _ d _ ds h1 h2 h3 =>
  obtain⟨e,rfl,h4⟩:=dec_one h2
  exact⟨d,e,rfl,h1.mono' (by omega),h4.mono' (by omega)⟩
theorem dec_three {s t u:Sh}{m:Nat}{r:List D}(h:FitsL [s,t,u] m r):∃ d e f,r=[d,e,f]∧Fits s m d∧Fits t m e∧Fits u m f:=by
 cases h with
 |@cons _ a b _ d _ ds h1 h2 h3 =>
  obtain⟨e,f,rfl,h4,h5⟩:=dec_two h2
  exact⟨d,e,f,rfl,h1.mono' (by omega),h4.mono' (by omega),h5.mono' (by omega)⟩
theorem dec_four {s t u v:Sh}{m:Nat}{r:List D}(h:FitsL [s,t,u,v] m r):∃ d e f g,r=[d,e,f,g]∧Fits s m d∧Fits t m e∧Fits u m f∧Fits v m g:=by
 cases h with
 |@cons _ a b _ d _ ds h1 h2 h3 =>
  obtain⟨e,f,g,rfl,h4,h5,h6⟩:=dec_three h2
  exact⟨d,e,f,g,rfl,h1.mono' (by omega),h4.mono' (by omega),h5.mono' (by omega),h6.mono' (by omega)⟩
theorem dec_five {s t u v x:Sh}{m:Nat}{r:List D}(h:FitsL [s,t,u,v,x] m r):∃ d e f g k,r=[d,e,f,g,k]∧Fits s m d∧Fits t m e∧Fits u m f∧Fits v m g∧Fits x m k:=by
 cases h with
 |@cons _ a b _ d _ ds h1 h2 h3 =>
  obtain⟨e,f,g,k,rfl,h4,h5,h6,h7⟩:=dec_four h2
  exact⟨d,e,f,g,k,rfl,h1.mono' (by omega),h4.mono' (by omega),h5.mono' (by omega),h6.mono' (by omega),h7.mono' (by omega)⟩
theorem dec_sl {fs:List Sh}{m:Nat}{d:D}(h:Fits (.sl fs) m d):∃ rows,d = .sl fs.length rows∧FitsR fs m rows:=by
 cases h with
 |sl fs m rows h=>exact⟨rows,rfl,h⟩
theorem dec_pair (r:List D) (m:Nat) (h:FitsL shPair m r):∃ p:Pair,r=p.enc∧(p.key.length≤m∧inI p.n):=by
 obtain⟨d,e,rfl,h1,h2⟩:=dec_two h
 obtain⟨s,rfl,hs⟩:=dec_str h1
 obtain⟨n,rfl,hn⟩:=dec_int h2
 exact⟨⟨s,n⟩,rfl,hs,hn⟩
theorem dec_text (r:List D) (m:Nat) (h:FitsL [.str] m r):∃ s:Str,r=encStr1 s∧s.length≤m:=by
 obtain⟨d,rfl,h1⟩:=dec_one h
 obtain⟨s,rfl,hs⟩:=dec_str h1
 exact⟨s,rfl,hs⟩
theorem dec_num (r:List D) (m:Nat) (h:FitsL [i64s] m r):∃ n:Int,r=encInt1 n∧inI n:=by
 obtain⟨d,rfl,h1⟩:=dec_one h
 obtain⟨s,rfl,hs⟩:=dec_int h1
 exact⟨s,rfl,hs⟩
theorem dec_ins (r:List D) (m:Nat) (h:FitsL shIns m r):∃ i:Ins,r=i.enc∧(i.key.length≤m∧inI i.kind∧inI i.a∧inI i.b∧inI i.n):=by
 obtain⟨d,e,f,g,k,rfl,h1,h2,h3,h4,h5⟩:=dec_five h
 obtain⟨a,rfl,ha⟩:=dec_int h1
 obtain⟨b,rfl,hb⟩:=dec_int h2
 obtain⟨c,rfl,hc⟩:=dec_int h3
 obtain⟨n,rfl,hn⟩:=dec_int h4
 obtain⟨s,rfl,hs⟩:=dec_str h5
 exact⟨⟨a,b,c,n,s⟩,rfl,hs,ha,hb,hc,hn⟩
structure Deed.In (d:Deed) (m:Nat):Prop where
 r:d.reads.length≤m
 w:d.writes.length≤m
 c:d.code.length≤m
 rk:∀ s∈d.reads,s.length≤m
 wk:∀ s∈d.writes,s.length≤m
 ck:∀ i∈d.code,i.key.length≤m
theorem Deed.In.sm {d:Deed}{m:Nat}(h:Deed.In d m) (hm:m≤1048576):d.Sm :=
 ⟨by have:=h.r;omega,by have:=h.w;omega,by have:=h.c;omega,fun s hs=>by have:=h.rk s hs;omega,fun s hs=>by have:=h.wk s hs;omega⟩
theorem Deed.In.mono {d:Deed}{m n:Nat}(h:Deed.In d m) (hm:m≤n):Deed.In d n :=
 ⟨by have:=h.r;omega,by have:=h.w;omega,by have:=h.c;omega,fun s hs=>by have:=h.rk s hs;omega,fun s hs=>by have:=h.wk s hs;omega,fun s hs=>by have:=h.ck s hs;omega⟩
theorem dec_deed (r:List D) (m:Nat) (h:FitsL shDeed m r):∃ d:Deed,r=d.enc∧Deed.In d m:=by
 obtain⟨x,y,z,rfl,h1,h2,h3⟩:=dec_three h
 obtain⟨r1,rfl,hr1⟩:=dec_sl h1
 obtain⟨r2,rfl,hr2⟩:=dec_sl h2
 obtain⟨r3,rfl,hr3⟩:=dec_sl h3
 obtain⟨a,rfl,ha,hal⟩:=fitsR_all dec_text hr1
 obtain⟨b,rfl,hb,hbl⟩:=fitsR_all dec_text hr2
 obtain⟨c,rfl,hc,hcl⟩:=fitsR_all dec_ins hr3
 exact⟨⟨a,b,c⟩,rfl,hal,hbl,hcl,fun s hs=>let ⟨_,h1,h2⟩:=ha s hs;Nat.le_trans h2 h1,fun s hs=>let ⟨_,h1,h2⟩:=hb s hs;Nat.le_trans h2 h1,fun s hs=>let ⟨_,h1,h2⟩:=hc s hs;Nat.le_trans h2.1 h1⟩
theorem dec_rows {m:Nat}{d:D}(h:Fits (.sl shPair) m d):∃ l:List Pair,d=encRows l∧l.length≤m∧∀ p∈l,p.key.length≤m∧inI p.n:=by
 obtain⟨rows,rfl,hr⟩:=dec_sl h
 obtain⟨l,rfl,hl,hn⟩:=fitsR_all dec_pair hr
 exact⟨l,rfl,hn,fun p hp=>let ⟨_,h1,h2⟩:=hl p hp;⟨Nat.le_trans h2.1 h1,h2.2⟩⟩
theorem dec_ints {m:Nat}{d:D}(h:Fits (.sl [i64s]) m d):∃ l:List Int,d=encInts l∧l.length≤m∧∀ n∈l,inI n:=by
 obtain⟨rows,rfl,hr⟩:=dec_sl h
 obtain⟨l,rfl,hl,hn⟩:=fitsR_all dec_num hr
 exact⟨l,rfl,hn,fun p hp=>let ⟨_,h1,h2⟩:=hl p hp;h2⟩
theorem dec_deeds {m:Nat}{d:D}(h:Fits (.sl shDeed) m d):∃ l:List Deed,d=encDeeds l∧l.length≤m∧∀ x∈l,Deed.In x m:=by
 obtain⟨rows,rfl,hr⟩:=dec_sl h
 obtain⟨l,rfl,hl,hn⟩:=fitsR_all dec_deed hr
 exact⟨l,rfl,hn,fun p hp=>let ⟨_,h1,h2⟩:=hl p hp;h2.mono h1⟩
theorem dec_batch (r:List D) (m:Nat) (h:FitsL [.sl shDeed] m r):∃ l:List Deed,r=encBatch1 l∧(l.length≤m∧∀ x∈l,Deed.In x m):=by
 obtain⟨d,rfl,h1⟩:=dec_one h
 obtain⟨l,rfl,h2,h3⟩:=dec_deeds h1
 exact⟨l,rfl,h2,h3⟩
theorem dec_batches {m:Nat}{d:D}(h:Fits (.sl [.sl shDeed]) m d):∃ l:List (List Deed),d=encBatches l∧l.length≤m∧(l.map List.length).sum≤m∧∀ b∈l,b.length≤m∧∀ x∈b,Deed.In x m:=by
 obtain⟨rows,rfl,hr⟩:=dec_sl h
 obtain⟨l,rfl,hl,hn⟩:=fitsR_map dec_batch hr
 have hle:∀ k:List (List Deed×Nat),(∀ y∈k,y.1.length≤y.2)→((k.map (·.1)).map List.length).sum≤(k.map (·.2)).sum:=by
  intro k
  induction k with
  |nil=>simp
  |cons y k ih =>
   intro hk
   have h1:=hk y (List.mem_cons_self ..)
   have h2:=ih fun z hz=>hk z (List.mem_cons_of_mem _ hz)
   simp only[List.map_cons,List.sum_cons]
   omega
 refine⟨l.map (·.1),rfl,by simp;omega,?_,fun b hb=>?_⟩
 ·
  have:=hle l fun y hy=>(hl y hy).1
  omega
 ·
  obtain⟨y,hy,rfl⟩:=List.mem_map.1 hb
  have:=sum_mem (List.mem_map.2 ⟨y,hy,rfl⟩:y.2∈l.map (·.2))
  exact⟨by have:=(hl y hy).1;omega,fun x hx=>((hl y hy).2 x hx).mono (by omega)⟩
end Go.Proofs.YtfpkamiobdkcpaaGreatDoor
namespace Go.Proofs.YtfpkamiobdkcpaaGreatDoor
open Go.AX
def tbl:Tbl:=[
 (1,⟨1,8,[.nilFunc],.one⟩),
 (2,⟨1,8,[.int .i64 0],.int .i64⟩),
 (3,⟨1,8,[.int .i64 0],.int .i64⟩),
 (4,⟨1,1,[.bool false],.bool⟩),
 (5,⟨1,1,[.int .u8 0],.int .u8⟩),
 (9,⟨1,16,[.string ⟨#[]⟩],.str⟩),
 (12,⟨1,8,[.int .u64 0],.int .u64⟩),
 (13,⟨2,24,[.string ⟨#[]⟩,.int .u64 0],.st [(0,1),(1,1)]⟩),
 (21,⟨1,4,[.int .i32 0],.int .i32⟩),
 (22,⟨1,24,[.slice none 0 0],.sl 99 2⟩),
 (23,⟨1,24,[.slice none 0 0],.sl 99 2⟩),
 (24,⟨1,24,[.slice none 0 0],.sl 26 1⟩),
 (25,⟨1,24,[.slice none 0 0],.sl 3 1⟩),
 (26,⟨1,24,[.slice none 0 0],.sl 42 3⟩),
 (27,⟨1,8,[.int .i64 0],.int .i64⟩),
 (28,⟨1,8,[.nilFunc],.one⟩),
 (29,⟨1,8,[.nilFunc],.one⟩),
 (30,⟨1,24,[.slice none 0 0],.sl 109 2⟩),
 (31,⟨1,24,[.slice none 0 0],.sl 115 5⟩),
 (32,⟨5,104,[.slice none 0 0,.slice none 0 0,.slice none 0 0,.slice none 0 0,.int .i64 0],.st [(0,1),(1,1),(2,1),(3,1),(4,1)]⟩),
 (33,⟨5,104,[.slice none 0 0,.slice none 0 0,.slice none 0 0,.slice none 0 0,.int .i64 0],.st [(0,1),(1,1),(2,1),(3,1),(4,1)]⟩),
 (34,⟨1,8,[.nilFunc],.one⟩),
 (35,⟨1,8,[.nilFunc],.one⟩),
 (37,⟨1,8,[.nilFunc],.one⟩),
 (38,⟨1,8,[.nilFunc],.one⟩),
 (39,⟨1,24,[.slice none 0 0],.sl 9 1⟩),
 (40,⟨1,24,[.slice none 0 0],.sl 153 5⟩),
 (41,⟨3,72,[.slice none 0 0,.slice none 0 0,.slice none 0 0],.st [(0,1),(1,1),(2,1)]⟩),
 (42,⟨3,72,[.slice none 0 0,.slice none 0 0,.slice none 0 0],.st [(0,1),(1,1),(2,1)]⟩),
 (43,⟨1,8,[.nilFunc],.one⟩),
 (44,⟨1,8,[.nilFunc],.one⟩),
 (45,⟨1,8,[.nilFunc],.one⟩),
 (46,⟨1,8,[.nilFunc],.one⟩),
 (47,⟨1,8,[.nilFunc],.one⟩),
 (48,⟨1,24,[.slice none 0 0],.sl 50 2⟩),
 (49,⟨2,32,[.int .i64 0,.slice none 0 0],.st [(0,1),(1,1)]⟩),
 (50,⟨2,32,[.int .i64 0,.slice none 0 0],.st [(0,1),(1,1)]⟩),
 (51,⟨7,136,[.slice none 0 0,.slice none 0 0,.slice none 0 0,.slice none 0 0,.int .i64 0,.int .i64 0,.slice none 0 0],.st [(0,5),(5,1),(6,1)]⟩),
 (52,⟨7,136,[.slice none 0 0,.slice none 0 0,.slice none 0 0,.slice none 0 0,.int .i64 0,.int .i64 0,.slice none 0 0],.st [(0,5),(5,1),(6,1)]⟩),
 (53,⟨1,8,[.nilFunc],.one⟩),
 (54,⟨1,8,[.nilFunc],.one⟩),
 (55,⟨1,8,[.nilFunc],.one⟩),
 (56,⟨1,8,[.nilFunc],.one⟩),
 (57,⟨1,8,[.nilFunc],.one⟩),
 (59,⟨1,8,[.nilFunc],.one⟩),
 (60,⟨1,8,[.nilFunc],.one⟩),
 (61,⟨1,8,[.nilFunc],.one⟩),
 (62,⟨1,8,[.nilFunc],.one⟩),
 (64,⟨1,8,[.nilFunc],.one⟩),
 (65,⟨1,8,[.nilFunc],.one⟩),
 (66,⟨1,8,[.nilFunc],.one⟩),
 (67,⟨1,8,[.nilFunc],.one⟩),
 (68,⟨1,8,[.nilFunc],.one⟩),
 (69,⟨1,24,[.slice none 0 0],.sl 5 1⟩),
 (70,⟨1,8,[.nilFunc],.one⟩),
 (71,⟨1,8,[.nilFunc],.one⟩),
 (72,⟨1,8,[.nilFunc],.one⟩),
 (73,⟨1,8,[.nilFunc],.one⟩),
 (75,⟨1,8,[.nilFunc],.one⟩),
 (76,⟨1,8,[.nilFunc],.one⟩),
 (77,⟨1,8,[.nilFunc],.one⟩),
 (79,⟨1,8,[.nilFunc],.one⟩),
 (80,⟨1,8,[.nilFunc],.one⟩),
 (81,⟨1,8,[.nilFunc],.one⟩),
 (82,⟨1,24,[.slice none 0 0],.sl 84 4⟩),
 (83,⟨4,48,[.int .i64 0,.int .i64 0,.int .i64 0,.slice none 0 0],.st [(0,1),(1,1),(2,1),(3,1)]⟩),
 (84,⟨4,48,[.int .i64 0,.int .i64 0,.int .i64 0,.slice none 0 0],.st [(0,1),(1,1),(2,1),(3,1)]⟩),
 (85,⟨1,24,[.slice none 0 0],.sl 52 7⟩),
 (86,⟨1,24,[.slice none 0 0],.sl 143 2⟩),
 (87,⟨3,72,[.slice none 0 0,.slice none 0 0,.slice none 0 0],.st [(0,1),(1,1),(2,1)]⟩),
 (88,⟨3,72,[.slice none 0 0,.slice none 0 0,.slice none 0 0],.st [(0,1),(1,1),(2,1)]⟩),
 (90,⟨1,8,[.nilFunc],.one⟩),
 (91,⟨1,8,[.nilFunc],.one⟩),
 (92,⟨1,24,[.slice none 0 0],.sl 27 1⟩),
 (94,⟨1,8,[.nilFunc],.one⟩),
 (95,⟨1,8,[.nilFunc],.one⟩),
 (96,⟨1,8,[.nilFunc],.one⟩),
 (97,⟨1,8,[.nilFunc],.one⟩),
 (98,⟨2,24,[.string ⟨#[]⟩,.int .i64 0],.st [(0,1),(1,1)]⟩),
 (99,⟨2,24,[.string ⟨#[]⟩,.int .i64 0],.st [(0,1),(1,1)]⟩),
 (100,⟨1,8,[.nilFunc],.one⟩),
 (101,⟨1,8,[.nilFunc],.one⟩),
 (102,⟨1,8,[.nilFunc],.one⟩),
 (103,⟨1,8,[.nilFunc],.one⟩),
 (104,⟨1,8,[.nilFunc],.one⟩),
 (105,⟨4,24,[.int .i64 0,.bool false,.bool false,.int .i64 0],.st [(0,1),(1,1),(2,1),(3,1)]⟩),
 (106,⟨4,24,[.int .i64 0,.bool false,.bool false,.int .i64 0],.st [(0,1),(1,1),(2,1),(3,1)]⟩),
 (107,⟨1,24,[.slice none 0 0],.sl 106 4⟩),
 (108,⟨2,40,[.string ⟨#[]⟩,.slice none 0 0],.st [(0,1),(1,1)]⟩),
 (109,⟨2,40,[.string ⟨#[]⟩,.slice none 0 0],.st [(0,1),(1,1)]⟩),
 (110,⟨1,8,[.nilFunc],.one⟩),
 (111,⟨1,8,[.nilFunc],.one⟩),
 (112,⟨1,8,[.nilFunc],.one⟩),
 (113,⟨4,32,[.int .i64 0,.int .i64 0,.int .i64 0,.int .i64 0],.arr 4 3 1⟩),
 (114,⟨5,40,[.bool false,.int .i64 0,.int .i64 0,.int .i64 0,.int .i64 0],.st [(0,1),(1,4)]⟩),
 (115,⟨5,40,[.bool false,.int .i64 0,.int .i64 0,.int .i64 0,.int .i64 0],.st [(0,1),(1,4)]⟩),
 (116,⟨1,8,[.nilFunc],.one⟩),
 (117,⟨1,8,[.nilFunc],.one⟩),
 (118,⟨1,8,[.nilFunc],.one⟩),
 (119,⟨1,8,[.nilFunc],.one⟩),
 (120,⟨1,8,[.nilFunc],.one⟩),
 (121,⟨1,8,[.nilFunc],.one⟩),
 (122,⟨1,8,[.nilFunc],.one⟩),
 (123,⟨1,8,[.nilFunc],.one⟩),
 (124,⟨1,8,[.nilFunc],.one⟩),
 (125,⟨1,8,[.nilFunc],.one⟩),
 (126,⟨1,8,[.nilFunc],.one⟩),
 (127,⟨1,8,[.pointer none],.one⟩),
 (128,⟨1,8,[.nilFunc],.one⟩),
 (129,⟨1,8,[.nilFunc],.one⟩),
 (131,⟨1,8,[.nilFunc],.one⟩),
 (133,⟨1,8,[.nilFunc],.one⟩),
 (134,⟨1,8,[.nilFunc],.one⟩),
 (135,⟨1,8,[.nilFunc],.one⟩),
 (136,⟨1,8,[.nilFunc],.one⟩),
 (137,⟨1,8,[.int .u64 0],.int .u64⟩),
 (138,⟨1,8,[.nilFunc],.one⟩),
 (140,⟨1,8,[.nilFunc],.one⟩),
 (141,⟨1,8,[.nilFunc],.one⟩),
 (142,⟨2,32,[.int .i64 0,.slice none 0 0],.st [(0,1),(1,1)]⟩),
 (143,⟨2,32,[.int .i64 0,.slice none 0 0],.st [(0,1),(1,1)]⟩),
 (144,⟨1,8,[.nilFunc],.one⟩),
 (145,⟨1,8,[.pointer none],.one⟩),
 (146,⟨1,8,[.nilFunc],.one⟩),
 (147,⟨1,8,[.nilFunc],.one⟩),
 (148,⟨1,8,[.nilFunc],.one⟩),
 (149,⟨1,8,[.nilFunc],.one⟩),
 (150,⟨1,24,[.slice none 0 0],.sl 39 1⟩),
 (151,⟨1,8,[.nilFunc],.one⟩),
 (152,⟨5,48,[.int .i64 0,.int .i64 0,.int .i64 0,.int .i64 0,.string ⟨#[]⟩],.st [(0,1),(1,1),(2,1),(3,1),(4,1)]⟩),
 (153,⟨5,48,[.int .i64 0,.int .i64 0,.int .i64 0,.int .i64 0,.string ⟨#[]⟩],.st [(0,1),(1,1),(2,1),(3,1),(4,1)]⟩),
 (154,⟨1,8,[.nilFunc],.one⟩),
 (155,⟨1,8,[.pointer none],.one⟩),
 (156,⟨1,8,[.nilFunc],.one⟩),
 (157,⟨1,8,[.nilFunc],.one⟩),
 (158,⟨1,8,[.nilFunc],.one⟩),
 (159,⟨1,8,[.nilFunc],.one⟩),
 (160,⟨1,8,[.nilFunc],.one⟩),
 (161,⟨1,8,[.nilFunc],.one⟩),
 (162,⟨1,8,[.nilFunc],.one⟩),
 (163,⟨1,8,[.nilFunc],.one⟩),
 (164,⟨1,8,[.nilFunc],.one⟩),
 (165,⟨1,8,[.nilFunc],.one⟩),
 (166,⟨1,8,[.nilFunc],.one⟩),
 (167,⟨1,8,[.nilFunc],.one⟩),
 (168,⟨1,8,[.nilFunc],.one⟩),
 (169,⟨1,8,[.nilFunc],.one⟩),
 (171,⟨1,8,[.nilFunc],.one⟩),
 (172,⟨1,8,[.nilFunc],.one⟩),
 (173,⟨1,8,[.nilFunc],.one⟩),
 (174,⟨1,8,[.nilFunc],.one⟩),
 (175,⟨1,8,[.nilFunc],.one⟩),
 (176,⟨1,8,[.map none],.one⟩),
 (177,⟨1,8,[.nilFunc],.one⟩),
 (179,⟨1,8,[.nilFunc],.one⟩),
 (180,⟨1,8,[.nilFunc],.one⟩),
 (181,⟨1,8,[.nilFunc],.one⟩),
 (182,⟨1,8,[.nilFunc],.one⟩),
 (183,⟨1,8,[.nilFunc],.one⟩),
 (184,⟨1,8,[.nilFunc],.one⟩),
 (185,⟨1,8,[.nilFunc],.one⟩),
 (186,⟨1,8,[.nilFunc],.one⟩),
 (187,⟨1,8,[.nilFunc],.one⟩),
 (188,⟨1,8,[.int .i64 0],.int .i64⟩),
 (190,⟨1,8,[.nilFunc],.one⟩),
 (191,⟨1,8,[.nilFunc],.one⟩),
 (192,⟨1,8,[.nilFunc],.one⟩),
 (193,⟨1,8,[.nilFunc],.one⟩),
 (194,⟨1,8,[.nilFunc],.one⟩),
 (195,⟨1,8,[.nilFunc],.one⟩),
 (196,⟨1,4,[.int .u32 0],.int .u32⟩),
 (197,⟨1,8,[.nilFunc],.one⟩),
 (198,⟨1,8,[.int .u64 0],.int .u64⟩),
 (199,⟨1,8,[.nilFunc],.one⟩),
 (200,⟨1,8,[.map none],.one⟩),
 (201,⟨2,16,[.bool false,.int .i64 0],.st [(0,1),(1,1)]⟩),
 (202,⟨2,16,[.bool false,.int .i64 0],.st [(0,1),(1,1)]⟩),
 (204,⟨1,8,[.nilFunc],.one⟩),
 (205,⟨1,8,[.pointer none],.one⟩),
 (206,⟨1,8,[.pointer none],.one⟩),
 (207,⟨2,32,[.pointer none,.slice none 0 0],.st [(0,1),(1,1)]⟩),
 (208,⟨2,32,[.pointer none,.slice none 0 0],.st [(0,1),(1,1)]⟩),
 (209,⟨1,8,[.nilFunc],.one⟩),
 (213,⟨1,8,[.nilFunc],.one⟩),
 (214,⟨1,8,[.nilFunc],.one⟩),
 (215,⟨1,8,[.nilFunc],.one⟩),
 (217,⟨1,8,[.nilFunc],.one⟩),
 (218,⟨1,8,[.nilFunc],.one⟩),
 (219,⟨1,8,[.int .u64 0],.int .u64⟩),
 (220,⟨1,8,[.nilFunc],.one⟩),
 (221,⟨1,8,[.nilFunc],.one⟩),
 (222,⟨1,8,[.nilFunc],.one⟩),
 (223,⟨1,8,[.pointer none],.one⟩),
 (224,⟨1,8,[.nilFunc],.one⟩),
 (225,⟨1,8,[.nilFunc],.one⟩),
 (226,⟨1,8,[.pointer none],.one⟩),
 (227,⟨1,8,[.nilFunc],.one⟩),
 (229,⟨1,8,[.nilFunc],.one⟩),
 (230,⟨1,8,[.nilFunc],.one⟩),
 (231,⟨1,8,[.nilFunc],.one⟩),
 (232,⟨1,8,[.nilFunc],.one⟩),
 (233,⟨256,256,[.bool false,.bool false,.bool false,.bool false,.bool false,.bool false,.bool false,.bool false,.bool false,.bool false,.bool false,.bool false,.bool false,.bool false,.bool false,.bool false,.bool false,.bool false,.bool false,.bool false,.bool false,.bool false,.bool false,.bool false,.bool false,.bool false,.bool false,.bool false,.bool false,.bool false,.bool false,.bool false,.bool false,.bool false,.bool false,.bool false,.bool false,.bool false,.bool false,.bool false,.bool false,.bool false,.bool false,.bool false,.bool false,.bool false,.bool false,.bool false,.bool false,.bool false,.bool false,.bool false,.bool false,.bool false,.bool false,.bool false,.bool false,.bool false,.bool false,.bool false,.bool false,.bool false,.bool false,.bool false,.bool false,.bool false,.bool false,.bool false,.bool false,.bool false,.bool false,.bool false,.bool false,.bool false,.bool false,.bool false,.bool false,.bool false,.bool false,.bool false,.bool false,.bool false,.bool false,.bool false,.bool false,.bool false,.bool false,.bool false,.bool false,.bool false,.bool false,.bool false,.bool false,.bool false,.bool false,.bool false,.bool false,.bool false,.bool false,.bool false,.bool false,.bool false,.bool false,.bool false,.bool false,.bool false,.bool false,.bool false,.bool false,.bool false,.bool false,.bool false,.bool false,.bool false,.bool false,.bool false,.bool false,.bool false,.bool false,.bool false,.bool false,.bool false,.bool false,.bool false,.bool false,.bool false,.bool false,.bool false,.bool false,.bool false,.bool false,.bool false,.bool false,.bool false,.bool false,.bool false,.bool false,.bool false,.bool false,.bool false,.bool false,.bool false,.bool false,.bool false,.bool false,.bool false,.bool false,.bool false,.bool false,.bool false,.bool false,.bool false,.bool false,.bool false,.bool false,.bool false,.bool false,.bool false,.bool false,.bool false,.bool false,.bool false,.bool false,.bool false,.bool false,.bool false,.bool false,.bool false,.bool false,.bool false,.bool false,.bool false,.bool false,.bool false,.bool false,.bool false,.bool false,.bool false,.bool false,.bool false,.bool false,.bool false,.bool false,.bool false,.bool false,.bool false,.bool false,.bool false,.bool false,.bool false,.bool false,.bool false,.bool false,.bool false,.bool false,.bool false,.bool false,.bool false,.bool false,.bool false,.bool false,.bool false,.bool false,.bool false,.bool false,.bool false,.bool false,.bool false,.bool false,.bool false,.bool false,.bool false,.bool false,.bool false,.bool false,.bool false,.bool false,.bool false,.bool false,.bool false,.bool false,.bool false,.bool false,.bool false,.bool false,.bool false,.bool false,.bool false,.bool false,.bool false,.bool false,.bool false,.bool false,.bool false,.bool false,.bool false,.bool false,.bool false,.bool false,.bool false,.bool false,.bool false,.bool false,.bool false,.bool false,.bool false,.bool false,.bool false,.bool false,.bool false,.bool false,.bool false,.bool false,.bool false,.bool false,.bool false],.arr 256 4 1⟩),
 (234,⟨256,256,[.bool false,.bool false,.bool false,.bool false,.bool false,.bool false,.bool false,.bool false,.bool false,.bool false,.bool false,.bool false,.bool false,.bool false,.bool false,.bool false,.bool false,.bool false,.bool false,.bool false,.bool false,.bool false,.bool false,.bool false,.bool false,.bool false,.bool false,.bool false,.bool false,.bool false,.bool false,.bool false,.bool false,.bool false,.bool false,.bool false,.bool false,.bool false,.bool false,.bool false,.bool false,.bool false,.bool false,.bool false,.bool false,.bool false,.bool false,.bool false,.bool false,.bool false,.bool false,.bool false,.bool false,.bool false,.bool false,.bool false,.bool false,.bool false,.bool false,.bool false,.bool false,.bool false,.bool false,.bool false,.bool false,.bool false,.bool false,.bool false,.bool false,.bool false,.bool false,.bool false,.bool false,.bool false,.bool false,.bool false,.bool false,.bool false,.bool false,.bool false,.bool false,.bool false,.bool false,.bool false,.bool false,.bool false,.bool false,.bool false,.bool false,.bool false,.bool false,.bool false,.bool false,.bool false,.bool false,.bool false,.bool false,.bool false,.bool false,.bool false,.bool false,.bool false,.bool false,.bool false,.bool false,.bool false,.bool false,.bool false,.bool false,.bool false,.bool false,.bool false,.bool false,.bool false,.bool false,.bool false,.bool false,.bool false,.bool false,.bool false,.bool false,.bool false,.bool false,.bool false,.bool false,.bool false,.bool false,.bool false,.bool false,.bool false,.bool false,.bool false,.bool false,.bool false,.bool false,.bool false,.bool false,.bool false,.bool false,.bool false,.bool false,.bool false,.bool false,.bool false,.bool false,.bool false,.bool false,.bool false,.bool false,.bool false,.bool false,.bool false,.bool false,.bool false,.bool false,.bool false,.bool false,.bool false,.bool false,.bool false,.bool false,.bool false,.bool false,.bool false,.bool false,.bool false,.bool false,.bool false,.bool false,.bool false,.bool false,.bool false,.bool false,.bool false,.bool false,.bool false,.bool false,.bool false,.bool false,.bool false,.bool false,.bool false,.bool false,.bool false,.bool false,.bool false,.bool false,.bool false,.bool false,.bool false,.bool false,.bool false,.bool false,.bool false,.bool false,.bool false,.bool false,.bool false,.bool false,.bool false,.bool false,.bool false,.bool false,.bool false,.bool false,.bool false,.bool false,.bool false,.bool false,.bool false,.bool false,.bool false,.bool false,.bool false,.bool false,.bool false,.bool false,.bool false,.bool false,.bool false,.bool false,.bool false,.bool false,.bool false,.bool false,.bool false,.bool false,.bool false,.bool false,.bool false,.bool false,.bool false,.bool false,.bool false,.bool false,.bool false,.bool false,.bool false,.bool false,.bool false,.bool false,.bool false,.bool false,.bool false,.bool false,.bool false,.bool false,.bool false,.bool false,.bool false,.bool false,.bool false,.bool false,.bool false,.bool false,.bool false],.arr 256 4 1⟩),
 (236,⟨1,8,[.nilFunc],.one⟩),
 (237,⟨1,8,[.nilFunc],.one⟩),
 (238,⟨1,8,[.pointer none],.one⟩),
 (239,⟨1,8,[.nilFunc],.one⟩),
 (240,⟨1,8,[.pointer none],.one⟩),
 (242,⟨1,8,[.nilFunc],.one⟩),
 (244,⟨1,8,[.nilFunc],.one⟩),
 (245,⟨1,8,[.nilFunc],.one⟩),
 (246,⟨24,24,[.int .u8 0,.int .u8 0,.int .u8 0,.int .u8 0,.int .u8 0,.int .u8 0,.int .u8 0,.int .u8 0,.int .u8 0,.int .u8 0,.int .u8 0,.int .u8 0,.int .u8 0,.int .u8 0,.int .u8 0,.int .u8 0,.int .u8 0,.int .u8 0,.int .u8 0,.int .u8 0,.int .u8 0,.int .u8 0,.int .u8 0,.int .u8 0],.arr 24 5 1⟩),
 (247,⟨1,8,[.nilFunc],.one⟩),
 (249,⟨1,8,[.nilFunc],.one⟩),
 (250,⟨1,8,[.nilFunc],.one⟩),
 (251,⟨1,8,[.int .i64 0],.int .i64⟩),
 (253,⟨1,8,[.nilFunc],.one⟩),
 (254,⟨1,8,[.pointer none],.one⟩),
 (255,⟨1,8,[.nilFunc],.one⟩),
 (256,⟨1,8,[.nilFunc],.one⟩),
 (257,⟨1,8,[.nilFunc],.one⟩),
 (258,⟨1,8,[.nilFunc],.one⟩),
 (259,⟨1,8,[.nilFunc],.one⟩),
 (260,⟨20,160,[.int .u64 0,.int .u64 0,.int .u64 0,.int .u64 0,.int .u64 0,.int .u64 0,.int .u64 0,.int .u64 0,.int .u64 0,.int .u64 0,.int .u64 0,.int .u64 0,.int .u64 0,.int .u64 0,.int .u64 0,.int .u64 0,.int .u64 0,.int .u64 0,.int .u64 0,.int .u64 0],.arr 20 198 1⟩),
 (261,⟨65,65,[.int .u8 0,.int .u8 0,.int .u8 0,.int .u8 0,.int .u8 0,.int .u8 0,.int .u8 0,.int .u8 0,.int .u8 0,.int .u8 0,.int .u8 0,.int .u8 0,.int .u8 0,.int .u8 0,.int .u8 0,.int .u8 0,.int .u8 0,.int .u8 0,.int .u8 0,.int .u8 0,.int .u8 0,.int .u8 0,.int .u8 0,.int .u8 0,.int .u8 0,.int .u8 0,.int .u8 0,.int .u8 0,.int .u8 0,.int .u8 0,.int .u8 0,.int .u8 0,.int .u8 0,.int .u8 0,.int .u8 0,.int .u8 0,.int .u8 0,.int .u8 0,.int .u8 0,.int .u8 0,.int .u8 0,.int .u8 0,.int .u8 0,.int .u8 0,.int .u8 0,.int .u8 0,.int .u8 0,.int .u8 0,.int .u8 0,.int .u8 0,.int .u8 0,.int .u8 0,.int .u8 0,.int .u8 0,.int .u8 0,.int .u8 0,.int .u8 0,.int .u8 0,.int .u8 0,.int .u8 0,.int .u8 0,.int .u8 0,.int .u8 0,.int .u8 0,.int .u8 0],.arr 65 5 1⟩),
 (262,⟨256,256,[.int .u8 0,.int .u8 0,.int .u8 0,.int .u8 0,.int .u8 0,.int .u8 0,.int .u8 0,.int .u8 0,.int .u8 0,.int .u8 0,.int .u8 0,.int .u8 0,.int .u8 0,.int .u8 0,.int .u8 0,.int .u8 0,.int .u8 0,.int .u8 0,.int .u8 0,.int .u8 0,.int .u8 0,.int .u8 0,.int .u8 0,.int .u8 0,.int .u8 0,.int .u8 0,.int .u8 0,.int .u8 0,.int .u8 0,.int .u8 0,.int .u8 0,.int .u8 0,.int .u8 0,.int .u8 0,.int .u8 0,.int .u8 0,.int .u8 0,.int .u8 0,.int .u8 0,.int .u8 0,.int .u8 0,.int .u8 0,.int .u8 0,.int .u8 0,.int .u8 0,.int .u8 0,.int .u8 0,.int .u8 0,.int .u8 0,.int .u8 0,.int .u8 0,.int .u8 0,.int .u8 0,.int .u8 0,.int .u8 0,.int .u8 0,.int .u8 0,.int .u8 0,.int .u8 0,.int .u8 0,.int .u8 0,.int .u8 0,.int .u8 0,.int .u8 0,.int .u8 0,.int .u8 0,.int .u8 0,.int .u8 0,.int .u8 0,.int .u8 0,.int .u8 0,.int .u8 0,.int .u8 0,.int .u8 0,.int .u8 0,.int .u8 0,.int .u8 0,.int .u8 0,.int .u8 0,.int .u8 0,.int .u8 0,.int .u8 0,.int .u8 0,.int .u8 0,.int .u8 0,.int .u8 0,.int .u8 0,.int .u8 0,.int .u8 0,.int .u8 0,.int .u8 0,.int .u8 0,.int .u8 0,.int .u8 0,.int .u8 0,.int .u8 0,.int .u8 0,.int .u8 0,.int .u8 0,.int .u8 0,.int .u8 0,.int .u8 0,.int .u8 0,.int .u8 0,.int .u8 0,.int .u8 0,.int .u8 0,.int .u8 0,.int .u8 0,.int .u8 0,.int .u8 0,.int .u8 0,.int .u8 0,.int .u8 0,.int .u8 0,.int .u8 0,.int .u8 0,.int .u8 0,.int .u8 0,.int .u8 0,.int .u8 0,.int .u8 0,.int .u8 0,.int .u8 0,.int .u8 0,.int .u8 0,.int .u8 0,.int .u8 0,.int .u8 0,.int .u8 0,.int .u8 0,.int .u8 0,.int .u8 0,.int .u8 0,.int .u8 0,.int .u8 0,.int .u8 0,.int .u8 0,.int .u8 0,.int .u8 0,.int .u8 0,.int .u8 0,.int .u8 0,.int .u8 0,.int .u8 0,.int .u8 0,.int .u8 0,.int .u8 0,.int .u8 0,.int .u8 0,.int .u8 0,.int .u8 0,.int .u8 0,.int .u8 0,.int .u8 0,.int .u8 0,.int .u8 0,.int .u8 0,.int .u8 0,.int .u8 0,.int .u8 0,.int .u8 0,.int .u8 0,.int .u8 0,.int .u8 0,.int .u8 0,.int .u8 0,.int .u8 0,.int .u8 0,.int .u8 0,.int .u8 0,.int .u8 0,.int .u8 0,.int .u8 0,.int .u8 0,.int .u8 0,.int .u8 0,.int .u8 0,.int .u8 0,.int .u8 0,.int .u8 0,.int .u8 0,.int .u8 0,.int .u8 0,.int .u8 0,.int .u8 0,.int .u8 0,.int .u8 0,.int .u8 0,.int .u8 0,.int .u8 0,.int .u8 0,.int .u8 0,.int .u8 0,.int .u8 0,.int .u8 0,.int .u8 0,.int .u8 0,.int .u8 0,.int .u8 0,.int .u8 0,.int .u8 0,.int .u8 0,.int .u8 0,.int .u8 0,.int .u8 0,.int .u8 0,.int .u8 0,.int .u8 0,.int .u8 0,.int .u8 0,.int .u8 0,.int .u8 0,.int .u8 0,.int .u8 0,.int .u8 0,.int .u8 0,.int .u8 0,.int .u8 0,.int .u8 0,.int .u8 0,.int .u8 0,.int .u8 0,.int .u8 0,.int .u8 0,.int .u8 0,.int .u8 0,.int .u8 0,.int .u8 0,.int .u8 0,.int .u8 0,.int .u8 0,.int .u8 0,.int .u8 0,.int .u8 0,.int .u8 0,.int .u8 0,.int .u8 0,.int .u8 0,.int .u8 0,.int .u8 0,.int .u8 0,.int .u8 0,.int .u8 0,.int .u8 0,.int .u8 0,.int .u8 0,.int .u8 0,.int .u8 0,.int .u8 0,.int .u8 0,.int .u8 0,.int .u8 0,.int .u8 0,.int .u8 0,.int .u8 0],.arr 256 5 1⟩),
 (263,⟨2,2,[.int .u8 0,.int .u8 0],.st [(0,1),(1,1)]⟩),
 (264,⟨2,2,[.int .u8 0,.int .u8 0],.st [(0,1),(1,1)]⟩),
 (265,⟨32,32,[.int .u8 0,.int .u8 0,.int .u8 0,.int .u8 0,.int .u8 0,.int .u8 0,.int .u8 0,.int .u8 0,.int .u8 0,.int .u8 0,.int .u8 0,.int .u8 0,.int .u8 0,.int .u8 0,.int .u8 0,.int .u8 0,.int .u8 0,.int .u8 0,.int .u8 0,.int .u8 0,.int .u8 0,.int .u8 0,.int .u8 0,.int .u8 0,.int .u8 0,.int .u8 0,.int .u8 0,.int .u8 0,.int .u8 0,.int .u8 0,.int .u8 0,.int .u8 0],.arr 16 264 2⟩),
 (267,⟨1,8,[.nilFunc],.one⟩),
 (269,⟨1,8,[.nilFunc],.one⟩),
 (270,⟨1,8,[.nilFunc],.one⟩),
 (271,⟨3,48,[.string ⟨#[]⟩,.string ⟨#[]⟩,.nilIface],.st [(0,1),(1,1),(2,1)]⟩),
 (272,⟨3,48,[.string ⟨#[]⟩,.string ⟨#[]⟩,.nilIface],.st [(0,1),(1,1),(2,1)]⟩),
 (273,⟨1,8,[.nilFunc],.one⟩),
 (274,⟨1,8,[.nilFunc],.one⟩),
 (275,⟨1,8,[.nilFunc],.one⟩),
 (276,⟨1,8,[.pointer none],.one⟩),
 (277,⟨1,16,[.string ⟨#[]⟩],.st [(0,1)]⟩),
 (278,⟨1,16,[.string ⟨#[]⟩],.st [(0,1)]⟩),
 (279,⟨1,8,[.nilFunc],.one⟩),
 (280,⟨32,32,[.int .u8 0,.int .u8 0,.int .u8 0,.int .u8 0,.int .u8 0,.int .u8 0,.int .u8 0,.int .u8 0,.int .u8 0,.int .u8 0,.int .u8 0,.int .u8 0,.int .u8 0,.int .u8 0,.int .u8 0,.int .u8 0,.int .u8 0,.int .u8 0,.int .u8 0,.int .u8 0,.int .u8 0,.int .u8 0,.int .u8 0,.int .u8 0,.int .u8 0,.int .u8 0,.int .u8 0,.int .u8 0,.int .u8 0,.int .u8 0,.int .u8 0,.int .u8 0],.arr 32 5 1⟩),
 (281,⟨64,64,[.int .u8 0,.int .u8 0,.int .u8 0,.int .u8 0,.int .u8 0,.int .u8 0,.int .u8 0,.int .u8 0,.int .u8 0,.int .u8 0,.int .u8 0,.int .u8 0,.int .u8 0,.int .u8 0,.int .u8 0,.int .u8 0,.int .u8 0,.int .u8 0,.int .u8 0,.int .u8 0,.int .u8 0,.int .u8 0,.int .u8 0,.int .u8 0,.int .u8 0,.int .u8 0,.int .u8 0,.int .u8 0,.int .u8 0,.int .u8 0,.int .u8 0,.int .u8 0,.int .u8 0,.int .u8 0,.int .u8 0,.int .u8 0,.int .u8 0,.int .u8 0,.int .u8 0,.int .u8 0,.int .u8 0,.int .u8 0,.int .u8 0,.int .u8 0,.int .u8 0,.int .u8 0,.int .u8 0,.int .u8 0,.int .u8 0,.int .u8 0,.int .u8 0,.int .u8 0,.int .u8 0,.int .u8 0,.int .u8 0,.int .u8 0,.int .u8 0,.int .u8 0,.int .u8 0,.int .u8 0,.int .u8 0,.int .u8 0,.int .u8 0,.int .u8 0],.arr 64 5 1⟩),
 (287,⟨1,8,[.nilFunc],.one⟩),
 (290,⟨1,8,[.nilFunc],.one⟩)]
theorem tbl_b:tblB Go.Proofs.Tryz.prog tbl=true:=by kernel_rfl
theorem tbl_ok:TOk Go.Proofs.Tryz.prog tbl:=tok_of tbl_b
theorem mixed_ok:Go.Proofs.Tryz.prog.follows .mixedOrders=true:=by kernel_rfl
end Go.Proofs.YtfpkamiobdkcpaaGreatDoor
namespace Go.Proofs.YtfpkamiobdkcpaaGreatDoor
open Go.AX Go.RF
theorem eq_pair (a b:Pair) (w:World):(Op.equalIn 10000 99 (.agg #[str a.key,i64 a.n]) (.agg #[str b.key,i64 b.n])).run Tryz.prog w = .ok (decide (a=b)) w:=by
 rw[run_equalIn_agg (P:=Tryz.prog) w 9999 99 _ _ (by kernel_rfl) (by kernel_rfl)]
 obtain⟨k1,n1⟩:=a
 obtain⟨k2,n2⟩:=b
 simp only[Program.fieldsOf,Tryz.underlying99,Op.eqFields]
 simp[part,Tryz.isAgg9,Tryz.isAgg3,str,run_equalIn_string,run_equalIn_int,Tryz.underlying9,Tryz.underlying3]
 by_cases h1:k1=k2 <;> by_cases h2:n1=n2 <;> simp[h1,h2]
theorem eq_version (a b:Version) (w:World):(Op.equalIn 10000 106 (.agg #[i64 a.by_,.bool a.made,.bool a.has,i64 a.n]) (.agg #[i64 b.by_,.bool b.made,.bool b.has,i64 b.n])).run Tryz.prog w = .ok (decide (a=b)) w:=by
 rw[run_equalIn_agg (P:=Tryz.prog) w 9999 106 _ _ (by kernel_rfl) (by kernel_rfl)]
 obtain⟨k1,m1,h1,n1⟩:=a
 obtain⟨k2,m2,h2,n2⟩:=b
 simp only[Program.fieldsOf,Tryz.underlying106,Op.eqFields]
 simp[part,Tryz.isAgg4,Tryz.isAgg3,run_equalIn_bool',run_equalIn_int,Tryz.underlying4,Tryz.underlying3]
 by_cases e1:k1=k2 <;> by_cases e2:m1=m2 <;> by_cases e3:h1=h2 <;> by_cases e4:n1=n2 <;> simp[e1,e2,e3,e4]
theorem neq_pair (a b:Pair):BinR Tryz.prog .neq 99 (.agg #[str a.key,i64 a.n]) (.agg #[str b.key,i64 b.n]) (.bool (!decide (a=b))):=by
 intro w x y
 rw[Sem.run_bind,run_eqGuard_agg _ _ _ _ _ _ _ (by kernel_rfl),Result.andThen_ok,run_neq_struct,eq_pair]
 rfl
theorem neq_version (a b:Version):BinR Tryz.prog .neq 106 (.agg #[i64 a.by_,.bool a.made,.bool a.has,i64 a.n]) (.agg #[i64 b.by_,.bool b.made,.bool b.has,i64 b.n]) (.bool (!decide (a=b))):=by
 intro w x y
 rw[Sem.run_bind,run_eqGuard_agg _ _ _ _ _ _ _ (by kernel_rfl),Result.andThen_ok,run_neq_struct,eq_version]
 rfl
theorem eq_regs (n:Nat) (a0 a1 a2 a3 b0 b1 b2 b3:Int) (w:World):(Op.equalIn (n+2) 113 (.agg #[i64 a0,i64 a1,i64 a2,i64 a3]) (.agg #[i64 b0,i64 b1,i64 b2,i64 b3])).run Tryz.prog w = .ok (decide (a0=b0∧a1=b1∧a2=b2∧a3=b3)) w:=by
 have hs:∀ w,(sizeOf 3).run Tryz.prog w = .ok 1 w:=by
  intro w
  obtain⟨i,h1,h2⟩:∃ i,Tryz.prog.info? 3=some i∧i.size=1:=by
   have:=tbl_ok 3 _ rfl
   obtain⟨i,h1,h2,_⟩:=this.info
   exact⟨i,h1,h2⟩
  simp[sizeOf,typeInfo,h1,h2]
 unfold Op.equalIn
 simp only[Sem.run_bind,run_underlying Tryz.underlying113,Result.andThen_ok,hs]
 simp[Std.Legacy.Range.forIn_eq_forIn_range',List.range',Std.Legacy.Range.size,part,Tryz.isAgg3,run_equalIn_int,Tryz.underlying3]
 by_cases h0:a0=b0 <;> by_cases h1:a1=b1 <;> by_cases h2:a2=b2 <;> by_cases h3:a3=b3 <;> simp[h0,h1,h2,h3]
def Done.vals (e:Done):List Value:=[.bool e.failed,i64 e.r0,i64 e.r1,i64 e.r2,i64 e.r3]
theorem eq_done (a b:Done) (w:World):(Op.equalIn 10000 115 (.agg (Done.vals a).toArray) (.agg (Done.vals b).toArray)).run Tryz.prog w = .ok (decide (a=b)) w:=by
 rw[run_equalIn_agg (P:=Tryz.prog) w 9999 115 _ _ (by kernel_rfl) (by kernel_rfl)]
 obtain⟨f,a0,a1,a2,a3⟩:=a
 obtain⟨g,b0,b1,b2,b3⟩:=b
 have hs:∀ w,(sizeOf 113).run Tryz.prog w = .ok 4 w:=by
  intro w
  obtain⟨i,h1,h2⟩:∃ i,Tryz.prog.info? 113=some i∧i.size=4:=by
   have:=tbl_ok 113 _ rfl
   obtain⟨i,h1,h2,_⟩:=this.info
   exact⟨i,h1,h2⟩
  simp[sizeOf,typeInfo,h1,h2]
 have hp:∀ (f:Bool) (a0 a1 a2 a3:Int) (w:World),(part 113 #[.bool f,i64 a0,i64 a1,i64 a2,i64 a3] 1).run Tryz.prog w = .ok (.agg #[i64 a0,i64 a1,i64 a2,i64 a3]) w:=by
  intro f a0 a1 a2 a3 w
  simp[part,Tryz.isAgg113,hs]
 have hb:∀ (f:Bool) (a0 a1 a2 a3:Int) (w:World),(part 4 #[.bool f,i64 a0,i64 a1,i64 a2,i64 a3] 0).run Tryz.prog w = .ok (.bool f) w:=by
  intro f a0 a1 a2 a3 w
  simp[part,Tryz.isAgg4]
 have he:=fun w=>eq_regs 9997 a0 a1 a2 a3 b0 b1 b2 b3 w
 simp only[Program.fieldsOf,Tryz.underlying115,Op.eqFields,Done.vals]
 simp[hb,hp,he,run_equalIn_bool',Tryz.underlying4]
 by_cases e1:f=g
 ·
  subst e1
  by_cases h0:a0=b0 <;> by_cases h1:a1=b1 <;> by_cases h2:a2=b2 <;> by_cases h3:a3=b3 <;> simp[h0,h1,h2,h3]
 ·
  simp[e1]
theorem neq_done (a b:Done):BinR Tryz.prog .neq 115 (.agg (Done.vals a).toArray) (.agg (Done.vals b).toArray) (.bool (!decide (a=b))):=by
 intro w x y
 rw[Sem.run_bind,run_eqGuard_agg _ _ _ _ _ _ _ (by kernel_rfl),Result.andThen_ok,run_neq_struct,eq_done]
 rfl
theorem eq_ins (a b:Ins) (w:World):(Op.equalIn 10000 153 (.agg #[i64 a.kind,i64 a.a,i64 a.b,i64 a.n,str a.key]) (.agg #[i64 b.kind,i64 b.a,i64 b.b,i64 b.n,str b.key])).run Tryz.prog w = .ok (decide (a=b)) w:=by
 rw[run_equalIn_agg (P:=Tryz.prog) w 9999 153 _ _ (by kernel_rfl) (by kernel_rfl)]
 obtain⟨k1,a1,b1,n1,s1⟩:=a
 obtain⟨k2,a2,b2,n2,s2⟩:=b
 simp only[Program.fieldsOf,Tryz.underlying153,Op.eqFields]
 simp[part,Tryz.isAgg9,Tryz.isAgg3,str,run_equalIn_string,run_equalIn_int,Tryz.underlying9,Tryz.underlying3]
 by_cases e1:k1=k2 <;> by_cases e2:a1=a2 <;> by_cases e3:b1=b2 <;> by_cases e4:n1=n2 <;> by_cases e5:s1=s2 <;> simp[e1,e2,e3,e4,e5]
theorem neq_ins (a b:Ins):BinR Tryz.prog .neq 153 (.agg #[i64 a.kind,i64 a.a,i64 a.b,i64 a.n,str a.key]) (.agg #[i64 b.kind,i64 b.a,i64 b.b,i64 b.n,str b.key]) (.bool (!decide (a=b))):=by
 intro w x y
 rw[Sem.run_bind,run_eqGuard_agg _ _ _ _ _ _ _ (by kernel_rfl),Result.andThen_ok,run_neq_struct,eq_ins]
 rfl
set_option maxRecDepth 100000
theorem ok_SameInts (l r:List Int) (hl:l.length≤1073741824):FnOk Tryz.prog 18 [.d (encInts l),.d (encInts r)] (.one (dbool (allB (fun a b=>decide (a=b)) l r))):=by
 refine fnOk_of tbl_ok mixed_ok Tryz.func18 rfl (by kernel_rfl) rfl rfl fun w0 own0=>?_
 by_cases hlen:l.length=r.length
 ·
  try refine wk ?_
  refine CW.loop (fun k=>[(.s 0,.av (.d (encInts l))),(.s 1,.av (.d (encInts r))),(.s 11,.av (.d (encInts l))),(.s 12,.av (.d (dint l.length))),(.s 13,.av (.d (dint k))),(.nx,.num 0)]) (agree (fun a b=>decide (a=b)) l r) ?_ fun k hk=>?_
  ·
   exact by_less
  ·
   rcases agree_case hlen hk with ⟨h1,h1',a,b,h2,h3,h4⟩|⟨h1,h2⟩|⟨h1,h2,a,b,h3,h4,h5⟩
   ·
    replace h4:a=b:=by simpa using h4
    try refine wk ?_
    refine q_loop h1 ?_
    exact by_less
   ·
    try refine wk ?_
    exact .one (.tmp rfl (.one (.d (dle_bool h2.symm))))
   ·
    replace h5:¬ a=b:=by simpa using h5
    try refine wk ?_
    exact .one (.tmp rfl (.one (.d (dle_bool h2.symm))))
 ·
  try refine wk ?_
  refine .one (.tmp rfl (.one (.d (dle_bool ?_))))
  cases hb:allB (fun a b=>decide (a=b)) l r
  ·
   rfl
  ·
   exact absurd (allB_len hb) hlen
theorem ok_SameRows (l r:List Pair) (hl:l.length≤1073741824):FnOk Tryz.prog 38 [.d (encRows l),.d (encRows r)] (.one (dbool (allB (fun a b=>decide (a=b)) l r))):=by
 refine fnOk_of tbl_ok mixed_ok Tryz.func38 rfl (by kernel_rfl) rfl rfl fun w0 own0=>?_
 by_cases hlen:l.length=r.length
 ·
  try refine wk ?_
  refine CW.loop (fun k=>[(.s 0,.av (.d (encRows l))),(.s 1,.av (.d (encRows r))),(.s 11,.av (.d (encRows l))),(.s 12,.av (.d (dint l.length))),(.s 13,.av (.d (dint k))),(.nx,.num 0)]) (agree (fun a b=>decide (a=b)) l r) ?_ fun k hk=>?_
  ·
   exact by_less
  ·
   rcases agree_case hlen hk with ⟨h1,h1',a,b,h2,h3,h4⟩|⟨h1,h2⟩|⟨h1,h2,a,b,h3,h4,h5⟩
   ·
    replace h4:a=b:=by simpa using h4
    repeat(first|refine wa ?_|((with_reducible apply s5);(first|((with_reducible apply a_agg);exact neq_pair a b;(iterate 5 exact rfl))|exact by_oa|exact by_ca);exact by_g)|refine wb ?_)
    refine q_loop h1 ?_
    exact by_less
   ·
    try refine wk ?_
    exact .one (.tmp rfl (.one (.d (dle_bool h2.symm))))
   ·
    replace h5:¬ a=b:=by simpa using h5
    repeat(first|refine wa ?_|((with_reducible apply s5);(first|((with_reducible apply a_agg);exact neq_pair a b;(iterate 5 exact rfl))|exact by_oa|exact by_ca);exact by_g)|refine wb ?_)
    exact .one (.tmp rfl (.one (.d (dle_bool h2.symm))))
 ·
  try refine wk ?_
  refine .one (.tmp rfl (.one (.d (dle_bool ?_))))
  cases hb:allB (fun a b=>decide (a=b)) l r
  ·
   rfl
  ·
   exact absurd (allB_len hb) hlen
theorem ok_SameTexts (l r:List Str) (hl:l.length≤1073741824):FnOk Tryz.prog 21 [.d (encStrs l),.d (encStrs r)] (.one (dbool (allB (fun a b=>decide (a=b)) l r))):=by
 refine fnOk_of tbl_ok mixed_ok Tryz.func21 rfl (by kernel_rfl) rfl rfl fun w0 own0=>?_
 by_cases hlen:l.length=r.length
 ·
  try refine wk ?_
  refine CW.loop (fun k=>[(.s 0,.av (.d (encStrs l))),(.s 1,.av (.d (encStrs r))),(.s 11,.av (.d (encStrs l))),(.s 12,.av (.d (dint l.length))),(.s 13,.av (.d (dint k))),(.nx,.num 0)]) (agree (fun a b=>decide (a=b)) l r) ?_ fun k hk=>?_
  ·
   exact by_less
  ·
   rcases agree_case hlen hk with ⟨h1,h1',a,b,h2,h3,h4⟩|⟨h1,h2⟩|⟨h1,h2,a,b,h3,h4,h5⟩
   ·
    replace h4:a=b:=by simpa using h4
    try refine wk ?_
    refine q_loop h1 ?_
    exact by_less
   ·
    try refine wk ?_
    exact .one (.tmp rfl (.one (.d (dle_bool h2.symm))))
   ·
    replace h5:¬ a=b:=by simpa using h5
    try refine wk ?_
    exact .one (.tmp rfl (.one (.d (dle_bool h2.symm))))
 ·
  try refine wk ?_
  refine .one (.tmp rfl (.one (.d (dle_bool ?_))))
  cases hb:allB (fun a b=>decide (a=b)) l r
  ·
   rfl
  ·
   exact absurd (allB_len hb) hlen
set_option maxHeartbeats 4000000
theorem ok_sameEnds (l r:List Done) (hl:l.length≤268435456):FnOk Tryz.prog 62 [.d (encEnds l),.d (encEnds r)] (.one (dbool (allB (fun a b=>decide (a=b)) l r))):=by
 refine fnOk_of tbl_ok mixed_ok Tryz.func62 rfl (by kernel_rfl) rfl rfl fun w0 own0=>?_
 by_cases hlen:l.length=r.length
 ·
  try refine wk ?_
  refine CW.loop (fun k=>[(.s 0,.av (.d (encEnds l))),(.s 1,.av (.d (encEnds r))),(.s 11,.av (.d (encEnds l))),(.s 12,.av (.d (dint l.length))),(.s 13,.av (.d (dint k))),(.nx,.num 0)]) (agree (fun a b=>decide (a=b)) l r) ?_ fun k hk=>?_
  ·
   exact by_less
  ·
   rcases agree_case hlen hk with ⟨h1,h1',a,b,h2,h3,h4⟩|⟨h1,h2⟩|⟨h1,h2,a,b,h3,h4,h5⟩
   ·
    replace h4:a=b:=by simpa using h4
    repeat(first|refine wa ?_|((with_reducible apply s5);(first|((with_reducible apply a_agg);exact neq_done a b;(iterate 5 exact rfl))|exact by_oa|exact by_ca);exact by_g)|refine wb ?_)
    refine q_loop h1 ?_
    exact by_less
   ·
    try refine wk ?_
    exact .one (.tmp rfl (.one (.d (dle_bool h2.symm))))
   ·
    replace h5:¬ a=b:=by simpa using h5
    repeat(first|refine wa ?_|((with_reducible apply s5);(first|((with_reducible apply a_agg);exact neq_done a b;(iterate 5 exact rfl))|exact by_oa|exact by_ca);exact by_g)|refine wb ?_)
    exact .one (.tmp rfl (.one (.d (dle_bool h2.symm))))
 ·
  try refine wk ?_
  refine .one (.tmp rfl (.one (.d (dle_bool ?_))))
  cases hb:allB (fun a b=>decide (a=b)) l r
  ·
   rfl
  ·
   exact absurd (allB_len hb) hlen
theorem ok_sameDeed (d e:Deed) (hr:d.reads.length≤268435456) (hw:d.writes.length≤268435456) (hc:d.code.length≤268435456) :
  FnOk Tryz.prog 104 [.d (.agg d.enc),.d (.agg e.enc)] (.one (dbool (decide (d=e)))):=by
 refine fnOk_of tbl_ok mixed_ok Tryz.func104 rfl (by kernel_rfl) rfl rfl fun w0 own0=>?_
 have c1:=ok_SameTexts d.reads e.reads (by omega)
 have c2:=ok_SameTexts d.writes e.writes (by omega)
 rw[allB_eq (fun a b=>rfl)]at c1 c2
 obtain⟨dr,dw,dc⟩:=d
 obtain⟨er,ew,ec⟩:=e
 dsimp only at hr hw hc c1 c2
 by_cases e1:dr=er
 ·
  by_cases e2:dw=ew
  ·
   by_cases hlen:dc.length=ec.length
   ·
    repeat(first|refine wa ?_|((with_reducible apply s5);(first|exact a_call c1 rfl by_sub|exact a_call c2 rfl by_sub|exact by_oa|exact by_ca);exact by_g)|refine wb ?_)
    refine CW.loop (fun k=>[(.s 2,.av (.ptr 0 0)),(.o 0,.ob (.box ((Deed.enc ⟨dr,dw,dc⟩).map AV.d))),(.s 3,.av (.ptr 1 0)),(.o 1,.ob (.box ((Deed.enc ⟨er,ew,ec⟩).map AV.d))),(.s 31,.av (.d (dint dc.length))),(.s 32,.av (.d (dint k))),(.nx,.num 2)]) (agree (fun a b=>decide (a=b)) dc ec) ?_ fun k hk=>?_
    ·
     exact by_less
    ·
     rcases agree_case hlen hk with ⟨h1,h1',a,b,h2,h3,h4⟩|⟨h1,h2⟩|⟨h1,h2,a,b,h3,h4,h5⟩
     ·
      replace h4:a=b:=by simpa using h4
      repeat(first|refine wa ?_|((with_reducible apply s5);(first|((with_reducible apply a_agg);exact neq_ins a b;(iterate 5 exact rfl))|exact by_oa|exact by_ca);exact by_g)|refine wb ?_)
      refine q_loop h1 ?_
      exact by_less
     ·
      try refine wk ?_
      rw[allB_eq (fun a b=>rfl)]at h2
      exact .one (.tmp rfl (.one (.d (dle_bool (by simp at h2;simp[e1,e2,h2])))))
     ·
      replace h5:¬ a=b:=by simpa using h5
      repeat(first|refine wa ?_|((with_reducible apply s5);(first|((with_reducible apply a_agg);exact neq_ins a b;(iterate 5 exact rfl))|exact by_oa|exact by_ca);exact by_g)|refine wb ?_)
      rw[allB_eq (fun a b=>rfl)]at h2
      exact .one (.tmp rfl (.one (.d (dle_bool (by simp at h2;simp[h2])))))
   ·
    repeat(first|refine wa ?_|((with_reducible apply s5);(first|exact a_call c1 rfl by_sub|exact a_call c2 rfl by_sub|exact by_oa|exact by_ca);exact by_g)|refine wb ?_)
    exact .one (.tmp rfl (.one (.d (dle_bool (by have:dc≠ec:=fun h=>hlen (by rw[h]);simp[this])))))
  ·
   repeat(first|refine wa ?_|((with_reducible apply s5);(first|exact a_call c1 rfl by_sub|exact a_call c2 rfl by_sub|exact by_oa|exact by_ca);exact by_g)|refine wb ?_)
   exact .one (.tmp rfl (.one (.d (dle_bool (by simp[e2])))))
 ·
  repeat(first|refine wa ?_|((with_reducible apply s5);(first|exact a_call c1 rfl by_sub|exact a_call c2 rfl by_sub|exact by_oa|exact by_ca);exact by_g)|refine wb ?_)
  exact .one (.tmp rfl (.one (.d (dle_bool (by simp[e1])))))
theorem ok_sameDeeds (l r:List Deed) (hl:l.length≤268435456) (hd:∀ d∈l,d.Sm):FnOk Tryz.prog 61 [.d (encDeeds l),.d (encDeeds r)] (.one (dbool (allB (fun a b=>decide (a=b)) l r))):=by
 refine fnOk_of tbl_ok mixed_ok Tryz.func61 rfl (by kernel_rfl) rfl rfl fun w0 own0=>?_
 by_cases hlen:l.length=r.length
 ·
  try refine wk ?_
  refine CW.loop (fun k=>[(.s 0,.av (.d (encDeeds l))),(.s 1,.av (.d (encDeeds r))),(.s 12,.av (.d (dint l.length))),(.s 13,.av (.d (dint k))),(.nx,.num 0)]) (agree (fun a b=>decide (a=b)) l r) ?_ fun k hk=>?_
  ·
   exact by_less
  ·
   rcases agree_case hlen hk with ⟨h1,h1',a,b,h2,h3,h4⟩|⟨h1,h2⟩|⟨h1,h2,a,b,h3,h4,h5⟩
   ·
    have hc:=ok_sameDeed a b (hd a (List.mem_of_getElem? h2)).r (hd a (List.mem_of_getElem? h2)).w (hd a (List.mem_of_getElem? h2)).c
    rw[show decide (a=b)=true from h4]at hc
    try refine wk ?_
    refine q_loop h1 ?_
    exact by_less
   ·
    try refine wk ?_
    exact .one (.tmp rfl (.one (.d (dle_bool h2.symm))))
   ·
    have hc:=ok_sameDeed a b (hd a (List.mem_of_getElem? h3)).r (hd a (List.mem_of_getElem? h3)).w (hd a (List.mem_of_getElem? h3)).c
    rw[show decide (a=b)=false from h5]at hc
    try refine wk ?_
    exact .one (.tmp rfl (.one (.d (dle_bool h2.symm))))
 ·
  try refine wk ?_
  refine .one (.tmp rfl (.one (.d (dle_bool ?_))))
  cases hb:allB (fun a b=>decide (a=b)) l r
  ·
   rfl
  ·
   exact absurd (allB_len hb) hlen
theorem ok_get (l:List Pair) (k:Str) (hl:l.length≤1073741824):FnOk Tryz.prog 86 [.d (encRows l),.d (dstr k)] (.tup [dint (RF.get l k).1,dbool (RF.get l k).2]):=by
 refine fnOk_of tbl_ok mixed_ok Tryz.func86 rfl (by kernel_rfl) rfl rfl fun w0 own0=>?_
 try refine wk ?_
 refine CW.loopT (fun i:Nat=>[(.s 1,.av (.d (dstr k))),(.s 8,.av (.d (encRows l))),(.s 9,.av (.d (dint l.length))),(.s 10,.av (.d (dint i))),(.nx,.num 0)]) (fun i=>i≤l.length∧RF.get (l.drop i) k=RF.get l k) (fun i=>l.length - i) 0 ⟨by omega,rfl⟩ ?_ fun i hI=>?_
 ·
  exact by_less
 ·
  obtain⟨hi,hI⟩:=hI
  rcases drop_case hi with ⟨h1,h2⟩|⟨p,h1,h2,h3⟩
  ·
   try refine wk ?_
   rw[h1]at hI
   rw[← hI]
   exact .two (.tmp rfl (.one (.d (.refl _)))) (.tmp rfl (.one (.d (.refl _))))
  ·
   rw[h1]at hI
   simp only[RF.get]at hI
   by_cases h4:p.key=k
   ·
    try refine wk ?_
    rw[if_pos h4]at hI
    rw[← hI]
    exact .two (.tmp rfl (.one (.d (.refl _)))) (.tmp rfl (.one (.d (.refl _))))
   ·
    try refine wk ?_
    rw[if_neg h4]at hI
    refine q_loopT (i+1) ⟨by omega,hI⟩ (by omega) ?_
    exact by_less
theorem ok_in (l:List Str) (k:Str) (hl:l.length≤1073741824):FnOk Tryz.prog 110 [.d (encStrs l),.d (dstr k)] (.one (dbool (isIn l k))):=by
 refine fnOk_of tbl_ok mixed_ok Tryz.func110 rfl (by kernel_rfl) rfl rfl fun w0 own0=>?_
 try refine wk ?_
 refine CW.loopT (fun i:Nat=>[(.s 1,.av (.d (dstr k))),(.s 7,.av (.d (encStrs l))),(.s 8,.av (.d (dint l.length))),(.s 9,.av (.d (dint i))),(.nx,.num 0)]) (fun i=>i≤l.length∧isIn (l.drop i) k=isIn l k) (fun i=>l.length - i) 0 ⟨by omega,rfl⟩ ?_ fun i hI=>?_
 ·
  exact by_less
 ·
  obtain⟨hi,hI⟩:=hI
  rcases drop_case hi with ⟨h1,h2⟩|⟨p,h1,h2,h3⟩
  ·
   try refine wk ?_
   rw[h1]at hI
   rw[← hI]
   exact .one (.tmp rfl (.one (.d (.refl _))))
  ·
   rw[h1]at hI
   simp only[isIn]at hI
   by_cases h4:p=k
   ·
    try refine wk ?_
    rw[if_pos h4]at hI
    rw[← hI]
    exact .one (.tmp rfl (.one (.d (.refl _))))
   ·
    try refine wk ?_
    rw[if_neg h4]at hI
    refine q_loopT (i+1) ⟨by omega,hI⟩ (by omega) ?_
    exact by_less
theorem ok_key (s:Str) (hl:s.length≤1073741824):FnOk Tryz.prog 59 [.d (dstr s)] (.one (dbool (key s))):=by
 refine fnOk_of tbl_ok mixed_ok Tryz.func59 rfl (by kernel_rfl) rfl rfl fun w0 own0=>?_
 try refine wk ?_
 refine CW.loopT (fun i:Nat=>[(.s 0,.av (.d (dstr s))),(.s 5,.av (.d (dint s.length))),(.s 6,.av (.d (dint i))),(.nx,.num 0)]) (fun i=>i≤s.length∧keyGo s (s.drop i)=key s) (fun i=>s.length - i) 0 ⟨by omega,rfl⟩ ?_ fun i hI=>?_
 ·
  exact by_less
 ·
  obtain⟨hi,hI⟩:=hI
  rcases drop_case hi with ⟨h1,h2⟩|⟨c,h1,h2,h3⟩
  ·
   rw[h1]at hI
   simp only[keyGo]at hI
   by_cases h4:0 < s.length
   ·
    try refine wk ?_
    exact .one (.tmp rfl (.one (.d (dle_bool (by rw[← hI];simp[h4];omega)))))
   ·
    try refine wk ?_
    exact .one (.tmp rfl (.one (.d (dle_bool (by rw[← hI];simp[h4])))))
  ·
   rw[h1]at hI
   simp only[keyGo]at hI
   by_cases h4:(c.toNat:Int) < 97
   ·
    try refine wk ?_
    rw[if_pos (by simp only[bad,h4];rfl)]at hI
    exact .one (.tmp rfl (.one (.d (dle_bool hI))))
   ·
    by_cases h5:(122:Int) < (c.toNat:Int)
    ·
     try refine wk ?_
     rw[if_pos (by simp[bad,h5])]at hI
     exact .one (.tmp rfl (.one (.d (dle_bool hI))))
    ·
     try refine wk ?_
     rw[if_neg (by simp[bad];omega)]at hI
     refine q_loopT (i+1) ⟨by omega,hI⟩ (by omega) ?_
     exact by_less
theorem ok_round (n:Int) (hn : -4611686018427387904≤n∧n≤4611686018427387904):FnOk Tryz.prog 123 [.d (dint n)] (.one (dint (round n))):=by
 refine fnOk_of tbl_ok mixed_ok Tryz.func123 rfl (by kernel_rfl) rfl rfl fun w0 own0=>?_
 have h1:n.tdiv 1073741825*1073741825+n.tmod 1073741825=n:=Int.tdiv_mul_add_tmod n 1073741825
 have h2:n.tmod 1073741825 < 1073741825:=Int.tmod_lt_of_pos n (by omega)
 have h3 : -1073741825 < n.tmod 1073741825:=by
  have:=Int.neg_le_neg (Int.le_of_lt (Int.tmod_lt_of_pos (-n) (show(0:Int) < 1073741825 by omega)))
  have h4:=Int.tmod_lt_of_pos (-n) (show(0:Int) < 1073741825 by omega)
  rw[Int.neg_tmod]at h4
  omega
 repeat(first|((with_reducible apply st_bin);exact rfl;exact rfl;(first|(apply bin_quo;omega;omega)|(apply bin_mul;omega)|(apply bin_sub;omega));exact .none rfl;exact rfl)|refine wa1 ?_|((with_reducible apply s5);(first|exact by_oa|exact by_ca);exact by_g)|refine wb ?_)
 exact .one (.tmp rfl (.one (.d (.refl _))))
theorem form_at {k:Nat}(h:k < 10):forms[k]? = some (form k):=by
 simp[form,List.getD_eq_getElem?_getD,List.getElem?_eq_getElem (show k < forms.length from h)]
theorem ok_form (k:Nat) (hk:k < 10):FnOk Tryz.prog 131 [.d (dint k)] (.one (dstr (form k))):=by
 refine fnOk_of tbl_ok mixed_ok Tryz.func131 rfl (by kernel_rfl) rfl rfl fun w0 own0=>?_
 have h:=form_at hk
 repeat(first|((with_reducible apply s5);((with_reducible apply a_bs (forms.map encStr1));(iterate 9 exact rfl);(repeat(first|exact PartsE.nil|(apply PartsE.cons;exact rfl;exact rfl))));exact by_g)|refine wa1 ?_|((with_reducible apply s5);(first|exact by_oa|exact by_ca);exact by_g)|refine wb ?_)
 exact .one (.tmp rfl (.one (.d (.refl _))))
theorem form_len (k:Nat):(form k).length≤2:=by
 rcases Nat.lt_or_ge k 10 with h|h
 ·
  have:∀ k:Fin 10,(form k).length≤2:=by decide
  exact this ⟨k,h⟩
 ·
  simp[form,List.getD_eq_getElem?_getD,List.getElem?_eq_none (show forms.length≤k from h)]
theorem ok_has (k:Nat) (c:UInt8) (hk:k < 10):FnOk Tryz.prog 111 [.d (dint k),.d (.v (.int .u8 c.toNat))] (.one (dbool (has k c))):=by
 refine fnOk_of tbl_ok mixed_ok Tryz.func111 rfl (by kernel_rfl) rfl rfl fun w0 own0=>?_
 have hl:=form_len k
 repeat(first|refine wa ?_|((with_reducible apply s5);(first|exact a_call (ok_form k hk) rfl by_sub|exact by_oa|exact by_ca);exact by_g)|refine wb ?_)
 refine CW.loopT (fun i:Nat=>[(.s 1,.av (.d (.v (.int .u8 c.toNat)))),(.s 5,.av (.d (dstr (form k)))),(.s 10,.av (.d (dint (form k).length))),(.s 11,.av (.d (dint i))),(.nx,.num 0)]) (fun i=>i≤(form k).length∧hasGo c ((form k).drop i)=has k c) (fun i=>(form k).length - i) 0 ⟨by omega,rfl⟩ ?_ fun i hI=>?_
 ·
  exact by_less
 ·
  obtain⟨hi,hI⟩:=hI
  rcases drop_case hi with ⟨h1,h2⟩|⟨x,h1,h2,h3⟩
  ·
   try refine wk ?_
   rw[h1]at hI
   rw[← hI]
   exact .one (.tmp rfl (.one (.d (.refl _))))
  ·
   rw[h1]at hI
   simp only[hasGo]at hI
   by_cases h4:x=c
   ·
    have h5:(x.toNat:Int)=(c.toNat:Int):=by rw[h4]
    try refine wk ?_
    rw[if_pos h4]at hI
    rw[← hI]
    exact .one (.tmp rfl (.one (.d (.refl _))))
   ·
    have h5:¬ ((x.toNat:Int)=(c.toNat:Int)):=fun h=>h4 (UInt8.toNat_inj.1 (by omega))
    try refine wk ?_
    rw[if_neg h4]at hI
    refine q_loopT (i+1) ⟨by omega,hI⟩ (by omega) ?_
    exact by_less
theorem ok_before (l:List Chain) (k:Str) (b:Int) (hl:l.length≤268435456) (hv:∀ c∈l,c.vs.length≤268435456):FnOk Tryz.prog 75 [.d (encChains l),.d (dstr k),.d (dint b)] (.one (.agg (before l k b).enc)):=by
 refine fnOk_of tbl_ok mixed_ok Tryz.func75 rfl (by kernel_rfl) rfl rfl fun w0 own0=>?_
 try refine wk ?_
 refine CW.loopT (fun t:Nat×Version=>[(.s 1,.av (.d (dstr k))),(.s 2,.av (.d (dint b))),(.s 6,.av (.ptr 0 0)),(.o 0,.ob (.box ((Version.enc ⟨0,false,false,0⟩).map AV.d))),(.s 7,.av (.ptr 1 0)),(.o 1,.ob (.box (t.2.enc.map AV.d))),(.s 13,.av (.d (encChains l))),(.s 14,.av (.d (dint l.length))),(.s 15,.av (.d (dint t.1))),(.nx,.num 2)])
  (fun t=>t.1≤l.length∧beforeGo k b t.2 (l.drop t.1)=before l k b) (fun t=>l.length - t.1) (0,⟨-1,true,false,0⟩) ⟨by omega,rfl⟩ ?_ ?_
 ·
  exact by_less
 ·
  rintro ⟨i,out⟩ ⟨hi,hI⟩
  dsimp only at hi hI ⊢
  rcases drop_case hi with ⟨h1,h2⟩|⟨c,h1,h2,h3⟩
  ·
   rw[h1]at hI
   simp only[beforeGo]at hI
   try refine wk ?_
   rw[← hI]
   exact .one (.cell rfl rfl rfl rfl (.aggd rfl (.refl _)))
  ·
   rw[h1]at hI
   simp only[beforeGo]at hI
   have hcv:=hv c (List.mem_of_getElem? h2)
   try refine wk ?_
   refine CW.loopT (fun t:Nat×Version=>[(.s 1,.av (.d (dstr k))),(.s 2,.av (.d (dint b))),(.s 6,.av (.ptr 0 0)),(.o 0,.ob (.box ((Version.enc ⟨0,false,false,0⟩).map AV.d))),(.s 7,.av (.ptr 1 0)),(.o 1,.ob (.box (t.2.enc.map AV.d))),(.s 13,.av (.d (encChains l))),(.s 14,.av (.d (dint l.length))),(.s 15,.av (.d (dint i))),
     (.s 9,.av (.ptr 2 0)),(.o 2,.ob (.box (c.enc.map AV.d))),(.s 20,.av (.d (encVs c.vs))),(.s 21,.av (.d (dint c.vs.length))),(.s 22,.av (.d (dint t.1))),(.nx,.num 3)])
    (fun t=>t.1≤c.vs.length∧bvs (decide (c.key=k)) b t.2 (c.vs.drop t.1)=bvs (decide (c.key=k)) b out c.vs) (fun t=>c.vs.length - t.1) (0,out) ⟨by omega,rfl⟩ ?_ ?_
   ·
    exact by_less
   ·
    rintro ⟨j,o2⟩ ⟨hj,hJ⟩
    dsimp only at hj hJ ⊢
    rcases drop_case hj with ⟨h5,h6⟩|⟨v,h5,h6,h7⟩
    ·
     rw[h5]at hJ
     simp only[bvs]at hJ
     try refine wk ?_
     refine q_loopT (i+1,o2) ⟨by dsimp only;omega,by rw[hJ];exact hI⟩ (by dsimp only;omega) ?_
     exact by_less
    ·
     rw[h5]at hJ
     simp only[bvs]at hJ
     by_cases h8:c.key=k
     ·
      by_cases h9:v.by_ < b
      ·
       rw[if_pos (by simp[h8,h9])]at hJ
       try refine wk ?_
       refine q_loopT (j+1,v) ⟨by dsimp only;omega,hJ⟩ (by dsimp only;omega) ?_
       exact by_less
      ·
       rw[if_neg (by simp[h9])]at hJ
       try refine wk ?_
       refine q_loopT (j+1,o2) ⟨by dsimp only;omega,hJ⟩ (by dsimp only;omega) ?_
       exact by_less
     ·
      rw[if_neg (by simp[h8])]at hJ
      try refine wk ?_
      refine q_loopT (j+1,o2) ⟨by dsimp only;omega,hJ⟩ (by dsimp only;omega) ?_
      exact by_less
theorem ls_first {l:List Str}{r:List (List Str)}{v:Int}(h:lsGo (l::r)=v):(keysWrong l=0∧lsGo r=v)∨(keysWrong l≠0∧keysWrong l=v):=by
 simp only[lsGo]at h
 split at h
 ·
  next h0=>exact .inl ⟨h0,h⟩
 ·
  next h0=>exact .inr ⟨h0,h⟩
theorem ok_wrongDeed (d:Deed) (hr:d.reads.length≤268435456) (hw:d.writes.length≤268435456) (hc:d.code.length≤268435456)
  (hrk:∀ s∈d.reads,s.length≤1073741824) (hwk:∀ s∈d.writes,s.length≤1073741824):FnOk Tryz.prog 67 [.d (.agg d.enc)] (.one (dint (wrongDeed d))):=by
 refine fnOk_of tbl_ok mixed_ok Tryz.func67 rfl (by kernel_rfl) rfl rfl fun w0 own0=>?_
 repeat(first|((with_reducible apply s5);((with_reducible apply a_bs ([d.reads,d.writes].map fun l=>[encStrs l]));(iterate 9 exact rfl);(repeat(first|exact PartsE.nil|(apply PartsE.cons;exact rfl;exact rfl))));exact by_g)|refine wa1 ?_|((with_reducible apply s5);(first|exact by_oa|exact by_ca);exact by_g)|refine wb ?_)
 refine CW.loopT (fun j:Nat=>[(.s 1,.av (.ptr 0 0)),(.o 0,.ob (.box (d.enc.map AV.d))),(.s 18,.av (.d (.sl 1 ([d.reads,d.writes].map fun l=>[encStrs l])))),(.s 19,.av (.d (dint 2))),(.s 20,.av (.d (dint j))),(.nx,.num 1)])
  (fun j=>j≤[d.reads,d.writes].length∧lsGo ([d.reads,d.writes].drop j)=lsGo [d.reads,d.writes]) (fun j=>2 - j) 0 ⟨by simp,rfl⟩ ?_ ?_
 ·
  exact by_less
 ·
  rintro j ⟨hj,hI⟩
  have hj2:j≤2:=hj
  rcases drop_case hj with ⟨h1,h2⟩|⟨l,h1,h2,h3⟩
  ·
   have h2':j=2:=h2
   rw[h1]at hI
   have hI':lsGo [d.reads,d.writes]=0:=hI.symm
   by_cases h4:12 < d.code.length
   ·
    try refine wk ?_
    exact .one (.tmp rfl (.one (.d (dle_int (by simp[wrongDeed,hI',h4])))))
   ·
    try refine wk ?_
    refine CW.loopT (fun k:Nat=>[(.s 1,.av (.ptr 0 0)),(.o 0,.ob (.box (d.enc.map AV.d))),(.s 51,.av (.d (encCode d.code))),(.s 52,.av (.d (dint d.code.length))),(.s 53,.av (.d (dint k))),(.nx,.num 1)])
     (fun k=>k≤d.code.length∧codeGo d k (d.code.drop k)=codeGo d 0 d.code) (fun k=>d.code.length - k) 0 ⟨by omega,rfl⟩ ?_ ?_
    ·
     exact by_less
    ·
     rintro k ⟨hk,hC⟩
     rcases drop_case hk with ⟨h5,h6⟩|⟨i,h5,h6,h7⟩
     ·
      rw[h5]at hC
      simp only[codeGo]at hC
      try refine wk ?_
      exact .one (.tmp rfl (.one (.d (dle_int (by rw[wrongDeed,if_pos hI',if_neg h4,hC])))))
     ·
      rw[h5]at hC
      have hbad:wrongIns d ((d.code.length:Int) - 1 - k) i≠0→wrongIns d ((d.code.length:Int) - 1 - k) i=wrongDeed d:=fun h0=>by
       rw[codeGo,if_neg h0]at hC
       rw[wrongDeed,if_pos hI',if_neg h4,hC]
      have hgood:wrongIns d ((d.code.length:Int) - 1 - k) i=0→codeGo d (k+1) (d.code.drop (k+1))=codeGo d 0 d.code:=fun h0=>by
       rw[codeGo,if_pos h0]at hC
       exact hC
      clear hC h5
      obtain⟨kd0,ia,ib,n,key⟩:=i
      by_cases hk1:kd0 < 1
      ·
       try refine wk ?_
       have h0:wrongIns d ((d.code.length:Int) - 1 - k) ⟨kd0,ia,ib,n,key⟩=1:=by simp[wrongIns,hk1]
       exact .one (.tmp rfl (.one (.d (dle_int (by rw[← hbad (by rw[h0];decide),h0])))))
      ·
       by_cases hk9:9 < kd0
       ·
        try refine wk ?_
        have h0:wrongIns d ((d.code.length:Int) - 1 - k) ⟨kd0,ia,ib,n,key⟩=1:=by simp[wrongIns,hk9]
        exact .one (.tmp rfl (.one (.d (dle_int (by rw[← hbad (by rw[h0];decide),h0])))))
       ·
        obtain⟨kd,rfl⟩:=Int.eq_ofNat_of_zero_le (show 0≤kd0 by omega)
        have hkd:kd < 10:=by omega
        have hcA:=ok_has kd 114 hkd
        have hcB:=ok_has kd 115 hkd
        have hcK:=ok_has kd 107 hkd
        have hst0:StopA 21:=⟨rfl⟩
        try refine wkS ?_
        clear hst0
        refine Stop.cutk [(.s 9,.av (.d (dint (insA kd))))] [.s 1,.s 51,.s 52,.s 53,.s 7,.s 8,.s 10,.s 11,.s 12,.o 0,.o 1,.nx] ?_ ?_
        ·
         unfold insA
         cases hA:has kd 114
         ·
          repeat(first|refine wa ?_|((with_reducible apply s5);(first|exact a_call hcA rfl by_sub|exact by_oa|exact by_ca);exact by_g)|refine wb ?_)
          refine q_cut ?_
          exact by_less
         ·
          repeat(first|refine wa ?_|((with_reducible apply s5);(first|exact a_call hcA rfl by_sub|exact by_oa|exact by_ca);exact by_g)|refine wb ?_)
          refine q_cut ?_
          exact by_less
        have hst0:StopA 23:=⟨rfl⟩
        try refine wkS ?_
        clear hst0
        refine Stop.cutk [(.s 10,.av (.d (dint (insB kd))))] [.s 1,.s 51,.s 52,.s 53,.s 7,.s 8,.s 9,.s 11,.s 12,.o 0,.o 1,.nx] ?_ ?_
        ·
         unfold insB
         cases hA:has kd 115
         ·
          repeat(first|refine wa ?_|((with_reducible apply s5);(first|exact a_call hcB rfl by_sub|exact by_oa|exact by_ca);exact by_g)|refine wb ?_)
          refine q_cut ?_
          exact by_less
         ·
          repeat(first|refine wa ?_|((with_reducible apply s5);(first|exact a_call hcB rfl by_sub|exact by_oa|exact by_ca);exact by_g)|refine wb ?_)
          refine q_cut ?_
          exact by_less
        have hst0:StopA 25:=⟨rfl⟩
        try refine wkS ?_
        clear hst0
        refine Stop.cutk [(.s 11,.av (.d (dint (if kd=2 then -1073741824 else 0)))),(.s 12,.av (.d (dint (if kd=2 then 1073741824 else 0))))] [.s 1,.s 51,.s 52,.s 53,.s 7,.s 8,.s 9,.s 10,.o 0,.o 1,.nx] ?_ ?_
        ·
         by_cases hA:kd=2
         ·
          rw[if_pos hA,if_pos hA]
          try refine wk ?_
          refine q_cut ?_
          exact by_less
         ·
          rw[if_neg hA,if_neg hA]
          try refine wk ?_
          refine q_cut ?_
          exact by_less
        have hst0:StopA 27:=⟨rfl⟩
        try refine wkS ?_
        clear hst0
        refine Stop.cutk [(.s 11,.av (.d (dint (insLow kd)))),(.s 12,.av (.d (dint (insHigh kd ((d.code.length:Int) - 1 - k)))))] [.s 1,.s 51,.s 52,.s 53,.s 7,.s 8,.s 9,.s 10,.o 0,.o 1,.nx] ?_ ?_
        ·
         by_cases hA:kd=8
         ·
          have hB:¬ kd=2:=by omega
          rw[insLow,insHigh,if_neg hB,if_neg hB,if_neg hB,if_neg hB,if_pos hA,if_pos hA]
          repeat(first|((with_reducible apply st_bin);exact rfl;exact rfl;(apply bin_sub;simp only[List.length_map];omega);exact .none rfl;exact rfl)|refine wa1 ?_|((with_reducible apply s5);(first|exact by_oa|exact by_ca);exact by_g)|refine wb ?_)
          refine q_cut ?_
          exact by_less
         ·
          rw[insLow,insHigh,if_neg hA,if_neg hA]
          try refine wk ?_
          refine q_cut ?_
          exact by_less
        have hst0:StopR 29:=⟨rfl⟩
        try refine wkS ?_
        clear hst0
        refine Stop.cutk [(.s 115,.av (.d (dbool (insOut kd ia ib n ((d.code.length:Int) - 1 - k)))))] [.s 1,.s 51,.s 52,.s 53,.s 8,.o 0,.o 1,.nx] ?_ ?_
        ·
         unfold insOut
         by_cases c1:ia < 0
         ·
          rw[decide_eq_true c1]
          try refine wk ?_
          refine q_cut ?_
          exact by_less
         rw[decide_eq_false c1,Bool.false_or]
         by_cases c2:insA kd < ia
         ·
          rw[decide_eq_true c2]
          try refine wk ?_
          refine q_cut ?_
          exact by_less
         rw[decide_eq_false c2,Bool.false_or]
         by_cases c3:ib < 0
         ·
          rw[decide_eq_true c3]
          try refine wk ?_
          refine q_cut ?_
          exact by_less
         rw[decide_eq_false c3,Bool.false_or]
         by_cases c4:insB kd < ib
         ·
          rw[decide_eq_true c4]
          try refine wk ?_
          refine q_cut ?_
          exact by_less
         rw[decide_eq_false c4,Bool.false_or]
         by_cases c5:n < insLow kd
         ·
          rw[decide_eq_true c5]
          try refine wk ?_
          refine q_cut ?_
          exact by_less
         rw[decide_eq_false c5,Bool.false_or]
         try refine wk ?_
         refine q_cut ?_
         exact by_less
        have hw0:wrongIns d ((d.code.length:Int) - 1 - k) ⟨kd,ia,ib,n,key⟩=if insOut kd ia ib n ((d.code.length:Int) - 1 - k)=true then 3 else if has kd 107=false then (if key=[] then 0 else 2)
          else if isIn (if (kd:Int)=1 then d.reads else d.writes) key=true then 0 else 9:=by
         rw[wrongIns,if_neg (by show ¬ ((kd:Int) < 1∨9 < (kd:Int));omega)]
         rfl
        have hcr:=ok_in d.reads key (by omega)
        have hcw:=ok_in d.writes key (by omega)
        cases hO:insOut kd ia ib n ((d.code.length:Int) - 1 - k)
        ·
         rw[if_neg (by simp[hO])]at hw0
         cases hK:has kd 107
         ·
          rw[if_pos hK]at hw0
          by_cases hkey:key=[]
          ·
           rw[if_pos hkey]at hw0
           repeat(first|refine wa ?_|((with_reducible apply s5);(first|exact a_call hcK rfl by_sub|exact by_oa|exact by_ca);exact by_g)|refine wb ?_)
           refine q_loopT (k+1) ⟨by omega,hgood hw0⟩ (by omega) ?_
           exact by_less
          ·
           rw[if_neg hkey]at hw0
           repeat(first|refine wa ?_|((with_reducible apply s5);(first|exact a_call hcK rfl by_sub|exact by_oa|exact by_ca);exact by_g)|refine wb ?_)
           exact .one (.tmp rfl (.one (.d (dle_int (by rw[← hbad (by rw[hw0];decide),hw0])))))
         ·
          rw[if_neg (by simp[hK])]at hw0
          by_cases hk1':(kd:Int)=1
          ·
           rw[if_pos hk1']at hw0
           cases hin:isIn d.reads key
           ·
            rw[if_neg (by simp[hin])]at hw0
            repeat(first|refine wa ?_|((with_reducible apply s5);(first|exact a_call hcK rfl by_sub|exact a_call hcr rfl by_sub|exact by_oa|exact by_ca);exact by_g)|refine wb ?_)
            exact .one (.tmp rfl (.one (.d (dle_int (by rw[← hbad (by rw[hw0];decide),hw0])))))
           ·
            rw[if_pos hin]at hw0
            repeat(first|refine wa ?_|((with_reducible apply s5);(first|exact a_call hcK rfl by_sub|exact a_call hcr rfl by_sub|exact by_oa|exact by_ca);exact by_g)|refine wb ?_)
            refine q_loopT (k+1) ⟨by omega,hgood hw0⟩ (by omega) ?_
            exact by_less
          ·
           rw[if_neg hk1']at hw0
           cases hin:isIn d.writes key
           ·
            rw[if_neg (by simp[hin])]at hw0
            repeat(first|refine wa ?_|((with_reducible apply s5);(first|exact a_call hcK rfl by_sub|exact a_call hcw rfl by_sub|exact by_oa|exact by_ca);exact by_g)|refine wb ?_)
            exact .one (.tmp rfl (.one (.d (dle_int (by rw[← hbad (by rw[hw0];decide),hw0])))))
           ·
            rw[if_pos hin]at hw0
            repeat(first|refine wa ?_|((with_reducible apply s5);(first|exact a_call hcK rfl by_sub|exact a_call hcw rfl by_sub|exact by_oa|exact by_ca);exact by_g)|refine wb ?_)
            refine q_loopT (k+1) ⟨by omega,hgood hw0⟩ (by omega) ?_
            exact by_less
        ·
         rw[if_pos hO]at hw0
         try refine wk ?_
         exact .one (.tmp rfl (.one (.d (dle_int (by rw[← hbad (by rw[hw0];decide),hw0])))))
  ·
   have h3':j < 2:=h3
   rw[h1]at hI
   have hl:l.length≤268435456∧∀ s∈l,s.length≤1073741824:=by
    have:=List.mem_of_getElem? h2
    simp at this
    rcases this with rfl|rfl
    ·
     exact⟨hr,hrk⟩
    ·
     exact⟨hw,hwk⟩
   have hbad:keysWrong l≠0→keysWrong l=wrongDeed d:=fun h0=>by
    rcases ls_first hI with ⟨h5,h6⟩|⟨h5,h6⟩
    ·
     exact absurd h5 h0
    ·
     rw[wrongDeed,if_neg (by rw[← h6];exact h0),h6]
   by_cases h4:5 < l.length
   ·
    have h6:keysWrong l=5:=by rw[keysWrong,if_pos h4]
    try refine wk ?_
    exact .one (.tmp rfl (.one (.d (dle_int (by rw[← h6];exact hbad (by rw[h6];decide))))))
   ·
    try refine wk ?_
    refine CW.loopT (fun i:Nat=>[(.s 1,.av (.ptr 0 0)),(.o 0,.ob (.box (d.enc.map AV.d))),(.s 18,.av (.d (.sl 1 ([d.reads,d.writes].map fun l=>[encStrs l])))),(.s 19,.av (.d (dint 2))),(.s 20,.av (.d (dint j))),(.s 4,.av (.d (encStrs l))),(.s 27,.av (.d (encStrs l))),(.s 28,.av (.d (dint l.length))),(.s 29,.av (.d (dint i))),(.nx,.num 1)])
     (fun i=>i≤l.length∧keysGo l i (l.drop i)=keysWrong l) (fun i=>l.length - i) 0 ⟨by omega,by rw[keysWrong,if_neg h4];rfl⟩ ?_ ?_
    ·
     exact by_less
    ·
     rintro i ⟨hi,hJ⟩
     rcases drop_case hi with ⟨h5,h6⟩|⟨k,h5,h6,h7⟩
     ·
      rw[h5]at hJ
      simp only[keysGo]at hJ
      try refine wk ?_
      refine q_loopT (j+1) ⟨by simp;omega,?_⟩ (by omega) ?_
      ·
       rcases ls_first hI with ⟨h8,h9⟩|⟨h8,h9⟩
       ·
        exact h9
       ·
        exact absurd hJ.symm h8
      ·
       exact by_less
     ·
      rw[h5]at hJ
      simp only[keysGo]at hJ
      have hck:=ok_key k (hl.2 k (List.mem_of_getElem? h6))
      have hin:FnOk Tryz.prog 110 [.d (.sl 1 ((l.map encStr1).take i)),.d (dstr k)] (.one (dbool (isIn (l.take i) k))):=by
       rw[← List.map_take]
       exact ok_in (l.take i) k (by rw[List.length_take];have:=hl.1;omega)
      cases h8:key k
      ·
       rw[if_pos h8]at hJ
       try refine wk ?_
       exact .one (.tmp rfl (.one (.d (dle_int (by rw[hJ];exact hbad (by rw[← hJ];decide))))))
      ·
       rw[if_neg (by simp[h8])]at hJ
       cases h9:isIn (l.take i) k
       ·
        rw[if_neg (by simp[h9])]at hJ
        repeat(first|refine wa ?_|((with_reducible apply s5);(first|exact a_call hin rfl by_sub|exact by_oa|exact by_ca);exact by_g)|refine wb ?_)
        refine q_loopT (i+1) ⟨by omega,hJ⟩ (by omega) ?_
        exact by_less
       ·
        rw[if_pos h9]at hJ
        repeat(first|refine wa ?_|((with_reducible apply s5);(first|exact a_call hin rfl by_sub|exact by_oa|exact by_ca);exact by_g)|refine wb ?_)
        exact .one (.tmp rfl (.one (.d (dle_int (by rw[hJ];exact hbad (by rw[← hJ];decide))))))
theorem ok_rowsAt (l:List Chain) (b:Int) (hl:l.length≤268435456) (hv:∀ c∈l,c.vs.length≤268435456):FnOk Tryz.prog 50 [.d (encChains l),.d (dint b)] (.tup [encRows (rowsAt l b).1,dbool (rowsAt l b).2]):=by
 refine fnOk_of tbl_ok mixed_ok Tryz.func50 rfl (by kernel_rfl) rfl rfl fun w0 own0=>?_
 try refine wk ?_
 refine CW.stut (stut_promote (i:=6) 99 2) ⟨rfl,rfl,trivial⟩ ?_
 refine CW.loopT (fun t:Nat×List Pair=>[(.s 0,.av (.d (encChains l))),(.s 1,.av (.d (dint b))),(.s 6,.av (.own 0 t.2.length)),(.o 0,.ob (.arr 99 2 (t.2.map Pair.enc))),(.s 10,.av (.d (encChains l))),(.s 11,.av (.d (dint l.length))),(.s 12,.av (.d (dint t.1))),(.nx,.num 1)])
  (fun t=>t.1≤l.length∧t.2.length≤t.1∧rowsAtGo l b t.2 (l.drop t.1)=rowsAt l b) (fun t=>l.length - t.1) (0,[]) ⟨by omega,by simp,rfl⟩ ?_ ?_
 ·
  exact by_less
 ·
  rintro ⟨i,out⟩ ⟨hi,ho,hI⟩
  dsimp only at hi ho hI ⊢
  rcases drop_case hi with ⟨h1,h2⟩|⟨c,h1,h2,h3⟩
  ·
   rw[h1]at hI
   simp only[rowsAtGo]at hI
   try refine wk ?_
   rw[← hI]
   exact .two (.tmp rfl (.one (.own rfl (by simp) (.refl _)))) (.tmp rfl (.one (.d (.refl _))))
  ·
   rw[h1]at hI
   simp only[rowsAtGo]at hI
   have hc:=ok_before l c.key b hl hv
   generalize before l c.key b=v at hc hI
   obtain⟨vb,vm,vh,vn⟩:=v
   dsimp only at hI
   cases vm
   ·
    rw[if_pos rfl]at hI
    try refine wk ?_
    rw[← hI]
    exact .two (.tmp rfl (.one (.d (.nil 2)))) (.tmp rfl (.one (.d (.refl _))))
   ·
    rw[if_neg (by simp)]at hI
    cases vh
    ·
     rw[if_neg (by simp)]at hI
     try refine wk ?_
     refine q_loopT (i+1,out) ⟨by dsimp only;omega,by dsimp only;omega,hI⟩ (by dsimp only;omega) ?_
     exact by_less
    ·
     rw[if_pos rfl]at hI
     try refine wk ?_
     refine q_loopT (i+1,_) ⟨by dsimp only;omega,by dsimp only;simp;omega,hI⟩ (by dsimp only;omega) ?_
     exact by_less
theorem ok_clear (l:List Chain) (b:Int) (hl:l.length≤268435456) (hv:∀ c∈l,c.vs.length≤268435456):FnOk Tryz.prog 88 [.d (encChains l),.d (dint b)] (.one (encChains (clear b l))):=by
 refine fnOk_of tbl_ok mixed_ok Tryz.func88 rfl (by kernel_rfl) rfl rfl fun w0 own0=>?_
 try refine wk ?_
 refine CW.stut (stut_promote (i:=5) 109 2) ⟨rfl,rfl,trivial⟩ ?_
 refine CW.loopT (fun t:Nat×List Chain=>[(.s 1,.av (.d (dint b))),(.s 5,.av (.own 0 t.2.length)),(.o 0,.ob (.arr 109 2 (t.2.map Chain.enc))),(.s 12,.av (.d (encChains l))),(.s 13,.av (.d (dint l.length))),(.s 14,.av (.d (dint t.1))),(.nx,.num 1)])
  (fun t=>t.1≤l.length∧t.2.length≤t.1∧t.2++clear b (l.drop t.1)=clear b l) (fun t=>l.length - t.1) (0,[]) ⟨by omega,by simp,rfl⟩ ?_ ?_
 ·
  exact by_less
 ·
  rintro ⟨i,out⟩ ⟨hi,ho,hI⟩
  dsimp only at hi ho hI ⊢
  rcases drop_case hi with ⟨h1,h2⟩|⟨c,h1,h2,h3⟩
  ·
   rw[h1,clear,List.append_nil]at hI
   try refine wk ?_
   rw[← hI]
   exact .one (.tmp rfl (.one (.own rfl (by simp) (.refl _))))
  ·
   rw[h1,clear]at hI
   have hcv:=hv c (List.mem_of_getElem? h2)
   try refine wk ?_
   refine CW.stut (stut_promote_cell (id:=2) (j:=1) 106 4 rfl) ⟨rfl,rfl,trivial⟩ ?_
   refine CW.loopT (fun t:Nat×List Version=>[(.s 1,.av (.d (dint b))),(.s 5,.av (.own 0 out.length)),(.o 0,.ob (.arr 109 2 (out.map Chain.enc))),(.s 12,.av (.d (encChains l))),(.s 13,.av (.d (dint l.length))),(.s 14,.av (.d (dint i))),
     (.s 7,.av (.ptr 1 0)),(.o 1,.ob (.box (c.enc.map AV.d))),(.s 8,.av (.ptr 2 0)),(.o 2,.ob (.box [.d (dstr c.key),.own 3 t.2.length])),(.o 3,.ob (.arr 106 4 (t.2.map Version.enc))),
     (.s 22,.av (.d (encVs c.vs))),(.s 23,.av (.d (dint c.vs.length))),(.s 24,.av (.d (dint t.1))),(.nx,.num 4)])
    (fun t=>t.1≤c.vs.length∧t.2.length≤t.1∧t.2++clrV b (c.vs.drop t.1)=clrV b c.vs) (fun t=>c.vs.length - t.1) (0,[]) ⟨by omega,by simp,rfl⟩ ?_ ?_
   ·
    exact by_less
   ·
    rintro ⟨j,vs⟩ ⟨hj,hvs,hJ⟩
    dsimp only at hj hvs hJ ⊢
    rcases drop_case hj with ⟨h5,h6⟩|⟨x,h5,h6,h7⟩
    ·
     rw[h5,clrV,List.append_nil]at hJ
     rw[← hJ]at hI
     have hst0:StopX 13:=⟨rfl⟩
     try refine wkS ?_
     clear hst0
     refine Stop.go (CW.stut (stut_freeze_cell (id:=2) (j:=1) (i:=3) rfl (by simp)) ⟨rfl,rfl,trivial⟩ ?_)
     cases vs with
     |nil =>
      rw[if_pos rfl]at hI
      try refine wk ?_
      refine q_loopT (i+1,out) ⟨by dsimp only;omega,by dsimp only;omega,hI⟩ (by dsimp only;omega) ?_
      exact by_less
     |cons v0 vs =>
      rw[if_neg (by simp)]at hI
      try refine wk ?_
      refine q_loopT (i+1,out++[⟨c.key,v0::vs⟩]) ⟨by dsimp only;omega,by dsimp only;simp;omega,by rw[← hI];simp⟩ (by dsimp only;omega) ?_
      exact by_less
    ·
     rw[h5,clrV]at hJ
     have hlast:(later b (c.vs.drop (j+1))=false∧(c.vs.length≤j+1∨∃ y,c.vs[j+1]? = some y∧j+1 < c.vs.length∧¬ y.by_ < b)) ∨
       (later b (c.vs.drop (j+1))=true∧∃ y,c.vs[j+1]? = some y∧j+1 < c.vs.length∧y.by_ < b):=by
      rcases drop_case (show j+1≤c.vs.length by omega) with ⟨e1,e2⟩|⟨y,e1,e2,e3⟩
      ·
       exact .inl ⟨by rw[e1];rfl,.inl (by omega)⟩
      ·
       by_cases e4:y.by_ < b
       ·
        exact .inr ⟨by rw[e1];simp[later,e4],y,e2,e3,e4⟩
       ·
        exact .inl ⟨by rw[e1];simp[later,e4],.inr ⟨y,e2,e3,e4⟩⟩
     have hst0:StopR 9:=⟨rfl⟩
     try refine wkS ?_
     clear hst0
     refine Stop.cutk [(.s 11,.av (.d (dbool (later b (c.vs.drop (j+1))))))] [.s 1,.s 5,.o 0,.s 12,.s 13,.s 14,.s 7,.o 1,.s 8,.o 2,.o 3,.s 22,.s 23,.s 24,.s 10,.o 4,.nx] ?_ ?_
     ·
      rcases hlast with ⟨e0,e1|⟨y,e1,e2,e3⟩⟩|⟨e0,y,e1,e2,e3⟩
      ·
       rw[e0]
       try refine wk ?_
       refine q_cut ?_
       exact by_less
      ·
       rw[e0]
       try refine wk ?_
       refine q_cut ?_
       exact by_less
      ·
       rw[e0]
       try refine wk ?_
       refine q_cut ?_
       exact by_less
     generalize hL:later b (c.vs.drop (j+1))=L at hJ ⊢
     have hold:old b (c.vs.drop (j+1)) x=((L&&decide (x.by_ < b)) || (decide (x.by_ < b)&&(x.made && !x.has))):=by rw[old,hL]
     clear hlast hL h5
     obtain⟨xb,xm,xh,xn⟩:=x
     dsimp only at hold
     have hkeep:old b (c.vs.drop (j+1)) ⟨xb,xm,xh,xn⟩=false→(vs++[⟨xb,xm,xh,xn⟩])++clrV b (c.vs.drop (j+1))=clrV b c.vs:=fun e=>by
      rw[if_neg (by rw[e];simp)]at hJ
      rw[← hJ];simp
     have hgone:old b (c.vs.drop (j+1)) ⟨xb,xm,xh,xn⟩=true→vs++clrV b (c.vs.drop (j+1))=clrV b c.vs:=fun e=>by
      rw[if_pos e]at hJ
      exact hJ
     clear hJ
     by_cases e1:xb < b
     ·
      cases L
      ·
       cases xm
       ·
        try refine wk ?_
        refine q_loopT (j+1,vs++[⟨xb,false,xh,xn⟩]) ⟨by dsimp only;omega,by dsimp only;simp;omega,hkeep (by simp[hold])⟩ (by dsimp only;omega) ?_
        exact by_less
       ·
        cases xh
        ·
         try refine wk ?_
         refine q_loopT (j+1,vs) ⟨by dsimp only;omega,by dsimp only;omega,hgone (by simp[hold,e1])⟩ (by dsimp only;omega) ?_
         exact by_less
        ·
         try refine wk ?_
         refine q_loopT (j+1,vs++[⟨xb,true,true,xn⟩]) ⟨by dsimp only;omega,by dsimp only;simp;omega,hkeep (by simp[hold])⟩ (by dsimp only;omega) ?_
         exact by_less
      ·
       try refine wk ?_
       refine q_loopT (j+1,vs) ⟨by dsimp only;omega,by dsimp only;omega,hgone (by simp[hold,e1])⟩ (by dsimp only;omega) ?_
       exact by_less
     ·
      cases L
      ·
       try refine wk ?_
       refine q_loopT (j+1,vs++[⟨xb,xm,xh,xn⟩]) ⟨by dsimp only;omega,by dsimp only;simp;omega,hkeep (by simp[hold,e1])⟩ (by dsimp only;omega) ?_
       exact by_less
      ·
       try refine wk ?_
       refine q_loopT (j+1,vs++[⟨xb,xm,xh,xn⟩]) ⟨by dsimp only;omega,by dsimp only;simp;omega,hkeep (by simp[hold,e1])⟩ (by dsimp only;omega) ?_
       exact by_less
theorem ok_sameChains (l r:List Chain) (hl:l.length≤268435456) (hs:∀ c∈l,c.vs.length≤268435456):FnOk Tryz.prog 60 [.d (encChains l),.d (encChains r)] (.one (dbool (allB sameC l r))):=by
 refine fnOk_of tbl_ok mixed_ok Tryz.func60 rfl (by kernel_rfl) rfl rfl fun w0 own0=>?_
 by_cases hlen:l.length=r.length
 ·
  try refine wk ?_
  refine CW.loop (fun k=>[sd 0 (encChains l),sd 1 (encChains r),sd 13 (dint l.length),sd 14 (dint k),nxt 0]) (agree sameC l r) ?_ fun k hk=>?_
  ·
   exact by_less
  ·
   rcases agree_case hlen hk with ⟨h1,h1',a,b,h2,h3,h4⟩|⟨h1,h2⟩|⟨h1,h2,a,b,h3,h4,h5⟩
   ·
    simp only[sameC,Bool.and_eq_true,decide_eq_true_eq]at h4
    obtain⟨h4,h6⟩:=h4
    have hvl:=allB_len h6
    have hav:=hs a (List.mem_of_getElem? h2)
    try refine wk ?_
    refine CW.loop (fun j=>[sd 0 (encChains l),sd 1 (encChains r),sd 13 (dint l.length),sd 14 (dint k),sd 5 (dint k),sd 48 (dint a.vs.length),sd 49 (dint j),nxt 0]) (agree (fun x y=>decide (x=y)) a.vs b.vs) ?_ fun j hj=>?_
    ·
     exact by_less
    ·
     rcases agree_case hvl hj with ⟨g1,g1',x,y,g2,g3,g4⟩|⟨g1,g2⟩|⟨g1,g2,x,y,g3,g4,g5⟩
     ·
      replace g4:x=y:=by simpa using g4
      repeat(first|refine wa ?_|((with_reducible apply s5);(first|((with_reducible apply a_agg);exact neq_version x y;(iterate 5 exact rfl))|exact by_oa|exact by_ca);exact by_g)|refine wb ?_)
      refine q_loop g1 ?_
      exact by_less
     ·
      try refine wk ?_
      refine q_loop h1 ?_
      exact by_less
     ·
      rw[g2]at h6;cases h6
   ·
    try refine wk ?_
    exact .one (.tmp rfl (.one (.d (dle_bool h2.symm))))
   ·
    by_cases g1:a.key=b.key
    ·
     by_cases g2:a.vs.length=b.vs.length
     ·
      have h6:allB (fun x y=>decide (x=y)) a.vs b.vs=false:=by simpa[sameC,g1] using h5
      have hav:=hs a (List.mem_of_getElem? h3)
      try refine wk ?_
      refine CW.loop (fun j=>[sd 0 (encChains l),sd 1 (encChains r),sd 13 (dint l.length),sd 14 (dint k),sd 5 (dint k),sd 48 (dint a.vs.length),sd 49 (dint j),nxt 0]) (agree (fun x y=>decide (x=y)) a.vs b.vs) ?_ fun j hj=>?_
      ·
       exact by_less
      ·
       rcases agree_case g2 hj with ⟨e1,e1',x,y,e2,e3,e4⟩|⟨e1,e2⟩|⟨e1,e2,x,y,e3,e4,e5⟩
       ·
        replace e4:x=y:=by simpa using e4
        repeat(first|refine wa ?_|((with_reducible apply s5);(first|((with_reducible apply a_agg);exact neq_version x y;(iterate 5 exact rfl))|exact by_oa|exact by_ca);exact by_g)|refine wb ?_)
        refine q_loop e1 ?_
        exact by_less
       ·
        rw[h6]at e2;cases e2
       ·
        replace e5:¬ x=y:=by simpa using e5
        repeat(first|refine wa ?_|((with_reducible apply s5);(first|((with_reducible apply a_agg);exact neq_version x y;(iterate 5 exact rfl))|exact by_oa|exact by_ca);exact by_g)|refine wb ?_)
        exact .one (.tmp rfl (.one (.d (dle_bool h2.symm))))
     ·
      try refine wk ?_
      exact .one (.tmp rfl (.one (.d (dle_bool h2.symm))))
    ·
     try refine wk ?_
     exact .one (.tmp rfl (.one (.d (dle_bool h2.symm))))
 ·
  try refine wk ?_
  refine .one (.tmp rfl (.one (.d (dle_bool ?_))))
  cases hb:allB sameC l r
  ·
   rfl
  ·
   exact absurd (allB_len hb) hlen
theorem ok_new (l:List Pair) (hl:l.length≤134217728):FnOk Tryz.prog 13 [.d (encRows l)] (.one (.agg (newE l).enc)):=by
 refine fnOk_of tbl_ok mixed_ok Tryz.func13 rfl (by kernel_rfl) rfl rfl fun w0 own0=>?_
 try refine wk ?_
 refine CW.stut (stut_promote_cell (id:=1) (j:=0) 109 2 rfl) ⟨rfl,rfl,trivial⟩ ?_
 refine CW.loopT (fun i:Nat=>[sd 7 (encRows l),sd 8 (dint l.length),sd 9 (dint i),sp 2 0,ob 0 noE.enc0,sp 3 1,(.o 1,.ob (.box [.own 2 i,.d (.v nilS),.d (.v nilS),.d (.v nilS),.d (dint 0)])),
   oa 2 109 2 ((l.take i).map fun p=>(rowChain p).enc),nxt 3]) (fun i=>i≤l.length) (fun i=>l.length - i) 0 (by omega) ?_ ?_
 ·
  exact by_less
 ·
  rintro i hi
  rcases drop_case hi with ⟨h1,h2⟩|⟨p,h1,h2,h3⟩
  ·
   have h4:(l.take i).map (fun p=>(rowChain p).enc)=(l.map rowChain).map Chain.enc:=by rw[h2,List.take_length];simp
   have hst0:StopR 7:=⟨rfl⟩
   try refine wkS ?_
   clear hst0
   refine Stop.go (CW.stut (stut_freeze_cell (id:=1) (j:=0) (i:=2) rfl (by simp;omega)) ⟨rfl,rfl,trivial⟩ ?_)
   try refine wk ?_
   exact .one (.cell rfl rfl rfl rfl (.aggd (ds:=[.sl 2 ((l.take i).map fun p=>(rowChain p).enc),.v nilS,.v nilS,.v nilS,dint 0]) rfl
    (DLes.agg (.cons (dle_eq (by rw[h4];rfl)) (.cons (dle_nil 3) (.cons (dle_nil 1) (.cons (dle_nil 5) (.cons (.refl _) .nil))))))))
  ·
   have h4:(l.take i).map (fun p=>(rowChain p).enc)++[(rowChain p).enc]=(l.take (i+1)).map fun p=>(rowChain p).enc:=by rw[List.take_add_one,h2];simp
   try refine wk ?_
   refine q_loopT (i+1) (by omega) (by omega) ?_
   exact by_less
theorem ok_mark (e:Engine) (hs:e.state.length≤134217728):FnOk Tryz.prog 36 [.d (.agg e.enc)] (.one (dint (markN e.state))):=by
 refine fnOk_of tbl_ok mixed_ok Tryz.func36 rfl (by kernel_rfl) rfl rfl fun w0 own0=>?_
 try refine wk ?_
 refine CW.loopT (fun i:Nat=>[sp 1 0,ob 0 e.enc,sd 3 (dint i),nxt 1]) (fun i=>i≤e.state.length∧i+markN (e.state.drop i)=markN e.state) (fun i=>e.state.length - i) 0 ⟨by omega,by simp⟩ ?_ ?_
 ·
  exact by_less
 ·
  rintro i ⟨hi,hI⟩
  rcases drop_case hi with ⟨h1,h2⟩|⟨s,h1,h2,h3⟩
  ·
   rw[h1]at hI
   simp only[markN]at hI
   try refine wk ?_
   exact .one (.tmp rfl (.one (.d (dle_int (by omega)))))
  ·
   rw[h1]at hI
   simp only[markN]at hI
   by_cases h4:s=1
   ·
    rw[if_pos h4]at hI
    try refine wk ?_
    refine q_loopT (i+1) ⟨by omega,by omega⟩ (by omega) ?_
    exact by_less
   ·
    rw[if_neg h4]at hI
    try refine wk ?_
    exact .one (.tmp rfl (.one (.d (dle_int (by omega)))))
theorem markN_le:∀ l:List Int,markN l≤l.length
 | []=>by simp[markN]
 |s::r=>by
  have:=markN_le r
  simp only[markN]
  split <;> simp <;> omega
theorem ok_clearE (e:Engine) (hs:e.Sm) (h1:e.state.length=e.deeds.length) (h2:e.ends.length=e.deeds.length):FnOk Tryz.prog 34 [.d (.agg e.enc)] (.one (.agg (clearE e).enc)):=by
 refine fnOk_of tbl_ok mixed_ok Tryz.func34 rfl (by kernel_rfl) rfl rfl fun w0 own0=>?_
 have hm:=ok_mark e hs.s
 have hml:=markN_le e.state
 have hd:=hs.d
 have hb:=hs.b
 have hc:=ok_clear e.chains (e.base+markN e.state) (by have:=hs.c;omega) (fun c h=>by have:=hs.v c h;omega)
 try refine wk ?_
 exact .one (.cell rfl rfl rfl rfl (.aggd (ds:=[encChains (clear (e.base+markN e.state) e.chains),.sl 3 ((e.deeds.map Deed.enc).drop (markN e.state)),.sl 1 ((e.state.map encInt1).drop (markN e.state)),.sl 5 ((e.ends.map Done.enc).drop (markN e.state)),dint (e.base+markN e.state)]) rfl
  (dle_eq (by simp[clearE,Engine.enc,encDeeds,encInts,encEnds]))))
theorem ok_sameE (a b:Engine) (hs:a.Sm):FnOk Tryz.prog 11 [.d (.agg a.enc),.d (.agg b.enc)] (.one (dbool (sameE a b))):=by
 refine fnOk_of tbl_ok mixed_ok Tryz.func11 rfl (by kernel_rfl) rfl rfl fun w0 own0=>?_
 have c1:=ok_sameChains a.chains b.chains (by have:=hs.c;omega) (fun c h=>by have:=hs.v c h;omega)
 have c2:=ok_sameDeeds a.deeds b.deeds (by have:=hs.d;omega) hs.dd
 have c3:=ok_SameInts a.state b.state (by have:=hs.s;omega)
 have c4:=ok_sameEnds a.ends b.ends (by have:=hs.n;omega)
 unfold sameE
 cases h1:allB sameC a.chains b.chains
 ·
  rw[h1]at c1
  try refine wk ?_
  exact .one (.tmp rfl (.one (.d (.refl _))))
 ·
  rw[h1]at c1
  cases h2:allB (fun x y=>decide (x=y)) a.deeds b.deeds
  ·
   rw[h2]at c2
   try refine wk ?_
   exact .one (.tmp rfl (.one (.d (.refl _))))
  ·
   rw[h2]at c2
   cases h3:allB (fun x y=>decide (x=y)) a.state b.state
   ·
    rw[h3]at c3
    try refine wk ?_
    exact .one (.tmp rfl (.one (.d (.refl _))))
   ·
    rw[h3]at c3
    cases h4:allB (fun x y=>decide (x=y)) a.ends b.ends
    ·
     rw[h4]at c4
     try refine wk ?_
     exact .one (.tmp rfl (.one (.d (.refl _))))
    ·
     rw[h4]at c4
     try refine wk ?_
     exact .one (.tmp rfl (.one (.d (.refl _))))
theorem ok_add (l:List Chain) (k:Str) (b:Int) (hl:l.length≤268435456) (hs:∀ c∈l,c.vs.length≤268435456):FnOk Tryz.prog 68 [.d (encChains l),.d (dstr k),.d (dint b)] (.one (encChains (addC l k b))):=by
 refine fnOk_of tbl_ok mixed_ok Tryz.func68 rfl (by kernel_rfl) rfl rfl fun w0 own0=>?_
 try refine wk ?_
 refine CW.stut (stut_promote (i:=7) 109 2) ⟨rfl,rfl,trivial⟩ ?_
 refine CW.loopT (fun t:Nat×Bool×List Chain=>[sd 1 (dstr k),sd 2 (dint b),so 7 0 t.2.2.length,sd 8 (dbool t.2.1),sd 11 (encChains l),sd 12 (dint l.length),sd 13 (dint t.1),oa 0 109 2 (t.2.2.map Chain.enc),nxt 1])
  (fun t=>t.1≤l.length∧t.2.2.length≤2*t.1∧addGo k b t.2.1 t.2.2 (l.drop t.1)=addC l k b) (fun t=>l.length - t.1) (0,false,[]) ⟨by omega,by simp,rfl⟩ ?_ ?_
 ·
  exact by_less
 ·
  rintro ⟨i,done,out⟩ ⟨hi,ho,hI⟩
  dsimp only at hi ho hI ⊢
  rcases drop_case hi with ⟨h1,h2⟩|⟨c,h1,h2,h3⟩
  ·
   rw[h1]at hI
   simp only[addGo]at hI
   cases done
   ·
    try refine wk ?_
    exact .one (.tmp rfl (.one (.own rfl (by simp) (dle_eq (by rw[← hI];simp[encChains];rfl)))))
   ·
    try refine wk ?_
    exact .one (.tmp rfl (.one (.own rfl (by simp) (dle_eq (by rw[← hI];rfl)))))
  ·
   rw[h1]at hI
   simp only[addGo]at hI
   have hcv:=hs c (List.mem_of_getElem? h2)
   have he:out.map Chain.enc++[[dstr c.key,.sl 4 (c.vs.map Version.enc++[[dint b,dbool false,dbool false,dint 0]])]]=(out++[Chain.mk c.key (c.vs++[Version.mk b false false 0])]).map Chain.enc:=by
    simp[Chain.enc,encVs,Version.enc]
   have he2:(out.map Chain.enc++[[dstr k,.sl 4 [[dint b,dbool false,dbool false,dint 0]]]])++[c.enc]=((out++[Chain.mk k [Version.mk b false false 0]])++[c]).map Chain.enc:=by
    simp[Chain.enc,encVs,Version.enc]
   cases done
   ·
    by_cases h4:c.key=k
    ·
     simp[h4]at hI
     have h6:(!(slt c.key k || decide (c.key=k)))=false:=by simp[h4]
     have hst0:StopX 12:=⟨rfl⟩
     try refine wkS ?_
     clear hst0
     refine Stop.go (CW.stut (stut_freeze_cell (id:=1) (j:=1) (i:=2) rfl (by simp)) ⟨rfl,rfl,trivial⟩ ?_)
     try refine wk ?_
     refine q_loopT (i+1,true,out++[⟨c.key,c.vs++[⟨b,false,false,0⟩]⟩]) ⟨by dsimp only;omega,by dsimp only;simp;omega,by rw[h4];exact hI⟩ (by dsimp only;omega) ?_
     exact by_less
    ·
     cases h5:slt c.key k
     ·
      simp[h4,h5]at hI
      have h6:(!(slt c.key k || decide (c.key=k)))=true:=by simp[h4,h5]
      try refine wk ?_
      refine q_loopT (i+1,true,(out++[⟨k,[⟨b,false,false,0⟩]⟩])++[c]) ⟨by dsimp only;omega,by dsimp only;simp;omega,by simpa using hI⟩ (by dsimp only;omega) ?_
      exact by_less
     ·
      simp[h4,h5]at hI
      have h6:(!(slt c.key k || decide (c.key=k)))=false:=by simp[h5]
      try refine wk ?_
      refine q_loopT (i+1,false,out++[c]) ⟨by dsimp only;omega,by dsimp only;simp;omega,hI⟩ (by dsimp only;omega) ?_
      exact by_less
   ·
    by_cases h4:c.key=k
    ·
     simp[h4]at hI
     have hst0:StopX 12:=⟨rfl⟩
     try refine wkS ?_
     clear hst0
     refine Stop.go (CW.stut (stut_freeze_cell (id:=1) (j:=1) (i:=2) rfl (by simp)) ⟨rfl,rfl,trivial⟩ ?_)
     try refine wk ?_
     refine q_loopT (i+1,true,out++[⟨c.key,c.vs++[⟨b,false,false,0⟩]⟩]) ⟨by dsimp only;omega,by dsimp only;simp;omega,by rw[h4];exact hI⟩ (by dsimp only;omega) ?_
     exact by_less
    ·
     simp[h4]at hI
     try refine wk ?_
     refine q_loopT (i+1,true,out++[c]) ⟨by dsimp only;omega,by dsimp only;simp;omega,hI⟩ (by dsimp only;omega) ?_
     exact by_less
set_option maxHeartbeats 8000000
structure Engine.Sz (e:Engine) (N:Nat):Prop where
 c:e.chains.length≤N
 v:∀ c∈e.chains,c.vs.length≤N
 d:e.deeds.length≤N
 s:e.state.length=e.deeds.length
 n:e.ends.length=e.deeds.length
 b:0≤e.base∧e.base+e.deeds.length≤N
 dd:∀ d∈e.deeds,d.Sm
theorem Engine.Sz.sm {e:Engine}{N:Nat}(h:Engine.Sz e N) (hN:N≤134217728):e.Sm :=
 ⟨by have:=h.c;omega,fun c hc=>by have:=h.v c hc;omega,by have:=h.d;omega,by have:=h.d;have:=h.s;omega,by have:=h.d;have:=h.n;omega,by have:=h.b;omega,h.dd⟩
theorem addGo_true {k:Str}{b:Int}:∀ (l out:List Chain),(addGo k b true out l).length=out.length+l.length
 | [],out=>by simp[addGo]
 |c::l,out=>by
  simp only[addGo,Bool.not_true,Bool.false_and,Bool.true_or]
  split
  ·
   rw[addGo_true l];simp;omega
  ·
   rw[addGo_true l];simp;omega
theorem addGo_false {k:Str}{b:Int}:∀ (l out:List Chain),(addGo k b false out l).length≤out.length+l.length+1
 | [],out=>by simp[addGo]
 |c::l,out=>by
  simp only[addGo,Bool.not_false,Bool.true_and,Bool.false_or]
  by_cases h:(!(slt c.key k || decide (c.key=k)))=true
  ·
   rw[h]
   simp only[if_true]
   split
   ·
    rw[addGo_true l];simp;omega
   ·
    rw[addGo_true l];simp;omega
  ·
   rw[show(!(slt c.key k || decide (c.key=k)))=false by simpa using h]
   simp only[Bool.false_eq_true,if_false]
   split
   ·
    rw[addGo_true l];simp;omega
   ·
    refine Nat.le_trans (addGo_false l _) ?_
    simp;omega
theorem addC_len (l:List Chain) (k:Str) (b:Int):(addC l k b).length≤l.length+1:=by
 have:=addGo_false (k:=k) (b:=b) l []
 unfold addC
 simpa using this
theorem addGo_vs {k:Str}{b:Int}{M:Nat}:∀ {l:List Chain}{dn:Bool}{out:List Chain},(∀ c∈l,c.vs.length≤M)→(∀ c∈out,c.vs.length≤M+1)→∀ c∈addGo k b dn out l,c.vs.length≤M+1
 | [],dn,out,_,ho,c,hc=>by
  simp only[addGo]at hc
  split at hc
  ·
   exact ho c hc
  ·
   rcases List.mem_append.1 hc with hc|hc
   ·
    exact ho c hc
   ·
    simp at hc;subst hc;simp
 |x::l,dn,out,hl,ho,c,hc=>by
  simp only[addGo]at hc
  have h1:∀ (g:Bool),∀ c∈(if g=true then out++[⟨k,[⟨b,false,false,0⟩]⟩] else out),c.vs.length≤M+1:=by
   intro g c hc
   split at hc
   ·
    rcases List.mem_append.1 hc with hc|hc
    ·
     exact ho c hc
    ·
     simp at hc;subst hc;simp
   ·
    exact ho c hc
  have hx:=hl x (List.mem_cons_self ..)
  split at hc
  ·
   refine addGo_vs (fun c hc=>hl c (List.mem_cons_of_mem _ hc)) (fun c hc=>?_) c hc
   rcases List.mem_append.1 hc with hc|hc
   ·
    exact h1 _ c hc
   ·
    simp at hc;subst hc;simp;omega
  ·
   refine addGo_vs (fun c hc=>hl c (List.mem_cons_of_mem _ hc)) (fun c hc=>?_) c hc
   rcases List.mem_append.1 hc with hc|hc
   ·
    exact h1 _ c hc
   ·
    simp at hc;subst hc;omega
theorem addC_vs {l:List Chain}{k:Str}{b:Int}{M:Nat}(h:∀ c∈l,c.vs.length≤M):∀ c∈addC l k b,c.vs.length≤M+1:=addGo_vs h (by simp)
theorem addKeys_sz {b:Int}{M:Nat}:∀ {ks:List Str}{l:List Chain}{n:Nat},l.length≤n→(∀ c∈l,c.vs.length≤M)→(addKeys b l ks).length≤n+ks.length∧∀ c∈addKeys b l ks,c.vs.length≤M+ks.length
 | [],l,n,h1,h2=>⟨h1,h2⟩
 |k::ks,l,n,h1,h2=>by
  have:=addKeys_sz (b:=b) (M:=M+1) (ks:=ks) (l:=addC l k b) (n:=n+1) (Nat.le_trans (addC_len l k b) (by omega)) (addC_vs h2)
  refine⟨by simp only[addKeys,List.length_cons];omega,fun c hc=>?_⟩
  have:=this.2 c hc
  simp;omega
theorem add1_sz {e:Engine}{N:Nat}(h:Engine.Sz e N) {d:Deed}(hd:d.Sm) (hw:d.writes.length≤5):Engine.Sz (add1 e d) (N+5):=by
 have:=addKeys_sz (b:=e.base+e.deeds.length) (ks:=d.writes) h.c h.v
 refine⟨by have:=this.1;simp only[add1];omega,fun c hc=>by have:=this.2 c hc;omega,?_,?_,?_,?_,?_⟩
 ·
  have:=h.d;simp[add1];omega
 ·
  have:=h.s;simp[add1,this]
 ·
  have:=h.n;simp[add1,this]
 ·
  have:=h.b;simp[add1];omega
 ·
  intro x hx
  rcases List.mem_append.1 hx with hx|hx
  ·
   exact h.dd x hx
  ·
   simp at hx;subst hx;exact hd
theorem wrong_writes {d:Deed}(h:wrongDeed d=0):d.reads.length≤5∧d.writes.length≤5∧d.code.length≤12:=by
 unfold wrongDeed at h
 by_cases h0:lsGo [d.reads,d.writes]=0
 ·
  rw[if_pos h0]at h
  simp only[lsGo]at h0
  have hc:d.code.length≤12:=by
   by_cases hc:12 < d.code.length
   ·
    rw[if_pos hc]at h;simp at h
   ·
    omega
  have key:∀ l:List Str,keysWrong l=0→l.length≤5:=by
   intro l hl
   unfold keysWrong at hl
   by_cases h5:5 < l.length
   ·
    rw[if_pos h5]at hl;simp at hl
   ·
    omega
  by_cases h1:keysWrong d.reads=0
  ·
   rw[if_pos h1]at h0
   by_cases h2:keysWrong d.writes=0
   ·
    exact⟨key _ h1,key _ h2,hc⟩
   ·
    rw[if_neg h2]at h0;exact absurd h0 h2
  ·
   rw[if_neg h1]at h0;exact absurd h0 h1
 ·
  rw[if_neg h0]at h;exact absurd h h0
theorem wrongs_mem:∀ {l:List Deed},wrongs l=0→∀ d∈l,wrongDeed d=0
 | [],_,d,hd=>by cases hd
 |x::l,h,d,hd=>by
  simp only[wrongs]at h
  by_cases h0:wrongDeed x=0
  ·
   rw[if_pos h0]at h
   rcases List.mem_cons.1 hd with rfl|hd
   ·
    exact h0
   ·
    exact wrongs_mem h d hd
  ·
   rw[if_neg h0]at h;exact absurd h h0
theorem ok_addE (e:Engine) (l:List Deed) (N:Nat) (hz:Engine.Sz e N) (hd:∀ d∈l,d.Sm) (hl:l.length≤10000000) (hN:N+5*l.length≤100000000) :
  FnOk Tryz.prog 16 [.d (.agg e.enc),.d (encDeeds l)] (.tup [.agg (addE e l).1.enc,dint (addE e l).2]):=by
 refine fnOk_of tbl_ok mixed_ok Tryz.func16 rfl (by kernel_rfl) rfl rfl fun w0 own0=>?_
 try refine wk ?_
 refine CW.loopT (fun i:Nat=>[sd 1 (encDeeds l),sp 2 0,ob 0 e.enc,sp 4 1,ob 1 noE.enc0,sd 5 (dint 0),sd 13 (encDeeds l),sd 14 (dint l.length),sd 15 (dint i),nxt 2])
  (fun i=>i≤l.length∧wrongs (l.drop i)=wrongs l) (fun i=>l.length - i) 0 ⟨by omega,rfl⟩ ?_ ?_
 ·
  exact by_less
 ·
  rintro i ⟨hi,hI⟩
  rcases drop_case hi with ⟨h1,h2⟩|⟨d,h1,h2,h3⟩
  ·
   rw[h1]at hI
   have hw0:wrongs l=0:=hI.symm
   have hres:addE e l=(addAll e l,0):=by rw[addE,if_pos hw0]
   clear h1 hI
   rw[hres]
   try refine wk ?_
   refine CW.loopT (fun t:Nat×Engine=>[sp 2 0,ob 0 t.2.enc,sp 4 1,ob 1 noE.enc0,sd 5 (dint 0),sd 26 (encDeeds l),sd 27 (dint l.length),sd 28 (dint t.1),nxt 2])
    (fun t=>t.1≤l.length∧Engine.Sz t.2 (N+5*t.1)∧addAll t.2 (l.drop t.1)=addAll e l) (fun t=>l.length - t.1) (0,e) ⟨by omega,hz,rfl⟩ ?_ ?_
   ·
    exact by_less
   ·
    rintro ⟨i,e'⟩ ⟨hi,hz',hI⟩
    dsimp only at hi hz' hI ⊢
    rcases drop_case hi with ⟨h1,h2⟩|⟨d,h1,h2,h3⟩
    ·
     rw[h1]at hI
     simp only[addAll]at hI
     try refine wk ?_
     rw[← hI]
     exact .two (.cell rfl rfl rfl rfl (.aggd (ds:=e'.enc) rfl (.refl _))) (.tmp rfl (.one (.d (.refl _))))
    ·
     rw[h1]at hI
     simp only[addAll]at hI
     have hdm:=List.mem_of_getElem? h2
     have hds:=hd d hdm
     have hww:=(wrong_writes (wrongs_mem hw0 d hdm)).2.1
     have hz2:=add1_sz hz' hds hww
     obtain⟨chs,dds,sts,ens,bs⟩:=e'
     have hzc:=hz'.c
     have hzv:=hz'.v
     have hzd:=hz'.d
     have hzs:=hz'.s
     have hzn:=hz'.n
     have hzb:=hz'.b
     dsimp only at hzc hzv hzd hzs hzn hzb
     try refine wk ?_
     refine CW.loopT (fun t:Nat×List Chain=>[sp 2 0,ob 0 (Engine.enc ⟨t.2,dds,sts,ens,bs⟩),sp 4 1,ob 1 noE.enc0,sd 5 (dint 0),sd 26 (encDeeds l),sd 27 (dint l.length),sd 28 (dint i),sp 10 2,ob 2 d.enc,sd 33 (encStrs d.writes),sd 34 (dint d.writes.length),sd 35 (dint t.1),nxt 3])
      (fun t=>t.1≤d.writes.length∧(t.2.length≤N+5*i+t.1∧∀ c∈t.2,c.vs.length≤N+5*i+t.1)∧addKeys (bs+dds.length) t.2 (d.writes.drop t.1)=addKeys (bs+dds.length) chs d.writes) (fun t=>d.writes.length - t.1) (0,chs) ⟨by omega,⟨hzc,hzv⟩,rfl⟩ ?_ ?_
     ·
      exact by_less
     ·
      rintro ⟨j,cs⟩ ⟨hj,⟨hcl,hcv⟩,hJ⟩
      dsimp only at hj hcl hcv hJ ⊢
      rcases drop_case hj with ⟨g1,g2⟩|⟨k,g1,g2,g3⟩
      ·
       rw[g1]at hJ
       simp only[addKeys]at hJ
       subst hJ
       have hst0:StopR 17:=⟨rfl⟩
       try refine wkS ?_
       clear hst0
       refine Stop.go (CW.stut (stut_freeze_cell (id:=0) (j:=1) (i:=3) rfl (by simp)) ⟨rfl,rfl,trivial⟩ ?_)
       have hst0:StopX 18:=⟨rfl⟩
       try refine wkS ?_
       clear hst0
       refine Stop.go (CW.stut (stut_freeze_cell (id:=0) (j:=2) (i:=4) rfl (by simp)) ⟨rfl,rfl,trivial⟩ ?_)
       have hst0:StopX 19:=⟨rfl⟩
       try refine wkS ?_
       clear hst0
       refine Stop.go (CW.stut (stut_freeze_cell (id:=0) (j:=3) (i:=5) rfl (by simp)) ⟨rfl,rfl,trivial⟩ ?_)
       have hbox:[AV.d (encChains (addKeys (bs+dds.length) chs d.writes)),AV.d (.sl 3 (([]++dds.map Deed.enc)++[d.enc])),AV.d (.sl 1 (([]++sts.map encInt1)++[[dint 0]])),AV.d (.sl 5 (([]++ens.map Done.enc)++[done0.enc])),AV.d (dint bs)]
         = (add1 ⟨chs,dds,sts,ens,bs⟩ d).enc.map AV.d:=by
        simp[Engine.enc,add1,encDeeds,encInts,encEnds,encInt1]
       try refine wk ?_
       refine q_loopT (i+1,add1 ⟨chs,dds,sts,ens,bs⟩ d) ⟨by dsimp only;omega,by dsimp only;rw[show N+5*(i+1)=N+5*i+5 by omega];exact hz2,hI⟩ (by dsimp only;omega) ?_
       exact by_less
      ·
       rw[g1]at hJ
       simp only[addKeys]at hJ
       have hlen:((dds.map Deed.enc).length:Int)=dds.length:=by simp
       have ca:FnOk Tryz.prog 68 [.d (encChains cs),.d (dstr k),.d (dint (bs+((dds.map Deed.enc).length:Int)))] (.one (encChains (addC cs k (bs+dds.length)))):=by
        rw[hlen]
        exact ok_add cs k _ (by omega) (fun c hc=>by have:=hcv c hc;omega)
       repeat(first|refine wa ?_|((with_reducible apply s5);(first|exact a_call ca rfl by_sub|exact by_oa|exact by_ca);exact by_g)|refine wb ?_)
       refine q_loopT (j+1,addC cs k (bs+dds.length)) ⟨by dsimp only;omega,⟨by have:=addC_len cs k (bs+dds.length);dsimp only;omega,fun c hc=>by have:=addC_vs hcv c hc;dsimp only;omega⟩,hJ⟩ (by dsimp only;omega) ?_
       exact by_less
  ·
   rw[h1]at hI
   simp only[wrongs]at hI
   have hds:=hd d (List.mem_of_getElem? h2)
   have hc:=ok_wrongDeed d hds.r hds.w hds.c hds.rk hds.wk
   by_cases h4:wrongDeed d=0
   ·
    rw[if_pos h4]at hI
    try refine wk ?_
    refine q_loopT (i+1) ⟨by omega,hI⟩ (by omega) ?_
    exact by_less
   ·
    rw[if_neg h4]at hI
    have hres:addE e l=(noE,wrongs l):=by rw[addE,if_neg (by rw[← hI];exact h4)]
    rw[hres]
    try refine wk ?_
    exact .two (.cell rfl rfl rfl rfl (.aggd (ds:=noE.enc0) rfl (DLes.agg (.cons (dle_nil 2) (.cons (dle_nil 3) (.cons (dle_nil 1) (.cons (dle_nil 5) (.cons (.refl _) .nil)))))))) (.tmp rfl (.one (.d (dle_int hI))))
set_option maxHeartbeats 4000000
theorem ok_set (l:List Chain) (k:Str) (v:Version) (hl:l.length≤268435456) (hv:∀ c∈l,c.vs.length≤268435456):FnOk Tryz.prog 87 [.d (encChains l),.d (dstr k),.d (.agg v.enc)] (.one (encChains (setChains l k v))):=by
 refine fnOk_of tbl_ok mixed_ok Tryz.func87 rfl (by kernel_rfl) rfl rfl fun w0 own0=>?_
 try refine wk ?_
 refine CW.stut (stut_promote (i:=7) 109 2) ⟨rfl,rfl,trivial⟩ ?_
 refine CW.loopT (fun t:Nat×List Chain=>[(.s 1,.av (.d (dstr k))),(.s 5,.av (.ptr 0 0)),(.o 0,.ob (.box (v.enc.map AV.d))),(.s 7,.av (.own 1 t.2.length)),(.o 1,.ob (.arr 109 2 (t.2.map Chain.enc))),(.s 13,.av (.d (encChains l))),(.s 14,.av (.d (dint l.length))),(.s 15,.av (.d (dint t.1))),(.nx,.num 2)])
  (fun t=>t.1≤l.length∧t.2.length≤t.1∧t.2++(l.drop t.1).map (setC k v)=setChains l k v) (fun t=>l.length - t.1) (0,[]) ⟨by omega,by simp,rfl⟩ ?_ ?_
 ·
  exact by_less
 ·
  rintro ⟨i,out⟩ ⟨hi,ho,hI⟩
  dsimp only at hi ho hI ⊢
  rcases drop_case hi with ⟨h1,h2⟩|⟨c,h1,h2,h3⟩
  ·
   rw[h1,List.map_nil,List.append_nil]at hI
   try refine wk ?_
   rw[← hI]
   exact .one (.tmp rfl (.one (.own rfl (by simp) (.refl _))))
  ·
   rw[h1,List.map_cons]at hI
   have hcv:=hv c (List.mem_of_getElem? h2)
   try refine wk ?_
   refine CW.stut (stut_promote_cell (id:=3) (j:=1) 106 4 rfl) ⟨rfl,rfl,trivial⟩ ?_
   refine CW.loopT (fun t:Nat×List Version=>[(.s 1,.av (.d (dstr k))),(.s 5,.av (.ptr 0 0)),(.o 0,.ob (.box (v.enc.map AV.d))),(.s 7,.av (.own 1 out.length)),(.o 1,.ob (.arr 109 2 (out.map Chain.enc))),(.s 13,.av (.d (encChains l))),(.s 14,.av (.d (dint l.length))),(.s 15,.av (.d (dint i))),
     (.s 9,.av (.ptr 2 0)),(.o 2,.ob (.box (c.enc.map AV.d))),(.s 10,.av (.ptr 3 0)),(.o 3,.ob (.box [.d (dstr c.key),.own 4 t.2.length])),(.o 4,.ob (.arr 106 4 (t.2.map Version.enc))),
     (.s 23,.av (.d (encVs c.vs))),(.s 24,.av (.d (dint c.vs.length))),(.s 25,.av (.d (dint t.1))),(.nx,.num 5)])
    (fun t=>t.1≤c.vs.length∧t.2.length≤t.1∧t.2++(c.vs.drop t.1).map (setV (decide (c.key=k)) v)=c.vs.map (setV (decide (c.key=k)) v)) (fun t=>c.vs.length - t.1) (0,[]) ⟨by omega,by simp,rfl⟩ ?_ ?_
   ·
    exact by_less
   ·
    rintro ⟨j,vs⟩ ⟨hj,hvs,hJ⟩
    dsimp only at hj hvs hJ ⊢
    rcases drop_case hj with ⟨h5,h6⟩|⟨x,h5,h6,h7⟩
    ·
     rw[h5,List.map_nil,List.append_nil]at hJ
     have hst0:StopX 13:=⟨rfl⟩
     try refine wkS ?_
     clear hst0
     refine Stop.go (CW.stut (stut_freeze_cell (id:=3) (j:=1) (i:=4) rfl (by simp)) ⟨rfl,rfl,trivial⟩ ?_)
     try refine wk ?_
     refine q_loopT (i+1,out++[setC k v c]) ⟨by dsimp only;omega,by dsimp only;simp;omega,by rw[← hI];simp⟩ (by dsimp only;omega) ?_
     rw[show setC k v c=⟨c.key,vs⟩ by rw[setC,hJ]]
     exact by_less
    ·
     rw[h5,List.map_cons]at hJ
     by_cases h8:c.key=k
     ·
      by_cases h9:x.by_=v.by_
      ·
       rw[setV,if_pos ⟨by simp[h8],h9⟩]at hJ
       try refine wk ?_
       refine q_loopT (j+1,vs++[v]) ⟨by dsimp only;omega,by dsimp only;simp;omega,by rw[← hJ];simp⟩ (by dsimp only;omega) ?_
       exact by_less
      ·
       rw[setV,if_neg (fun h=>h9 h.2)]at hJ
       try refine wk ?_
       refine q_loopT (j+1,vs++[x]) ⟨by dsimp only;omega,by dsimp only;simp;omega,by rw[← hJ];simp⟩ (by dsimp only;omega) ?_
       exact by_less
     ·
      rw[setV,if_neg (fun h=>h8 (by simpa using h.1))]at hJ
      try refine wk ?_
      refine q_loopT (j+1,vs++[x]) ⟨by dsimp only;omega,by dsimp only;simp;omega,by rw[← hJ];simp⟩ (by dsimp only;omega) ?_
      exact by_less
def orIn (h:Bool) (l:List Str) (s:Str):Bool:=match l with
 | []=>h
 |x::l=>orIn (h || decide (x=s)) l s
theorem orIn_eq:∀ {l:List Str}{h:Bool}{s:Str},orIn h l s=(h || isIn l s)
 | [],h,s=>by simp[orIn,isIn]
 |x::l,h,s=>by
  simp only[orIn,orIn_eq (l:=l),isIn]
  by_cases e:x=s <;> simp[e]
theorem ok_keys (d:Deed) (h1:d.reads.length≤268435456) (h2:d.writes.length≤268435456):FnOk Tryz.prog 23 [.d (.agg d.enc)] (.one (encStrs (keysD d))):=by
 refine fnOk_of tbl_ok mixed_ok Tryz.func23 rfl (by kernel_rfl) rfl rfl fun w0 own0=>?_
 have hsum:(d.reads++d.writes).length≤536870912:=by simp;omega
 try refine wk ?_
 refine CW.stut (stut_freeze (i:=15) (id:=1) (n:=(0+(d.reads.map encStr1).length)+(d.writes.map encStr1).length) (e:=9) (k:=1) (rows:=([]++d.reads.map encStr1)++d.writes.map encStr1) (by simp)) ⟨rfl,rfl,trivial⟩ ?_
 refine CW.stut (stut_promote (i:=3) 9 1) ⟨rfl,rfl,trivial⟩ ?_
 refine CW.loopT (fun t:Nat×List Str=>[sd 15 (encStrs (d.reads++d.writes)),sd 16 (dint (d.reads++d.writes).length),sd 17 (dint t.1),so 3 2 t.2.length,oa 2 9 1 (t.2.map encStr1),nxt 3])
  (fun t=>t.1≤(d.reads++d.writes).length∧t.2.length≤t.1∧keysGo' t.2 ((d.reads++d.writes).drop t.1)=keysD d) (fun t=>(d.reads++d.writes).length - t.1) (0,[]) ⟨by omega,by simp,rfl⟩ ?_ ?_
 ·
  have e1:([]++d.reads.map encStr1)++d.writes.map encStr1=(d.reads++d.writes).map encStr1:=by simp
  exact by_less
 ·
  generalize d.reads++d.writes=l at hsum
  rintro ⟨i,out⟩ ⟨hi,ho,hI⟩
  dsimp only at hi ho hI ⊢
  rcases drop_case hi with ⟨e1,e2⟩|⟨k,e1,e2,e3⟩
  ·
   rw[e1]at hI
   simp only[keysGo']at hI
   try refine wk ?_
   exact .one (.tmp rfl (.one (.own rfl (by simp) (dle_eq (by rw[← hI];rfl)))))
  ·
   rw[e1]at hI
   simp only[keysGo']at hI
   try refine wk ?_
   refine CW.loopT (fun t:Nat×Bool=>[sd 15 (encStrs l),sd 16 (dint l.length),sd 17 (dint i),so 3 2 out.length,oa 2 9 1 (out.map encStr1),sd 5 (dstr k),sd 6 (dbool t.2),so 21 2 out.length,sd 22 (dint out.length),sd 23 (dint t.1),nxt 3])
    (fun t=>t.1≤out.length∧orIn t.2 (out.drop t.1) k=isIn out k) (fun t=>out.length - t.1) (0,false) ⟨by omega,by rw[orIn_eq];simp⟩ ?_ ?_
   ·
    exact by_less
   ·
    rintro ⟨j,h⟩ ⟨hj,hJ⟩
    dsimp only at hj hJ ⊢
    rcases drop_case hj with ⟨g1,g2⟩|⟨x,g1,g2,g3⟩
    ·
     rw[g1]at hJ
     simp only[orIn]at hJ
     rw[← hJ]at hI
     cases h
     ·
      rw[if_neg (by simp)]at hI
      try refine wk ?_
      refine q_loopT (i+1,out++[k]) ⟨by dsimp only;omega,by dsimp only;simp;omega,hI⟩ (by dsimp only;omega) ?_
      exact by_less
     ·
      rw[if_pos rfl]at hI
      try refine wk ?_
      refine q_loopT (i+1,out) ⟨by dsimp only;omega,by dsimp only;omega,hI⟩ (by dsimp only;omega) ?_
      exact by_less
    ·
     rw[g1]at hJ
     simp only[orIn]at hJ
     cases h
     ·
      rw[Bool.false_or]at hJ
      try refine wk ?_
      refine q_loopT (j+1,decide (x=k)) ⟨by dsimp only;omega,hJ⟩ (by dsimp only;omega) ?_
      exact by_less
     ·
      rw[Bool.true_or]at hJ
      try refine wk ?_
      refine q_loopT (j+1,true) ⟨by dsimp only;omega,hJ⟩ (by dsimp only;omega) ?_
      exact by_less
theorem keysGo_len:∀ (l out:List Str),(keysGo' out l).length≤out.length+l.length
 | [],out=>by simp[keysGo']
 |k::r,out=>by
  have:=keysGo_len r (if isIn out k=true then out else out++[k])
  simp only[keysGo']
  split at this <;> simp_all <;> omega
theorem keysD_len {d:Deed}(h:d.Sm):(keysD d).length≤536870912:=by
 have:=keysGo_len (d.reads++d.writes) []
 have h1:=h.r
 have h2:=h.w
 simp at this
 unfold keysD
 omega
theorem ok_needs (e:Engine) (at_:Nat) (d:Deed) (hs:e.Sm) (hd:e.deeds[at_]? = some d):FnOk Tryz.prog 20 [.d (.agg e.enc),.d (dint at_)] (.one (encInts (needs e at_ d))):=by
 refine fnOk_of tbl_ok mixed_ok Tryz.func20 rfl (by kernel_rfl) rfl rfl fun w0 own0=>?_
 have hdl:at_ < e.deeds.length:=(List.getElem?_eq_some_iff.1 hd).1
 have hd1:=hs.d
 have hb:=hs.b
 have hdd:=hs.dd d (List.mem_of_getElem? hd)
 have ck:=ok_keys d hdd.r hdd.w
 have hkl:=keysD_len hdd
 have cb:=fun k=>ok_before e.chains k (e.base+at_) (by have:=hs.c;omega) (fun c h=>by have:=hs.v c h;omega)
 try refine wk ?_
 refine CW.stut (stut_promote (i:=5) 3 1) ⟨rfl,rfl,trivial⟩ ?_
 refine CW.loopT (fun t:Nat×List Int=>[sd 1 (dint at_),sp 2 0,ob 0 e.enc,sd 10 (dint at_),sd 11 (dint t.1),so 5 1 t.2.length,oa 1 3 1 (t.2.map encInt1),nxt 2])
  (fun t=>t.1≤(List.range at_).length∧t.2.length≤t.1∧t.2++needsGo e.chains e.base (e.base+at_) (keysD d) 0 ((List.range at_).drop t.1)=needs e at_ d) (fun t=>(List.range at_).length - t.1) (0,[]) ⟨by omega,by simp,rfl⟩ ?_ ?_
 ·
  exact by_less
 ·
  rintro ⟨i,out⟩ ⟨hi,ho,hI⟩
  dsimp only at hi ho hI ⊢
  have hlr:(List.range at_).length=at_:=by simp
  rcases drop_case hi with ⟨h1,h2⟩|⟨i',h1,h2,h3⟩
  ·
   rw[h1]at hI
   simp only[needsGo,List.append_nil]at hI
   rw[hlr]at h2
   try refine wk ?_
   exact .one (.tmp rfl (.one (.own rfl (by simp) (dle_eq (by rw[← hI];rfl)))))
  ·
   obtain rfl:i'=i:=by
    rw[List.getElem?_range (by omega)]at h2
    simpa using h2.symm
   rw[h1]at hI
   simp only[needsGo]at hI
   rw[hlr]at h3
   try refine wk ?_
   refine CW.loopT (fun j:Nat=>[sd 1 (dint at_),sp 2 0,ob 0 e.enc,sd 10 (dint at_),sd 11 (dint i'),so 5 1 out.length,oa 1 3 1 (out.map encInt1),sd 6 (dint i'),sd 19 (encStrs (keysD d)),sd 20 (dint (keysD d).length),sd 21 (dint j),nxt 2])
    (fun j=>j≤(keysD d).length∧anyHit e.chains (e.base+at_) (e.base+i') ((keysD d).drop j)=anyHit e.chains (e.base+at_) (e.base+i') (keysD d)) (fun j=>(keysD d).length - j) 0 ⟨by omega,rfl⟩ ?_ ?_
   ·
    exact by_less
   ·
    rintro j ⟨hj,hJ⟩
    rcases drop_case hj with ⟨g1,g2⟩|⟨k,g1,g2,g3⟩
    ·
     rw[g1]at hJ
     simp only[anyHit]at hJ
     rw[if_neg (by rw[← hJ];simp)]at hI
     try refine wk ?_
     refine q_loopT (i'+1,out) ⟨by dsimp only;omega,by dsimp only;omega,hI⟩ (by dsimp only;omega) ?_
     exact by_less
    ·
     rw[g1]at hJ
     simp only[anyHit]at hJ
     have cbk:=cb k
     obtain⟨⟨vb,vm,vh,vn⟩,hv⟩:∃ v,before e.chains k (e.base+at_)=v:=⟨_,rfl⟩
     rw[hv]at cbk
     rw[show hit e.chains (e.base+at_) (e.base+i') k=(!vm&&decide (vb=e.base+i')) by rw[hit,hv]]at hJ
     cases vm
     ·
      by_cases g4:vb=e.base+i'
      ·
       rw[if_pos (by simp[g4])]at hJ
       rw[if_pos hJ.symm]at hI
       repeat(first|refine wa ?_|((with_reducible apply s5);(first|exact a_call cbk rfl by_sub|exact by_oa|exact by_ca);exact by_g)|refine wb ?_)
       refine q_loopT (i'+1,out++[(i':Int)]) ⟨by dsimp only;omega,by dsimp only;simp;omega,by rw[← hI];simp⟩ (by dsimp only;omega) ?_
       exact by_less
      ·
       rw[if_neg (by simp[g4])]at hJ
       repeat(first|refine wa ?_|((with_reducible apply s5);(first|exact a_call cbk rfl by_sub|exact by_oa|exact by_ca);exact by_g)|refine wb ?_)
       refine q_loopT (j+1) ⟨by omega,hJ⟩ (by omega) ?_
       exact by_less
     ·
      rw[if_neg (by simp)]at hJ
      repeat(first|refine wa ?_|((with_reducible apply s5);(first|exact a_call cbk rfl by_sub|exact by_oa|exact by_ca);exact by_g)|refine wb ?_)
      refine q_loopT (j+1) ⟨by omega,hJ⟩ (by omega) ?_
      exact by_less
def needsAt (e:Engine) (at_:Nat):List Int:=match e.deeds[at_]? with
 |some d=>needs e at_ d
 |none=>[]
def readyGo (e:Engine):Nat→List Int→List Int
 |_,[]=>[]
 |i,s::r=>if s=0∧needsAt e i=[] then (i:Int)::readyGo e (i+1) r else readyGo e (i+1) r
def ready (e:Engine):List Int:=readyGo e 0 e.state
theorem needs_len (cs:List Chain) (base b:Int) (ks:List Str):∀ (l:List Nat) (j:Nat),(needsGo cs base b ks j l).length≤l.length
 | [],_=>by simp[needsGo]
 |k::r,j=>by
  have:=needs_len cs base b ks r 0
  simp only[needsGo]
  split <;> simp <;> omega
theorem ok_ready (e:Engine) (hs:e.Sm) (hl:e.state.length=e.deeds.length):FnOk Tryz.prog 32 [.d (.agg e.enc)] (.one (encInts (ready e))):=by
 refine fnOk_of tbl_ok mixed_ok Tryz.func32 rfl (by kernel_rfl) rfl rfl fun w0 own0=>?_
 have hd1:=hs.d
 try refine wk ?_
 refine CW.stut (stut_promote (i:=3) 3 1) ⟨rfl,rfl,trivial⟩ ?_
 refine CW.loopT (fun t:Nat×List Int=>[sp 1 0,ob 0 e.enc,sd 7 (dint e.deeds.length),sd 8 (dint t.1),so 3 1 t.2.length,oa 1 3 1 (t.2.map encInt1),nxt 2])
  (fun t=>t.1≤e.state.length∧t.2.length≤t.1∧t.2++readyGo e t.1 (e.state.drop t.1)=ready e) (fun t=>e.state.length - t.1) (0,[]) ⟨by omega,by simp,rfl⟩ ?_ ?_
 ·
  exact by_less
 ·
  rintro ⟨i,out⟩ ⟨hi,ho,hI⟩
  dsimp only at hi ho hI ⊢
  rcases drop_case hi with ⟨h1,h2⟩|⟨s,h1,h2,h3⟩
  ·
   rw[h1]at hI
   simp only[readyGo,List.append_nil]at hI
   try refine wk ?_
   exact .one (.tmp rfl (.one (.own rfl (by simp) (dle_eq (by rw[← hI];rfl)))))
  ·
   rw[h1]at hI
   simp only[readyGo]at hI
   obtain⟨d,hd⟩:∃ d,e.deeds[i]? = some d:=⟨e.deeds[i]'(by omega),List.getElem?_eq_getElem (by omega)⟩
   have cn:=ok_needs e i d hs hd
   have hna:needsAt e i=needs e i d:=by rw[needsAt,hd]
   have hnl:(needs e i d).length≤i:=by have:=needs_len e.chains e.base (e.base+i) (keysD d) (List.range i) 0;simpa[needs] using this
   by_cases e1:s=0
   ·
    by_cases e2:needs e i d=[]
    ·
     rw[if_pos ⟨e1,by rw[hna];exact e2⟩]at hI
     have e3:(needs e i d).length=0:=by rw[e2];rfl
     try refine wk ?_
     refine q_loopT (i+1,out++[(i:Int)]) ⟨by dsimp only;omega,by dsimp only;simp;omega,by rw[← hI];simp⟩ (by dsimp only;omega) ?_
     exact by_less
    ·
     rw[if_neg (fun h=>e2 (by rw[← hna];exact h.2))]at hI
     have e3:¬ (needs e i d).length=0:=by simpa using e2
     try refine wk ?_
     refine q_loopT (i+1,out) ⟨by dsimp only;omega,by dsimp only;omega,hI⟩ (by dsimp only;omega) ?_
     exact by_less
   ·
    rw[if_neg (fun h=>e1 h.1)]at hI
    try refine wk ?_
    refine q_loopT (i+1,out) ⟨by dsimp only;omega,by dsimp only;omega,hI⟩ (by dsimp only;omega) ?_
    exact by_less
theorem ok_put (l:List Pair) (k:Str) (n:Int) (hs:Bool) (hl:l.length≤268435456):FnOk Tryz.prog 84 [.d (encRows l),.d (dstr k),.d (dint n),.d (dbool hs)] (.one (encRows (put l k n hs))):=by
 refine fnOk_of tbl_ok mixed_ok Tryz.func84 rfl (by kernel_rfl) rfl rfl fun w0 own0=>?_
 try refine wk ?_
 refine CW.stut (stut_promote (i:=9) 99 2) ⟨rfl,rfl,trivial⟩ ?_
 refine CW.loopT (fun t:Nat×Bool×List Pair=>[(.s 1,.av (.d (dstr k))),(.s 2,.av (.d (dint n))),(.s 3,.av (.d (dbool hs))),(.s 9,.av (.own 0 t.2.2.length)),(.s 10,.av (.d (dbool t.2.1))),(.s 13,.av (.d (encRows l))),(.s 14,.av (.d (dint l.length))),(.s 15,.av (.d (dint t.1))),(.o 0,.ob (.arr 99 2 (t.2.2.map Pair.enc))),(.nx,.num 1)])
  (fun t=>t.1≤l.length∧t.2.2.length≤2*t.1∧putGo k n hs t.2.1 t.2.2 (l.drop t.1)=put l k n hs) (fun t=>l.length - t.1) (0,false,[]) ⟨by omega,by simp,rfl⟩ ?_ ?_
 ·
  exact by_less
 ·
  rintro ⟨i,done,out⟩ ⟨hi,ho,hI⟩
  dsimp only at hi ho hI ⊢
  rcases drop_case hi with ⟨h1,h2⟩|⟨p,h1,h2,h3⟩
  ·
   rw[h1]at hI
   simp only[putGo]at hI
   cases done
   ·
    cases hs
    ·
     try refine wk ?_
     exact .one (.tmp rfl (.one (.own rfl (by simp) (dle_eq (by rw[← hI];rfl)))))
    ·
     try refine wk ?_
     exact .one (.tmp rfl (.one (.own rfl (by simp) (dle_eq (by rw[← hI];simp[encRows];rfl)))))
   ·
    try refine wk ?_
    exact .one (.tmp rfl (.one (.own rfl (by simp) (dle_eq (by rw[← hI];rfl)))))
  ·
   rw[h1]at hI
   simp only[putGo]at hI
   cases done <;> cases h5:slt p.key k <;> cases hs <;> simp[h5]at hI <;> by_cases h4:p.key=k <;> (first|rw[if_pos h4]at hI|rw[if_neg h4]at hI)
   all_goals
    try refine wk ?_
    refine q_loopT (i+1,_,_) ⟨by omega,?_,hI⟩ (by dsimp only;omega) ?_
    ·
     dsimp only;(first|omega|(simp;omega))
    ·
     exact by_less
set_option maxHeartbeats 8000000
theorem ld_reg (e:Done) {A:Nat}(h:A < 4) {ti:TI}(hk:ti.kind = .int .i64):ldA ti ((e.enc.map AV.d).drop (1+A*1))=some (.d (dint (rget e A))):=by
 have:A=0∨A=1∨A=2∨A=3:=by omega
 rcases this with rfl|rfl|rfl|rfl <;> simp[ldA,hk,Done.enc,rget]
theorem st_reg (e:Done) {A:Nat}(h:A < 4) (x:Int):putCells (e.enc.map AV.d) (1+A*1) [.d (dint x)]=(rset e A x).enc.map AV.d:=by
 have:A=0∨A=1∨A=2∨A=3:=by omega
 rcases this with rfl|rfl|rfl|rfl <;> rfl
theorem fit_reg (e:Done) {A:Nat}(h:A < 4):Nat.ble ((1+A*1)+1) (e.enc.map AV.d).length=true:=by
 simp[Done.enc];omega
theorem mul_bound {a b:Int}(ha : -1073741824≤a∧a≤1073741824) (hb : -1073741824≤b∧b≤1073741824) : -1152921504606846976≤a*b∧a*b≤1152921504606846976:=by
 have h1:(a*b).natAbs≤1073741824*1073741824:=by
  rw[Int.natAbs_mul]
  exact Nat.mul_le_mul (by omega) (by omega)
 omega
theorem ok_do (r:List Pair) (d:Deed) (hl:r.length≤134217728) (hr:rowsOk r) (hc:d.code.length≤134217728) (hi:∀ i∈d.code,i.Ok) :
  FnOk Tryz.prog 85 [.d (encRows r),.d (.agg d.enc)] (.tup [encRows (doD r d).1,.agg (doD r d).2.enc]):=by
 refine fnOk_of tbl_ok mixed_ok Tryz.func85 rfl (by kernel_rfl) rfl rfl fun w0 own0=>?_
 try refine wk ?_
 refine CW.loopT (fun t:Nat×Int×List Pair×Done=>[sd 0 (encRows r),sp 3 0,ob 0 d.enc,sp 5 1,ob 1 done0.enc,sd 6 (encRows t.2.2.1),sp 7 2,ob 2 t.2.2.2.enc,sd 8 (dint t.2.1),sd 16 (encCode d.code),sd 17 (dint d.code.length),sd 18 (dint t.1),nxt 3])
  (fun t=>t.1≤d.code.length∧t.2.2.1.length≤r.length+t.1∧rowsOk t.2.2.1∧t.2.2.2.Ok∧t.2.2.2.failed=false∧(0≤t.2.1∧t.2.1≤1073741824)∧doGo r t.2.1 t.2.2.1 t.2.2.2 (d.code.drop t.1)=doD r d)
  (fun t=>d.code.length - t.1) (0,0,r,done0) ⟨by omega,by simp,hr,⟨by simp[nOk,done0],by simp[nOk,done0],by simp[nOk,done0],by simp[nOk,done0]⟩,rfl,by simp,rfl⟩ ?_ ?_
 ·
  exact by_less
 ·
  rintro ⟨x,sk,now,e⟩ ⟨hx,hn,hrow,hreg,hf,hsk,hI⟩
  dsimp only at hx hn hrow hreg hf hsk hI ⊢
  rcases drop_case hx with ⟨h1,h2⟩|⟨i,h1,h2,h3⟩
  ·
   rw[h1]at hI
   simp only[doGo]at hI
   try refine wk ?_
   rw[← hI]
   exact .two (.tmp rfl (.one (.d (.refl _)))) (.cell rfl rfl rfl rfl (.aggd rfl (.refl _)))
  ·
   rw[h1]at hI
   simp only[doGo]at hI
   have hio:=hi i (List.mem_of_getElem? h2)
   by_cases h4:0 < sk
   ·
    rw[if_pos h4]at hI
    try refine wk ?_
    refine q_loopT (x+1,sk - 1,now,e) ⟨by dsimp only;omega,by dsimp only;omega,hrow,hreg,hf,by dsimp only;omega,hI⟩ (by dsimp only;omega) ?_
    exact by_less
   rw[if_neg h4]at hI
   obtain⟨kd,ia,ib,n,key⟩:=i
   obtain⟨A,rfl⟩:=Int.eq_ofNat_of_zero_le hio.a.1
   obtain⟨B,rfl⟩:=Int.eq_ofNat_of_zero_le hio.b.1
   have hA:A < 4:=by have:=hio.a.2;dsimp only at this;omega
   have hB:B < 4:=by have:=hio.b.2;dsimp only at this;omega
   have hga:=rget_ok hreg A
   have hgb:=rget_ok hreg B
   have hst:=fun y=>st_reg e hA y
   have hfit:=fit_reg e hA
   have hself:=rset_self e A
   have hk:=hio.k
   have hcn:=hio.c
   have hcs:=hio.s
   dsimp only[Int.toNat_natCast]at hI hk hcn hcs
   have hkd:kd=1∨kd=2∨kd=3∨kd=4∨kd=5∨kd=6∨kd=7∨kd=8∨kd=9:=by omega
   clear hk hio h1
   unfold nOk at hga hgb
   have cg:=ok_get now key (by omega)
   have hh:=fun(k:Nat) (h:k < 10)=>ok_has k 114 h
   rcases hkd with rfl|rfl|rfl|rfl|rfl|rfl|rfl|rfl|rfl
   ·
    rw[if_pos rfl]at hI
    have ch:=hh 1 (by omega)
    rw[show has 1 114=true from by decide]at ch
    have hs:=hst (RF.get now key).1
    repeat(first|refine wa ?_|((with_reducible apply s5);(first|exact a_call ch rfl by_sub|((with_reducible apply a_lptr);(iterate 4 exact rfl);exact ld_reg e hA rfl)|((with_reducible apply a_lptr);(iterate 4 exact rfl);exact ld_reg e hB rfl)|((with_reducible apply a_store);(iterate 6 exact rfl);exact hfit;exact⟨rfl,trivial⟩)|exact by_oa|exact by_ca);exact by_g)|refine wb ?_)
    refine q_loopT (x+1,sk,now,rset e A (RF.get now key).1) ⟨by dsimp only;omega,by dsimp only;omega,hrow,rset_ok hreg A (get_ok hrow key),by rw[rset_failed];exact hf,hsk,hI⟩ (by dsimp only;omega) ?_
    exact by_less
   ·
    rw[if_neg (show ¬ (2:Int)=1 by decide),if_pos rfl]at hI
    have ch:=hh 2 (by omega)
    rw[show has 2 114=true from by decide]at ch
    have hs:=hst n
    repeat(first|refine wa ?_|((with_reducible apply s5);(first|exact a_call ch rfl by_sub|((with_reducible apply a_lptr);(iterate 4 exact rfl);exact ld_reg e hA rfl)|((with_reducible apply a_lptr);(iterate 4 exact rfl);exact ld_reg e hB rfl)|((with_reducible apply a_store);(iterate 6 exact rfl);exact hfit;exact⟨rfl,trivial⟩)|exact by_oa|exact by_ca);exact by_g)|refine wb ?_)
    refine q_loopT (x+1,sk,now,rset e A n) ⟨by dsimp only;omega,by dsimp only;omega,hrow,rset_ok hreg A (hcn rfl),by rw[rset_failed];exact hf,hsk,hI⟩ (by dsimp only;omega) ?_
    exact by_less
   ·
    rw[if_neg (show ¬ (3:Int)=1 by decide),if_neg (show ¬ (3:Int)=2 by decide),if_pos rfl]at hI
    have ch:=hh 3 (by omega)
    rw[show has 3 114=true from by decide]at ch
    have hs:=hst (round (rget e A+rget e B))
    have cr:=ok_round (rget e A+rget e B) (by omega)
    repeat(first|refine wa ?_|((with_reducible apply s5);(first|exact a_call ch rfl by_sub|((with_reducible apply a_lptr);(iterate 4 exact rfl);exact ld_reg e hA rfl)|((with_reducible apply a_lptr);(iterate 4 exact rfl);exact ld_reg e hB rfl)|((with_reducible apply a_store);(iterate 6 exact rfl);exact hfit;exact⟨rfl,trivial⟩)|((with_reducible apply a_bin);(iterate 2 exact rfl);(apply bin_add;omega);exact rfl)|exact by_oa|exact by_ca);exact by_g)|refine wb ?_)
    refine q_loopT (x+1,sk,now,rset e A (round (rget e A+rget e B))) ⟨by dsimp only;omega,by dsimp only;omega,hrow,rset_ok hreg A (round_ok _),by rw[rset_failed];exact hf,hsk,hI⟩ (by dsimp only;omega) ?_
    exact by_less
   ·
    rw[if_neg (show ¬ (4:Int)=1 by decide),if_neg (show ¬ (4:Int)=2 by decide),if_neg (show ¬ (4:Int)=3 by decide),if_pos rfl]at hI
    have ch:=hh 4 (by omega)
    rw[show has 4 114=true from by decide]at ch
    have hs:=hst (round (rget e A - rget e B))
    have cr:=ok_round (rget e A - rget e B) (by omega)
    repeat(first|refine wa ?_|((with_reducible apply s5);(first|exact a_call ch rfl by_sub|((with_reducible apply a_lptr);(iterate 4 exact rfl);exact ld_reg e hA rfl)|((with_reducible apply a_lptr);(iterate 4 exact rfl);exact ld_reg e hB rfl)|((with_reducible apply a_store);(iterate 6 exact rfl);exact hfit;exact⟨rfl,trivial⟩)|((with_reducible apply a_bin);(iterate 2 exact rfl);(apply bin_sub;omega);exact rfl)|exact by_oa|exact by_ca);exact by_g)|refine wb ?_)
    refine q_loopT (x+1,sk,now,rset e A (round (rget e A - rget e B))) ⟨by dsimp only;omega,by dsimp only;omega,hrow,rset_ok hreg A (round_ok _),by rw[rset_failed];exact hf,hsk,hI⟩ (by dsimp only;omega) ?_
    exact by_less
   ·
    rw[if_neg (show ¬ (5:Int)=1 by decide),if_neg (show ¬ (5:Int)=2 by decide),if_neg (show ¬ (5:Int)=3 by decide),if_neg (show ¬ (5:Int)=4 by decide),if_pos rfl]at hI
    have ch:=hh 5 (by omega)
    rw[show has 5 114=true from by decide]at ch
    have hmul : -1152921504606846976≤rget e A*rget e B∧rget e A*rget e B≤1152921504606846976:=mul_bound hga hgb
    have hs:=hst (round (rget e A*rget e B))
    have cr:=ok_round (rget e A*rget e B) (by omega)
    repeat(first|refine wa ?_|((with_reducible apply s5);(first|exact a_call ch rfl by_sub|((with_reducible apply a_lptr);(iterate 4 exact rfl);exact ld_reg e hA rfl)|((with_reducible apply a_lptr);(iterate 4 exact rfl);exact ld_reg e hB rfl)|((with_reducible apply a_store);(iterate 6 exact rfl);exact hfit;exact⟨rfl,trivial⟩)|((with_reducible apply a_bin);(iterate 2 exact rfl);(apply bin_mul;omega);exact rfl)|exact by_oa|exact by_ca);exact by_g)|refine wb ?_)
    refine q_loopT (x+1,sk,now,rset e A (round (rget e A*rget e B))) ⟨by dsimp only;omega,by dsimp only;omega,hrow,rset_ok hreg A (round_ok _),by rw[rset_failed];exact hf,hsk,hI⟩ (by dsimp only;omega) ?_
    exact by_less
   ·
    rw[if_neg (show ¬ (6:Int)=1 by decide),if_neg (show ¬ (6:Int)=2 by decide),if_neg (show ¬ (6:Int)=3 by decide),if_neg (show ¬ (6:Int)=4 by decide),if_neg (show ¬ (6:Int)=5 by decide),if_pos rfl]at hI
    have ch:=hh 6 (by omega)
    rw[show has 6 114=true from by decide]at ch
    have hs:putCells (e.enc.map AV.d) (1+A*1) [.d (dint (rget e A))]=e.enc.map AV.d:=by rw[hst,hself]
    have cp:=ok_put now key (rget e A) true (by omega)
    have hpl:=put_len now key (rget e A) true
    repeat(first|refine wa ?_|((with_reducible apply s5);(first|exact a_call ch rfl by_sub|((with_reducible apply a_lptr);(iterate 4 exact rfl);exact ld_reg e hA rfl)|((with_reducible apply a_lptr);(iterate 4 exact rfl);exact ld_reg e hB rfl)|((with_reducible apply a_store);(iterate 6 exact rfl);exact hfit;exact⟨rfl,trivial⟩)|exact by_oa|exact by_ca);exact by_g)|refine wb ?_)
    refine q_loopT (x+1,sk,put now key (rget e A) true,e) ⟨by dsimp only;omega,by dsimp only;omega,put_ok hrow key (rget_ok hreg A) true,hreg,hf,hsk,hI⟩ (by dsimp only;omega) ?_
    exact by_less
   ·
    rw[if_neg (show ¬ (7:Int)=1 by decide),if_neg (show ¬ (7:Int)=2 by decide),if_neg (show ¬ (7:Int)=3 by decide),if_neg (show ¬ (7:Int)=4 by decide),if_neg (show ¬ (7:Int)=5 by decide),if_neg (show ¬ (7:Int)=6 by decide),if_pos rfl]at hI
    have ch:=hh 7 (by omega)
    rw[show has 7 114=false from by decide]at ch
    have cp:=ok_put now key 0 false (by omega)
    have hpl:=put_len now key 0 false
    repeat(first|refine wa ?_|((with_reducible apply s5);(first|exact a_call ch rfl by_sub|((with_reducible apply a_lptr);(iterate 4 exact rfl);exact ld_reg e hA rfl)|((with_reducible apply a_lptr);(iterate 4 exact rfl);exact ld_reg e hB rfl)|((with_reducible apply a_store);(iterate 6 exact rfl);exact hfit;exact⟨rfl,trivial⟩)|exact by_oa|exact by_ca);exact by_g)|refine wb ?_)
    refine q_loopT (x+1,sk,put now key 0 false,e) ⟨by dsimp only;omega,by dsimp only;omega,put_ok hrow key (by simp[nOk]) false,hreg,hf,hsk,hI⟩ (by dsimp only;omega) ?_
    exact by_less
   ·
    rw[if_neg (show ¬ (8:Int)=1 by decide),if_neg (show ¬ (8:Int)=2 by decide),if_neg (show ¬ (8:Int)=3 by decide),if_neg (show ¬ (8:Int)=4 by decide),if_neg (show ¬ (8:Int)=5 by decide),if_neg (show ¬ (8:Int)=6 by decide),if_neg (show ¬ (8:Int)=7 by decide),if_pos rfl]at hI
    have ch:=hh 8 (by omega)
    rw[show has 8 114=true from by decide]at ch
    have hs:putCells (e.enc.map AV.d) (1+A*1) [.d (dint (rget e A))]=e.enc.map AV.d:=by rw[hst,hself]
    by_cases h5:rget e A < 1
    ·
     rw[if_pos h5]at hI
     repeat(first|refine wa ?_|((with_reducible apply s5);(first|exact a_call ch rfl by_sub|((with_reducible apply a_lptr);(iterate 4 exact rfl);exact ld_reg e hA rfl)|((with_reducible apply a_lptr);(iterate 4 exact rfl);exact ld_reg e hB rfl)|((with_reducible apply a_store);(iterate 6 exact rfl);exact hfit;exact⟨rfl,trivial⟩)|exact by_oa|exact by_ca);exact by_g)|refine wb ?_)
     refine q_loopT (x+1,n,now,e) ⟨by dsimp only;omega,by dsimp only;omega,hrow,hreg,hf,hcs rfl,hI⟩ (by dsimp only;omega) ?_
     exact by_less
    ·
     rw[if_neg h5]at hI
     repeat(first|refine wa ?_|((with_reducible apply s5);(first|exact a_call ch rfl by_sub|((with_reducible apply a_lptr);(iterate 4 exact rfl);exact ld_reg e hA rfl)|((with_reducible apply a_lptr);(iterate 4 exact rfl);exact ld_reg e hB rfl)|((with_reducible apply a_store);(iterate 6 exact rfl);exact hfit;exact⟨rfl,trivial⟩)|exact by_oa|exact by_ca);exact by_g)|refine wb ?_)
     refine q_loopT (x+1,sk,now,e) ⟨by dsimp only;omega,by dsimp only;omega,hrow,hreg,hf,hsk,hI⟩ (by dsimp only;omega) ?_
     exact by_less
   ·
    rw[if_neg (show ¬ (9:Int)=1 by decide),if_neg (show ¬ (9:Int)=2 by decide),if_neg (show ¬ (9:Int)=3 by decide),if_neg (show ¬ (9:Int)=4 by decide),if_neg (show ¬ (9:Int)=5 by decide),if_neg (show ¬ (9:Int)=6 by decide),if_neg (show ¬ (9:Int)=7 by decide),if_neg (show ¬ (9:Int)=8 by decide)]at hI
    have ch:=hh 9 (by omega)
    rw[show has 9 114=true from by decide]at ch
    have hs:putCells (e.enc.map AV.d) (1+A*1) [.d (dint (rget e A))]=e.enc.map AV.d:=by rw[hst,hself]
    by_cases h5:rget e A < 0
    ·
     rw[if_pos h5]at hI
     repeat(first|refine wa ?_|((with_reducible apply s5);(first|exact a_call ch rfl by_sub|((with_reducible apply a_lptr);(iterate 4 exact rfl);exact ld_reg e hA rfl)|((with_reducible apply a_lptr);(iterate 4 exact rfl);exact ld_reg e hB rfl)|((with_reducible apply a_store);(iterate 6 exact rfl);exact hfit;exact⟨rfl,trivial⟩)|exact by_oa|exact by_ca);exact by_g)|refine wb ?_)
     rw[← hI]
     exact .two (.tmp rfl (.one (.d (.refl _)))) (.cell rfl rfl rfl rfl (.aggd rfl (.refl _)))
    ·
     rw[if_neg h5]at hI
     repeat(first|refine wa ?_|((with_reducible apply s5);(first|exact a_call ch rfl by_sub|((with_reducible apply a_lptr);(iterate 4 exact rfl);exact ld_reg e hA rfl)|((with_reducible apply a_lptr);(iterate 4 exact rfl);exact ld_reg e hB rfl)|((with_reducible apply a_store);(iterate 6 exact rfl);exact hfit;exact⟨rfl,trivial⟩)|exact by_oa|exact by_ca);exact by_g)|refine wb ?_)
     refine q_loopT (x+1,sk,now,e) ⟨by dsimp only;omega,by dsimp only;omega,hrow,hreg,hf,hsk,hI⟩ (by dsimp only;omega) ?_
     exact by_less
def goRows (cs:List Chain) (b:Int):List Pair→List Str→List Pair
 |r,[]=>r
 |r,k::ks=>goRows cs b (if (before cs k b).has=true then put r k (before cs k b).n true else r) ks
def goSets (r:List Pair) (b:Int):List Chain→List Str→List Chain
 |cs,[]=>cs
 |cs,k::ks=>goSets r b (setChains cs k ⟨b,true,(RF.get r k).2,(RF.get r k).1⟩) ks
def goDone (e:Engine) (at_:Nat) (d:Deed):List Pair×Done:=doD (goRows e.chains (e.base+at_) [] (keysD d)) d
def goNew (e:Engine) (at_:Nat) (d:Deed):Engine :=
 ⟨goSets (goDone e at_ d).1 (e.base+at_) e.chains d.writes,e.deeds,e.state.set at_ 1,e.ends.set at_ (goDone e at_ d).2,e.base⟩
def goAt (e:Engine) (at_:Nat):Engine×Int:=match e.deeds[at_]? with
 |some d=>if e.state[at_]? = some 1 then (e,11) else if needs e at_ d=[] then (goNew e at_ d,0) else (e,10)
 |none=>(e,6)
def goE (e:Engine) (at_:Int):Engine×Int:=if at_ < 0 then (e,6) else goAt e at_.toNat
structure Deed.Ok (d:Deed):Prop where
 i:∀ i∈d.code,i.Ok
 r:d.reads.length≤5
 w:d.writes.length≤5
 c:d.code.length≤12
theorem Deed.Ok.keys {d:Deed}(h:Deed.Ok d):(keysD d).length≤10:=by
 have:=keysGo_len (d.reads++d.writes) []
 have h1:=h.r
 have h2:=h.w
 simp at this
 unfold keysD
 omega
def chOk (l:List Chain):Prop:=∀ c∈l,∀ v∈c.vs,nOk v.n
theorem bvs_ok {h:Bool}{b:Int}:∀ {l:List Version}{out:Version},nOk out.n→(∀ v∈l,nOk v.n)→nOk (bvs h b out l).n
 | [],out,ho,_=>ho
 |v::l,out,ho,hl=>by
  simp only[bvs]
  refine bvs_ok ?_ fun w hw=>hl w (List.mem_cons_of_mem _ hw)
  split
  ·
   exact hl v (List.mem_cons_self ..)
  ·
   exact ho
theorem beforeGo_ok {k:Str}{b:Int}:∀ {l:List Chain}{out:Version},nOk out.n→chOk l→nOk (beforeGo k b out l).n
 | [],out,ho,_=>ho
 |c::l,out,ho,hl=>by
  simp only[beforeGo]
  exact beforeGo_ok (bvs_ok ho (hl c (List.mem_cons_self ..))) fun x hx=>hl x (List.mem_cons_of_mem _ hx)
theorem before_ok {l:List Chain}(h:chOk l) (k:Str) (b:Int):nOk (before l k b).n:=beforeGo_ok (by simp[nOk]) h
theorem goRows_ok {cs:List Chain}{b:Int}(h:chOk cs):∀ {ks:List Str}{r:List Pair},rowsOk r→rowsOk (goRows cs b r ks)∧(goRows cs b r ks).length≤r.length+ks.length
 | [],r,hr=>⟨hr,by simp[goRows]⟩
 |k::ks,r,hr=>by
  simp only[goRows]
  by_cases hh:(before cs k b).has=true
  ·
   rw[if_pos hh]
   have:=goRows_ok (b:=b) h (ks:=ks) (put_ok hr k (before_ok h k b) true)
   refine⟨this.1,?_⟩
   have h2:=put_len r k (before cs k b).n true
   have h3:=this.2
   simp;omega
  ·
   rw[if_neg hh]
   have:=goRows_ok (b:=b) h (ks:=ks) hr
   exact⟨this.1,by have h3:=this.2;simp;omega⟩
theorem doGo_len {r0:List Pair}:∀ (l:List Ins) (sk:Int) (now:List Pair) (e:Done),(doGo r0 sk now e l).1.length≤max r0.length (now.length+l.length)
 | [],sk,now,e=>by simp only[doGo];simp;omega
 |i::l,sk,now,e=>by
  have ih:=fun sk now e=>doGo_len (r0:=r0) l sk now e
  have h1:=put_len now i.key (rget e i.a.toNat) true
  have h2:=put_len now i.key 0 false
  simp only[doGo,List.length_cons]
  repeat' split
  all_goals first
   |(refine Nat.le_trans (ih _ _ _) ?_;omega)
   |(simp only[];omega)
theorem doD_len (r:List Pair) (d:Deed):(doD r d).1.length≤r.length+d.code.length:=by
 have:=doGo_len (r0:=r) d.code 0 r done0
 unfold doD
 omega
theorem setC_len {k:Str}{v:Version}{c:Chain}:(setC k v c).vs.length=c.vs.length:=by simp[setC]
theorem set_vs {l:List Chain}{k:Str}{v:Version}{M:Nat}(h:∀ c∈l,c.vs.length≤M):∀ c∈setChains l k v,c.vs.length≤M:=by
 intro c hc
 obtain⟨c0,h0,rfl⟩:=List.mem_map.1 hc
 rw[setC_len];exact h c0 h0
theorem ok_go (e:Engine) (at_:Int) (N:Nat) (hz:Engine.Sz e N) (hN:N≤100000000) (hd:∀ d∈e.deeds,Deed.Ok d) (hch:chOk e.chains) :
  FnOk Tryz.prog 33 [.d (.agg e.enc),.d (dint at_)] (.tup [.agg (goE e at_).1.enc,dint (goE e at_).2]):=by
 refine fnOk_of tbl_ok mixed_ok Tryz.func33 rfl (by kernel_rfl) rfl rfl fun w0 own0=>?_
 have hsm:=hz.sm (by omega)
 have hc:=hz.c
 have hv:=hz.v
 have hdl:=hz.d
 have hsl:=hz.s
 have hnl:=hz.n
 have hb:=hz.b
 unfold goE
 by_cases a1:at_ < 0
 ·
  rw[if_pos a1]
  try refine wk ?_
  exact .two (.cell rfl rfl rfl rfl (.aggd (ds:=e.enc) rfl (.refl _))) (.tmp rfl (.one (.d (.refl _))))
 rw[if_neg a1]
 obtain⟨A,rfl⟩:=Int.eq_ofNat_of_zero_le (show 0≤at_ by omega)
 rw[Int.toNat_natCast]
 unfold goAt
 by_cases a2:e.deeds.length≤A
 ·
  rw[List.getElem?_eq_none a2]
  try refine wk ?_
  exact .two (.cell rfl rfl rfl rfl (.aggd (ds:=e.enc) rfl (.refl _))) (.tmp rfl (.one (.d (.refl _))))
 have a3:A < e.deeds.length:=by omega
 obtain⟨d,hA⟩:∃ d,e.deeds[A]? = some d:=⟨e.deeds[A],List.getElem?_eq_getElem a3⟩
 obtain⟨s,hS⟩:∃ s,e.state[A]? = some s:=⟨e.state[A]'(by omega),List.getElem?_eq_getElem (by omega)⟩
 obtain⟨n0,hE⟩:∃ n0,e.ends[A]? = some n0:=⟨e.ends[A]'(by omega),List.getElem?_eq_getElem (by omega)⟩
 rw[hA,hS]
 dsimp only
 have cn:=ok_needs e A d hsm hA
 have hnl2:(needs e A d).length≤A:=by have:=needs_len e.chains e.base (e.base+A) (keysD d) (List.range A) 0;simpa[needs] using this
 by_cases a4:s=1
 ·
  rw[if_pos (by rw[a4])]
  try refine wk ?_
  exact .two (.cell rfl rfl rfl rfl (.aggd (ds:=e.enc) rfl (.refl _))) (.tmp rfl (.one (.d (.refl _))))
 rw[if_neg (by simpa using a4)]
 by_cases a5:needs e A d=[]
 ·
  rw[if_pos a5]
  have a6:(needs e A d).length=0:=by rw[a5];rfl
  have hdm:=List.mem_of_getElem? hA
  have hds:=hsm.dd d hdm
  have ck:=ok_keys d hds.r hds.w
  have hdo:=hd d hdm
  have hkl:=hdo.keys
  have hw5:=hdo.w
  try refine wk ?_
  refine CW.stut (stut_le (i:=6) (dle_nil 2)) ⟨rfl,trivial⟩ ?_
  refine CW.loopT (fun t:Nat×List Pair=>[sd 1 (dint A),sp 2 0,ob 0 e.enc,sp 4 1,ob 1 noE.enc0,sd 6 (encRows t.2),sd 43 (encStrs (keysD d)),sd 44 (dint (keysD d).length),sd 45 (dint t.1),nxt 2])
   (fun t=>t.1≤(keysD d).length∧t.2.length≤t.1∧rowsOk t.2∧goRows e.chains (e.base+A) t.2 ((keysD d).drop t.1)=goRows e.chains (e.base+A) [] (keysD d)) (fun t=>(keysD d).length - t.1) (0,[]) ⟨by omega,by simp,by simp[rowsOk],rfl⟩ ?_ ?_
  ·
   exact by_less
  ·
   rintro ⟨j,r⟩ ⟨hj,hrl,hrk,hJ⟩
   dsimp only at hj hrl hrk hJ ⊢
   rcases drop_case hj with ⟨g1,g2⟩|⟨k,g1,g2,g3⟩
   ·
    rw[g1]at hJ
    simp only[goRows]at hJ
    have cd:=ok_do r d (by omega) hrk (by have:=hdo.c;omega) hdo.i
    have hlw:∀ r:List Pair,r.length≤134217728→True:=fun _ _=>trivial
    have hout:=doD_len r d
    have hdone:goDone e A d=doD r d:=by rw[goDone,hJ]
    rw[show goNew e A d=⟨goSets (doD r d).1 (e.base+A) e.chains d.writes,e.deeds,e.state.set A 1,e.ends.set A (doD r d).2,e.base⟩ by rw[goNew,hdone]]
    have hc12:=hdo.c
    clear hlw hJ hdone hrk
    generalize doD r d=x at cd hout
    obtain⟨x,en⟩:=x
    dsimp only at cd hout ⊢
    obtain⟨chs,dds,sts,ens,bs⟩:=e
    dsimp only at hc hv hdl hsl hnl hb hA hS hE a3
    try refine wk ?_
    refine CW.loopT (fun t:Nat×List Chain=>[sd 1 (dint A),sp 2 0,ob 0 (Engine.enc ⟨t.2,dds,sts,ens,bs⟩),sp 4 1,ob 1 noE.enc0,sd 6 (encRows x),sp 10 2,ob 2 en.enc,sd 80 (encStrs d.writes),sd 81 (dint d.writes.length),sd 82 (dint t.1),nxt 3])
     (fun t=>t.1≤d.writes.length∧(t.2.length≤N∧∀ c∈t.2,c.vs.length≤N)∧goSets x (bs+A) t.2 (d.writes.drop t.1)=goSets x (bs+A) chs d.writes) (fun t=>d.writes.length - t.1) (0,chs) ⟨by omega,⟨hc,hv⟩,rfl⟩ ?_ ?_
    ·
     exact by_less
    ·
     rintro ⟨i,cs⟩ ⟨hi,⟨hcl,hcv⟩,hK⟩
     dsimp only at hi hcl hcv hK ⊢
     rcases drop_case hi with ⟨e1,e2⟩|⟨k,e1,e2,e3⟩
     ·
      rw[e1]at hK
      simp only[goSets]at hK
      rw[← hK]
      have hAs:A < sts.length:=by omega
      have hAn:A < ens.length:=by omega
      have hS':([]++sts.map encInt1)[A]? = some (encInt1 s):=by simp[hS]
      have hE':([]++ens.map Done.enc)[A]? = some n0.enc:=by simp[hE]
      have hst0:StopR 24:=⟨rfl⟩
      try refine wkS ?_
      clear hst0
      refine Stop.go (CW.stut (stut_freeze_cell (id:=0) (j:=2) (i:=3) rfl (by simp)) ⟨rfl,rfl,trivial⟩ ?_)
      have hst0:StopR 26:=⟨rfl⟩
      try refine wkS ?_
      clear hst0
      refine Stop.go (CW.stut (stut_freeze_cell (id:=0) (j:=3) (i:=4) rfl (by simp)) ⟨rfl,rfl,trivial⟩ ?_)
      try refine wk ?_
      exact .two (.cell rfl rfl rfl rfl (.aggd (ds:=[encChains cs,encDeeds dds,.sl 1 (([]++sts.map encInt1).set A [dint 1]),.sl 5 (([]++ens.map Done.enc).set A en.enc),dint bs]) rfl
       (dle_eq (by simp[Engine.enc,encInts,encEnds,encInt1,List.map_set])))) (.tmp rfl (.one (.d (.refl _))))
     ·
      rw[e1]at hK
      simp only[goSets]at hK
      have cg:=ok_get x k (by omega)
      obtain⟨⟨gn,gh⟩,hg⟩:∃ g,RF.get x k=g:=⟨_,rfl⟩
      rw[hg]at cg hK
      have cs':=ok_set cs k ⟨bs+A,true,gh,gn⟩ (by omega) (fun c h=>by have:=hcv c h;omega)
      repeat(first|refine wa ?_|((with_reducible apply s5);(first|exact a_call cs' rfl by_sub|exact by_oa|exact by_ca);exact by_g)|refine wb ?_)
      refine q_loopT (i+1,setChains cs k ⟨bs+A,true,gh,gn⟩) ⟨by dsimp only;omega,⟨by dsimp only;simp[setChains];exact hcl,set_vs hcv⟩,hK⟩ (by dsimp only;omega) ?_
      exact by_less
   ·
    rw[g1]at hJ
    simp only[goRows]at hJ
    have cb:=ok_before e.chains k (e.base+A) (by omega) (fun c h=>by have:=hv c h;omega)
    have hbn:=before_ok hch k (e.base+A)
    obtain⟨⟨vb,vm,vh,vn⟩,hbv⟩:∃ v,before e.chains k (e.base+A)=v:=⟨_,rfl⟩
    rw[hbv]at cb hbn
    have cp:=ok_put r k vn true (by omega)
    have hpl:=put_len r k vn true
    cases vh
    ·
     rw[if_neg (by rw[hbv];simp)]at hJ
     try refine wk ?_
     refine q_loopT (j+1,r) ⟨by dsimp only;omega,by dsimp only;omega,hrk,hJ⟩ (by dsimp only;omega) ?_
     exact by_less
    ·
     rw[if_pos (by rw[hbv]),hbv]at hJ
     try refine wk ?_
     refine q_loopT (j+1,put r k vn true) ⟨by dsimp only;omega,by dsimp only;omega,put_ok hrk k hbn true,hJ⟩ (by dsimp only;omega) ?_
     exact by_less
 ·
  rw[if_neg a5]
  have a6:¬ (needs e A d).length=0:=by simpa using a5
  try refine wk ?_
  exact .two (.cell rfl rfl rfl rfl (.aggd (ds:=e.enc) rfl (.refl _))) (.tmp rfl (.one (.d (.refl _))))
end Go.Proofs.YtfpkamiobdkcpaaGreatDoor
