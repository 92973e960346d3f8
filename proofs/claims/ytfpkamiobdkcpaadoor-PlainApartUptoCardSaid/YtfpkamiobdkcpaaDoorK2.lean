/-
  Part 2 of what the claim leans on: AxOwn AxMore AxBy Md Sh0 AxOpen AxLaw Pl Rf Rf2 Srt AxDec AxPin AxNews AxApp AxBld AxStr Tx Tb Eq F2 H1 ShNum H2 F5 H3 H4 AxPin2 AxPin3 AxFam2 AxPin4 AxPin5 AxBool AxFnD.
-/
import Derived.Test.YtfpkamiobdkcpaaDoorK1
import Derived.Lib.SliceRun
import Derived.ProofKit
import Derived.Test.YtfpkamiobdkcpaaDoorRows
import Derived.Deep.Slices
import Derived.Carry
import Derived.JoinedCond
import Derived.OpenShut
import Derived.Lib.AtoiAll
import Derived.Lib.ItoaNum
import Derived.Test.YtfpkamiobdkcpaaDoorProg
import Derived.KernelRfl
import Derived.Laws.StructEq
import Derived.Shelf.Strconv.AtoiAll
import Derived.Shelf.Strconv.Itoa3
import Derived.Laws.Small
import Derived.MapKept
set_option linter.all false

namespace Go.AX
open Go.RowKit
variable {cx:Cx}{g:Nat→Value}{σ:St}{a:Act}{w:World}{nx:Nat}
variable {ty:TypeId}{pos:String}{af:Array Edge}{gd:Option (Nat×Bool)}{d:Nat}
theorem splice_get {α:Type}{l new:List α}{off j:Nat}(h:off+new.length≤l.length) :
  (splice l off new)[j]? = if off≤j∧j < off+new.length then new[j - off]? else l[j]? := by
 unfold splice
 have ht:(l.take off).length=off:=by simp;omega
 rw[List.append_assoc]
 rcases Nat.lt_or_ge j off with h1|h1
 ·
  rw[List.getElem?_append_left (by omega),List.getElem?_take,if_pos h1,if_neg (by omega)]
 ·
  rw[List.getElem?_append_right (by omega),ht]
  rcases Nat.lt_or_ge (j - off) new.length with h2|h2
  ·
   rw[List.getElem?_append_left h2,if_pos (by omega)]
  ·
   rw[List.getElem?_append_right h2,List.getElem?_drop,if_neg (by omega),show off+new.length+(j - off - new.length)=j by omega]
theorem splice_len {α:Type}{l new:List α}{off:Nat}(h:off+new.length≤l.length):(splice l off new).length=l.length:=by
 simp[splice];omega
theorem ok_len_own {t tt:TypeId}{x:Operand}{id n e k k':Nat}{rows:List (List D)}{ti:TI}(hd:d < cx.n) (hx:EvS x (.own id n)) (ht:tget cx.T t=some ti) (hk:slK ti=some k') (hn:n=rows.length) :
  OpOk cx ⟨some d,.call { callee := .builtin .len,args := #[x],argTypes := #[t] },tt,pos,af,gd⟩ ⟨rdOf x (.own id n)++[(.o id,.ob (.arr e k rows))],[(.s d,.av (.d (.v (.int .i64 n))))]⟩:=by
 refine ok_val rfl hd fun σ a w g nx hs hr=>?_
 obtain⟨_,ie,hu,_⟩:=slice_of (cx.hT t ti ht) hk
 have ho:get σ (.o id) = .ob (.arr e k rows):=hr.right.1
 have hv:a.eval x=g id:=((hs.ev hx hr.left).1.2 e k rows ho).2 hn
 obtain⟨_,⟨xs,h1,_⟩,_⟩:=hs.objs id _ ho
 refine⟨.int .i64 n,w,?_,Below.refl _ _,Rd.v _,trivial⟩
 rcases h1.2 with ⟨h2,h3⟩|⟨b,cap,cur,h2,_⟩
 ·
  simp[execOp,resolve,invoke,builtin,hv,h2,Builtin.len_,run_underlying hu,goInt,hn,h3]
 ·
  simp[execOp,resolve,invoke,builtin,hv,h2,Builtin.len_,run_underlying hu,goInt,hn]
theorem ok_ia_own {t:TypeId}{x y:Operand}{id n e k i:Nat}{rows:List (List D)}{kd:IntKind}{ti:TI}(hd:d < cx.n) (hx:EvS x (.own id n)) (hy:EvS y (.d (.v (.int kd (i:Int))))) (ht:tget cx.T t=some ti) (hk:slK ti=some k)
  (hn:n=rows.length) (hi:i < n) :
  OpOk cx ⟨some d,.indexAddr t x y,ty,pos,af,gd⟩ ⟨(rdOf x (.own id n)++rdOf y (.d (.v (.int kd (i:Int)))))++[(.o id,.ob (.arr e k rows))],[(.s d,.av (.pe id n i 0))]⟩:=by
 refine ok_val rfl hd fun σ a w g nx hs hr=>?_
 obtain⟨_,ie,hu,hie,hks,_⟩:=slice_of (cx.hT t ti ht) hk
 have ho:get σ (.o id) = .ob (.arr e k rows):=hr.right.1
 obtain⟨h0,hbd⟩:=hs.ev hx hr.left.left
 have hv:a.eval x=g id:=(h0.2 e k rows ho).2 hn
 have hy':=rep_v (hs.ev hy hr.left.right).1
 obtain⟨_,⟨xs,h1,_⟩,_⟩:=hs.objs id _ ho
 rcases h1.2 with ⟨h2,h3⟩|⟨b,cap,cur,h2,h3,h4,h5,_⟩
 ·
  omega
 ·
  refine⟨.pointer (some ⟨b,i*k,none⟩),w,?_,Below.refl _ _,?_,hbd⟩
  ·
   have:(⟨b,0,none⟩:Addr).add (i*k)=⟨b,i*k,none⟩:=by rw[add_lit,Nat.zero_add]
   simp[execOp,hy',hv,h2,Instr.indexAt,asIntOf,run_underlying hu,sizeOf,typeInfo,hie,hks,this]
   omega
  ·
   refine⟨.of ho,fun e' k' rows' ho'=>?_⟩
   rw[ho]at ho'
   cases ho'
   exact⟨by omega,fun _=>⟨b,by rw[h2];rfl,by rw[Nat.add_zero]⟩⟩
theorem ok_fa_pe {t:TypeId}{x:Operand}{id n i f:Nat}{ti:TI}{fl off:Nat}(hd:d < cx.n) (hx:EvS x (.pe id n i f)) (ht:tget cx.T t=some ti) (hf:fldOff ti fl=some off) {e k:Nat}{rows:List (List D)}(hn:n=rows.length) :
  OpOk cx ⟨some d,.fieldAddr t x fl,ty,pos,af,gd⟩ ⟨rdOf x (.pe id n i f)++[(.o id,.ob (.arr e k rows))],[(.s d,.av (.pe id n i (f+off)))]⟩:=by
 refine ok_val rfl hd fun σ a w g nx hs hr=>?_
 have ho:get σ (.o id) = .ob (.arr e k rows):=hr.right.1
 obtain⟨h0,hbd⟩:=hs.ev hx hr.left
 obtain⟨b,hb,hv⟩:=(h0.2 e k rows ho).2 hn
 refine⟨.pointer (some ⟨b,i*k+(f+off),none⟩),w,?_,Below.refl _ _,?_,hbd⟩
 ·
  have h2:=fieldAt_of (cx.hT t ti ht) hf ⟨b,i*k+f,none⟩ w
  rw[add_lit,Nat.add_assoc]at h2
  simp[execOp,hv,h2]
 ·
  refine⟨.of ho,fun e' k' rows' ho'=>?_⟩
  rw[ho]at ho'
  cases ho'
  exact⟨by omega,fun _=>⟨b,hb,rfl⟩⟩
theorem ok_load_pe {t:TypeId}{x:Operand}{id n i f e k:Nat}{rows:List (List D)}{r:List D}{ti:TI}{y:D}(hd:d < cx.n) (hx:EvS x (.pe id n i f)) (ht:tget cx.T t=some ti) (hn:n=rows.length) (hr:rows[i]? = some r)
  (hl:ldD ti (r.drop f)=some y) :
  OpOk cx ⟨some d,.load t x,ty,pos,af,gd⟩ ⟨rdOf x (.pe id n i f)++[(.o id,.ob (.arr e k rows))],[(.s d,.av (.d y))]⟩:=by
 refine ok_val rfl hd fun σ a w g nx hs hrd=>?_
 have ho:get σ (.o id) = .ob (.arr e k rows):=hrd.right.1
 obtain⟨b,hb,hv⟩:=((hs.ev hx hrd.left).1.2 e k rows ho).2 hn
 obtain⟨_,⟨xs,h1,h2,h3,h4⟩,_⟩:=hs.objs id _ ho
 have hil:=(List.getElem?_eq_some_iff.1 hr).1
 have hrk:=h3 r (List.mem_of_getElem? hr)
 have hc:RdCells w (cx.own g σ) ⟨b,i*k+f,none⟩ (r.drop f):=by
  intro j z hz
  rw[List.getElem?_drop]at hz
  have hj:f+j < k:=by rw[← hrk];exact(List.getElem?_eq_some_iff.1 hz).1
  have hlen:i*k+(f+j) < xs.length:=by
   rw[h1.1]
   have h5:(i+1)*k≤rows.length*k:=Nat.mul_le_mul_right _ hil
   rw[Nat.add_mul,Nat.one_mul]at h5
   omega
  refine⟨xs[i*k+(f+j)],?_,h2 _ (List.getElem_mem _),h4 i (f+j) r z _ hr hz (List.getElem?_eq_getElem hlen)⟩
  rw[add_lit,show i*k+f+j=i*k+(f+j) by omega]
  have:=h1.cells (g:=b) (by rw[← blk_own h1];exact hb) (i*k+(f+j)) _ (List.getElem?_eq_getElem hlen)
  rw[add_lit,Nat.zero_add]at this
  exact this
 obtain⟨v,h5,h6⟩:=run_load_cells (cx.hT t ti ht) hc hl
 have h5':(loadVar t ⟨b,i*k+f,none⟩).run cx.P w = .ok v w:=by simpa[Instr.loadAt,Instr.sureAddr] using h5
 exact⟨v,w,by simp[execOp,hv,Instr.loadAt,Instr.sureAddr,h5'],Below.refl _ _,h6,trivial⟩
theorem ok_store_pe {t:TypeId}{x y:Operand}{id n i f e k:Nat}{rows:List (List D)}{r new:List D}{av:AV}{ti:TI}(hx:EvS x (.pe id n i f)) (hy:EvS y av) (ht:tget cx.T t=some ti) (hc:dcells av=some new)
  (hn:n=rows.length) (hr:rows[i]? = some r) (hnn:Nat.beq new.length ti.n=true) (hle:f+new.length≤r.length) :
  OpOk cx ⟨none,.store t x y,ty,pos,af,gd⟩ ⟨rdOf x (.pe id n i f)++(rdOf y av++[(.o id,.ob (.arr e k rows))]),[(.o id,.ob (.arr e k (rows.set i (splice r f new))))]⟩:=by
 rintro σ a w K Q ⟨g,nx,hs⟩ hrd hK
 have ho:get σ (.o id) = .ob (.arr e k rows):=hrd.right.right.1
 obtain⟨b,hb,hv⟩:=((hs.ev hx hrd.left).1.2 e k rows ho).2 hn
 obtain⟨hav,hbd⟩:=hs.ev hy hrd.right.left
 obtain⟨hidn,⟨xs,h1,h2,h3,h4⟩,_⟩:=hs.objs id _ ho
 obtain⟨c1,c2,c3⟩:=dcells_ok hs hav hc
 have hF:=cx.hT t ti ht
 have hnn':new.length=ti.n:=by simpa using hnn
 have hil:=(List.getElem?_eq_some_iff.1 hr).1
 have hrk:=h3 r (List.mem_of_getElem? hr)
 have h5:(i+1)*k≤rows.length*k:=Nat.mul_le_mul_right _ hil
 rw[Nat.add_mul,Nat.one_mul]at h5
 rcases h1.2 with ⟨_,h6⟩|⟨b',cap,cur,hv',hge,hh,hle',hcm,hsz,htk⟩
 ·
  omega
 have hbb:b'=b:=by rw[hv']at hb;simpa[blk] using hb
 subst hbb
 generalize hX:a.eval y=X at hav c1 c2 c3
 have hlen:X.cells.toList.length=new.length:=c1
 have hcap:rows.length*k≤cap*k:=Nat.mul_le_mul_right _ hle'
 have hst:=run_storeCells_at (P:=cx.P) b' (i*k+f) e X.cells.toList 0 cur w hh (by rw[hlen];omega) c2
 simp only[Nat.add_zero]at hst
 have hX':X.cells.size=ti.n:=by rw[← hnn',← hlen];simp
 have hrun:(Instr.storeAt t (.pointer (some ⟨b',i*k+f,none⟩)) X).run cx.P w = .ok () (w.setRow b' (splice cur.toList (i*k+f) X.cells.toList).toArray):=by
  simp[Instr.storeAt,Instr.sureAddr,storeVar,sizeOf_of hF w,hX',hst,splice]
 generalize hcs':(splice cur.toList (i*k+f) X.cells.toList).toArray=cs' at hrun
 have hheap:(w.setRow b' cs').heap[b']? = some (.cells cs' e (0,0)):=setRow_heap w b' cur cs' e (0,0) hh
 have hle2:i*k+f+X.cells.toList.length≤cur.toList.length:=by rw[hlen];simp;omega
 have hrows:(rows.set i (splice r f new)).length=rows.length:=by simp
 have hOS:ObjStep cx σ g nx nx w (w.setRow b' cs') id (.arr e k (rows.set i (splice r f new))) (g id):=by
  refine⟨.inr ⟨rfl,.arr e k rows,ho,by simp[ObLe,upd_same]⟩,⟨rfl,rfl,rfl,by simp,fun k hk=>setRow_other w b' k cs' (by omega)⟩,fun b hb hne=>setRow_other w b' b cs' (fun e=>hne _ ho (by rw[hv',e];rfl)),fun b hb => .inl ⟨_,ho,hb⟩⟩
 have hxs':cs'.toList.take (rows.length*k)=splice xs (i*k+f) X.cells.toList:=by
  subst hcs'
  apply List.ext_getElem?
  intro j
  have hxl:xs.length=rows.length*k:=h1.1
  rw[List.getElem?_take]
  show(if j < rows.length*k then (splice cur.toList (i*k+f) X.cells.toList)[j]? else none)=_
  rw[splice_get hle2,splice_get (l:=xs) (by rw[hxl,hlen];omega)]
  by_cases hj:j < rows.length*k
  ·
   rw[if_pos hj]
   split
   ·
    rfl
   ·
    rw[← htk,List.getElem?_take,if_pos hj]
  ·
   rw[if_neg hj,if_neg (by rw[hlen];omega),List.getElem?_eq_none (by omega)]
 have hG:=SimG.obj hs hOS (fun hlat=>?_) trivial
 ·
  unfold Oper.wp
  simp only[execOp,hv,hX,Sem.run_bind,hrun,Result.andThen_ok,Sem.run_pure,Oper.upon,Act.put]
  refine hK _ _ (Sim.eqv ⟨_,_,hG⟩ fun k=>?_)
  cases k with
  |s i=>rw[objSt_s];exact(get_cons_ne (by simp)).symm
  |o i =>
   by_cases hi:i=id
   ·
    subst hi;rw[get_cons_same];exact get_cons_same.symm
   ·
    rw[objSt_o hi];exact(get_cons_ne (by simpa using fun e=>hi e.symm)).symm
  |nx=>rw[objSt_nx];exact hs.hnx.symm.trans (get_cons_ne (by simp)).symm
 ·
  have hsl:(splice xs (i*k+f) X.cells.toList).length=xs.length:=splice_len (by rw[h1.1,hlen];omega)
  refine⟨splice xs (i*k+f) X.cells.toList,⟨by rw[hsl,h1.1,hrows],.inr ⟨b',cap,cs',?_,hge,hheap,by rw[hrows];exact hle',hcm,?_,by rw[hrows];exact hxs'⟩⟩,fun x hx=>?_,fun r' hr'=>?_,fun i' j r' z x hi' hj hx=>?_⟩
  ·
   rw[upd_same,hv',hrows]
  ·
   subst hcs';rw[← hsz];simpa using splice_len hle2
  ·
   obtain⟨j,hj⟩:=List.getElem?_of_mem hx
   rw[splice_get (by rw[h1.1,hlen];omega)]at hj
   split at hj
   ·
    exact c2 x (List.mem_of_getElem? hj)
   ·
    exact h2 x (List.mem_of_getElem? hj)
  ·
   rcases List.mem_or_eq_of_mem_set hr' with h|h
   ·
    exact h3 r' h
   ·
    subst h;rw[splice_len hle,hrk]
  ·
   have hjk:j < k:=by
    have hm:r'∈rows.set i (splice r f new):=List.mem_of_getElem? hi'
    have:r'.length=k:=by
     rcases List.mem_or_eq_of_mem_set hm with h|h
     ·
      exact h3 r' h
     ·
      subst h;rw[splice_len hle,hrk]
    rw[← this];exact(List.getElem?_eq_some_iff.1 hj).1
   rw[splice_get (by rw[h1.1,hlen];omega)]at hx
   by_cases hii:i=i'
   ·
    subst hii
    rw[List.getElem?_set_self hil]at hi'
    cases hi'
    rw[splice_get hle]at hj
    by_cases hin:f≤j∧j < f+new.length
    ·
     rw[if_pos hin]at hj
     rw[if_pos (by rw[hlen];omega),show i*k+j - (i*k+f)=j - f by omega]at hx
     exact(c3 (j - f) x z hj hx).step hlat.ext hlat.own
    ·
     rw[if_neg hin]at hj
     rw[if_neg (by rw[hlen];omega)]at hx
     exact(h4 i j r z x hr hj hx).step hlat.ext hlat.own
   ·
    rw[List.getElem?_set_ne hii]at hi'
    have hout:¬ (i*k+f≤i'*k+j∧i'*k+j < i*k+f+X.cells.toList.length):=by
     rw[hlen]
     rcases Nat.lt_or_ge i' i with hlt|hge
     ·
      have:=Nat.mul_le_mul_right k hlt
      rw[Nat.succ_mul]at this
      omega
     ·
      have:=Nat.mul_le_mul_right k (show i+1≤i' by omega)
      rw[Nat.add_mul,Nat.one_mul]at this
      omega
    rw[if_neg hout]at hx
    exact(h4 i' j r' z x hi' hj hx).step hlat.ext hlat.own
variable {ops:Array Oper}{K:List Tr→St→Prop}{acc:List Tr}{rest:List Oper}
theorem a_leno {t tt:TypeId}{x:Operand}{id n e k k':Nat}{rows:List (List D)}{ti:TI}(hx:ev σ x=some (.own id n)) (ho:get σ (.o id) = .ob (.arr e k rows)) (ht:tget cx.T t=some ti) (hk:slK ti=some k') (hd:Nat.blt d cx.n=true) (hn:n=rows.length) :
  OA cx σ ⟨some d,.call { callee := .builtin .len,args := #[x],argTypes := #[t] },tt,pos,af,gd⟩ ⟨rdOf x (.own id n)++[(.o id,.ob (.arr e k rows))],[(.s d,.av (.d (.v (.int .i64 n))))]⟩ :=
 ⟨ok_len_own (lt_of_blt hd) (ev_out hx).1 ht hk hn,(ev_out hx).2.append ⟨ho,trivial⟩⟩
theorem a_io {t:TypeId}{x y:Operand}{id n e k i:Nat}{rows:List (List D)}{kd:IntKind}{ti:TI}(hx:ev σ x=some (.own id n)) (ho:get σ (.o id) = .ob (.arr e k rows)) (hy:ev σ y=some (.d (.v (.int kd (i:Int))))) (ht:tget cx.T t=some ti)
  (hk:slK ti=some k) (hd:Nat.blt d cx.n=true) (hn:n=rows.length) (hi:i < n) :
  OA cx σ ⟨some d,.indexAddr t x y,ty,pos,af,gd⟩ ⟨(rdOf x (.own id n)++rdOf y (.d (.v (.int kd (i:Int)))))++[(.o id,.ob (.arr e k rows))],[(.s d,.av (.pe id n i 0))]⟩ :=
 ⟨ok_ia_own (lt_of_blt hd) (ev_out hx).1 (ev_out hy).1 ht hk hn hi,((ev_out hx).2.append (ev_out hy).2).append ⟨ho,trivial⟩⟩
theorem a_fpe {t:TypeId}{x:Operand}{id n i f:Nat}{ti:TI}{fl off e k:Nat}{rows:List (List D)}(hx:ev σ x=some (.pe id n i f)) (ho:get σ (.o id) = .ob (.arr e k rows)) (ht:tget cx.T t=some ti) (hf:fldOff ti fl=some off) (hd:Nat.blt d cx.n=true) (hn:n=rows.length) :
  OA cx σ ⟨some d,.fieldAddr t x fl,ty,pos,af,gd⟩ ⟨rdOf x (.pe id n i f)++[(.o id,.ob (.arr e k rows))],[(.s d,.av (.pe id n i (f+off)))]⟩ :=
 ⟨ok_fa_pe (lt_of_blt hd) (ev_out hx).1 ht hf hn,(ev_out hx).2.append ⟨ho,trivial⟩⟩
theorem a_lpe {t:TypeId}{x:Operand}{id n i f e k:Nat}{rows:List (List D)}{r:List D}{ti:TI}{y:D}(hx:ev σ x=some (.pe id n i f)) (ho:get σ (.o id) = .ob (.arr e k rows)) (ht:tget cx.T t=some ti)
  (hd:Nat.blt d cx.n=true) (hr:rows[i]? = some r) (hl:ldD ti (r.drop f)=some y) (hn:n=rows.length) :
  OA cx σ ⟨some d,.load t x,ty,pos,af,gd⟩ ⟨rdOf x (.pe id n i f)++[(.o id,.ob (.arr e k rows))],[(.s d,.av (.d y))]⟩ :=
 ⟨ok_load_pe (lt_of_blt hd) (ev_out hx).1 ht hn hr hl,(ev_out hx).2.append ⟨ho,trivial⟩⟩
theorem a_spe {t:TypeId}{x y:Operand}{id n i f e k:Nat}{rows:List (List D)}{r new:List D}{av:AV}{ti:TI}(hx:ev σ x=some (.pe id n i f)) (ho:get σ (.o id) = .ob (.arr e k rows)) (hy:ev σ y=some av) (ht:tget cx.T t=some ti)
  (hc:dcells av=some new) (hnn:Nat.beq new.length ti.n=true) (hr:rows[i]? = some r) (hle:Nat.ble (f+new.length) r.length=true) (hn:n=rows.length) :
  OA cx σ ⟨none,.store t x y,ty,pos,af,gd⟩ ⟨rdOf x (.pe id n i f)++(rdOf y av++[(.o id,.ob (.arr e k rows))]),[(.o id,.ob (.arr e k (rows.set i (splice r f new))))]⟩ :=
 ⟨ok_store_pe (ev_out hx).1 (ev_out hy).1 ht hc hn hr hnn (by simpa using hle),(ev_out hx).2.append ((ev_out hy).2.append ⟨ho,trivial⟩)⟩
theorem a_lptr {t:TypeId}{x:Operand}{id off:Nat}{cells:List AV}{ti:TI}{y:AV}(hx:ev σ x=some (.ptr id off)) (ho:get σ (.o id) = .ob (.box cells)) (ht:tget cx.T t=some ti) (hd:Nat.blt d cx.n=true) (hl:ldA ti (cells.drop off)=some y) :
  OA cx σ ⟨some d,.load t x,ty,pos,af,gd⟩ ⟨rdOf x (.ptr id off)++[(.o id,.ob (.box cells))],[(.s d,.av y)]⟩ :=
 ⟨ok_load_ptr (lt_of_blt hd) (ev_out hx).1 ht hl,(ev_out hx).2.append ⟨ho,trivial⟩⟩
theorem map_at {α:Type}{l:List α}{f:α→List D}{k:Nat}{x:α}(h:l[k]? = some x):(l.map f)[k]? = some (f x):=by simp[h]
end Go.AX
namespace Go.AX
open Go.RowKit
variable {cx:Cx}{g:Nat→Value}{σ:St}{a:Act}{w:World}{nx:Nat}{c:Code}{Q:Exit→St→Prop}
variable {ty:TypeId}{pos:String}{af:Array Edge}{gd:Option (Nat×Bool)}{d:Nat}
theorem CW.empty {k:Nat}(i:Nat) (hi:get σ (.s i) = .av (.d (.sl k []))) (h:∀ (p:Option Addr) (cp:Nat),CW cx c Q ((.s i,.av (.d (.v (.slice p 0 cp))))::σ)):CW cx c Q σ:=by
 intro a w hs
 have hs0:=hs
 obtain⟨g,nx,hG⟩:=hs0
 have hr:Rd w (cx.own g σ) (a.tmps.getD i undef) (.sl k []):=(hG.slots i _ hi).1
 have key:∃ p cp,a.tmps.getD i undef = .slice p 0 cp:=by
  generalize a.tmps.getD i undef=x at hr
  generalize hD:D.sl k []=D0 at hr
  cases hr with
  |v=>cases hD
  |x=>cases hD
  |agg=>cases hD
  |nil p cp=>exact⟨p,cp,rfl⟩
  |sl ad cp k' rows f hb hsz hcap hk hc h1 hr=>cases hD;exact⟨_,_,rfl⟩
 obtain⟨p,cp,hv⟩:=key
 exact h p cp a w (Sim.retell hG (by rw[hv];exact Rd.v _) trivial)
theorem stut_nilv {i k cp:Nat}{p:Option Addr}:Stut cx ⟨[(.s i,.av (.d (.v (.slice p 0 cp))))],[(.s i,.av (.d (.sl k [])))]⟩:=by
 rintro σ a w ⟨g,nx,hs⟩ hr
 exact Sim.retell hs (av := .d (.sl k [])) (DLe_nilv p cp k (hs.slots i _ hr.1).1) trivial
theorem bin_isnil {P:Program}{t e:TypeId}{p:Option Addr}{n cp:Nat}(h:P.underlying t=some (.slice e)):BinR P .eql t (.slice p n cp) (.slice none 0 0) (.bool p.isNone):=by
 intro w x y
 rw[eqGuard_at_slice]
 simp only[Sem.run_bind,Sem.run_pure,Result.andThen_ok]
 exact Go.Lib.run_eql_slice_nil w t e p n cp 0 0 h
theorem tbl_slice {t:TypeId}{ti:TI}{k:Nat}(ht:tget cx.T t=some ti) (hk:slK ti=some k):∃ e,cx.P.underlying t=some (.slice e):=by
 obtain⟨e,ie,hu,_⟩:=slice_of (cx.hT t ti ht) hk
 exact⟨e,hu⟩
theorem a_nilv {t t':TypeId}{x y:Operand}{p:Option Addr}{n cp k:Nat}{ti:TI}(hx:ev σ x=some (.d (.v (.slice p n cp)))) (hy:ev σ y=some (.d (.v (.slice none 0 0)))) (ht:tget cx.T t=some ti) (hk:slK ti=some k) (hd:Nat.blt d cx.n=true) :
  OA cx σ ⟨some d,.binOp .eql t x y t',ty,pos,af,gd⟩ ⟨rdOf x (.d (.v (.slice p n cp)))++rdOf y (.d (.v (.slice none 0 0))),[(.s d,.av (.d (.v (.bool p.isNone))))]⟩:=by
 obtain⟨e,hu⟩:=tbl_slice (cx:=cx) ht hk
 exact a_bin hx hy (bin_isnil hu) hd
theorem ok_nilsl {t t':TypeId}{x y:Operand}{k k':Nat}{r:List D}{rows:List (List D)}{ti:TI}(hn:d < cx.n) (hx:EvS x (.d (.sl k (r::rows)))) (hy:EvS y (.d (.v (.slice none 0 0)))) (ht:tget cx.T t=some ti) (hk:slK ti=some k') :
  OpOk cx ⟨some d,.binOp .eql t x y t',ty,pos,af,gd⟩ ⟨rdOf x (.d (.sl k (r::rows)))++rdOf y (.d (.v (.slice none 0 0))),[(.s d,.av (.d (.v (.bool false))))]⟩:=by
 refine ok_val rfl hn fun σ a w g nx hs hr=>⟨.bool false,w,?_,Below.refl _ _,Rd.v _,trivial⟩
 obtain⟨e,hu⟩:=tbl_slice (cx:=cx) ht hk
 have h1:Rd w (cx.own g σ) (a.eval x) (.sl k (r::rows)):=(hs.ev hx hr.left).1
 have h2:=rep_v (hs.ev hy hr.right).1
 have key:∃ ad n cp,a.eval x = .slice (some ad) n cp:=by
  generalize a.eval x=v at h1
  generalize hD:D.sl k (r::rows)=D0 at h1
  cases h1 with
  |v=>cases hD
  |x=>cases hD
  |agg=>cases hD
  |nil p cp=>cases hD
  |sl ad cp k' rows f hb hsz hcap hk hc h1 hr=>exact⟨_,_,_,rfl⟩
 obtain⟨ad,n,cp,hv⟩:=key
 have:=bin_isnil (P:=cx.P) (p:=some ad) (n:=n) (cp:=cp) hu w x y
 simp only[execOp,hv,h2,Sem.run_bind]at this ⊢
 rw[this]
 rfl
theorem a_nilsl {t t':TypeId}{x y:Operand}{k k':Nat}{r:List D}{rows:List (List D)}{ti:TI}(hx:ev σ x=some (.d (.sl k (r::rows)))) (hy:ev σ y=some (.d (.v (.slice none 0 0)))) (ht:tget cx.T t=some ti) (hk:slK ti=some k') (hd:Nat.blt d cx.n=true) :
  OA cx σ ⟨some d,.binOp .eql t x y t',ty,pos,af,gd⟩ ⟨rdOf x (.d (.sl k (r::rows)))++rdOf y (.d (.v (.slice none 0 0))),[(.s d,.av (.d (.v (.bool false))))]⟩ :=
 ⟨ok_nilsl (lt_of_blt hd) (ev_out hx).1 (ev_out hy).1 ht hk,(ev_out hx).2.append (ev_out hy).2⟩
theorem ok_callv {f:FuncId}{z:Operand}{xs:List Operand}{avs:List AV}{ys:List Arg}{l:List (Key×Val)}{r:Res}{ats:Array TypeId}(hn:d < cx.n) (hz:EvS z (.d (.v (.func (.func f) #[] #[])))) (hc:FnOk cx.P f ys r) (hsub:Subs xs avs ys l) :
  OpOk cx ⟨some d,.call { callee := .value z,args:=⟨xs⟩,argTypes:=ats },ty,pos,af,gd⟩ ⟨rdOf z (.d (.v (.func (.func f) #[] #[])))++l,[(.s d,.av r.av)]⟩:=by
 rintro σ a w K Q ⟨g,nx,hs⟩ hr hK
 have hv:=rep_v (hs.ev hz hr.left).1
 have hcall:=hc.calls w (cx.own g σ) (xs.map a.eval) ⟨fun b hb=>own_lt hs hb,hs.gl⟩ (hsub.ok hs hr.right)
 have hrun:(execOp a.eval ⟨some d,.call { callee := .value z,args:=⟨xs⟩,argTypes:=ats },ty,pos,af,gd⟩).run cx.P w = .ok (.enter f (xs.map a.eval).toArray) w:=by
  obtain⟨fn,h1,h2,h3⟩:=hc.run
  simp only[execOp,resolve,Deferred.ofValue,hv,invoke,callFunc,Sem.run_bind,Sem.run_pure,Result.andThen_ok,run_program,h1,h2,h3,Bool.false_eq_true,if_false]
  simp
 unfold Oper.wp
 rw[hrun]
 refine hcall.mono fun e w' he=>?_
 obtain⟨v,rfl,hb,hres⟩:=he
 obtain⟨h1,h2⟩:=Res.rep (nx:=nx) hres
 exact hK _ _ (Sim.put hs hn hb h1 h2)
theorem a_callv {f:FuncId}{z:Operand}{xs:List Operand}{avs:List AV}{ys:List Arg}{l:List (Key×Val)}{r:Res}{ats:Array TypeId}(hc:FnOk cx.P f ys r) (hz:ev σ z=some (.d (.v (.func (.func f) #[] #[])))) (hd:Nat.blt d cx.n=true) (hsub:SubsE σ xs avs ys l) :
  OA cx σ ⟨some d,.call { callee := .value z,args:=⟨xs⟩,argTypes:=ats },ty,pos,af,gd⟩ ⟨rdOf z (.d (.v (.func (.func f) #[] #[])))++l,[(.s d,.av r.av)]⟩ :=
 ⟨ok_callv (lt_of_blt hd) (ev_out hz).1 hc hsub.out.1,(ev_out hz).2.append hsub.out.2⟩
def inK (ti:TI):Option IntKind:=match ti.kind with
 |.int k=>some k
 |_=>none
theorem int_of {t:TypeId}{ti:TI}{k:IntKind}(ht:tget cx.T t=some ti) (hk:inK ti=some k):cx.P.underlying t=some (.int k):=by
 have h:=(cx.hT t ti ht).kind
 unfold inK at hk
 split at hk
 ·
  next k' hkk=>cases hk;rw[hkk]at h;exact h.1
 ·
  cases hk
theorem ok_conv {s t:TypeId}{x:Operand}{ks kt:IntKind}{n:Int}{si ti:TI}(hn:d < cx.n) (hx:EvS x (.d (.v (.int ks n)))) (hs':tget cx.T s=some si) (hks:inK si=some ks) (ht:tget cx.T t=some ti) (hkt:inK ti=some kt) (hw:kt.wrap n=n) :
  OpOk cx ⟨some d,.convert s t x,ty,pos,af,gd⟩ ⟨rdOf x (.d (.v (.int ks n))),[(.s d,.av (.d (.v (.int kt n))))]⟩:=by
 refine ok_val rfl hn fun σ a w g nx hs hr=>⟨.int kt n,w,?_,Below.refl _ _,Rd.v _,trivial⟩
 have hv:=rep_v (hs.ev hx hr).1
 have h1:=int_of (cx:=cx) hs' hks
 have h2:=int_of (cx:=cx) ht hkt
 have h3:cx.P.intKind t=kt:=by simp[Program.intKind,h2]
 have:=run_convert_int (P:=cx.P) w s t ks n (by simp[h1]) (by rw[h3];exact h2)
 rw[h3,hw]at this
 simp[execOp,hv,this]
theorem a_conv {s t:TypeId}{x:Operand}{ks kt:IntKind}{n:Int}{si ti:TI}(hx:ev σ x=some (.d (.v (.int ks n)))) (hs':tget cx.T s=some si) (hks:inK si=some ks) (ht:tget cx.T t=some ti) (hkt:inK ti=some kt) (hd:Nat.blt d cx.n=true) (hw:kt.wrap n=n) :
  OA cx σ ⟨some d,.convert s t x,ty,pos,af,gd⟩ ⟨rdOf x (.d (.v (.int ks n))),[(.s d,.av (.d (.v (.int kt n))))]⟩ :=
 ⟨ok_conv (lt_of_blt hd) (ev_out hx).1 hs' hks ht hkt hw,(ev_out hx).2⟩
theorem wrap_u64_in {n:Int}(h:0≤n∧n≤9223372036854775807):IntKind.u64.wrap n=n:=by
 rw[IntKind.wrap_u64];omega
theorem bin_half {P:Program}{t:TypeId}{n:Int}:BinR P .shr t (.int .u64 n) (.int .u64 1) (.int .u64 (n / 2)):=by
 intro w x y
 have:=shift_shr .u64 .u64 n 1 (by omega) (by decide)
 rw[eqGuard_shr,binOp_shr,this]
 rfl
end Go.AX
namespace Go.AX
theorem by_k {p:Prop}(h:p:=by((focus first|exact rfl|assumption|((first|apply decide_eq_true|apply decide_eq_false);omega)|(simp;done)|(simp;omega)|(simp;assumption)))):p:=h
theorem by_ks {p:Prop}(h:p:=by((focus first|assumption|((first|apply decide_eq_true|apply decide_eq_false);omega)|(simp;done)|(simp;omega)|(simp;assumption)|exact rfl))):p:=h
theorem by_g {p:Prop}(h:p:=by((first|exact .none rfl|(refine .yes rfl rfl (gt rfl ?_);(focus first|exact rfl|assumption|((first|apply decide_eq_true|apply decide_eq_false);omega)|(simp;done)|(simp;omega)|(simp;assumption)))))):p:=h
theorem by_less {p:Prop}(h:p:=by((refine less_of rfl rfl rfl ?_);(repeat(first|exact lessL_nil|refine lessL_nx ?_|refine lessL_cons (by first|exact rfl|exact get_int rfl (by(focus first|omega|(simp;done)|(simp;omega)))|exact get_own rfl (by first|rfl|(simp;done)|(simp;omega))|exact get_bool rfl (by(focus first|exact rfl|assumption|((first|apply decide_eq_true|apply decide_eq_false);omega)|(simp;done)|(simp;omega)|(simp;assumption)))|exact get_sl rfl (by first|rfl|assumption|(simp;done)|(simp only[List.map_append];rfl)|(simp only[List.map_append,List.append_assoc];rfl)|(simp;rfl))|exact get_arr rfl (by first|rfl|assumption|(simp;done)|(simp only[List.map_append];rfl)|(simp only[List.map_append,List.append_assoc];rfl)|(simp;rfl))|exact get_box rfl (by first|rfl|assumption|(simp;done)|(simp;rfl))) rfl ?_)))):p:=h
theorem by_oa {p:Prop}(h:p:=by
  first
  |((with_reducible apply a_ia);(iterate 5 exact rfl);apply idx_map;assumption)
  |((with_reducible apply a_bin);(iterate 2 exact rfl);(first|with_reducible apply bin_add|with_reducible apply bin_sub|apply bin_add|apply bin_sub);(focus first|omega|(simp;done)|(simp;omega));exact rfl)
  |((with_reducible apply a_pick_t);exact rfl;(focus first|exact rfl|assumption|((first|apply decide_eq_true|apply decide_eq_false);omega)|(simp;done)|(simp;omega)|(simp;assumption));(iterate 2 exact rfl))
  |((with_reducible apply a_pick_f);exact rfl;(focus first|exact rfl|assumption|((first|apply decide_eq_true|apply decide_eq_false);omega)|(simp;done)|(simp;omega)|(simp;assumption));(iterate 2 exact rfl))
  |((with_reducible apply a_app);(iterate 8 exact rfl);(focus first|exact rfl|(simp;done)|(simp;omega));(focus first|omega|(simp;done)|(simp;omega)))
  |((with_reducible apply a_store);(iterate 7 exact rfl);(first|exact⟨rfl,trivial⟩|(apply nw_own;exact rfl;(focus first|exact rfl|(simp;done)|(simp;omega)))))
  |((with_reducible apply a_ib);(iterate 6 exact rfl);(first|omega|decide))
  |((with_reducible apply a_is);(iterate 5 exact rfl);assumption)
  |((with_reducible apply a_from);(iterate 5 exact rfl);apply cut_from;(focus first|omega|(simp;omega)|(simp;done)))
  |((with_reducible apply a_to);(iterate 5 exact rfl);apply cut_to;(focus first|omega|(simp;omega)|(simp;done)))
  |((with_reducible apply a_leno);(iterate 5 exact rfl);(focus first|exact rfl|(simp;done)|(simp;omega)))
  |((with_reducible apply a_io);(iterate 6 exact rfl);(focus first|exact rfl|(simp;done)|(simp;omega));(focus first|omega|(simp;done)|(simp;omega)))
  |((with_reducible apply a_fpe);(iterate 5 exact rfl);(focus first|exact rfl|(simp;done)|(simp;omega)))
  |((with_reducible apply a_lpe);(iterate 4 exact rfl);(focus first|assumption|(apply map_at;assumption));exact rfl;(focus first|exact rfl|(simp;done)|(simp;omega)))
  |((with_reducible apply a_spe);(iterate 6 exact rfl);(focus first|assumption|(apply map_at;assumption));exact rfl;(focus first|exact rfl|(simp;done)|(simp;omega)))
  |((with_reducible apply a_nilv);(iterate 5 exact rfl))
  |((with_reducible apply a_nilsl);(iterate 5 exact rfl))
  |((with_reducible apply a_conv);(iterate 6 exact rfl);(apply wrap_u64_in;(focus first|omega|(simp;done)|(simp;omega))))
  |((with_reducible apply a_conv);(iterate 6 exact rfl);(apply wrap_in;(focus first|omega|(simp;done)|(simp;omega))))
  |((with_reducible apply a_box);(iterate 4 exact rfl);(first|exact⟨rfl,trivial⟩|(apply nw_own;exact rfl;(focus first|exact rfl|(simp;done)|(simp;omega)))))
  ):p:=h
theorem by_sub {p:Prop}(h:p:=by(repeat(first|exact SubsE.nil|(apply SubsE.cons;exact rfl;(first|exact .d (.refl _)|exact .d (.nil _)|exact .agg rfl (.refl _)|exact .pd|exact .ptr rfl);(first|exact trivial|exact⟨rfl,trivial⟩))))):p:=h
theorem by_ca {p:Prop}(h:p:=by exact a_call (by assumption) rfl by_sub):p:=h
structure Hold (q:Prop):Prop where
 get:q
structure StopA (n:Nat):Prop where
 t:n=n
structure StopX (n:Nat):Prop where
 t:n=n
structure StopR (n:Nat):Prop where
 t:n=n
variable {cx:Cx}{σ:St}{Q:Exit→St→Prop}
theorem stop_atA {x y:Code}{n:Nat}(_h:firstRegion x=some n) (_hn:StopA n) (hs:Stop (CW cx (.seq x y) Q σ)):CW cx (.seq x y) Q σ:=hs
theorem stop_atX {ops:Array Oper}{b:Bool}{n:Nat}(_hn:StopX n) (hs:Stop (CW cx (.region n ops b) Q σ)):CW cx (.region n ops b) Q σ:=hs
theorem stop_atR {ops:Array Oper}{b:Bool}{y:Code}{n:Nat}(_hn:StopR n) (hs:Stop (CW cx (.seq (.region n ops b) y) Q σ)):CW cx (.seq (.region n ops b) y) Q σ:=hs
theorem wk {p q:Prop}(h:q) (s:Hold q→p:=by
  intro hq
  (first|((with_reducible apply s1);exact rfl)|(with_reducible first|apply CW.seq|apply CW.block|apply CW.region|apply CW.draw|apply CW.skip|apply CW.exit|apply CW.ret|apply q_then|apply q_then_exit|apply q_then_ret|apply q_block|apply q_block_ret|apply q_block_hit|apply q_ret|apply q_end|apply q_loop_exit|apply q_loop_ret|apply q_loopT_exit|apply q_loopT_ret|apply RW.nil)|((with_reducible apply s3);exact rfl;exact by_k)|((with_reducible apply s2);exact rfl;exact by_k)|((with_reducible apply s4);exact rfl)|((with_reducible apply s5);(first|exact by_oa|exact by_ca);exact by_g)|((with_reducible apply CW.cond_t);exact rfl;exact by_ks)|((with_reducible apply CW.cond_f);exact rfl;exact by_ks)|((with_reducible apply q_block_miss);exact rfl)|(refine And.intro (show chk [] [] _ _=true by kernel_rfl) ?_))
  (repeat(first|((with_reducible apply s1);exact rfl)|(with_reducible first|apply CW.seq|apply CW.block|apply CW.region|apply CW.draw|apply CW.skip|apply CW.exit|apply CW.ret|apply q_then|apply q_then_exit|apply q_then_ret|apply q_block|apply q_block_ret|apply q_block_hit|apply q_ret|apply q_end|apply q_loop_exit|apply q_loop_ret|apply q_loopT_exit|apply q_loopT_ret|apply RW.nil)|((with_reducible apply s3);exact rfl;exact by_k)|((with_reducible apply s2);exact rfl;exact by_k)|((with_reducible apply s4);exact rfl)|((with_reducible apply s5);(first|exact by_oa|exact by_ca);exact by_g)|((with_reducible apply CW.cond_t);exact rfl;exact by_ks)|((with_reducible apply CW.cond_f);exact rfl;exact by_ks)|((with_reducible apply q_block_miss);exact rfl)|(refine And.intro (show chk [] [] _ _=true by kernel_rfl) ?_)))
  exact hq.get):p:=s ⟨h⟩
theorem wkS {p q:Prop}(h:q) (s:Hold q→p:=by
  intro hq
  (first|((with_reducible apply stop_atA);exact rfl;assumption)|((with_reducible apply stop_atX);assumption)|((with_reducible apply stop_atR);assumption)|((with_reducible apply s1);exact rfl)|(with_reducible first|apply CW.seq|apply CW.block|apply CW.region|apply CW.draw|apply CW.skip|apply CW.exit|apply CW.ret|apply q_then|apply q_then_exit|apply q_then_ret|apply q_block|apply q_block_ret|apply q_block_hit|apply q_ret|apply q_end|apply q_loop_exit|apply q_loop_ret|apply q_loopT_exit|apply q_loopT_ret|apply RW.nil)|((with_reducible apply s3);exact rfl;exact by_k)|((with_reducible apply s2);exact rfl;exact by_k)|((with_reducible apply s4);exact rfl)|((with_reducible apply s5);(first|exact by_oa|exact by_ca);exact by_g)|((with_reducible apply CW.cond_t);exact rfl;exact by_ks)|((with_reducible apply CW.cond_f);exact rfl;exact by_ks)|((with_reducible apply q_block_miss);exact rfl)|(refine And.intro (show chk [] [] _ _=true by kernel_rfl) ?_))
  (repeat(first|((with_reducible apply stop_atA);exact rfl;assumption)|((with_reducible apply stop_atX);assumption)|((with_reducible apply stop_atR);assumption)|((with_reducible apply s1);exact rfl)|(with_reducible first|apply CW.seq|apply CW.block|apply CW.region|apply CW.draw|apply CW.skip|apply CW.exit|apply CW.ret|apply q_then|apply q_then_exit|apply q_then_ret|apply q_block|apply q_block_ret|apply q_block_hit|apply q_ret|apply q_end|apply q_loop_exit|apply q_loop_ret|apply q_loopT_exit|apply q_loopT_ret|apply RW.nil)|((with_reducible apply s3);exact rfl;exact by_k)|((with_reducible apply s2);exact rfl;exact by_k)|((with_reducible apply s4);exact rfl)|((with_reducible apply s5);(first|exact by_oa|exact by_ca);exact by_g)|((with_reducible apply CW.cond_t);exact rfl;exact by_ks)|((with_reducible apply CW.cond_f);exact rfl;exact by_ks)|((with_reducible apply q_block_miss);exact rfl)|(refine And.intro (show chk [] [] _ _=true by kernel_rfl) ?_)))
  exact hq.get):p:=s ⟨h⟩
theorem wa {p q:Prop}(h:q) (s:Hold q→p:=by
  intro hq
  (first|((with_reducible apply s1);exact rfl)|(with_reducible first|apply CW.seq|apply CW.block|apply CW.region|apply CW.draw|apply CW.skip|apply CW.exit|apply CW.ret|apply q_then|apply q_then_exit|apply q_then_ret|apply q_block|apply q_block_ret|apply q_block_hit|apply q_ret|apply q_end|apply q_loop_exit|apply q_loop_ret|apply q_loopT_exit|apply q_loopT_ret|apply RW.nil)|((with_reducible apply s3);exact rfl;exact by_k)|((with_reducible apply s2);exact rfl;exact by_k)|((with_reducible apply s4);exact rfl))
  (repeat(first|((with_reducible apply s1);exact rfl)|(with_reducible first|apply CW.seq|apply CW.block|apply CW.region|apply CW.draw|apply CW.skip|apply CW.exit|apply CW.ret|apply q_then|apply q_then_exit|apply q_then_ret|apply q_block|apply q_block_ret|apply q_block_hit|apply q_ret|apply q_end|apply q_loop_exit|apply q_loop_ret|apply q_loopT_exit|apply q_loopT_ret|apply RW.nil)|((with_reducible apply s3);exact rfl;exact by_k)|((with_reducible apply s2);exact rfl;exact by_k)|((with_reducible apply s4);exact rfl)))
  exact hq.get):p:=s ⟨h⟩
theorem waS {p q:Prop}(h:q) (s:Hold q→p:=by
  intro hq
  (first|((with_reducible apply stop_atA);exact rfl;assumption)|((with_reducible apply stop_atX);assumption)|((with_reducible apply stop_atR);assumption)|((with_reducible apply s1);exact rfl)|(with_reducible first|apply CW.seq|apply CW.block|apply CW.region|apply CW.draw|apply CW.skip|apply CW.exit|apply CW.ret|apply q_then|apply q_then_exit|apply q_then_ret|apply q_block|apply q_block_ret|apply q_block_hit|apply q_ret|apply q_end|apply q_loop_exit|apply q_loop_ret|apply q_loopT_exit|apply q_loopT_ret|apply RW.nil)|((with_reducible apply s3);exact rfl;exact by_k)|((with_reducible apply s2);exact rfl;exact by_k)|((with_reducible apply s4);exact rfl))
  (repeat(first|((with_reducible apply stop_atA);exact rfl;assumption)|((with_reducible apply stop_atX);assumption)|((with_reducible apply stop_atR);assumption)|((with_reducible apply s1);exact rfl)|(with_reducible first|apply CW.seq|apply CW.block|apply CW.region|apply CW.draw|apply CW.skip|apply CW.exit|apply CW.ret|apply q_then|apply q_then_exit|apply q_then_ret|apply q_block|apply q_block_ret|apply q_block_hit|apply q_ret|apply q_end|apply q_loop_exit|apply q_loop_ret|apply q_loopT_exit|apply q_loopT_ret|apply RW.nil)|((with_reducible apply s3);exact rfl;exact by_k)|((with_reducible apply s2);exact rfl;exact by_k)|((with_reducible apply s4);exact rfl)))
  exact hq.get):p:=s ⟨h⟩
theorem wa1 {p q:Prop}(h:q) (s:Hold q→p:=by
  intro hq
  (first|((with_reducible apply s1);exact rfl)|(with_reducible first|apply CW.seq|apply CW.block|apply CW.region|apply CW.draw|apply CW.skip|apply CW.exit|apply CW.ret|apply q_then|apply q_then_exit|apply q_then_ret|apply q_block|apply q_block_ret|apply q_block_hit|apply q_ret|apply q_end|apply q_loop_exit|apply q_loop_ret|apply q_loopT_exit|apply q_loopT_ret|apply RW.nil)|((with_reducible apply s3);exact rfl;exact by_k)|((with_reducible apply s2);exact rfl;exact by_k)|((with_reducible apply s4);exact rfl))
  exact hq.get):p:=s ⟨h⟩
theorem wa1S {p q:Prop}(h:q) (s:Hold q→p:=by
  intro hq
  (first|((with_reducible apply stop_atA);exact rfl;assumption)|((with_reducible apply stop_atX);assumption)|((with_reducible apply stop_atR);assumption)|((with_reducible apply s1);exact rfl)|(with_reducible first|apply CW.seq|apply CW.block|apply CW.region|apply CW.draw|apply CW.skip|apply CW.exit|apply CW.ret|apply q_then|apply q_then_exit|apply q_then_ret|apply q_block|apply q_block_ret|apply q_block_hit|apply q_ret|apply q_end|apply q_loop_exit|apply q_loop_ret|apply q_loopT_exit|apply q_loopT_ret|apply RW.nil)|((with_reducible apply s3);exact rfl;exact by_k)|((with_reducible apply s2);exact rfl;exact by_k)|((with_reducible apply s4);exact rfl))
  exact hq.get):p:=s ⟨h⟩
theorem wb {p q:Prop}(h:q) (s:Hold q→p:=by
  intro hq
  (first|((with_reducible apply CW.cond_t);exact rfl;exact by_ks)|((with_reducible apply CW.cond_f);exact rfl;exact by_ks)|((with_reducible apply q_block_miss);exact rfl)|(refine And.intro (show chk [] [] _ _=true by kernel_rfl) ?_))
  exact hq.get):p:=s ⟨h⟩
end Go.AX
namespace Go.RF
open Go.AX
abbrev Str:=List UInt8
abbrev i64 (n:Int):Value := .int .i64 n
abbrev dint (n:Int):D := .v (.int .i64 n)
abbrev dbool (b:Bool):D := .v (.bool b)
abbrev dstr (s:Str):D := .v (str s)
structure Pair where
 key:Str
 n:Int
 deriving DecidableEq
structure Version where
 by_:Int
 made:Bool
 has:Bool
 n:Int
 deriving DecidableEq
structure Chain where
 key:Str
 vs:List Version
 deriving DecidableEq
structure Ins where
 kind:Int
 a:Int
 b:Int
 n:Int
 key:Str
 deriving DecidableEq
structure Deed where
 reads:List Str
 writes:List Str
 code:List Ins
 deriving DecidableEq
structure Done where
 failed:Bool
 r0:Int
 r1:Int
 r2:Int
 r3:Int
 deriving DecidableEq
structure Engine where
 chains:List Chain
 deeds:List Deed
 state:List Int
 ends:List Done
 base:Int
 deriving DecidableEq
def Pair.enc (p:Pair):List D:=[dstr p.key,dint p.n]
def Version.enc (v:Version):List D:=[dint v.by_,dbool v.made,dbool v.has,dint v.n]
def encVs (l:List Version):D := .sl 4 (l.map Version.enc)
def Chain.enc (c:Chain):List D:=[dstr c.key,encVs c.vs]
def Ins.enc (i:Ins):List D:=[dint i.kind,dint i.a,dint i.b,dint i.n,dstr i.key]
def encStr1 (s:Str):List D:=[dstr s]
def encInt1 (n:Int):List D:=[dint n]
def encStrs (l:List Str):D := .sl 1 (l.map encStr1)
def encInts (l:List Int):D := .sl 1 (l.map encInt1)
def encCode (l:List Ins):D := .sl 5 (l.map Ins.enc)
def Deed.enc (d:Deed):List D:=[encStrs d.reads,encStrs d.writes,encCode d.code]
def Done.enc (d:Done):List D:=[dbool d.failed,dint d.r0,dint d.r1,dint d.r2,dint d.r3]
def encRows (l:List Pair):D := .sl 2 (l.map Pair.enc)
def encChains (l:List Chain):D := .sl 2 (l.map Chain.enc)
def encDeeds (l:List Deed):D := .sl 3 (l.map Deed.enc)
def encEnds (l:List Done):D := .sl 5 (l.map Done.enc)
def Engine.enc (e:Engine):List D:=[encChains e.chains,encDeeds e.deeds,encInts e.state,encEnds e.ends,dint e.base]
theorem dle_int {n m:Int}(h:n=m):DLe (dint n) (dint m):=by rw[h];exact .refl _
theorem dle_bool {n m:Bool}(h:n=m):DLe (dbool n) (dbool m):=by rw[h];exact .refl _
theorem dle_eq {x y:D}(h:x=y):DLe x y:=by rw[h];exact .refl _
inductive DLes:List D→List D→Prop
 |nil:DLes [] []
 |cons {x y:D} {xs ys:List D} (h:DLe x y) (hr:DLes xs ys):DLes (x::xs) (y::ys)
theorem DLes.at {a b:List D}(h:DLes a b):a.length=b.length∧∀ (j:Nat) (x y:D),a[j]? = some x→b[j]? = some y→DLe x y:=by
 induction h with
 |nil=>exact⟨rfl,fun j x y h=>by simp at h⟩
 |cons h hr ih =>
  refine⟨by simp[ih.1],fun j x y hx hy=>?_⟩
  cases j with
  |zero=>simp at hx hy;subst hx hy;exact h
  |succ j=>exact ih.2 j x y (by simpa using hx) (by simpa using hy)
theorem DLes.agg {a b:List D}(h:DLes a b):DLe (.agg a) (.agg b) := .agg a b h.at.1 h.at.2
theorem idx_map {α:Type}{l:List α}{f:α→List D}{k:Nat}{x:α}(h:l[k]? = some x):idx (l.map f) (k:Int)=some (f x):=by
 simp[idx,List.getElem?_map,h]
end Go.RF
namespace Go.AX
open Go.RowKit Go.WideShapes Go.ChangeShapes
section
variable {H:Type}{enc:TypeId×Value→H}{P:Program}
theorem post_of_below {f:Func}{s:ChangeSpec}{apart fresh handsOn again:Bool}{W W':World}{args:Array Value}{v:Value}{ds gs:List (DataW H)}{before pa pv:List MemPlace}
  (hW:DataW.Whole enc P f.params.toList s.vars apart W args.toList ds gs before)
  (hres:∀ (b:Nat) (sp:Nat→Bool) (hd:Bool),DataW.TrodAll enc P W' b sp hd f.resultTypes.toList (v.resultList f.resultTypes.size) (s.fn H (ds++gs)).results [])
  (hargs:∀ sp:Nat→Bool,(∀ p∈before,sp p.block=true)→DataW.TrodAll enc P W' 0 sp true f.params.toList args.toList (s.fn H (ds++gs)).args pa)
  (hvars:∀ sp:Nat→Bool,(∀ p∈before,sp p.block=true)→DataW.TrodVars enc P W' sp s.vars (s.fn H (ds++gs)).vars pv)
  (hps:before=pa++pv) (hb:Below W.heap.size W W')
  (hok:∀ (j:Nat) (t:TypeId) (r:Value),f.resultTypes[j]? = some t→(v.resultList f.resultTypes.size)[j]? = some r→Value.okWide P W' .any 0 t r) :
  s.post enc P f apart fresh handsOn again W args v W':=by
 have hlt:∀ p∈before,p.block < W.heap.size:=fun p hp=>hW.lt p hp
 have hold:∀ p∈before,(fun b=>decide (b < W.heap.size)) p.block=true:=fun p hp=>by simpa using hlt p hp
 refine⟨ds,gs,before,[],pa,pv,hW,hres _ _ _,hargs _ hold,hvars _ hold,World.keptBut_mono (fun p hp=>⟨hp,?_⟩) (hb.frame (· ∈ before)),fun _=>?_⟩
 ·
  rw[hps,List.mem_append]at hp
  exact Or.inr hp
 ·
  obtain⟨_,_,_,_,_,hz,hn⟩:=hW
  refine⟨hok,_,_,([]++pa)++pv,⟨[]++pa,pv,trodAll_append (hargs _ (fun _ _=>rfl)) (hres _ _ _),hvars _ (fun _ _=>rfl),rfl,?_,?_⟩,?_⟩
  ·
   intro b off hp
   have hin:MemPlace.cell b off∈before:=by rw[hps];simpa using hp
   rw[hb.frozen (hlt _ hin)]
   exact hz b off hin
  ·
   intro ha
   have:=hn ha
   rw[hps]at this
   simpa using this
  ·
   intro p hp _
   rw[hps]
   simpa using hp
end
theorem FnOk.bool {P:Program}{f:FuncId}{args:List Arg}{b:Bool}(h:FnOk P f args (.one (.v (.bool b)))) {w:World}{vs:List Value}(hgl:Gl P w) (ha:ArgsOk w (fun _=>False) vs args) :
  Calls P f vs.toArray w fun e w'=>e = .returned (.bool b)∧Below w.heap.size w w' :=
 (h.calls w (fun _=>False) vs ⟨fun _ h=>h.elim,hgl⟩ ha).mono fun _ _ ⟨v,h1,h2,h3⟩=>⟨by rw[h1,rd_v h3],h2⟩
end Go.AX
namespace Go.Proofs.YtfpkamiobdkcpaaDoor
open Go.AX Go.RF Go.RowKit Go.ChangeShapes Go.WideShapes Go.Deep
inductive Sh where
 |num (k:IntKind)
 |str
 |bool
 |sl (fs:List Sh)
mutual
inductive Fits:Sh→Nat→D→Prop
 |num (k:IntKind) (n:Int) (m:Nat) (h:(Lit.int k n).wf=true):Fits (.num k) m (.v (.int k n))
 |str (s:Str) (m:Nat) (h:s.length≤m):Fits .str m (dstr s)
 |bool (b:Bool) (m:Nat):Fits .bool m (dbool b)
 |sl (fs:List Sh) (m:Nat) (rows:List (List D)) (h:FitsR fs m rows):Fits (.sl fs) m (.sl fs.length rows)
inductive FitsL:List Sh→Nat→List D→Prop
 |nil (m:Nat):FitsL [] m []
 |cons {s:Sh} {a b m:Nat} {d:D} {ss:List Sh} {ds:List D} (h:Fits s a d) (hr:FitsL ss b ds) (hm:a+b≤m):FitsL (s::ss) m (d::ds)
inductive FitsR:List Sh→Nat→List (List D)→Prop
 |nil (fs:List Sh) (m:Nat):FitsR fs m []
 |cons {fs:List Sh} {a b m:Nat} {r:List D} {rows:List (List D)} (h:FitsL fs a r) (hr:FitsR fs b rows) (hm:a+b+1≤m):FitsR fs m (r::rows)
end
mutual
inductive TySh (P:Program):TypeId→List Sh→Prop
 |num {t:TypeId} {k:IntKind} (h:P.underlying t=some (.int k)):TySh P t [.num k]
 |str {t:TypeId} (h:P.underlying t=some .string):TySh P t [.str]
 |bool {t:TypeId} (h:P.underlying t=some .bool):TySh P t [.bool]
 |sl {t e:TypeId} {fs:List Sh} (h:P.underlying t=some (.slice e)) (hk:P.cellsOf e=fs.length) (h0:0 < fs.length) (he:TySh P e fs):TySh P t [.sl fs]
 |arr {t e:TypeId} {n:Nat} {fs:List Sh} (h:P.underlying t=some (.array n e)) (hC:P.cellsOf t=n*fs.length) (hk:P.cellsOf e=fs.length) (he:TySh P e fs):TySh P t (List.replicate n fs).flatten
 |st {t:TypeId} {fs:Array Field} {ss:List Sh} (h:P.underlying t=some (.struct fs)) (hC:P.cellsOf t=ss.length) (hf:TyFs P fs.toList 0 ss):TySh P t ss
inductive TyFs (P:Program):List Field→Nat→List Sh→Prop
 |nil (o:Nat):TyFs P [] o []
 |cons {f:Field} {r:List Field} {o n:Nat} {s ss:List Sh} (ho:f.offset=o) (hc:P.cellsOf f.type=s.length) (hn:n=o+s.length) (ht:TySh P f.type s) (hr:TyFs P r n ss):TyFs P (f::r) o (s++ss)
end
theorem FitsL.mono {ss:List Sh}{m n:Nat}{ds:List D}(h:FitsL ss m ds) (hm:m≤n):FitsL ss n ds:=by
 cases h with
 |nil=>exact .nil _
 |cons h1 h2 h3=>exact .cons h1 h2 (by omega)
theorem FitsL.append:∀ {ss ts:List Sh}{a b m:Nat}{ds es:List D},FitsL ss a ds→FitsL ts b es→a+b≤m→FitsL (ss++ts) m (ds++es)
 | [],ts,a,b,m,ds,es,h,h',hm=>by cases h;exact h'.mono (by omega)
 |s::ss,ts,a,b,m,ds,es,h,h',hm=>by
  cases h with
  |cons h1 h2 h3=>exact .cons h1 (h2.append (m:=_) h' (Nat.le_refl _)) (by omega)
theorem FitsL.len:∀ {ss:List Sh}{m:Nat}{ds:List D},FitsL ss m ds→ds.length=ss.length
 | [],m,ds,h=>by cases h;rfl
 |s::ss,m,ds,h=>by
  cases h with
  |cons h1 h2 h3=>simp[h2.len]
theorem FitsR.row {fs:List Sh}:∀ {rows:List (List D)}{m:Nat},FitsR fs m rows→∀ r∈rows,r.length=fs.length
 | [],m,h,r,hr=>by simp at hr
 |x::rows,m,h,r,hr=>by
  cases h with
  |cons h1 h2 h3 =>
   rcases List.mem_cons.1 hr with rfl|hr
   ·
    exact h1.len
   ·
    exact h2.row r hr
theorem FitsR.mono {fs:List Sh}{m n:Nat}{rows:List (List D)}(h:FitsR fs m rows) (hm:m≤n):FitsR fs n rows:=by
 cases h with
 |nil=>exact .nil _ _
 |cons h1 h2 h3=>exact .cons h1 h2 (by omega)
section
variable {H:Type}{enc:TypeId×Value→H}{P:Program}{w:World}
theorem bulk_append (l r:List (DataW H)):Rows.uptoBulkAll (l++r)=Rows.uptoBulkAll l+Rows.uptoBulkAll r:=by
 induction l with
 |nil=>simp[Rows.uptoBulkAll]
 |cons x l ih=>simp only[List.cons_append,Rows.uptoBulkAll,ih];omega
theorem fitsR_of {fs:List Sh}{ι:Type}{D0:ι→DataW H}{f:ι→List D}:∀ {l:List ι},(∀ i∈l,FitsL fs (Rows.uptoBulk (D0 i) - 1) (f i)∧1≤Rows.uptoBulk (D0 i))→FitsR fs (Rows.uptoBulkAll (l.map D0)) (l.map f)
 | [],_ => .nil _ _
 |i::l,h=>by
  have h1:=h i (List.mem_cons_self ..)
  refine .cons h1.1 (fitsR_of fun j hj=>h j (List.mem_cons_of_mem _ hj)) ?_
  simp only[List.map_cons,Rows.uptoBulkAll]
  omega
theorem one_le (d:DataW H):1≤Rows.uptoBulk d:=by
 cases d with
 |lit l=>cases l <;> simp[Rows.uptoBulk]
 |nil=>simp[Rows.uptoBulk]
 |ptr d=>simp[Rows.uptoBulk]
 |slice elems spare=>simp[Rows.uptoBulk]
 |agg parts=>simp[Rows.uptoBulk]
 |iface t d=>simp[Rows.uptoBulk]
 |map entries=>simp[Rows.uptoBulk]
 |held h=>simp[Rows.uptoBulk]
def RdL (w:World) (own:Nat→Prop) (cs:List Value) (ds:List D):Prop :=
 cs.length=ds.length∧∀ (j:Nat) (c:Value) (d:D),cs[j]? = some c→ds[j]? = some d→c.oneCell'=true∧Rd w own c d
theorem RdL.one {own:Nat→Prop}{c:Value}{d:D}(h1:c.oneCell'=true) (h:Rd w own c d):RdL w own [c] [d]:=by
 refine⟨rfl,fun j c' d' hc hd=>?_⟩
 cases j with
 |zero=>simp at hc hd;subst hc hd;exact⟨h1,h⟩
 |succ j=>simp at hc
theorem RdL.append {own:Nat→Prop}{a b:List Value}{x y:List D}(h:RdL w own a x) (h':RdL w own b y):RdL w own (a++b) (x++y):=by
 refine⟨by simp[h.1,h'.1],fun j c d hc hd=>?_⟩
 rcases Nat.lt_or_ge j a.length with hj|hj
 ·
  rw[List.getElem?_append_left hj]at hc
  rw[List.getElem?_append_left (by rw[← h.1];exact hj)]at hd
  exact h.2 j c d hc hd
 ·
  rw[List.getElem?_append_right hj]at hc
  rw[List.getElem?_append_right (by rw[← h.1];exact hj),← h.1]at hd
  exact h'.2 _ c d hc hd
abbrev noOwn:Nat→Prop:=fun _=>False
theorem block_lt {a:Addr}{c:Value}(h:w.cell? (a.add 0)=some c):a.block < w.heap.size:=by
 rcases Nat.lt_or_ge a.block w.heap.size with hlt|hge
 ·
  exact hlt
 ·
  exfalso
  have:w.heap[a.block]? = none:=Array.getElem?_eq_none hge
  simp[World.cell?,add_zero,this]at h
theorem open_fields {n:Nat}(ih:∀ {t:TypeId}{ss:List Sh}{cs:List Value}{x:DataW H×List MemPlace},TySh P t ss→DataW.trod enc P w 0 (fun _=>true) true n t cs=some x →
   ∃ ds:List D,RdL w noOwn cs ds∧FitsL ss (Rows.uptoBulk x.1 - 1) ds):∀ {fs:List Field} {o:Nat} {ss:List Sh} {cs:List Value} {xs:List (DataW H×List MemPlace)},TyFs P fs o ss→xs.length=fs.length →
  (∀ (i:Nat) (f:Field),fs[i]? = some f→DataW.trod enc P w 0 (fun _=>true) true n f.type ((cs.drop f.offset).take (P.cellsOf f.type))=xs[i]?)→cs.length=o+ss.length →
  ∃ ds:List D,RdL w noOwn (cs.drop o) ds∧FitsL ss (Rows.uptoBulkAll (xs.map (·.1))) ds
 | [],o,ss,cs,xs,hT,hl,hat,hc=>by
  cases hT
  refine⟨[],⟨by simp;simp at hc;omega,fun j c d _ hd=>by simp at hd⟩,.nil _⟩
 |f::r,o,ss,cs,xs,hT,hl,hat,hc=>by
  cases hT with
  |@cons _ _ _ n' s ss' ho hcc hn ht hr =>
   cases xs with
   |nil=>simp at hl
   |cons x xs =>
    have h0:=hat 0 f rfl
    rw[List.getElem?_cons_zero,ho,hcc]at h0
    obtain⟨ds,h1,h2⟩:=ih ht h0
    rw[List.length_append]at hc
    obtain⟨es,h3,h4⟩:=open_fields ih (cs:=cs) hr (by simpa using hl) (fun i g hg=>by simpa using hat (i+1) g hg) (by omega)
    refine⟨ds++es,?_,h2.append h4 ?_⟩
    ·
     have:=h1.append h3
     rw[hn,← List.drop_drop,List.take_append_drop]at this
     exact this
    ·
     simp only[List.map_cons,Rows.uptoBulkAll];omega
theorem open_elems {n N:Nat}{e:TypeId}{fs:List Sh}(ih:∀ {cs:List Value}{x:DataW H×List MemPlace},DataW.trod enc P w 0 (fun _=>true) true n e cs=some x →
   ∃ ds:List D,RdL w noOwn cs ds∧FitsL fs (Rows.uptoBulk x.1 - 1) ds) {cs:List Value} {xs:List (DataW H×List MemPlace)} (hk:P.cellsOf e=fs.length) (hl:xs.length=N)
  (hat:∀ (i:Nat),i < N→DataW.trod enc P w 0 (fun _=>true) true n e ((cs.drop (i*P.cellsOf e)).take (P.cellsOf e))=xs[i]?):∀ (m:Nat),m≤N →
  ∃ ds:List D,RdL w noOwn (cs.take (m*fs.length)) ds∧FitsL (List.replicate m fs).flatten (Rows.uptoBulkAll ((xs.take m).map (·.1))) ds
 |0,_=>⟨[],⟨by simp,fun j c d _ hd=>by simp at hd⟩,.nil _⟩
 |m+1,hm=>by
  obtain⟨ds,h1,h2⟩:=open_elems ih hk hl hat m (by omega)
  have hx:xs[m]? = some (xs[m]'(by omega)):=List.getElem?_eq_getElem (by omega)
  have h0:=hat m (by omega)
  rw[hx,hk]at h0
  obtain⟨es,h3,h4⟩:=ih h0
  refine⟨ds++es,?_,?_⟩
  ·
   have:=h1.append h3
   rwa [← List.take_add,show m*fs.length+fs.length=(m+1)*fs.length by rw[Nat.add_mul,Nat.one_mul]]at this
  ·
   rw[List.replicate_succ',List.flatten_append,List.take_add_one,hx,List.map_append,bulk_append]
   have h5:=one_le (xs[m]'(by omega)).1
   have:=h2.append (m:=Rows.uptoBulkAll ((xs.take m).map (·.1))+Rows.uptoBulkAll [(xs[m]'(by omega)).1]) h4 (by simp only[Rows.uptoBulkAll];omega)
   simpa using this
theorem open_cells:∀ (n:Nat) {t:TypeId}{ss:List Sh}{cs:List Value}{x:DataW H×List MemPlace},TySh P t ss→DataW.trod enc P w 0 (fun _=>true) true n t cs=some x →
  ∃ ds:List D,RdL w noOwn cs ds∧FitsL ss (Rows.uptoBulk x.1 - 1) ds
 |0,t,ss,cs,x,_,h=>by simp[DataW.trod]at h
 |n+1,t,ss,cs,x,hT,h=>by
  cases hT with
  |num ht =>
   obtain⟨v,rfl,rfl,hw⟩:=DataW.trod_int ht h
   exact⟨[.v (.int _ v)],.one (by simp[Value.oneCell']) (.v _),.cons (a:=0) (b:=0) (.num _ v _ hw) (.nil _) (by omega)⟩
  |str ht =>
   obtain⟨s,rfl,rfl,hm⟩:=DataW.trod_string ht h
   refine⟨[dstr s.data.toList],.one (by simp[Value.oneCell']) (.v _),.cons (a:=s.data.toList.length) (b:=0) (.str _ _ (Nat.le_refl _)) (.nil _) ?_⟩
   simp[Rows.uptoBulk]
  |bool ht =>
   obtain⟨v,rfl,rfl⟩:=DataW.trod_bool ht h
   exact⟨[dbool v],.one (by simp[Value.oneCell']) (.v _),.cons (a:=0) (b:=0) (.bool v _) (.nil _) (by omega)⟩
  |@sl _ e fs ht hk h0 he =>
   rcases DataW.trod_slice ht h with ⟨rfl,rfl⟩|⟨a,len,cap,elems,rest,n',hn,rfl,rfl,hb,hl,hm,hlen,hel,_,_⟩
   ·
    exact⟨[.sl fs.length []],.one (by simp[Value.oneCell']) (.nil none 0 _),.cons (a:=0) (b:=0) (.sl fs 0 [] (.nil _ _)) (.nil _) (by omega)⟩
   ·
    obtain rfl:n=n':=by omega
    obtain⟨D0,hD0⟩:∃ D0:Nat→DataW H,D0=fun i=>(elems.getD i (.nil,[])).1:=⟨_,rfl⟩
    have hmap:elems.map (·.1)=(List.range len).map D0:=by rw[hD0,← hlen];exact map_by_index elems (.nil,[]) (·.1)
    rw[hmap]
    obtain⟨F,hF⟩:=choose_lt (α:=List Value×List D) (n:=len) (p:=fun i y=>w.cells? 0 (a.add (i*P.cellsOf e)) (P.cellsOf e)=some y.1∧RdL w noOwn y.1 y.2∧FitsL fs (Rows.uptoBulk (D0 i) - 1) y.2) fun i hil=>by
     have hei:elems[i]? = some (elems[i]'(by omega)):=List.getElem?_eq_getElem (by omega)
     have h0:=hel i hil
     rw[hei]at h0
     obtain⟨cs',h1,h2⟩:=Option.bind_eq_some_iff.1 h0
     obtain⟨ds,h3,h4⟩:=open_cells n he h2
     have hDi:D0 i=(elems[i]'(by omega)).1:=by rw[hD0];simp[List.getD,hei]
     rw[← hDi]at h4
     exact⟨(cs',ds),h1,h3,h4⟩
    have hx:∀ i,i < len→(F i).1.length=fs.length∧(F i).2.length=fs.length∧∀ j c,(F i).1[j]? = some c→w.cell? (a.add (i*fs.length+j))=some c:=fun i hil=>by
     obtain⟨h1,h2,h3⟩:=hF i hil
     obtain⟨_,hlen,hat⟩:=World.cells?_some h1
     rw[hk]at hlen hat
     refine⟨hlen,by rw[← h2.1,hlen],fun j c hj=>?_⟩
     rw[← AX.add_add,hat j (by rw[← hlen];exact(List.getElem?_eq_some_iff.1 hj).1)]
     exact hj
    have hrow:∀ i r,((List.range len).map fun i=>(F i).2)[i]? = some r→i < len∧r=(F i).2:=fun i r hir=>by
     obtain⟨hi1,hi2⟩:=List.getElem?_eq_some_iff.1 hir
     simp at hi1 hi2
     exact⟨hi1,hi2.symm⟩
    refine⟨[.sl fs.length ((List.range len).map fun i=>(F i).2)],.one (by simp[Value.oneCell']) ?_,.cons (a:=Rows.uptoBulkAll ((List.range len).map D0)) (b:=0) (.sl fs _ _ (fitsR_of fun i hir=>⟨(hF i (by simpa using hir)).2.2,one_le _⟩)) (.nil _) ?_⟩
    ·
     rcases Nat.eq_zero_or_pos len with rfl|hlen
     ·
      exact .nil _ _ _
     ·
      have hpos:=(hx 0 hlen)
      have hcell:∃ c,w.cell? (a.add 0)=some c:=by
       have h1:0 < (F 0).1.length:=by rw[hpos.1];exact h0
       exact⟨_,by simpa using hpos.2.2 0 _ (List.getElem?_eq_getElem h1)⟩
      have hsz:a.block < w.heap.size:=by
       obtain⟨c,hc⟩:=hcell
       exact block_lt hc
      have key:=Rd.sl (w:=w) (own:=noOwn) a cap fs.length ((List.range len).map fun i=>(F i).2) (fun i j=>((F i).1[j]?).getD undef) (fun h=>h) hsz (by simpa using hl)
       (fun r hr=>by
        obtain⟨i,hi2,rfl⟩:=List.mem_map.1 hr
        exact(hx i (by simpa using hi2)).2.1)
       (fun i j r d hr hd=>by
        obtain⟨hil,rfl⟩:=hrow i r hr
        obtain⟨h1,h2,h3⟩:=hx i hil
        have hj:j < (F i).1.length:=by rw[h1,← h2];exact(List.getElem?_eq_some_iff.1 hd).1
        rw[List.getElem?_eq_getElem hj]
        exact h3 j _ (List.getElem?_eq_getElem hj))
       (fun i j r d hr hd=>by
        obtain⟨hil,rfl⟩:=hrow i r hr
        obtain⟨h1,h2,h3⟩:=hx i hil
        have hj:j < (F i).1.length:=by rw[h1,← h2];exact(List.getElem?_eq_some_iff.1 hd).1
        rw[List.getElem?_eq_getElem hj]
        exact((hF i hil).2.1.2 j _ d (List.getElem?_eq_getElem hj) hd).1)
       (fun i j r d hr hd=>by
        obtain⟨hil,rfl⟩:=hrow i r hr
        obtain⟨h1,h2,h3⟩:=hx i hil
        have hj:j < (F i).1.length:=by rw[h1,← h2];exact(List.getElem?_eq_some_iff.1 hd).1
        rw[List.getElem?_eq_getElem hj]
        exact((hF i hil).2.1.2 j _ d (List.getElem?_eq_getElem hj) hd).2)
      simpa using key
    ·
     simp only[Rows.uptoBulk];omega
  |@arr _ e m fs ht hC hk he =>
   obtain⟨xs,n',hn,rfl,hcl,hxl,hat⟩:=DataW.trod_array ht h
   obtain rfl:n=n':=by omega
   obtain⟨ds,h1,h2⟩:=open_elems (N:=m) (fun {cs x} h=>open_cells n he h) hk hxl hat m (Nat.le_refl _)
   rw[List.take_of_length_le (by rw[hcl,hC];exact Nat.le_refl _)]at h1
   rw[List.take_of_length_le (by omega)]at h2
   exact⟨ds,h1,h2.mono (by simp only[Rows.uptoBulk];omega)⟩
  |@st _ fs _ ht hC hf =>
   obtain⟨xs,n',hn,rfl,hcl,hxl,hat⟩:=DataW.trod_struct ht h
   obtain rfl:n=n':=by omega
   obtain⟨ds,h1,h2⟩:=open_fields (fun {t ss cs x} hT h=>open_cells n hT h) hf (by simpa using hxl) (fun i f hi=>hat i f (by simpa using hi)) (by omega)
   exact⟨ds,by simpa using h1,h2.mono (by simp only[Rows.uptoBulk];omega)⟩
end
end Go.Proofs.YtfpkamiobdkcpaaDoor
namespace Go.Proofs.YtfpkamiobdkcpaaDoor
open Go.AX Go.RF Go.RowKit Go.ChangeShapes Go.WideShapes Go.Deep
inductive PS where
 |one (s:Sh)
 |st (ss:List Sh)
def isSt (P:Program) (t:TypeId):Bool:=match P.underlying t with
 |some (.struct _)=>true
 |_=>false
def isOne (P:Program) (t:TypeId):Bool:=match P.underlying t with
 |some (.int _)=>true
 |some .string=>true
 |some .bool=>true
 |some (.slice _)=>true
 |_=>false
inductive TyPs (P:Program):List TypeId→List PS→Prop
 |nil:TyPs P [] []
 |one {t:TypeId} {s:Sh} {ts:List TypeId} {ps:List PS} (h:TySh P t [s]) (hn:isOne P t=true) (hr:TyPs P ts ps):TyPs P (t::ts) (.one s::ps)
 |st {t:TypeId} {ss:List Sh} {ts:List TypeId} {ps:List PS} (h:TySh P t ss) (hn:isSt P t=true) (hr:TyPs P ts ps):TyPs P (t::ts) (.st ss::ps)
inductive FitsPs:List PS→Nat→List D→Prop
 |nil (m:Nat):FitsPs [] m []
 |one {s:Sh} {a b m:Nat} {d:D} {ps:List PS} {ds:List D} (h:Fits s a d) (hr:FitsPs ps b ds) (hm:a+b≤m):FitsPs (.one s::ps) m (d::ds)
 |st {ss:List Sh} {a b m:Nat} {es:List D} {ps:List PS} {ds:List D} (h:FitsL ss a es) (hr:FitsPs ps b ds) (hm:a+b≤m):FitsPs (.st ss::ps) m (.agg es::ds)
def fldsB (P:Program) (ty:TypeId→Option (List Sh)):List Field→Nat→Option (List Sh)
 | [],_=>some []
 |f::r,o=>match ty f.type with
  |some s=>match Nat.beq f.offset o&&Nat.beq (P.cellsOf f.type) s.length with
   |true=>match fldsB P ty r (o+s.length) with
    |some ss=>some (s++ss)
    |none=>none
   |false=>none
  |none=>none
def tyB (P:Program):Nat→TypeId→Option (List Sh)
 |0,_=>none
 |n+1,t=>match P.underlying t with
  |some (.int k)=>some [.num k]
  |some .string=>some [.str]
  |some .bool=>some [.bool]
  |some (.slice e)=>match tyB P n e with
   |some fs=>match Nat.beq (P.cellsOf e) fs.length&&Nat.blt 0 fs.length with
    |true=>some [.sl fs]
    |false=>none
   |none=>none
  |some (.struct fs)=>match fldsB P (tyB P n) fs.toList 0 with
   |some ss=>match Nat.beq (P.cellsOf t) ss.length with
    |true=>some ss
    |false=>none
   |none=>none
  |some (.array m e)=>match tyB P n e with
   |some fs=>match Nat.beq (P.cellsOf t) (m*fs.length)&&Nat.beq (P.cellsOf e) fs.length with
    |true=>some (List.replicate m fs).flatten
    |false=>none
   |none=>none
  |_=>none
def parB (P:Program):List TypeId→Option (List PS)
 | []=>some []
 |t::ts=>match tyB P 9 t with
  |some ss=>match parB P ts with
   |some ps=>match isSt P t with
    |true=>some (.st ss::ps)
    |false=>match isOne P t with
     |true=>(match ss with
      | [s]=>some (.one s::ps)
      |_=>none)
     |false=>none
   |none=>none
  |none=>none
theorem fldsB_ok {P:Program}{ty:TypeId→Option (List Sh)}(hty:∀ t ss,ty t=some ss→TySh P t ss):∀ {fs:List Field}{o:Nat}{ss:List Sh},fldsB P ty fs o=some ss→TyFs P fs o ss
 | [],o,ss,h=>by cases h;exact .nil _
 |f::r,o,ss,h=>by
  simp only[fldsB]at h
  split at h
  ·
   next s hs =>
   split at h
   ·
    next hb =>
    split at h
    ·
     next ss' hr =>
     cases h
     simp only[Bool.and_eq_true,Nat.beq_eq]at hb
     exact .cons hb.1 hb.2 rfl (hty _ _ hs) (fldsB_ok hty hr)
    ·
     cases h
   ·
    cases h
  ·
   cases h
theorem tyB_ok {P:Program}:∀ {n:Nat}{t:TypeId}{ss:List Sh},tyB P n t=some ss→TySh P t ss
 |0,t,ss,h=>by cases h
 |n+1,t,ss,h=>by
  simp only[tyB]at h
  split at h
  ·
   next k hu=>cases h;exact .num hu
  ·
   next hu=>cases h;exact .str hu
  ·
   next hu=>cases h;exact .bool hu
  ·
   next e hu =>
   split at h
   ·
    next fs hf =>
    split at h
    ·
     next hb =>
     cases h
     simp only[Bool.and_eq_true,Nat.beq_eq]at hb
     exact .sl hu hb.1 (by simpa[Nat.blt_eq] using hb.2) (tyB_ok hf)
    ·
     cases h
   ·
    cases h
  ·
   next fs hu =>
   split at h
   ·
    next ss' hf =>
    split at h
    ·
     next hb=>cases h;exact .st hu (by simpa using hb) (fldsB_ok (fun t ss h=>tyB_ok h) hf)
    ·
     cases h
   ·
    cases h
  ·
   next m e hu =>
   split at h
   ·
    next fs hf =>
    split at h
    ·
     next hb =>
     cases h
     simp only[Bool.and_eq_true,Nat.beq_eq]at hb
     exact .arr hu hb.1 hb.2 (tyB_ok hf)
    ·
     cases h
   ·
    cases h
  ·
   cases h
theorem parB_ok {P:Program}:∀ {ts:List TypeId}{ps:List PS},parB P ts=some ps→TyPs P ts ps
 | [],ps,h=>by cases h;exact .nil
 |t::ts,ps,h=>by
  simp only[parB]at h
  split at h
  ·
   next ss hs =>
   split at h
   ·
    next ps' hp =>
    split at h
    ·
     next hi=>cases h;exact .st (tyB_ok hs) hi (parB_ok hp)
    ·
     split at h
     ·
      next hi =>
      split at h
      ·
       next s=>cases h;exact .one (tyB_ok hs) hi (parB_ok hp)
      ·
       cases h
     ·
      cases h
   ·
    cases h
  ·
   cases h
theorem FitsPs.mono {ps:List PS}{m n:Nat}{xs:List D}(h:FitsPs ps m xs) (hm:m≤n):FitsPs ps n xs:=by
 cases h with
 |nil=>exact .nil _
 |one h1 h2 h3=>exact .one h1 h2 (by omega)
 |st h1 h2 h3=>exact .st h1 h2 (by omega)
theorem Fits.mono' {s:Sh}{m n:Nat}{d:D}(h:Fits s m d) (hm:m≤n):Fits s n d:=by
 cases h with
 |num k v m h=>exact .num k v n h
 |str s m h=>exact .str s n (by omega)
 |bool b m=>exact .bool b n
 |sl fs m rows h=>exact .sl fs n rows (h.mono hm)
theorem fits_one {s:Sh}{ps:List PS}{m:Nat}{xs:List D}(h:FitsPs (.one s::ps) m xs):∃ d r,xs=d::r∧Fits s m d∧FitsPs ps m r:=by
 cases h with
 |one h1 h2 h3=>exact⟨_,_,rfl,h1.mono' (by omega),h2.mono (by omega)⟩
theorem fits_st {ss:List Sh}{ps:List PS}{m:Nat}{xs:List D}(h:FitsPs (.st ss::ps) m xs):∃ es r,xs = .agg es::r∧FitsL ss m es∧FitsPs ps m r:=by
 cases h with
 |st h1 h2 h3=>exact⟨_,_,rfl,h1.mono (by omega),h2.mono (by omega)⟩
theorem fits_nil {m:Nat}{xs:List D}(h:FitsPs [] m xs):xs=[]:=by
 cases h;rfl
section
variable {H:Type}{enc:TypeId×Value→H}{P:Program}{w:World}
theorem one_cell {t:TypeId}{s:Sh}{r:Reach}{b:Nat}{v:Value}(hT:TySh P t [s]) (hn:isOne P t=true) (hv:Value.okWide P w r b t v):v.cells.toList=[v]:=by
 generalize hs:[s]=ss at hT
 cases hT with
 |num h=>obtain⟨n,rfl⟩:=okWide_int h hv;rfl
 |str h=>obtain⟨n,rfl⟩:=okWide_string h hv;rfl
 |bool h=>obtain⟨n,rfl⟩:=okWide_bool h hv;rfl
 |sl h=>obtain⟨a,l,c,rfl⟩:=okWide_slice h hv;rfl
 |arr h=>simp[isOne,h]at hn
 |st h=>simp[isOne,h]at hn
theorem open_args {r:Reach}{b:Nat}:∀ {ts:List TypeId}{ps:List PS}{vs:List Value}{ds:List (DataW H)}{p:List MemPlace},TyPs P ts ps →
  (∀ (j:Nat) (t:TypeId) (v:Value),ts[j]? = some t→vs[j]? = some v→Value.okWide P w r b t v)→DataW.TrodAll enc P w 0 (fun _=>true) true ts vs ds p →
  ∃ xs:List D,ArgsOk w noOwn vs (xs.map Arg.d)∧FitsPs ps (Rows.uptoBulkAll ds) xs∧ds.length=ts.length
 | [],ps,vs,ds,p,hT,hv,h=>by
  cases hT
  obtain⟨rfl,rfl,rfl⟩:=trodAll_nil h
  exact⟨[],trivial,.nil _,rfl⟩
 |t::ts,ps,vs,ds,p,hT,hv,h=>by
  obtain⟨v,vs,d,ds,p,q,rfl,rfl,rfl,⟨n,h0⟩,hr⟩:=trodAll_cons h
  have hv0:=hv 0 t v rfl rfl
  have hvr:∀ (j:Nat) (t:TypeId) (v:Value),ts[j]? = some t→vs[j]? = some v→Value.okWide P w r b t v:=fun j t' v' h1 h2=>hv (j+1) t' v' (by simpa using h1) (by simpa using h2)
  have hb:=one_le d
  cases hT with
  |one hT hn hTr =>
   obtain⟨xs,h1,h2,h3⟩:=open_args hTr hvr hr
   rw[one_cell hT hn hv0]at h0
   obtain⟨es,⟨h4,h5⟩,h6⟩:=open_cells n hT h0
   cases h6 with
   |@cons _ a b _ e _ es h7 h8 h9 =>
    cases h8
    have h9':a+b≤Rows.uptoBulk d - 1:=h9
    exact⟨e::xs,⟨(h5 0 v e rfl rfl).2,h1⟩,.one h7 h2 (by simp only[Rows.uptoBulkAll];omega),by simp[h3]⟩
  |st hT hn hTr =>
   obtain⟨xs,h1,h2,h3⟩:=open_args hTr hvr hr
   obtain⟨es,h5,h6⟩:=open_cells n hT h0
   have h6':FitsL _ (Rows.uptoBulk d - 1) es:=h6
   have hs:∃ fs,P.underlying t=some (.struct fs):=by
    unfold isSt at hn
    split at hn
    ·
     exact⟨_,by assumption⟩
    ·
     cases hn
   obtain⟨fs,hs⟩:=hs
   obtain⟨cs,rfl,hsz⟩:=okWide_struct hs hv0
   refine⟨.agg es::xs,⟨.agg cs es ?_ (fun j c hj=>?_) fun j d c hd hc=>?_,h1⟩,.st h6' h2 (by simp only[Rows.uptoBulkAll];omega),by simp[h3]⟩
   ·
    simpa[Value.cells] using h5.1
   ·
    have hj':j < es.length:=by rw[← h5.1];simpa[Value.cells] using(Array.getElem?_eq_some_iff.1 hj).1
    exact(h5.2 j c _ (by simpa[Value.cells] using hj) (List.getElem?_eq_getElem hj')).1
   ·
    exact(h5.2 j c d (by simpa[Value.cells] using hc) hd).2
theorem again_args {W W':World}{sp:Nat→Bool}(hl:laidOutB P=true) (hb:Below W.heap.size W W'):∀ {ts:List TypeId}{vs:List Value}{ds:List (DataW H)}{p:List MemPlace},
  (∀ t∈ts,P.readableRec t=true∧t < P.types.size)→DataW.TrodAll enc P W 0 (fun _=>true) true ts vs ds p→(∀ x∈p,x.block < W.heap.size)→(∀ x∈p,sp x.block=true) →
  DataW.TrodAll enc P W' 0 sp true ts vs ds p
 | [],vs,ds,p,_,h,_,_=>by
  obtain⟨rfl,rfl,rfl⟩:=trodAll_nil h
  exact trodAll_mk0
 |t::ts,vs,ds,p,hr,h,hlt,hsp=>by
  obtain⟨v,vs,d,ds,p,q,rfl,rfl,rfl,h0,hq⟩:=trodAll_cons h
  have ht:=hr t (List.mem_cons_self ..)
  exact trodAll_cons_mk (WideElems.Trod_stays hl ht.1 ht.2 h0 (fun x hx=>hb.same (hlt x (List.mem_append_left _ hx))) fun x hx=>hsp x (List.mem_append_left _ hx))
   (again_args hl hb (fun t h=>hr t (List.mem_cons_of_mem _ h)) hq (fun x hx=>hlt x (List.mem_append_right _ hx)) fun x hx=>hsp x (List.mem_append_right _ hx))
end
theorem law_contract {H:Type}{enc:TypeId×Value→H}{P:Program}{f:FuncId}{fn:Func}{s:ChangeSpec}{tb:TypeId}{ps:List PS}
  (hT:TyPs P fn.params.toList ps) (hl:laidOutB P=true) (hread:fn.params.toList.all (fun t=>P.readableRec t&&decide (t < P.types.size))=true) (hvars:s.vars=[])
  (hres:fn.resultTypes = #[tb]) (htb:P.underlying tb=some .bool)
  (hfn:∀ ds:List (DataW H),ds.length=fn.params.toList.length→s.fn H ds={ results:=[.lit (.bool true)],args:=ds })
  (hlaw:∀ (xs:List D) (m:Nat),m≤1048576→FitsPs ps m xs→FnOk P f (xs.map Arg.d) (.one (dbool true)))
  (W:World) (base:Nat) (args:Array Value) (ds gs:List (DataW H)) (before:List MemPlace)
  (hval:∀ (j:Nat) t v,fn.params[j]? = some t→args[j]? = some v→Value.okWide P W .any base t v)
  (hW:DataW.Whole enc P fn.params.toList s.vars false W args.toList ds gs before) (hk:Rows.uptoSmall H (ds++gs)=true) (hgl:Gl P W) :
  Calls P f args W fun e W'=>∃ v,e = .returned v∧s.post enc P fn false true false false W args v W':=by
 have hW':=hW
 obtain⟨p,q,hA,hV,rfl,hfz,hnd⟩:=hW
 rw[hvars]at hV
 obtain⟨rfl,rfl⟩:=trodVars_none hV
 obtain⟨xs,h1,h2,h3⟩:=open_args hT (fun j t v ht hv=>hval j t v (by simpa using ht) (by simpa using hv)) hA
 rw[List.append_nil]at hk
 have hk':Rows.uptoBulkAll ds≤1048576:=of_decide_eq_true hk
 have hc:=hlaw xs _ hk' h2
 have key:=FnOk.bool hc (w:=W) (vs:=args.toList) hgl h1
 rw[Array.toArray_toList]at key
 refine key.mono fun e W' ⟨he,hg⟩=>?_
 subst he
 have hf:=hfn ds h3
 have hlt:∀ x∈p,x.block < W.heap.size:=fun x hx=>hW'.lt x (by simpa using hx)
 refine⟨_,rfl,Go.AX.post_of_below (pa:=p) (pv:=[]) hW' (fun _ _ _=>?_) (fun sp hsp=>?_) (fun _ _=>?_) rfl hg (ok_one hres rfl (okWide_bool_mk htb _))⟩
 ·
  rw[List.append_nil,hf,hres]
  exact trodAll_cons_mk (shut_bool htb _) trodAll_mk0
 ·
  rw[List.append_nil,hf]
  refine again_args hl hg (fun t ht=>?_) hA hlt fun x hx=>hsp x (by simpa using hx)
  have:=List.all_eq_true.1 hread t ht
  simpa using this
 ·
  rw[List.append_nil,hf,hvars]
  rfl
end Go.Proofs.YtfpkamiobdkcpaaDoor
namespace Go.RF
def agree {α β:Type}(f:α→β→Bool):List α→List β→Nat
 |a::l,b::r=>match f a b with
  |true=>agree f l r+1
  |false=>0
 |_,_=>0
theorem agree_le {α β:Type}{f:α→β→Bool}:∀ {l:List α}{r:List β},agree f l r≤l.length
 | [],_=>by simp[agree]
 |a::l,[]=>by simp[agree]
 |a::l,b::r=>by
  have:=agree_le (f:=f) (l:=l) (r:=r)
  simp only[agree]
  split <;> simp <;> omega
theorem agree_lt {α β:Type}{f:α→β→Bool}:∀ {l:List α}{r:List β}{k:Nat},k < agree f l r→∃ a b,l[k]? = some a∧r[k]? = some b∧f a b=true
 | [],_,k,h=>by simp[agree]at h
 |a::l,[],k,h=>by simp[agree]at h
 |a::l,b::r,k,h=>by
  simp only[agree]at h
  split at h
  ·
   next hf =>
   cases k with
   |zero=>exact⟨a,b,rfl,rfl,hf⟩
   |succ k=>simpa using agree_lt (l:=l) (r:=r) (k:=k) (by omega)
  ·
   omega
theorem agree_at {α β:Type}{f:α→β→Bool}:∀ {l:List α}{r:List β}{a:α}{b:β},l[agree f l r]? = some a→r[agree f l r]? = some b→f a b=false
 | [],_,a,b,h,_=>by simp at h
 |a::l,[],x,y,_,h=>by simp at h
 |a::l,b::r,x,y,h,h'=>by
  simp only[agree]at h h'
  split at h
  ·
   next hf =>
   simp only[hf]at h'
   exact agree_at (l:=l) (r:=r) (by simpa using h) (by simpa using h')
  ·
   next hf=>simp only[hf]at h';simp at h h';subst h h';exact hf
def allB {α β:Type}(f:α→β→Bool):List α→List β→Bool
 | [],[]=>true
 |a::l,b::r=>f a b&&allB f l r
 |_,_=>false
theorem allB_agree {α β:Type}{f:α→β→Bool}:∀ {l:List α}{r:List β},l.length=r.length→(allB f l r=true↔agree f l r=l.length)
 | [],[],_=>by simp[allB,agree]
 | [],b::r,h=>by simp at h
 |a::l,[],h=>by simp at h
 |a::l,b::r,h=>by
  have ih:=allB_agree (f:=f) (l:=l) (r:=r) (by simpa using h)
  simp only[allB,agree,Bool.and_eq_true]
  split
  ·
   next hf=>simp[hf,ih]
  ·
   next hf=>simp[hf]
theorem allB_len {α β:Type}{f:α→β→Bool}:∀ {l:List α}{r:List β},allB f l r=true→l.length=r.length
 | [],[],_=>rfl
 | [],b::r,h=>by simp[allB]at h
 |a::l,[],h=>by simp[allB]at h
 |a::l,b::r,h=>by simp only[allB,Bool.and_eq_true]at h;simp[allB_len h.2]
theorem agree_case {α β:Type}{f:α→β→Bool}{l:List α}{r:List β}(hl:l.length=r.length) {k:Nat}(hk:k≤agree f l r) :
  (k < agree f l r∧k < l.length∧∃ a b,l[k]? = some a∧r[k]? = some b∧f a b=true)∨(k=l.length∧allB f l r=true) ∨
   (k < l.length∧allB f l r=false∧∃ a b,l[k]? = some a∧r[k]? = some b∧f a b=false):=by
 rcases Nat.lt_or_ge k (agree f l r) with h|h
 ·
  exact .inl ⟨h,by have:=agree_le (f:=f) (l:=l) (r:=r);omega,agree_lt h⟩
 ·
  have he:k=agree f l r:=by omega
  have hle:=agree_le (f:=f) (l:=l) (r:=r)
  rcases Nat.lt_or_ge k l.length with h2|h2
  ·
   refine .inr (.inr ⟨h2,?_,l[k],r[k]'(by omega),List.getElem?_eq_getElem h2,List.getElem?_eq_getElem (by omega),?_⟩)
   ·
    cases hb:allB f l r
    ·
     rfl
    ·
     have:=(allB_agree hl).1 hb;omega
   ·
    exact agree_at (f:=f) (l:=l) (r:=r) (by rw[← he];exact List.getElem?_eq_getElem h2) (by rw[← he];exact List.getElem?_eq_getElem (by omega))
  ·
   exact .inr (.inl ⟨by omega,(allB_agree hl).2 (by omega)⟩)
end Go.RF
namespace Go.RF
open Go.AX
abbrev slt (a b:Str):Bool:=Go.Op.bytesLess a b
abbrev sle (a b:Str):Bool:=slt a b || decide (a=b)
def bad (c:UInt8):Bool:=decide ((c.toNat:Int) < 97) || decide ((122:Int) < (c.toNat:Int))
def keyGo (s:Str):Str→Bool
 | []=>decide (0 < s.length)&&decide (s.length < 7)
 |c::r=>if bad c then false else keyGo s r
def key (s:Str):Bool:=keyGo s s
def get (r:List Pair) (k:Str):Int×Bool:=match r with
 | []=>(0,false)
 |p::r=>if p.key=k then (p.n,true) else get r k
def isIn (l:List Str) (s:Str):Bool:=match l with
 | []=>false
 |x::l=>if x=s then true else isIn l s
def putGo (k:Str) (n:Int) (h:Bool):Bool→List Pair→List Pair→List Pair
 |done,out,[]=>if !done&&h then out++[⟨k,n⟩] else out
 |done,out,p::r =>
  let done':=done || !slt p.key k
  let out':=if !done && !slt p.key k&&h then out++[⟨k,n⟩] else out
  putGo k n h done' (if p.key=k then out' else out'++[p]) r
def put (r:List Pair) (k:Str) (n:Int) (h:Bool):List Pair:=putGo k n h false [] r
def round (n:Int):Int:=n - n.tdiv 1073741825*1073741825
def wrongRowsGo:Nat→Str→List Pair→Int
 |_,_,[]=>0
 |i,last,p::r=>if key p.key=false then 7 else if 0 < i∧sle p.key last=true then 2 else if 1073741824 < p.n∨p.n < -1073741824 then 3 else wrongRowsGo (i+1) p.key r
def wrongRows (r:List Pair):Int:=wrongRowsGo 0 [] r
def forms:List Str:=[[],[114,107],[114,110],[114,115],[114,115],[114,115],[114,107],[107],[114,110],[114]]
def form (k:Nat):Str:=forms.getD k []
def hasGo (c:UInt8):Str→Bool
 | []=>false
 |x::r=>if x=c then true else hasGo c r
def has (k:Nat) (c:UInt8):Bool:=hasGo c (form k)
def keysGo (l:List Str):Nat→List Str→Int
 |_,[]=>0
 |i,k::r=>if key k=false then 7 else if isIn (l.take i) k=true then 7 else keysGo l (i+1) r
def keysWrong (l:List Str):Int:=if 5 < l.length then 5 else keysGo l 0 l
def lsGo:List (List Str)→Int
 | []=>0
 |l::r=>if keysWrong l=0 then lsGo r else keysWrong l
def insA (k:Nat):Int:=if has k 114=true then 3 else 0
def insB (k:Nat):Int:=if has k 115=true then 3 else 0
def insLow (k:Nat):Int:=if k=2 then -1073741824 else if k=8 then 1 else 0
def insHigh (k:Nat) (m:Int):Int:=if k=2 then 1073741824 else if k=8 then m else 0
def insOut (k:Nat) (a b n m:Int):Bool:=decide (a < 0) || (decide (insA k < a) || (decide (b < 0) || (decide (insB k < b) || (decide (n < insLow k) || decide (insHigh k m < n)))))
def wrongIns (d:Deed) (m:Int) (i:Ins):Int :=
 if i.kind < 1∨9 < i.kind then 1
 else if insOut i.kind.toNat i.a i.b i.n m=true then 3
 else if has i.kind.toNat 107=false then (if i.key=[] then 0 else 2)
 else if isIn (if i.kind=1 then d.reads else d.writes) i.key=true then 0 else 9
def codeGo (d:Deed):Nat→List Ins→Int
 |_,[]=>0
 |k,i::r=>if wrongIns d ((d.code.length:Int) - 1 - k) i=0 then codeGo d (k+1) r else wrongIns d ((d.code.length:Int) - 1 - k) i
def wrongDeed (d:Deed):Int :=
 if lsGo [d.reads,d.writes]=0 then (if 12 < d.code.length then 5 else codeGo d 0 d.code) else lsGo [d.reads,d.writes]
structure Deed.Sm (d:Deed):Prop where
 r:d.reads.length≤268435456
 w:d.writes.length≤268435456
 c:d.code.length≤268435456
 rk:∀ s∈d.reads,s.length≤1073741824
 wk:∀ s∈d.writes,s.length≤1073741824
def right:List Deed→Bool
 | []=>true
 |d::r=>if wrongDeed d=0 then right r else false
def bvs (hit:Bool) (b:Int):Version→List Version→Version
 |out,[]=>out
 |out,v::r=>bvs hit b (if hit&&decide (v.by_ < b) then v else out) r
def beforeGo (k:Str) (b:Int):Version→List Chain→Version
 |out,[]=>out
 |out,c::r=>beforeGo k b (bvs (decide (c.key=k)) b out c.vs) r
def before (l:List Chain) (k:Str) (b:Int):Version:=beforeGo k b ⟨-1,true,false,0⟩ l
def later (b:Int):List Version→Bool
 | []=>false
 |w::_=>decide (w.by_ < b)
def old (b:Int) (r:List Version) (v:Version):Bool:=(later b r&&decide (v.by_ < b)) || (decide (v.by_ < b)&&(v.made && !v.has))
def clrV (b:Int):List Version→List Version
 | []=>[]
 |v::r=>if old b r v=true then clrV b r else v::clrV b r
def clear (b:Int):List Chain→List Chain
 | []=>[]
 |c::r=>if clrV b c.vs=[] then clear b r else ⟨c.key,clrV b c.vs⟩::clear b r
structure Chain.Sm (c:Chain):Prop where
 k:c.key.length≤1073741824
 v:c.vs.length≤268435456
def done0:Done:=⟨false,0,0,0,0⟩
def rget (e:Done):Nat→Int
 |0=>e.r0
 |1=>e.r1
 |2=>e.r2
 |_=>e.r3
def rset (e:Done) (k:Nat) (x:Int):Done:=match k with
 |0=>⟨e.failed,x,e.r1,e.r2,e.r3⟩
 |1=>⟨e.failed,e.r0,x,e.r2,e.r3⟩
 |2=>⟨e.failed,e.r0,e.r1,x,e.r3⟩
 |_=>⟨e.failed,e.r0,e.r1,e.r2,x⟩
def bustE (e:Done):Done:=⟨true,e.r0,e.r1,e.r2,e.r3⟩
def doGo (r0:List Pair):Int→List Pair→Done→List Ins→List Pair×Done
 |_,now,e,[]=>(now,e)
 |sk,now,e,i::r =>
  if 0 < sk then doGo r0 (sk - 1) now e r
  else if i.kind=1 then doGo r0 sk now (rset e i.a.toNat (get now i.key).1) r
  else if i.kind=2 then doGo r0 sk now (rset e i.a.toNat i.n) r
  else if i.kind=3 then doGo r0 sk now (rset e i.a.toNat (round (rget e i.a.toNat+rget e i.b.toNat))) r
  else if i.kind=4 then doGo r0 sk now (rset e i.a.toNat (round (rget e i.a.toNat - rget e i.b.toNat))) r
  else if i.kind=5 then doGo r0 sk now (rset e i.a.toNat (round (rget e i.a.toNat*rget e i.b.toNat))) r
  else if i.kind=6 then doGo r0 sk (put now i.key (rget e i.a.toNat) true) e r
  else if i.kind=7 then doGo r0 sk (put now i.key 0 false) e r
  else if i.kind=8 then doGo r0 (if rget e i.a.toNat < 1 then i.n else sk) now e r
  else if rget e i.a.toNat < 0 then (r0,bustE e) else doGo r0 sk now e r
def doD (r:List Pair) (d:Deed):List Pair×Done:=doGo r 0 r done0 d.code
def allD:List Pair→List Deed→List Pair×List Done
 |r,[]=>(r,[])
 |r,d::l=>((allD (doD r d).1 l).1,(doD r d).2::(allD (doD r d).1 l).2)
def nOk (n:Int):Prop := -1073741824≤n∧n≤1073741824
structure Ins.Ok (i:Ins):Prop where
 k:1≤i.kind∧i.kind≤9
 a:0≤i.a∧i.a≤3
 b:0≤i.b∧i.b≤3
 c:i.kind=2→nOk i.n
 s:i.kind=8→0≤i.n∧i.n≤1073741824
structure Done.Ok (e:Done):Prop where
 a:nOk e.r0
 b:nOk e.r1
 c:nOk e.r2
 d:nOk e.r3
def rowsOk (r:List Pair):Prop:=∀ p∈r,nOk p.n
theorem rset_self (e:Done) (k:Nat):rset e k (rget e k)=e:=by
 match k with
 |0=>rfl
 |1=>rfl
 |2=>rfl
 |_+3=>rfl
theorem rget_ok {e:Done}(h:e.Ok) (k:Nat):nOk (rget e k):=by
 unfold rget
 split
 ·
  exact h.a
 ·
  exact h.b
 ·
  exact h.c
 ·
  exact h.d
theorem rset_ok {e:Done}(h:e.Ok) (k:Nat) {x:Int}(hx:nOk x):(rset e k x).Ok:=by
 unfold rset
 split
 ·
  exact⟨hx,h.b,h.c,h.d⟩
 ·
  exact⟨h.a,hx,h.c,h.d⟩
 ·
  exact⟨h.a,h.b,hx,h.d⟩
 ·
  exact⟨h.a,h.b,h.c,hx⟩
theorem rset_failed (e:Done) (k:Nat) (x:Int):(rset e k x).failed=e.failed:=by
 unfold rset
 split <;> rfl
theorem round_ok (n:Int):nOk (round n):=by
 have h1:n.tdiv 1073741825*1073741825+n.tmod 1073741825=n:=Int.tdiv_mul_add_tmod n 1073741825
 have h2:n.tmod 1073741825 < 1073741825:=Int.tmod_lt_of_pos n (by omega)
 have h4:=Int.tmod_lt_of_pos (-n) (show(0:Int) < 1073741825 by omega)
 rw[Int.neg_tmod]at h4
 unfold nOk round
 omega
theorem get_ok {r:List Pair}(h:rowsOk r) (k:Str):nOk (get r k).1:=by
 induction r with
 |nil=>simp[get,nOk]
 |cons p r ih =>
  simp only[get]
  split
  ·
   exact h p (List.mem_cons_self ..)
  ·
   exact ih fun q hq=>h q (List.mem_cons_of_mem _ hq)
theorem putGo_mem {k:Str}{n:Int}{hs:Bool}:∀ {l:List Pair}{dn:Bool}{out:List Pair}{q:Pair},q∈putGo k n hs dn out l→q∈out∨q∈l∨(q=⟨k,n⟩∧hs=true)
 | [],dn,out,q,h=>by
  simp only[putGo]at h
  split at h
  ·
   next hb =>
   rcases List.mem_append.1 h with h|h
   ·
    exact .inl h
   ·
    simp at hb;exact .inr (.inr ⟨by simpa using h,hb.2⟩)
  ·
   exact .inl h
 |p::l,dn,out,q,h=>by
  simp only[putGo]at h
  rcases putGo_mem h with h|h|h
  ·
   have key:∀ out':List Pair,(q∈out'→q∈out∨(q=⟨k,n⟩∧hs=true))→q∈(if p.key=k then out' else out'++[p])→q∈out∨q∈p::l∨(q=⟨k,n⟩∧hs=true):=by
    intro out' h1 h2
    split at h2
    ·
     rcases h1 h2 with h|h
     ·
      exact .inl h
     ·
      exact .inr (.inr h)
    ·
     rcases List.mem_append.1 h2 with h2|h2
     ·
      rcases h1 h2 with h|h
      ·
       exact .inl h
      ·
       exact .inr (.inr h)
     ·
      exact .inr (.inl (by simp at h2;simp[h2]))
   refine key _ (fun h1=>?_) h
   split at h1
   ·
    next hb =>
    rcases List.mem_append.1 h1 with h1|h1
    ·
     exact .inl h1
    ·
     simp at hb;exact .inr ⟨by simpa using h1,hb.2⟩
   ·
    exact .inl h1
  ·
   exact .inr (.inl (List.mem_cons_of_mem _ h))
  ·
   exact .inr (.inr h)
theorem putGo_len {k:Str}{n:Int}{hs:Bool}:∀ (l:List Pair) (dn:Bool) (out:List Pair),(putGo k n hs dn out l).length≤out.length+l.length+(if dn=true then 0 else 1)
 | [],dn,out=>by
  simp only[putGo]
  cases dn <;> cases hs <;> simp
 |p::l,dn,out=>by
  simp only[putGo]
  have:=putGo_len (k:=k) (n:=n) (hs:=hs) l (dn || !slt p.key k) (if p.key=k then (if (!dn && !slt p.key k&&hs)=true then out++[⟨k,n⟩] else out) else (if (!dn && !slt p.key k&&hs)=true then out++[⟨k,n⟩] else out)++[p])
  refine Nat.le_trans this ?_
  cases dn <;> cases hq:slt p.key k <;> cases hs <;> by_cases hk:p.key=k <;> simp[hk] <;> omega
theorem put_len (l:List Pair) (k:Str) (n:Int) (hs:Bool):(put l k n hs).length≤l.length+1:=by
 have:=putGo_len (k:=k) (n:=n) (hs:=hs) l false []
 unfold put
 simpa using this
theorem put_ok {l:List Pair}(h:rowsOk l) (k:Str) {n:Int}(hn:nOk n) (hs:Bool):rowsOk (put l k n hs):=by
 intro q hq
 rcases putGo_mem hq with h1|h1|h1
 ·
  simp at h1
 ·
  exact h q h1
 ·
  rw[h1.1];exact hn
structure Engine.Sm (e:Engine):Prop where
 c:e.chains.length≤134217728
 v:∀ c∈e.chains,c.vs.length≤134217728
 d:e.deeds.length≤134217728
 s:e.state.length≤134217728
 n:e.ends.length≤134217728
 b:0≤e.base∧e.base≤134217728
 dd:∀ d∈e.deeds,d.Sm
def inI (n:Int):Prop := -9223372036854775808≤n∧n≤9223372036854775807
theorem bl_nil_cons (b:UInt8) (r:Str):slt [] (b::r)=true:=by simp[slt,Op.bytesLess]
theorem bl_nil (a:Str):slt a []=false:=by cases a <;> simp[slt,Op.bytesLess]
theorem bl_cons (a b:UInt8) (l r:Str):slt (a::l) (b::r)=if a < b then true else if b < a then false else slt l r:=by
 simp only[slt,Op.bytesLess]
 by_cases h1:a < b
 ·
  simp[h1]
 ·
  by_cases h2:b < a
  ·
   have h3:¬ a=b:=fun h=>by subst h;exact h1 h2
   simp[h1,h2,h3]
  ·
   have h3:a=b:=UInt8.le_antisymm (UInt8.not_lt.1 h2) (UInt8.not_lt.1 h1)
   subst h3
   simp[h1]
theorem slt_irrefl (a:Str):slt a a=false:=by
 induction a with
 |nil=>exact bl_nil []
 |cons x l ih=>rw[bl_cons];simp[ih]
theorem slt_trans:∀ {a b c:Str},slt a b=true→slt b c=true→slt a c=true
 | [],[],c,h,_=>by simp[bl_nil]at h
 |a::l,[],c,h,_=>by simp[bl_nil]at h
 |a,b::r,[],_,h=>by simp[bl_nil]at h
 | [],b::r,c::s,_,_=>bl_nil_cons _ _
 |a::l,b::r,c::s,h,h'=>by
  rw[bl_cons]at h h' ⊢
  by_cases h1:a < b
  ·
   by_cases h2:b < c
   ·
    simp[UInt8.lt_trans h1 h2]
   ·
    by_cases h3:c < b
    ·
     simp[h2,h3]at h'
    ·
     have h4:b=c:=UInt8.le_antisymm (UInt8.not_lt.1 h3) (UInt8.not_lt.1 h2)
     subst h4;simp[h1]
  ·
   by_cases h2:b < a
   ·
    simp[h1,h2]at h
   ·
    have h4:a=b:=UInt8.le_antisymm (UInt8.not_lt.1 h2) (UInt8.not_lt.1 h1)
    subst h4
    simp only[UInt8.lt_irrefl,if_false]at h
    by_cases h2:a < c
    ·
     simp[h2]
    ·
     by_cases h3:c < a
     ·
      simp[h2,h3]at h'
     ·
      simp only[h2,h3,if_false]at h' ⊢
      exact slt_trans h h'
theorem slt_tri:∀ (a b:Str),slt a b=true∨a=b∨slt b a=true
 | [],[] => .inr (.inl rfl)
 | [],b::r => .inl (bl_nil_cons _ _)
 |a::l,[] => .inr (.inr (bl_nil_cons _ _))
 |a::l,b::r=>by
  rw[bl_cons,bl_cons]
  by_cases h1:a < b
  ·
   simp[h1]
  ·
   by_cases h2:b < a
   ·
    simp[h2]
   ·
    have h4:a=b:=UInt8.le_antisymm (UInt8.not_lt.1 h2) (UInt8.not_lt.1 h1)
    subst h4
    rcases slt_tri l r with h|h|h
    ·
     simp[h]
    ·
     subst h;simp
    ·
     simp[h]
theorem slt_asymm {a b:Str}(h:slt a b=true):slt b a=false:=by
 cases hb:slt b a
 ·
  rfl
 ·
  have:=slt_trans h hb;rw[slt_irrefl]at this;cases this
theorem slt_ne {a b:Str}(h:slt a b=true):a≠b:=fun e=>by subst e;rw[slt_irrefl]at h;cases h
structure AtK {α:Type} (f:α→Str) (l:List α) (k:Str) (m:Nat):Prop where
 le:m≤l.length
 lt:∀ x c,l[x]? = some c→x < m→slt (f c) k=true
 ge:∀ x c,l[x]? = some c→m≤x→slt (f c) k=false
def isAtK {α:Type}(f:α→Str) (l:List α) (k:Str) (m:Nat):Bool:=match l[m]? with
 |some c=>decide (f c=k)
 |none=>false
def Srt {α:Type}(f:α→Str) (l:List α):Prop:=l.Pairwise fun a b=>slt (f a) (f b)=true
theorem Srt.at {α:Type}{f:α→Str}(k:Str):∀ {l:List α},Srt f l→∃ m,AtK f l k m
 | [],_=>⟨0,⟨by simp,by simp,by simp⟩⟩
 |c::l,h=>by
  have h':(∀ a∈l,slt (f c) (f a)=true)∧Srt f l:=List.pairwise_cons.1 h
  cases hc:slt (f c) k with
  |true =>
   obtain⟨m,hm⟩:=Srt.at k h'.2
   refine⟨m+1,⟨by have:=hm.le;simpa using this,fun x d hx hlt=>?_,fun x d hx hge=>?_⟩⟩
   ·
    cases x with
    |zero=>simp at hx;subst hx;exact hc
    |succ x=>exact hm.lt x d (by simpa using hx) (by omega)
   ·
    cases x with
    |zero=>omega
    |succ x=>exact hm.ge x d (by simpa using hx) (by omega)
  |false =>
   refine⟨0,⟨by simp,fun x d _ hlt=>by omega,fun x d hx _=>?_⟩⟩
   cases x with
   |zero=>simp at hx;subst hx;exact hc
   |succ x =>
    have h1:=h'.1 d (List.mem_of_getElem? (by simpa using hx))
    cases hd:slt (f d) k with
    |false=>rfl
    |true=>rw[slt_trans h1 hd]at hc;cases hc
theorem Srt.lt {α:Type}{f:α→Str}{l:List α}(h:Srt f l) {i j:Nat}{a b:α}(hi:l[i]? = some a) (hj:l[j]? = some b) (hlt:i < j):slt (f a) (f b)=true:=by
 obtain⟨h1,rfl⟩:=List.getElem?_eq_some_iff.1 hi
 obtain⟨h2,rfl⟩:=List.getElem?_eq_some_iff.1 hj
 exact List.pairwise_iff_getElem.1 h i j h1 h2 hlt
end Go.RF
namespace Go.Proofs.YtfpkamiobdkcpaaDoor
open Go.AX Go.RF
abbrev i64s:Sh := .num .i64
abbrev shPair:List Sh:=[.str,i64s]
abbrev shIns:List Sh:=[i64s,i64s,i64s,i64s,.str]
abbrev shDeed:List Sh:=[.sl [.str],.sl [.str],.sl shIns]
theorem inI_of {n:Int}(h:(Lit.int .i64 n).wf=true):inI n:=by
 simpa[Lit.wf,IntKind.min,IntKind.max,IntKind.signed,IntKind.bits,inI] using h
theorem fitsR_map {α:Type}{enc:α→List D}{Q:α→Nat→Prop}{fs:List Sh}(h:∀ r m,FitsL fs m r→∃ x,r=enc x∧Q x m):∀ {rows:List (List D)}{m:Nat},FitsR fs m rows →
  ∃ l:List (α×Nat),rows=(l.map (·.1)).map enc∧(∀ y∈l,Q y.1 y.2)∧(l.map (·.2)).sum+l.length≤m
 | [],m,_=>⟨[],rfl,by simp,by simp⟩
 |r::rows,m,hR=>by
  cases hR with
  |@cons _ a b _ _ _ h1 h2 h3 =>
   obtain⟨x,rfl,hx⟩:=h r a h1
   obtain⟨l,rfl,hl,hs⟩:=fitsR_map h h2
   refine⟨(x,a)::l,rfl,fun y hy=>?_,by simp;omega⟩
   rcases List.mem_cons.1 hy with rfl|hy
   ·
    exact hx
   ·
    exact hl y hy
theorem sum_mem {l:List Nat}{n:Nat}(h:n∈l):n≤l.sum:=by
 induction l with
 |nil=>simp at h
 |cons x l ih =>
  rcases List.mem_cons.1 h with rfl|h
  ·
   simp
  ·
   have:=ih h;simp;omega
theorem fitsR_all {α:Type}{enc:α→List D}{Q:α→Nat→Prop}{fs:List Sh}(h:∀ r m,FitsL fs m r→∃ x,r=enc x∧Q x m) {rows:List (List D)}{m:Nat}(hR:FitsR fs m rows) :
  ∃ l:List α,rows=l.map enc∧(∀ x∈l,∃ k,k≤m∧Q x k)∧l.length≤m:=by
 obtain⟨l,h1,h2,h3⟩:=fitsR_map h hR
 refine⟨l.map (·.1),h1,fun x hx=>?_,by simp;omega⟩
 obtain⟨y,hy,rfl⟩:=List.mem_map.1 hx
 have:=sum_mem (List.mem_map.2 ⟨y,hy,rfl⟩:y.2∈l.map (·.2))
 exact⟨y.2,by omega,h2 y hy⟩
theorem dec_int {m:Nat}{d:D}(h:Fits i64s m d):∃ n,d=dint n∧inI n:=by
 cases h with
 |num k n m h=>exact⟨n,rfl,inI_of h⟩
theorem dec_str {m:Nat}{d:D}(h:Fits .str m d):∃ s,d=dstr s∧s.length≤m:=by
 cases h with
 |str s m h=>exact⟨s,rfl,h⟩
theorem dec_one {s:Sh}{m:Nat}{r:List D}(h:FitsL [s] m r):∃ d,r=[d]∧Fits s m d:=by
 cases h with
 |@cons _ a b _ d _ ds h1 h2 h3 =>
  cases h2
  exact⟨d,rfl,h1.mono' (by omega)⟩
theorem dec_two {s t:Sh}{m:Nat}{r:List D}(h:FitsL [s,t] m r):∃ d e,r=[d,e]∧Fits s m d∧Fits t m e:=by
 cases h with
 |@cons _ a b _ d _ ds h1 h2 h3 =>
  obtain⟨e,rfl,h4⟩:=dec_one h2
  exact⟨d,e,rfl,h1.mono' (by omega),h4.mono' (by omega)⟩
theorem dec_three {s t u:Sh}{m:Nat}{r:List D}(h:FitsL [s,t,u] m r):∃ d e f,r=[d,e,f]∧Fits s m d∧Fits t m e∧Fits u m f:=by
 cases h with
 |@cons _ a b _ d _ ds h1 h2 h3 =>
  obtain⟨e,f,rfl,h4,h5⟩:=dec_two h2
  exact⟨d,e,f,rfl,h1.mono' (by omega),h4.mono' (by omega),h5.mono' (by omega)⟩
theorem dec_four {s t u v:Sh}{m:Nat}{r:List D}(h:FitsL [s,t,u,v] m r):∃ d e f g,r=[d,e,f,g]∧Fits s m d∧Fits t m e∧Fits u m f∧Fits v m g:=by
 cases h with
 |@cons _ a b _ d _ ds h1 h2 h3 =>
  obtain⟨e,f,g,rfl,h4,h5,h6⟩:=dec_three h2
  exact⟨d,e,f,g,rfl,h1.mono' (by omega),h4.mono' (by omega),h5.mono' (by omega),h6.mono' (by omega)⟩
theorem dec_five {s t u v x:Sh}{m:Nat}{r:List D}(h:FitsL [s,t,u,v,x] m r):∃ d e f g k,r=[d,e,f,g,k]∧Fits s m d∧Fits t m e∧Fits u m f∧Fits v m g∧Fits x m k:=by
 cases h with
 |@cons _ a b _ d _ ds h1 h2 h3 =>
  obtain⟨e,f,g,k,rfl,h4,h5,h6,h7⟩:=dec_four h2
  exact⟨d,e,f,g,k,rfl,h1.mono' (by omega),h4.mono' (by omega),h5.mono' (by omega),h6.mono' (by omega),h7.mono' (by omega)⟩
theorem dec_sl {fs:List Sh}{m:Nat}{d:D}(h:Fits (.sl fs) m d):∃ rows,d = .sl fs.length rows∧FitsR fs m rows:=by
 cases h with
 |sl fs m rows h=>exact⟨rows,rfl,h⟩
theorem dec_pair (r:List D) (m:Nat) (h:FitsL shPair m r):∃ p:Pair,r=p.enc∧(p.key.length≤m∧inI p.n):=by
 obtain⟨d,e,rfl,h1,h2⟩:=dec_two h
 obtain⟨s,rfl,hs⟩:=dec_str h1
 obtain⟨n,rfl,hn⟩:=dec_int h2
 exact⟨⟨s,n⟩,rfl,hs,hn⟩
theorem dec_text (r:List D) (m:Nat) (h:FitsL [.str] m r):∃ s:Str,r=encStr1 s∧s.length≤m:=by
 obtain⟨d,rfl,h1⟩:=dec_one h
 obtain⟨s,rfl,hs⟩:=dec_str h1
 exact⟨s,rfl,hs⟩
theorem dec_ins (r:List D) (m:Nat) (h:FitsL shIns m r):∃ i:Ins,r=i.enc∧(i.key.length≤m∧inI i.kind∧inI i.a∧inI i.b∧inI i.n):=by
 obtain⟨d,e,f,g,k,rfl,h1,h2,h3,h4,h5⟩:=dec_five h
 obtain⟨a,rfl,ha⟩:=dec_int h1
 obtain⟨b,rfl,hb⟩:=dec_int h2
 obtain⟨c,rfl,hc⟩:=dec_int h3
 obtain⟨n,rfl,hn⟩:=dec_int h4
 obtain⟨s,rfl,hs⟩:=dec_str h5
 exact⟨⟨a,b,c,n,s⟩,rfl,hs,ha,hb,hc,hn⟩
structure Deed.In (d:Deed) (m:Nat):Prop where
 r:d.reads.length≤m
 w:d.writes.length≤m
 c:d.code.length≤m
 rk:∀ s∈d.reads,s.length≤m
 wk:∀ s∈d.writes,s.length≤m
 ck:∀ i∈d.code,i.key.length≤m
theorem Deed.In.sm {d:Deed}{m:Nat}(h:Deed.In d m) (hm:m≤1048576):d.Sm :=
 ⟨by have:=h.r;omega,by have:=h.w;omega,by have:=h.c;omega,fun s hs=>by have:=h.rk s hs;omega,fun s hs=>by have:=h.wk s hs;omega⟩
theorem Deed.In.mono {d:Deed}{m n:Nat}(h:Deed.In d m) (hm:m≤n):Deed.In d n :=
 ⟨by have:=h.r;omega,by have:=h.w;omega,by have:=h.c;omega,fun s hs=>by have:=h.rk s hs;omega,fun s hs=>by have:=h.wk s hs;omega,fun s hs=>by have:=h.ck s hs;omega⟩
theorem dec_deed (r:List D) (m:Nat) (h:FitsL shDeed m r):∃ d:Deed,r=d.enc∧Deed.In d m:=by
 obtain⟨x,y,z,rfl,h1,h2,h3⟩:=dec_three h
 obtain⟨r1,rfl,hr1⟩:=dec_sl h1
 obtain⟨r2,rfl,hr2⟩:=dec_sl h2
 obtain⟨r3,rfl,hr3⟩:=dec_sl h3
 obtain⟨a,rfl,ha,hal⟩:=fitsR_all dec_text hr1
 obtain⟨b,rfl,hb,hbl⟩:=fitsR_all dec_text hr2
 obtain⟨c,rfl,hc,hcl⟩:=fitsR_all dec_ins hr3
 exact⟨⟨a,b,c⟩,rfl,hal,hbl,hcl,fun s hs=>let ⟨_,h1,h2⟩:=ha s hs;Nat.le_trans h2 h1,fun s hs=>let ⟨_,h1,h2⟩:=hb s hs;Nat.le_trans h2 h1,fun s hs=>let ⟨_,h1,h2⟩:=hc s hs;Nat.le_trans h2.1 h1⟩
theorem dec_rows {m:Nat}{d:D}(h:Fits (.sl shPair) m d):∃ l:List Pair,d=encRows l∧l.length≤m∧∀ p∈l,p.key.length≤m∧inI p.n:=by
 obtain⟨rows,rfl,hr⟩:=dec_sl h
 obtain⟨l,rfl,hl,hn⟩:=fitsR_all dec_pair hr
 exact⟨l,rfl,hn,fun p hp=>let ⟨_,h1,h2⟩:=hl p hp;⟨Nat.le_trans h2.1 h1,h2.2⟩⟩
end Go.Proofs.YtfpkamiobdkcpaaDoor
namespace Go.AX
open Go.RowKit
variable {cx:Cx}{g:Nat→Value}{σ σ':St}{a:Act}{w w':World}{nx:Nat}{c:Code}{Q:Exit→St→Prop}
variable {ty:TypeId}{pos:String}{af:Array Edge}{gd:Option (Nat×Bool)}{d:Nat}
def RowsAt (w:World) (base:Nat) (own:Nat→Prop) (e k:Nat) (v:Value) (rows:List (List D)):Prop :=
 ∃ xs:List Value,w.ownsRow base e k v rows.length xs∧(∀ x∈xs,Value.oneCell' x=true)∧(∀ r∈rows,r.length=k) ∧
  ∀ (i j:Nat) (r:List D) (d:D) (x:Value),rows[i]? = some r→r[j]? = some d→xs[i*k+j]? = some x→Rd w own x d
def with1 (own:Nat→Prop) (v:Value):Nat→Prop:=fun b=>own b∨blk v=some b
theorem ownsRow_base {base base':Nat}{e k:Nat}{v:Value}{n:Nat}{xs:List Value}(h:w.ownsRow base e k v n xs) (hb:∀ b,blk v=some b→base'≤b):w.ownsRow base' e k v n xs:=by
 refine⟨h.1,?_⟩
 rcases h.2 with h1|⟨g,cap,cur,hv,h1,h2⟩
 ·
  exact .inl h1
 ·
  exact .inr ⟨g,cap,cur,hv,hb g (by rw[hv];rfl),h2⟩
theorem RowsAt.lt {base e k:Nat}{own:Nat→Prop}{v:Value}{rows:List (List D)}(h:RowsAt w base own e k v rows) {b:Nat}(hb:blk v=some b):base≤b∧b < w.heap.size:=by
 obtain⟨xs,h1,_⟩:=h
 exact h1.lt b (by rw[← blk_own h1];exact hb)
theorem RowsAt.re {base base' e k:Nat}{own own':Nat→Prop}{v:Value}{rows:List (List D)}(h:RowsAt w base own e k v rows) (hb:∀ b,blk v=some b→base'≤b) (ho:∀ b,own' b→own b):RowsAt w base' own' e k v rows:=by
 obtain⟨xs,h1,h2,h3,h4⟩:=h
 exact⟨xs,ownsRow_base h1 hb,h2,h3,fun i j r d x hi hj hx=>(h4 i j r d x hi hj hx).less ho⟩
theorem RowsAt.rd {base e k:Nat}{own own':Nat→Prop}{v:Value}{rows:List (List D)}(h:RowsAt w base own e k v rows) (ho:∀ b,own' b→own b∧blk v≠some b):Rd w own' v (.sl k rows):=by
 obtain⟨xs,h1,h2,h3,h4⟩:=h
 rcases h1.2 with ⟨hv,hn⟩|⟨b,cap,cur,hv,hb,hh,hle,hcm,hsz,htk⟩
 ·
  obtain rfl:rows=[]:=List.eq_nil_of_length_eq_zero hn
  rw[hv];exact .nil none 0 k
 ·
  have hlt:b < w.heap.size:=by
   rcases Nat.lt_or_ge b w.heap.size with h|h
   ·
    exact h
   ·
    rw[Array.getElem?_eq_none h]at hh;cases hh
  have hx:∀ i j r d,rows[i]? = some r→r[j]? = some d→∃ x,xs[i*k+j]? = some x∧w.cell? ((⟨b,0,none⟩:Addr).add (i*k+j))=some x:=by
   intro i j r d hi hj
   have hil:=(List.getElem?_eq_some_iff.1 hi).1
   have hjl:j < k:=by rw[← h3 r (List.mem_of_getElem? hi)];exact(List.getElem?_eq_some_iff.1 hj).1
   have hlen:i*k+j < xs.length:=by
    rw[h1.1]
    have h5:(i+1)*k≤rows.length*k:=Nat.mul_le_mul_right _ hil
    rw[Nat.add_mul,Nat.one_mul]at h5
    omega
   exact⟨xs[i*k+j],List.getElem?_eq_getElem hlen,h1.cells (g:=b) (by rw[hv];rfl) _ _ (List.getElem?_eq_getElem hlen)⟩
  have hblk:blk v=some b:=by rw[hv];rfl
  rw[hv]
  refine .sl ⟨b,0,none⟩ cap k rows (fun i j=>xs.getD (i*k+j) undef) (fun h0=>(ho b h0).2 hblk) hlt hle h3 (fun i j r d hi hj=>?_) (fun i j r d hi hj=>?_) fun i j r d hi hj=>?_
  ·
   obtain⟨x,h5,h6⟩:=hx i j r d hi hj
   rw[h6];simp[List.getD,h5]
  ·
   obtain⟨x,h5,h6⟩:=hx i j r d hi hj
   simp only[List.getD,h5,Option.getD_some]
   exact h2 x (List.mem_of_getElem? h5)
  ·
   obtain⟨x,h5,h6⟩:=hx i j r d hi hj
   simp only[List.getD,h5,Option.getD_some]
   exact(h4 i j r d x hi hj h5).less fun b hb=>(ho b hb).1
theorem RowsAt.at {base e k:Nat}{own:Nat→Prop}{v:Value}{rows:List (List D)}(h:RowsAt w base own e k v rows) {i j:Nat}{r:List D}{x0:Value}{d':D}(hi:rows[i]? = some r) (hj:r[j]? = some (.v x0)) (hd:Rd w own x0 d') :
  RowsAt w base own e k v (rows.set i (r.set j d')):=by
 obtain⟨xs,h1,h2,h3,h4⟩:=h
 have hil:=(List.getElem?_eq_some_iff.1 hi).1
 have hjl:=(List.getElem?_eq_some_iff.1 hj).1
 refine⟨xs,by simpa using h1,h2,fun r' hr'=>?_,fun i' j' r' z x hi' hj' hx=>?_⟩
 ·
  rcases List.mem_or_eq_of_mem_set hr' with h|h
  ·
   exact h3 r' h
  ·
   subst h;simp;exact h3 r (List.mem_of_getElem? hi)
 ·
  by_cases he:i=i'
  ·
   subst he
   rw[List.getElem?_set_self hil]at hi'
   cases hi'
   by_cases hf:j=j'
   ·
    subst hf
    rw[List.getElem?_set_self hjl]at hj'
    cases hj'
    have:=h4 i j r (.v x0) x hi hj hx
    rw[rd_v this];exact hd
   ·
    rw[List.getElem?_set_ne hf]at hj'
    exact h4 i j' r z x hi hj' hx
  ·
   rw[List.getElem?_set_ne he]at hi'
   exact h4 i' j' r' z x hi' hj' hx
structure FnNew (P:Program) (f:FuncId) (args:List Arg) (e k:Nat) (rows:List (List D)):Prop where
 run : ∃ fn, P.funcs[f]? = some fn ∧ (fn.name == "runtime.NumGoroutine") = false ∧ fn.body.isNone = false
 calls:∀ (w:World) (own:Nat→Prop) (vs:List Value),((∀ b,own b→b < w.heap.size)∧Gl P w)→ArgsOk w own vs args →
  Calls P f vs.toArray w fun r w'=>∃ v,r = .returned v∧Below w.heap.size w w'∧RowsAt w' w.heap.size (with1 own v) e k v rows
inductive RetNew (σ:St) (t e k:Nat) (rows:List (List D)):Prop
 |own {id n:Nat} (h:get σ (.s t) = .av (.own id n)) (ho:get σ (.o id) = .ob (.arr e k rows)) (hn:n=rows.length)
 |nil (h:get σ (.s t) = .av (.d (.v nilS))) (hr:rows=[])
def newQ (t e k:Nat) (rows:List (List D)):Exit→St→Prop
 |.normal,σ=>RetNew σ t e k rows
 |.ret,σ=>RetNew σ t e k rows
 |_,_=>False
theorem objRows (hs:SimG cx σ a w g nx) {id e k:Nat}{rows:List (List D)}(ho:get σ (.o id) = .ob (.arr e k rows)):RowsAt w cx.w0.heap.size (cx.own g σ) e k (g id) rows:=(hs.objs id _ ho).2.1
theorem RetNew.ok (hs:SimG cx σ a w g nx) {t e k:Nat}{rows:List (List D)}(h:RetNew σ t e k rows):RowsAt w cx.w0.heap.size (with1 cx.own0 (a.tmps.getD t undef)) e k (a.tmps.getD t undef) rows:=by
 cases h with
 |@own id n h ho hn =>
  have hv:a.tmps.getD t undef=g id:=((hs.slots t _ h).1.2 e k rows ho).2 hn
  rw[hv]
  refine(objRows hs ho).re (fun b hb=>obj_ge hs ho hb) fun b hb=>?_
  rcases hb with hb|hb
  ·
   exact .inl hb
  ·
   exact .inr ⟨id,_,ho,hb⟩
 |nil h hr =>
  subst hr
  rw[rd_v (hs.slots t _ h).1]
  exact⟨[],World.ownsRow_nil _ _ _ _,by simp,by simp,by simp⟩
theorem fnNew_of {P:Program}{T:Tbl}(hT:TOk P T) (hm:P.follows .mixedOrders=true) {f:FuncId}{fn:Func}{c:Code}{t e k:Nat}{args:List Arg}{rows:List (List D)}
  (hf : P.funcs[f]? = some fn) (hb : fn.body = some c) (hname : (fn.name == "runtime.NumGoroutine") = false) (hr : fn.results = #[.tmp t]) (hn : Nat.ble args.length fn.ntmps = true)
  (h:∀ w0 own0,CW ⟨P,T,hT,hm,fn.ntmps,w0,own0,0,[]⟩ c (newQ t e k rows) (argSt 0 args)):FnNew P f args e k rows:=by
 refine⟨⟨fn,hf,hname,by rw[hb];rfl⟩,fun w own vs hown ha=>?_⟩
 have hsim:=entry_sim (P:=P) (T:=T) (hT:=hT) (hm:=hm) (n:=fn.ntmps) hown ha (by simpa using hn)
 refine calls_of_wp hf hb (wp_mono (h w own _ _ hsim) fun x a' w' he=>?_)
 obtain⟨σ',⟨g,nx,hg⟩,hq⟩:=he
 have fin:∀ hq:RetNew σ' t e k rows,a'.defers=[]∧∃ v,(results fn a'.tmps).run P w' = .ok v w'∧∃ v',Ending.returned v = .returned v'∧Below w.heap.size w w'∧RowsAt w' w.heap.size (with1 own v') e k v' rows:=by
  intro hq
  exact⟨hg.defers,_,by rw[results_one hr];simp[rvRun],_,rfl,hg.below,hq.ok hg⟩
 cases x with
 |normal=>exact fin hq
 |ret=>exact fin hq
 |exit j=>exact hq.elim
 |goto j=>exact hq.elim
 |panic c=>exact hq.elim
 |outgrown=>exact hq.elim
theorem FnNew.ok {P:Program}{f:FuncId}{args:List Arg}{e k:Nat}{rows:List (List D)}(h:FnNew P f args e k rows):FnOk P f args (.one (.sl k rows)):=by
 refine⟨h.run,fun w own vs hown ha=>(h.calls w own vs hown ha).mono fun r w' hr=>?_⟩
 obtain⟨v,rfl,h1,h2⟩:=hr
 exact⟨v,rfl,h1,h2.rd fun b hb=>⟨.inl hb,fun he=>by have:=(h2.lt he).1;have:=hown.1 b hb;omega⟩⟩
theorem SimG.join (hs:SimG cx σ a w g nx) (hb:Below w.heap.size w w') {v:Value}{o:Ob}{e k:Nat}{rows:List (List D)}(hr:RowsAt w' w.heap.size (with1 (cx.own g σ) v) e k v rows)
  (ho:o = .arr e k rows∨o = .pin e k rows v):SimG cx (objSt σ (nx+1) nx o) a w' (upd g nx v) (nx+1):=by
 have hge:=hs.below.size
 refine SimG.obj hs ⟨.inl ⟨rfl,rfl⟩,hb.mono hge,fun b hb' _=>hb.block b hb',fun b hb' => .inr (hr.lt hb').1⟩ (fun hl=>?_) (by rcases ho with rfl|rfl <;> trivial)
 have hre:RowsAt w' cx.w0.heap.size (cx.own (upd g nx v) (objSt σ (nx+1) nx o)) e k (upd g nx v nx) rows:=by
  rw[upd_same]
  refine hr.re (fun b hb'=>by have:=(hr.lt hb').1;omega) fun b hb'=>?_
  rcases hb' with h|⟨id,o',h1,h2⟩
  ·
   exact .inl (.inl h)
  ·
   by_cases hid:id=nx
   ·
    subst hid;rw[upd_same]at h2;exact .inr h2
   ·
    rw[objSt_o hid]at h1
    rw[upd_ne hid]at h2
    exact .inl (.inr ⟨id,o',h1,h2⟩)
 rcases ho with rfl|rfl
 ·
  exact hre
 ·
  exact⟨upd_same _ _ _,hre⟩
theorem call_run {P : Program} {f : FuncId} {xs : List Operand} {ats : Array TypeId} (hr : ∃ fn, P.funcs[f]? = some fn ∧ (fn.name == "runtime.NumGoroutine") = false ∧ fn.body.isNone = false) :
  (execOp a.eval ⟨some d,.call { callee := .value (.func f),args:=⟨xs⟩,argTypes:=ats },ty,pos,af,gd⟩).run P w = .ok (.enter f (xs.map a.eval).toArray) w:=by
 obtain⟨fn,h1,h2,h3⟩:=hr
 simp only[execOp,resolve,Deferred.ofValue,Act.eval,invoke,callFunc,Sem.run_bind,Sem.run_pure,Result.andThen_ok,run_program,h1,h2,h3,Bool.false_eq_true,if_false]
 simp
theorem ok_callnew {f:FuncId}{xs:List Operand}{avs:List AV}{ys:List Arg}{l:List (Key×Val)}{e k:Nat}{rows:List (List D)}{ats:Array TypeId}(hn:d < cx.n) (hc:FnNew cx.P f ys e k rows) (hsub:Subs xs avs ys l) :
  OpOk cx ⟨some d,.call { callee := .value (.func f),args:=⟨xs⟩,argTypes:=ats },ty,pos,af,gd⟩ ⟨l++[(.nx,.num nx)],[(.s d,.av (.own nx rows.length)),(.o nx,.ob (.arr e k rows)),(.nx,.num (nx+1))]⟩:=by
 rintro σ a w K Q ⟨g,n',hs⟩ hr hK
 have hnx:n'=nx:=by
  have h2:=hr.right.1
  rw[hs.hnx]at h2
  simpa using h2
 subst hnx
 have hcall:=hc.calls w (cx.own g σ) (xs.map a.eval) ⟨fun b hb=>own_lt hs hb,hs.gl⟩ (hsub.ok hs hr.left)
 unfold Oper.wp
 rw[call_run hc.run]
 refine hcall.mono fun r w' he=>?_
 obtain⟨v,rfl,hb,hres⟩:=he
 have hG:=SimG.join hs hb hres (.inl rfl)
 refine hK _ _ (Sim.put hG hn (Below.refl _ _) ?_ (Nat.lt_succ_self _))
 refine⟨.of get_cons_same,fun e' k' rows' hg=>?_⟩
 rw[get_cons_same]at hg
 cases hg
 exact⟨Nat.le_refl _,fun _=>by rw[upd_same]⟩
theorem a_callnew {f:FuncId}{xs:List Operand}{avs:List AV}{ys:List Arg}{l:List (Key×Val)}{e k:Nat}{rows:List (List D)}{ats:Array TypeId}(hc:FnNew cx.P f ys e k rows) (hn:get σ .nx = .num nx) (hd:Nat.blt d cx.n=true) (hsub:SubsE σ xs avs ys l) :
  OA cx σ ⟨some d,.call { callee := .value (.func f),args:=⟨xs⟩,argTypes:=ats },ty,pos,af,gd⟩ ⟨l++[(.nx,.num nx)],[(.s d,.av (.own nx rows.length)),(.o nx,.ob (.arr e k rows)),(.nx,.num (nx+1))]⟩ :=
 ⟨ok_callnew (lt_of_blt hd) hc hsub.out.1,hsub.out.2.append ⟨hn,trivial⟩⟩
end Go.AX
namespace Go.AX
open Go.RowKit
variable {cx:Cx}{g:Nat→Value}{σ σ':St}{a:Act}{w w':World}{nx:Nat}{c:Code}{Q:Exit→St→Prop}
variable {ty:TypeId}{pos:String}{af:Array Edge}{gd:Option (Nat×Bool)}{d:Nat}
inductive Part where
 |d (x:D)
 |own (e k:Nat) (rows:List (List D))
def withL (own:Nat→Prop) (ps:List Part) (cs:Array Value):Nat→Prop:=fun b=>own b∨∃ j e k rows,ps[j]? = some (.own e k rows)∧blk (cs.getD j undef)=some b
structure PartsAt (w:World) (base:Nat) (own:Nat→Prop) (ps:List Part) (cs:Array Value):Prop where
 size:cs.size=ps.length
 one:∀ (j:Nat) (c:Value),cs[j]? = some c→c.oneCell'=true
 data:∀ j x,ps[j]? = some (.d x)→Rd w (withL own ps cs) (cs.getD j undef) x
 rows:∀ j e k rows,ps[j]? = some (.own e k rows)→RowsAt w base (withL own ps cs) e k (cs.getD j undef) rows
 sep:∀ j j' e k rows e' k' rows' b,ps[j]? = some (.own e k rows)→ps[j']? = some (.own e' k' rows')→blk (cs.getD j undef)=some b→blk (cs.getD j' undef)=some b→j=j'
structure FnNews (P:Program) (f:FuncId) (args:List Arg) (ps:List Part):Prop where
 run : ∃ fn, P.funcs[f]? = some fn ∧ (fn.name == "runtime.NumGoroutine") = false ∧ fn.body.isNone = false
 calls:∀ (w:World) (own:Nat→Prop) (vs:List Value),((∀ b,own b→b < w.heap.size)∧Gl P w)→ArgsOk w own vs args →
  Calls P f vs.toArray w fun r w'=>∃ cs,r = .returned (.agg cs)∧Below w.heap.size w w'∧PartsAt w' w.heap.size own ps cs
inductive PartE (σ:St):AV→Part→Prop
 |d {x:D}:PartE σ (.d x) (.d x)
 |own {id n e k:Nat} {rows:List (List D)} (ho:get σ (.o id) = .ob (.arr e k rows)) (hn:n=rows.length):PartE σ (.own id n) (.own e k rows)
def ids:List AV→List Nat
 | []=>[]
 |.own id _::r=>id::ids r
 |_::r=>ids r
inductive PartsL (σ:St):List AV→List Part→Prop
 |nil:PartsL σ [] []
 |cons {av:AV} {p:Part} {avs:List AV} {ps:List Part} (h:PartE σ av p) (t:PartsL σ avs ps):PartsL σ (av::avs) (p::ps)
theorem PartsL.at {avs:List AV}{ps:List Part}(h:PartsL σ avs ps):avs.length=ps.length∧∀ (j:Nat) (p:Part),ps[j]? = some p→∃ av:AV,avs[j]? = some av∧PartE σ av p:=by
 induction h with
 |nil=>exact⟨rfl,fun j p h=>by simp at h⟩
 |cons h t ih =>
  refine⟨by simp[ih.1],fun j p hj=>?_⟩
  cases j with
  |zero=>simp at hj;subst hj;exact⟨_,rfl,h⟩
  |succ j=>simpa using ih.2 j p (by simpa using hj)
theorem ids_mem {id n:Nat}:∀ {avs:List AV}{j:Nat},avs[j]? = some (.own id n)→id∈ids avs
 |x::avs,0,h=>by
  obtain rfl:x = .own id n:=by simpa using h
  exact List.mem_cons_self ..
 |x::avs,j+1,h=>by
  have:=ids_mem (avs:=avs) (j:=j) (by simpa using h)
  cases x <;> simp[ids,this]
theorem ids_inj {id n m:Nat}:∀ {avs:List AV}{i j:Nat},(ids avs).Nodup→avs[i]? = some (.own id n)→avs[j]? = some (.own id m)→i=j
 |x::avs,0,0,_,_,_=>rfl
 |x::avs,0,j+1,h,hi,hj=>by
  obtain rfl:x = .own id n:=by simpa using hi
  simp only[ids,List.nodup_cons]at h
  exact absurd (ids_mem (by simpa using hj)) h.1
 |x::avs,i+1,0,h,hi,hj=>by
  obtain rfl:x = .own id m:=by simpa using hj
  simp only[ids,List.nodup_cons]at h
  exact absurd (ids_mem (by simpa using hi)) h.1
 |x::avs,i+1,j+1,h,hi,hj=>by
  have h':(ids avs).Nodup:=by
   cases x <;> simp only[ids,List.nodup_cons]at h <;> first|exact h.2|exact h
  exact congrArg (· + 1) (ids_inj (n:=n) (m:=m) h' (by simpa using hi) (by simpa using hj))
theorem parts_at (hs:SimG cx σ a w g nx) {avs:List AV}{ps:List Part}{v:Value}(hr:Rep cx g σ w v (.agg avs)) (hp:PartsL σ avs ps) (hn:(ids avs).Nodup):∃ cs,v = .agg cs∧PartsAt w cx.w0.heap.size cx.own0 ps cs:=by
 obtain⟨cs,h1,h2,h3,h4⟩:=hr
 obtain⟨hl,hat⟩:=hp.at
 refine⟨cs,h1,?_⟩
 have hc:∀ j p,ps[j]? = some p→∃ av,avs[j]? = some av∧PartE σ av p∧Rep1 cx g σ w (cs.getD j undef) av:=fun j p hj=>by
  obtain⟨av,h5,h6⟩:=hat j p hj
  have hlt:j < cs.size:=by rw[h2];exact(List.getElem?_eq_some_iff.1 h5).1
  have h7:cs[j]? = some cs[j]:=Array.getElem?_eq_getElem hlt
  refine⟨av,h5,h6,?_⟩
  rw[Array.getD_eq_getD_getElem?,h7]
  exact h4 j _ av h5 h7
 have hown:∀ j e k rows,ps[j]? = some (.own e k rows)→∃ id n,avs[j]? = some (.own id n)∧cs.getD j undef=g id∧get σ (.o id) = .ob (.arr e k rows):=fun j e k rows hj=>by
  obtain⟨av,h5,h6,h7⟩:=hc j _ hj
  cases h6 with
  |@own id n _ _ _ ho hn=>exact⟨id,n,h5,(h7.2 e k rows ho).2 hn,ho⟩
 have hle:∀ b,withL cx.own0 ps cs b→cx.own g σ b:=fun b hb=>by
  rcases hb with hb|⟨j,e,k,rows,hj,hb⟩
  ·
   exact .inl hb
  ·
   obtain⟨id,n,_,h6,h7⟩:=hown j e k rows hj
   exact .inr ⟨id,_,h7,by rw[← h6];exact hb⟩
 refine⟨by rw[h2,hl],h3,fun j x hj=>?_,fun j e k rows hj=>?_,fun j j' e k rows e' k' rows' b hj hj' hb hb'=>?_⟩
 ·
  obtain⟨av,h5,h6,h7⟩:=hc j _ hj
  cases h6 with
  |d=>exact Rd.less hle h7
 ·
  obtain⟨id,n,_,h6,h7⟩:=hown j e k rows hj
  rw[h6]
  exact(objRows hs h7).re (fun b hb=>obj_ge hs h7 hb) hle
 ·
  obtain⟨id,n,h5,h6,h7⟩:=hown j e k rows hj
  obtain⟨id',n',h5',h6',h7'⟩:=hown j' e' k' rows' hj'
  obtain rfl:=hs.sep id id' _ _ b h7 h7' (by rw[← h6];exact hb) (by rw[← h6'];exact hb')
  exact ids_inj hn h5 h5'
inductive RetNews (T:Tbl) (σ:St) (ps:List Part):ResultVar→Prop
 |tmp {t:Nat} {avs:List AV} (h:get σ (.s t) = .av (.agg avs)) (hp:PartsL σ avs ps) (hn:(ids avs).Nodup):RetNews T σ ps (.tmp t)
 |cell {s t id:Nat} {cells avs:List AV} {ti:TI} (h:get σ (.s s) = .av (.ptr id 0)) (ho:get σ (.o id) = .ob (.box cells)) (ht:tget T t=some ti)
   (hl:ldA ti cells=some (.agg avs)) (hp:PartsL σ avs ps) (hn:(ids avs).Nodup):RetNews T σ ps (.cell s t)
theorem RetNews.ok (hs:SimG cx σ a w g nx) {rv:ResultVar}{ps:List Part}(h:RetNews cx.T σ ps rv):∃ cs,(rvRun a.tmps rv).run cx.P w = .ok (.agg cs) w∧PartsAt w cx.w0.heap.size cx.own0 ps cs:=by
 cases h with
 |@tmp t avs h hp hn =>
  obtain⟨cs,h1,h2⟩:=parts_at hs (hs.slots t _ h).1 hp hn
  exact⟨cs,by rw[← h1];rfl,h2⟩
 |@cell s t id cells avs ti h ho ht hl hp hn =>
  obtain⟨v,h1,h2,_⟩:=load_ptr hs (x:=a.tmps.getD s undef) (off:=0) (hs.slots s _ h).1 ho ht (by simpa using hl)
  obtain⟨b,hg,hv⟩:=(hs.slots s _ h).1.2 cells ho
  obtain⟨cs,rfl,h3⟩:=parts_at hs h2 hp hn
  refine⟨cs,?_,h3⟩
  rw[hv]at h1
  simp only[rvRun,hv,asAddr,Sem.run_bind,Sem.run_pure,Result.andThen_ok]
  simpa[Instr.loadAt,Instr.sureAddr] using h1
def Part.dt:Part→D
 |.d x=>x
 |.own _ k rows => .sl k rows
theorem FnNews.ok {P:Program}{f:FuncId}{args:List Arg}{ps:List Part}(h:FnNews P f args ps):FnOk P f args (.one (.agg (ps.map Part.dt))):=by
 refine⟨h.run,fun w own vs hown ha=>(h.calls w own vs hown ha).mono fun r w' hr=>?_⟩
 obtain⟨cs,rfl,h1,h2⟩:=hr
 refine⟨.agg cs,rfl,h1,?_⟩
 refine .agg cs _ (by rw[h2.size,List.length_map]) h2.one fun j x c hj hc=>?_
 rw[List.getElem?_map]at hj
 cases hp:ps[j]? with
 |none=>rw[hp]at hj;cases hj
 |some p =>
  rw[hp]at hj
  simp at hj;subst hj
  have hcd:cs.getD j undef=c:=by rw[Array.getD_eq_getD_getElem?,hc];rfl
  cases p with
  |d x =>
   have:=h2.data j x hp
   rw[hcd]at this
   exact this.less fun b hb => .inl hb
  |own e k rows =>
   have:=h2.rows j e k rows hp
   rw[hcd]at this
   refine this.rd fun b hb=>⟨.inl hb,fun he=>?_⟩
   have:=(this.lt he).1
   have:=hown.1 b hb
   omega
end Go.AX
namespace Go.AX
open Go.RowKit
variable {cx:Cx}{g:Nat→Value}{σ:St}{a:Act}{w:World}{nx:Nat}
variable {ty:TypeId}{pos:String}{af:Array Edge}{gd:Option (Nat×Bool)}{d:Nat}
theorem app_core {t e k id:Nat}{x y:Operand}{rows rows2:List (List D)}{ti te:TI}{K:Act→World→Prop}{Q:Exit→Act→World→Prop}(hs:SimG cx σ a w g nx) (hn:d < cx.n) (hv:a.eval x=g id) (hy':Rd w (cx.own g σ) (a.eval y) (.sl k rows2)) (ht:tget cx.T t=some ti) (hk:ti.kind = .sl e k)
  (hte:tget cx.T e=some te) (hby:te.bytes≤65536) (ho:get σ (.o id) = .ob (.arr e k rows)) (hlen:rows.length+rows2.length≤1073741824)
  (hK:∀ a' w',Sim cx ([(.s d,.av (.own id (rows.length+rows2.length))),(.o id,.ob (.arr e k (rows++rows2)))]++σ) a' w'→K a' w') :
  (⟨some d,.call { callee := .builtin .append,args := #[x,y],argTypes := #[t,t] },ty,pos,af,gd⟩:Oper).wp cx.P a w K Q:=by
 obtain⟨hid,⟨xs,h1,h2,h3,h4⟩,_⟩:=hs.objs id _ ho
 have hF:=(cx.hT t ti ht).kind
 rw[hk]at hF
 obtain⟨hu,⟨ie,hie,hks⟩,hk0,_⟩:=hF
 obtain⟨ie',hie',hes,heb,z,hz,hzc⟩:=(cx.hT e te hte).info
 rw[hie]at hie'
 cases hie'
 have hzl:z.cells.size=k:=by
  have:=(cx.hT e te hte).len
  rw[← hzc]at this
  simp at this
  omega
 have hrunS:∀ (v':Value) (w':World),(Builtin.append_ #[t,t] ty #[g id,a.eval y]).run cx.P w = .ok v' w' →
   (execOp a.eval ⟨some d,.call { callee := .builtin .append,args := #[x,y],argTypes := #[t,t] },ty,pos,af,gd⟩).run cx.P w = .ok (.value v') w':=by
  intro v' w' h
  simp[execOp,resolve,invoke,builtin,hv,h]
 by_cases hne:rows2=[]
 ·
  subst hne
  have hyv:∃ p c,a.eval y = .slice p 0 c:=by
   generalize a.eval y=v at hy'
   generalize hD:D.sl k []=D0 at hy'
   cases hy' with
   |v=>cases hD
   |x=>cases hD
   |agg=>cases hD
   |nil p c=>exact⟨p,c,rfl⟩
   |sl ad cap=>cases hD;exact⟨_,cap,rfl⟩
  obtain⟨p,c,hyv⟩:=hyv
  have hrun:=hrunS (g id) w (by rw[hyv];exact append_nothing hu hie h1)
  refine wp_val rfl hrun (hK _ _ (Sim.eqv (Sim.put hs hn (Below.refl _ _) (av := .own id (rows.length+0)) ⟨.of ho,fun e' k' rows' hg=>?_⟩ hid) fun q=>?_))
  ·
   rw[ho]at hg
   cases hg
   exact⟨Nat.le_refl _,fun _=>rfl⟩
  ·
   cases q with
   |s i =>
    by_cases hi:i=d
    ·
     subst hi;rw[get_cons_same];exact get_cons_same.symm
    ·
     rw[get_cons_ne (by simpa using fun e=>hi e.symm)]
     exact((get_cons_ne (by simpa using fun e=>hi e.symm)).trans (get_cons_ne (by simp))).symm
   |o i =>
    rw[get_cons_ne (by simp)]
    by_cases hi:i=id
    ·
     subst hi
     rw[ho]
     exact((get_cons_ne (by simp)).trans (get_cons_same.trans (by rw[List.append_nil]))).symm
    ·
     exact((get_cons_ne (by simp)).trans (get_cons_ne (by simpa using fun e=>hi e.symm))).symm
   |nx=>rw[get_cons_ne (by simp)];exact((get_cons_ne (by simp)).trans (get_cons_ne (by simp))).symm
 ·
  obtain⟨ad,c,news,hyv,hnl,hnc,hn1,hnr⟩:=sl_cells hy' hne
  have hbytes:(rows.length+rows2.length)*te.bytes≤140737488355328:=Nat.le_trans (Nat.mul_le_mul hlen hby) (by decide)
  obtain⟨v',w',hrun0,hown,hgr,_,hat⟩:=run_append_own_at (P:=cx.P) w cx.w0.heap.size t ty e ie z k te.bytes hu hie hz hks heb hzl hk0 (g id) rows.length xs h1 ad rows2.length c news hnl hnc hn1 (by simp only[maxLen];omega) hbytes hs.below.size
  have hrun:=hrunS v' w' (by rw[hyv];exact hrun0)
  have hlen2:0 < rows2.length:=List.length_pos_iff.2 hne
  have hgb:∀ b,blk (g id)=some b↔(g id).ownBlock=some b:=fun b=>by rw[blk_own h1]
  have hst:ObjStep cx σ g nx nx w w' id (.arr e k (rows++rows2)) v':=by
   refine⟨.inr ⟨rfl,_,ho,rfl,rfl,by simp,fun h=>?_⟩,?_,fun b hb hno=>?_,fun b hb=>?_⟩
   ·
    rw[List.length_append]at h;omega
   ·
    exact(Below.refl _ _).grown hgr hs.below.size fun q hq=>obj_ge hs ho (by rw[hgb];exact hq)
   ·
    exact hgr.block b hb fun e=>hno _ ho (by rw[hgb];exact e.symm)
   ·
    have hb':v'.ownBlock=some b:=by rw[← blk_own hown];exact hb
    rcases hat with h|h
    ·
     exact .inl ⟨_,ho,by rw[hgb,← h];exact hb'⟩
    ·
     rw[h]at hb'
     right
     simp at hb'
     omega
  have hG:=SimG.obj hs hst (fun hl=>⟨xs++news,by rw[upd_same,List.length_append];exact hown,fun u hu=>?_,fun r hr'=>?_,fun i j r q u hi hj hu=>?_⟩) trivial
  ·
   refine wp_val rfl hrun (hK _ _ (Sim.eqv (Sim.put hG hn (Below.refl _ _) (av := .own id (rows.length+rows2.length)) ⟨.of get_cons_same,fun e' k' rows' hg=>?_⟩ hid) fun q=>?_))
   ·
    rw[get_cons_same]at hg
    cases hg
    exact⟨by simp,fun _=>(upd_same _ _ _).symm⟩
   ·
    cases q with
    |s i =>
     by_cases hi:i=d
     ·
      subst hi;rw[get_cons_same];exact get_cons_same.symm
     ·
      rw[get_cons_ne (by simpa using fun e=>hi e.symm),objSt_s]
      exact((get_cons_ne (by simpa using fun e=>hi e.symm)).trans (get_cons_ne (by simp))).symm
    |o i =>
     rw[get_cons_ne (by simp)]
     by_cases hi:i=id
     ·
      subst hi
      rw[get_cons_same]
      exact((get_cons_ne (by simp)).trans get_cons_same).symm
     ·
      rw[objSt_o hi]
      exact((get_cons_ne (by simp)).trans (get_cons_ne (by simpa using fun e=>hi e.symm))).symm
    |nx =>
     rw[get_cons_ne (by simp),objSt_nx]
     exact(((get_cons_ne (by simp)).trans (get_cons_ne (by simp))).trans hs.hnx).symm
  ·
   rcases List.mem_append.1 hu with hu|hu
   ·
    exact h2 u hu
   ·
    exact hn1 u hu
  ·
   rcases List.mem_append.1 hr' with hr'|hr'
   ·
    exact h3 r hr'
   ·
    exact sl_k hy' r hr'
  ·
   rcases Nat.lt_or_ge i rows.length with hil|hil
   ·
    rw[List.getElem?_append_left hil]at hi
    have hjk:j < k:=by
     have:=(List.getElem?_eq_some_iff.1 hj).1
     rw[h3 r (List.mem_of_getElem? hi)]at this
     exact this
    have hlt:i*k+j < xs.length:=by
     rw[h1.1]
     have h5:(i+1)*k≤rows.length*k:=Nat.mul_le_mul_right _ hil
     rw[Nat.add_mul,Nat.one_mul]at h5
     omega
    rw[List.getElem?_append_left hlt]at hu
    exact(h4 i j r q u hi hj hu).step hl.ext hl.own
   ·
    rw[List.getElem?_append_right hil]at hi
    have he:i*k+j=xs.length+((i - rows.length)*k+j):=by
     rw[h1.1,Nat.sub_mul]
     have:rows.length*k≤i*k:=Nat.mul_le_mul_right _ hil
     omega
    rw[he,List.getElem?_append_right (by omega),Nat.add_sub_cancel_left]at hu
    exact(hnr _ j r q u hi hj hu).step hl.ext hl.own
theorem a_appnil {t e k:Nat}{y:Operand}{rows2:List (List D)}{ti te:TI}(hnx:get σ .nx = .num nx) (hy:ev σ y=some (.d (.sl k rows2))) (ht:tget cx.T t=some ti) (hk:ti.kind = .sl e k)
  (hte:tget cx.T e=some te) (hby:Nat.ble te.bytes 65536=true) (hd:Nat.blt d cx.n=true) (hlen:rows2.length≤1073741824) :
  OA cx σ ⟨some d,.call { callee := .builtin .append,args := #[.const nilS,y],argTypes := #[t,t] },ty,pos,af,gd⟩
   ⟨(.nx,.num nx)::rdOf y (.d (.sl k rows2)),[(.s d,.av (.own nx rows2.length)),(.o nx,.ob (.arr e k rows2)),(.o nx,.ob (.arr e k [])),(.nx,.num (nx+1))]⟩:=by
 refine⟨?_,hnx,(ev_out hy).2⟩
 rintro σ a w K Q ⟨g,n',hs⟩ hr hK
 have hnx:n'=nx:=by
  have h2:=hr.1
  rw[hs.hnx]at h2
  simpa using h2
 subst hnx
 have hG:=newArr (w':=w) (hv:=nilS) (e:=e) (k:=k) hs (Below.refl _ _) (fun b hb=>by simp[blk]at hb) (World.ownsRow_nil w _ e k)
 have hy':Rd w (cx.own g σ) (a.eval y) (.sl k rows2):=(hs.ev (ev_out hy).1 hr.2).1
 have hle:∀ b,cx.own (upd g n' nilS) (objSt σ (n'+1) n' (.arr e k [])) b→cx.own g σ b:=by
  rintro b (h|⟨j,o,h1,h2⟩)
  ·
   exact .inl h
  ·
   by_cases hj:j=n'
   ·
    subst hj;rw[upd_same]at h2;simp[blk]at h2
   ·
    rw[objSt_o hj]at h1
    rw[upd_ne hj]at h2
    exact .inr ⟨j,o,h1,h2⟩
 have:=app_core (ty:=ty) (pos:=pos) (af:=af) (gd:=gd) (x := .const nilS) (K:=K) (Q:=Q) (rows:=[]) hG (lt_of_blt hd) (by rw[upd_same];rfl) (hy'.less hle) ht hk hte (by simpa using hby) get_cons_same (by simpa using hlen) fun a' w' h=>hK a' w' ?_
 ·
  exact this
 ·
  simpa using h
end Go.AX
namespace Go.AX
open Go.RowKit
variable {cx:Cx}{g:Nat→Value}{σ:St}{a:Act}{w:World}{nx:Nat}
variable {ty:TypeId}{pos:String}{af:Array Edge}{gd:Option (Nat×Bool)}{d:Nat}
def RdG (R:Value→AV→Prop) (cs:List Value) (ds:List AV):Prop :=
 cs.length=ds.length∧(∀ c∈cs,Value.oneCell' c=true)∧∀ (j:Nat) (c:Value) (x:AV),ds[j]? = some x→cs[j]? = some c→R c x
inductive PartsV (σ:St):List (Nat×Operand)→List (Nat×List AV)→List (Key×Val)→Prop
 |nil:PartsV σ [] [] []
 |cons {i:Nat} {x:Operand} {r:List (Nat×Operand)} {av:AV} {ds:List AV} {q:List (Nat×List AV)} {l lo:List (Key×Val)} (hx:ev σ x=some av) (hc:cellsOf av=some ds) (hl:nwRd av lo∧App σ lo) (hr:PartsV σ r q l) :
   PartsV σ ((i,x)::r) ((i,ds)::q) (rdOf x av++(lo++l))
inductive PartsW:List (Nat×Operand)→List (Nat×List AV)→List (Key×Val)→Prop
 |nil:PartsW [] [] []
 |cons {i:Nat} {x:Operand} {r:List (Nat×Operand)} {av:AV} {ds:List AV} {q:List (Nat×List AV)} {l lo:List (Key×Val)} (hx:EvS x av) (hc:cellsOf av=some ds) (hl:nwRd av lo) (hr:PartsW r q l) :
   PartsW ((i,x)::r) ((i,ds)::q) (rdOf x av++(lo++l))
theorem PartsV.out {ps:List (Nat×Operand)}{qs:List (Nat×List AV)}{l:List (Key×Val)}(h:PartsV σ ps qs l):PartsW ps qs l∧App σ l:=by
 induction h with
 |nil=>exact⟨.nil,trivial⟩
 |cons hx hc hl hr ih=>exact⟨.cons (ev_out hx).1 hc hl.1 ih.1,(ev_out hx).2.append (hl.2.append ih.2)⟩
theorem PartsW.ok (hs:SimG cx σ a w g nx) {ps:List (Nat×Operand)}{qs:List (Nat×List AV)}{l:List (Key×Val)}(h:PartsW ps qs l) (ha:App σ l) :
  (ps.map fun p=>(p.1,a.eval p.2)).length=qs.length ∧
  (∀ (j:Nat) (p:Nat×Value) (q:Nat×List AV),(ps.map fun p=>(p.1,a.eval p.2))[j]? = some p→qs[j]? = some q→p.1=q.1∧RdG (Rep1 cx g σ w) p.2.cells.toList q.2) ∧
  ∀ q∈qs,∀ av∈q.2,av.bd1 nx:=by
 induction h with
 |nil=>exact⟨rfl,fun j p q h=>by simp at h,by simp⟩
 |cons hx hc hl hr ih =>
  obtain⟨h1,h2,h3⟩:=ih ha.right.right
  obtain⟨hrep,hbd⟩:=hs.ev hx ha.left
  obtain⟨c1,c2,c3,c4⟩:=cells_of hrep hbd hc (one_of hs hrep (newest_of hl ha.right.left))
  refine⟨by simpa using h1,fun j p q hj hq=>?_,fun q hq=>?_⟩
  ·
   cases j with
   |zero =>
    simp at hj hq
    subst hj hq
    refine⟨rfl,by simpa using c1,fun c hc=>?_,fun j c x hx hc=>c3 j c x hx (by simpa using hc)⟩
    obtain⟨j,hj⟩:=List.getElem?_of_mem hc
    exact c2 j c (by simpa using hj)
   |succ j=>exact h2 j p q (by simpa using hj) (by simpa using hq)
  ·
   rcases List.mem_cons.1 hq with rfl|hq
   ·
    exact c4
   ·
    exact h3 q hq
end Go.AX
namespace Go.AX
open Go.RowKit Go.RF
variable {cx:Cx}{g:Nat→Value}{σ:St}{a:Act}{w w':World}{nx:Nat}
variable {ty:TypeId}{pos:String}{af:Array Edge}{gd:Option (Nat×Bool)}{d:Nat}
theorem extract_str (s:List UInt8) (l h:Nat):Value.string ((⟨s.toArray⟩:ByteArray).extract l h)=str ((s.drop l).take (h - l)):=by
 have:(⟨s.toArray⟩:ByteArray).extract l h=⟨((s.drop l).take (h - l)).toArray⟩:=by
  apply ByteArray.ext
  rw[ByteArray.data_extract]
  simp
 rw[this];rfl
theorem a_sub {t:TypeId}{x lo hi:Operand}{kd ke:IntKind}{s:List UInt8}{l h:Nat}{ti:TI}(hx:ev σ x=some (.d (.v (str s)))) (hlo:ev σ lo=some (.d (.v (.int kd (l:Int))))) (hhi:ev σ hi=some (.d (.v (.int ke (h:Int)))))
  (ht:tget cx.T t=some ti) (hk:ti.kind = .str) (hd:Nat.blt d cx.n=true) (hlh:l≤h) (hh:h≤s.length) :
  OA cx σ ⟨some d,.slice t x (some lo) (some hi) none,ty,pos,af,gd⟩ ⟨rdOf x (.d (.v (str s)))++(rdOf lo (.d (.v (.int kd (l:Int))))++rdOf hi (.d (.v (.int ke (h:Int))))),[(.s d,.av (.d (.v (str ((s.drop l).take (h - l))))))]⟩:=by
 refine⟨ok_val rfl (lt_of_blt hd) fun σ1 a w g nx hs hr=>?_,(ev_out hx).2.append ((ev_out hlo).2.append (ev_out hhi).2)⟩
 have hv:=rep_v (hs.ev (ev_out hx).1 hr.left).1
 have h1:=rep_v (hs.ev (ev_out hlo).1 hr.right.left).1
 have h2:=rep_v (hs.ev (ev_out hhi).1 hr.right.right).1
 have hu:cx.P.underlying t=some .string:=by have:=(cx.hT t ti ht).kind;rw[hk]at this;exact this.1
 refine⟨_,w,?_,Below.refl _ _,Rd.v _,trivial⟩
 have hsz:(⟨s.toArray⟩:ByteArray).size=s.length:=rfl
 have e1:¬ ((h:Int) < 0):=by omega
 have e2:¬ ((l:Int) < 0):=by omega
 rw[← extract_str]
 simp[execOp,hv,h1,h2,str,Instr.sliceAt,Instr.slice,run_underlying hu,Instr.sliceBounds,Instr.sliceBound,asIntOf,hsz,hlh,hh,e1,e2]
theorem a_subF {t:TypeId}{x lo:Operand}{kd:IntKind}{s:List UInt8}{l:Nat}{ti:TI}(hx:ev σ x=some (.d (.v (str s)))) (hlo:ev σ lo=some (.d (.v (.int kd (l:Int)))))
  (ht:tget cx.T t=some ti) (hk:ti.kind = .str) (hd:Nat.blt d cx.n=true) (hh:l≤s.length) :
  OA cx σ ⟨some d,.slice t x (some lo) none none,ty,pos,af,gd⟩ ⟨rdOf x (.d (.v (str s)))++rdOf lo (.d (.v (.int kd (l:Int)))),[(.s d,.av (.d (.v (str (s.drop l)))))]⟩:=by
 refine⟨ok_val rfl (lt_of_blt hd) fun σ1 a w g nx hs hr=>?_,(ev_out hx).2.append (ev_out hlo).2⟩
 have hv:=rep_v (hs.ev (ev_out hx).1 hr.left).1
 have h1:=rep_v (hs.ev (ev_out hlo).1 hr.right).1
 have hu:cx.P.underlying t=some .string:=by have:=(cx.hT t ti ht).kind;rw[hk]at this;exact this.1
 refine⟨_,w,?_,Below.refl _ _,Rd.v _,trivial⟩
 have hsz:(⟨s.toArray⟩:ByteArray).size=s.length:=rfl
 have e2:¬ ((l:Int) < 0):=by omega
 have he:=extract_str s l s.length
 rw[List.take_of_length_le (by simp)]at he
 rw[← he]
 simp[execOp,hv,h1,str,Instr.sliceAt,Instr.slice,run_underlying hu,Instr.sliceBounds,Instr.sliceBound,asIntOf,hsz,hh,e2]
theorem a_noerr {t t':TypeId}{x:Operand}{ms:Array (String×TypeId)}(hx:ev σ x=some (.d (.v .nilIface))) (ht:cx.P.underlying t=some (.interface ms)) (hd:Nat.blt d cx.n=true) :
  OA cx σ ⟨some d,.binOp .eql t x (.const .nilIface) t',ty,pos,af,gd⟩ ⟨rdOf x (.d (.v .nilIface)),[(.s d,.av (.d (.v (.bool true))))]⟩:=by
 refine⟨ok_val rfl (lt_of_blt hd) fun σ1 a w g nx hs hr=>?_,(ev_out hx).2⟩
 have hv:=rep_v (hs.ev (ev_out hx).1 hr).1
 refine⟨.bool true,w,?_,Below.refl _ _,Rd.v _,trivial⟩
 have h:∀ d:Nat,(Op.equalIn (d+1) t .nilIface .nilIface).run cx.P w = .ok true w:=fun d=>by
  simp[Op.equalIn,run_underlying ht]
 have hg:eqGuard .eql t x (.const .nilIface) .nilIface .nilIface=pure ():=by cases x <;> rfl
 have hc:a.eval (.const .nilIface) = .nilIface:=rfl
 simp[execOp,hv,hc,hg,binOp,Op.equal,Op.maxDepth,h 9999]
end Go.AX
namespace Go.RF
open Go.AX
def splitF (sep:Str):Nat→Str→Str→List Str
 |0,cur,r=>[cur++r]
 |n+1,cur,r =>
  if r.length < sep.length then [cur++r]
  else if r.take sep.length=sep then cur::splitF sep n [] (r.drop sep.length)
  else match r with
   | []=>[cur]
   |c::t=>splitF sep n (cur++[c]) t
def split (s sep:Str):List Str:=splitF sep s.length [] s
def words:List Str:=[[],[108,111,97,100],[99,111,110,115,116],[97,100,100],[115,117,98],[109,117,108],[115,116,111,114,101],[100,114,111,112],[115,107,105,112],[102,97,105,108]]
def kindGo (w:Str):Nat→Int→List Str→Int
 |_,k,[]=>k
 |n,k,x::r=>kindGo w (n+1) (if 0 < n∧x=w then (n:Int) else k) r
def kindOf (w:Str):Int:=kindGo w 0 0 words
def numV (s:Str):Option Int:=match Lib.atoiAll s with
 |.ok v=>if Lib.itoa v=s then some v else none
 |_=>none
def regV (s:Str):Option Int:=match s with
 |114::r=>numV r
 |_=>none
def fillI:Ins→Str→List Str→Option Ins
 |i,[],_=>some i
 |i,_::_,[]=>some i
 |i,c::f,w::ws =>
  if c=107 then fillI { i with key:=w } f ws
  else if c=110 then match numV w with
   |some n=>fillI { i with n:=n } f ws
   |none=>none
  else match regV w with
   |some x=>if c=114 then fillI { i with a:=x } f ws else fillI { i with b:=x } f ws
   |none=>none
def insP (l:List Str):Option Ins:=match l with
 | []=>none
 |w::ws=>if kindOf w=0 then none else if ws.length=(form (kindOf w).toNat).length then fillI ⟨kindOf w,0,0,0,[]⟩ (form (kindOf w).toNat) ws else none
def insAll:List Str→Option (List Ins)
 | []=>some []
 |p::r=>match insP (split p [32]),insAll r with
  |some i,some l=>some (i::l)
  |_,_=>none
def parseD (s:Str):Option Deed :=
 if 400 < s.length then none else match split s [59,32] with
  |p0::p1::ps=>match split p0 [32],split p1 [32],insAll ps with
   |w0::rs,w1::ws,some code=>if w0=[114,101,97,100,115]∧w1=[119,114,105,116,101,115]∧wrongDeed ⟨rs,ws,code⟩=0 then some ⟨rs,ws,code⟩ else none
   |_,_,_=>none
  |_=>none
end Go.RF
namespace Go.Proofs.YtfpkamiobdkcpaaDoor
open Go.AX
def tbl:Tbl:=[
 (1,⟨1,8,[.nilFunc],.one⟩),
 (2,⟨1,8,[.int .i64 0],.int .i64⟩),
 (3,⟨1,8,[.int .i64 0],.int .i64⟩),
 (4,⟨1,1,[.bool false],.bool⟩),
 (5,⟨1,1,[.int .u8 0],.int .u8⟩),
 (9,⟨1,16,[.string ⟨#[]⟩],.str⟩),
 (12,⟨1,8,[.int .u64 0],.int .u64⟩),
 (13,⟨2,24,[.string ⟨#[]⟩,.int .u64 0],.st [(0,1),(1,1)]⟩),
 (21,⟨1,4,[.int .i32 0],.int .i32⟩),
 (22,⟨1,24,[.slice none 0 0],.sl 57 2⟩),
 (23,⟨1,24,[.slice none 0 0],.sl 57 2⟩),
 (24,⟨1,8,[.nilFunc],.one⟩),
 (25,⟨1,8,[.int .i64 0],.int .i64⟩),
 (26,⟨1,8,[.nilFunc],.one⟩),
 (27,⟨1,8,[.nilFunc],.one⟩),
 (29,⟨1,8,[.nilFunc],.one⟩),
 (30,⟨1,8,[.nilFunc],.one⟩),
 (31,⟨1,8,[.nilFunc],.one⟩),
 (32,⟨1,8,[.nilFunc],.one⟩),
 (33,⟨1,8,[.nilFunc],.one⟩),
 (34,⟨1,8,[.nilFunc],.one⟩),
 (35,⟨1,8,[.nilFunc],.one⟩),
 (36,⟨1,8,[.nilFunc],.one⟩),
 (37,⟨1,8,[.nilFunc],.one⟩),
 (38,⟨1,24,[.slice none 0 0],.sl 9 1⟩),
 (39,⟨1,24,[.slice none 0 0],.sl 65 5⟩),
 (40,⟨3,72,[.slice none 0 0,.slice none 0 0,.slice none 0 0],.st [(0,1),(1,1),(2,1)]⟩),
 (41,⟨3,72,[.slice none 0 0,.slice none 0 0,.slice none 0 0],.st [(0,1),(1,1),(2,1)]⟩),
 (42,⟨1,8,[.nilFunc],.one⟩),
 (43,⟨4,32,[.int .i64 0,.int .i64 0,.int .i64 0,.int .i64 0],.arr 4 3 1⟩),
 (44,⟨5,40,[.bool false,.int .i64 0,.int .i64 0,.int .i64 0,.int .i64 0],.st [(0,1),(1,4)]⟩),
 (45,⟨5,40,[.bool false,.int .i64 0,.int .i64 0,.int .i64 0,.int .i64 0],.st [(0,1),(1,4)]⟩),
 (47,⟨1,8,[.nilFunc],.one⟩),
 (48,⟨1,8,[.nilFunc],.one⟩),
 (49,⟨1,8,[.nilFunc],.one⟩),
 (50,⟨1,24,[.slice none 0 0],.sl 45 5⟩),
 (52,⟨1,8,[.nilFunc],.one⟩),
 (53,⟨1,24,[.slice none 0 0],.sl 41 3⟩),
 (54,⟨1,8,[.nilFunc],.one⟩),
 (55,⟨1,8,[.nilFunc],.one⟩),
 (56,⟨2,24,[.string ⟨#[]⟩,.int .i64 0],.st [(0,1),(1,1)]⟩),
 (57,⟨2,24,[.string ⟨#[]⟩,.int .i64 0],.st [(0,1),(1,1)]⟩),
 (58,⟨1,8,[.nilFunc],.one⟩),
 (59,⟨1,8,[.nilFunc],.one⟩),
 (60,⟨1,8,[.nilFunc],.one⟩),
 (61,⟨1,8,[.nilFunc],.one⟩),
 (62,⟨1,24,[.slice none 0 0],.sl 38 1⟩),
 (63,⟨1,8,[.nilFunc],.one⟩),
 (64,⟨5,48,[.int .i64 0,.int .i64 0,.int .i64 0,.int .i64 0,.string ⟨#[]⟩],.st [(0,1),(1,1),(2,1),(3,1),(4,1)]⟩),
 (65,⟨5,48,[.int .i64 0,.int .i64 0,.int .i64 0,.int .i64 0,.string ⟨#[]⟩],.st [(0,1),(1,1),(2,1),(3,1),(4,1)]⟩),
 (66,⟨1,8,[.nilFunc],.one⟩),
 (67,⟨1,24,[.slice none 0 0],.sl 72 4⟩),
 (69,⟨1,8,[.nilFunc],.one⟩),
 (70,⟨1,8,[.nilFunc],.one⟩),
 (71,⟨4,24,[.int .i64 0,.bool false,.bool false,.int .i64 0],.st [(0,1),(1,1),(2,1),(3,1)]⟩),
 (72,⟨4,24,[.int .i64 0,.bool false,.bool false,.int .i64 0],.st [(0,1),(1,1),(2,1),(3,1)]⟩),
 (73,⟨1,8,[.nilFunc],.one⟩),
 (74,⟨256,256,[.bool false,.bool false,.bool false,.bool false,.bool false,.bool false,.bool false,.bool false,.bool false,.bool false,.bool false,.bool false,.bool false,.bool false,.bool false,.bool false,.bool false,.bool false,.bool false,.bool false,.bool false,.bool false,.bool false,.bool false,.bool false,.bool false,.bool false,.bool false,.bool false,.bool false,.bool false,.bool false,.bool false,.bool false,.bool false,.bool false,.bool false,.bool false,.bool false,.bool false,.bool false,.bool false,.bool false,.bool false,.bool false,.bool false,.bool false,.bool false,.bool false,.bool false,.bool false,.bool false,.bool false,.bool false,.bool false,.bool false,.bool false,.bool false,.bool false,.bool false,.bool false,.bool false,.bool false,.bool false,.bool false,.bool false,.bool false,.bool false,.bool false,.bool false,.bool false,.bool false,.bool false,.bool false,.bool false,.bool false,.bool false,.bool false,.bool false,.bool false,.bool false,.bool false,.bool false,.bool false,.bool false,.bool false,.bool false,.bool false,.bool false,.bool false,.bool false,.bool false,.bool false,.bool false,.bool false,.bool false,.bool false,.bool false,.bool false,.bool false,.bool false,.bool false,.bool false,.bool false,.bool false,.bool false,.bool false,.bool false,.bool false,.bool false,.bool false,.bool false,.bool false,.bool false,.bool false,.bool false,.bool false,.bool false,.bool false,.bool false,.bool false,.bool false,.bool false,.bool false,.bool false,.bool false,.bool false,.bool false,.bool false,.bool false,.bool false,.bool false,.bool false,.bool false,.bool false,.bool false,.bool false,.bool false,.bool false,.bool false,.bool false,.bool false,.bool false,.bool false,.bool false,.bool false,.bool false,.bool false,.bool false,.bool false,.bool false,.bool false,.bool false,.bool false,.bool false,.bool false,.bool false,.bool false,.bool false,.bool false,.bool false,.bool false,.bool false,.bool false,.bool false,.bool false,.bool false,.bool false,.bool false,.bool false,.bool false,.bool false,.bool false,.bool false,.bool false,.bool false,.bool false,.bool false,.bool false,.bool false,.bool false,.bool false,.bool false,.bool false,.bool false,.bool false,.bool false,.bool false,.bool false,.bool false,.bool false,.bool false,.bool false,.bool false,.bool false,.bool false,.bool false,.bool false,.bool false,.bool false,.bool false,.bool false,.bool false,.bool false,.bool false,.bool false,.bool false,.bool false,.bool false,.bool false,.bool false,.bool false,.bool false,.bool false,.bool false,.bool false,.bool false,.bool false,.bool false,.bool false,.bool false,.bool false,.bool false,.bool false,.bool false,.bool false,.bool false,.bool false,.bool false,.bool false,.bool false,.bool false,.bool false,.bool false,.bool false,.bool false,.bool false,.bool false,.bool false,.bool false,.bool false,.bool false,.bool false,.bool false,.bool false,.bool false,.bool false,.bool false,.bool false,.bool false,.bool false,.bool false,.bool false,.bool false,.bool false,.bool false],.arr 256 4 1⟩),
 (75,⟨256,256,[.bool false,.bool false,.bool false,.bool false,.bool false,.bool false,.bool false,.bool false,.bool false,.bool false,.bool false,.bool false,.bool false,.bool false,.bool false,.bool false,.bool false,.bool false,.bool false,.bool false,.bool false,.bool false,.bool false,.bool false,.bool false,.bool false,.bool false,.bool false,.bool false,.bool false,.bool false,.bool false,.bool false,.bool false,.bool false,.bool false,.bool false,.bool false,.bool false,.bool false,.bool false,.bool false,.bool false,.bool false,.bool false,.bool false,.bool false,.bool false,.bool false,.bool false,.bool false,.bool false,.bool false,.bool false,.bool false,.bool false,.bool false,.bool false,.bool false,.bool false,.bool false,.bool false,.bool false,.bool false,.bool false,.bool false,.bool false,.bool false,.bool false,.bool false,.bool false,.bool false,.bool false,.bool false,.bool false,.bool false,.bool false,.bool false,.bool false,.bool false,.bool false,.bool false,.bool false,.bool false,.bool false,.bool false,.bool false,.bool false,.bool false,.bool false,.bool false,.bool false,.bool false,.bool false,.bool false,.bool false,.bool false,.bool false,.bool false,.bool false,.bool false,.bool false,.bool false,.bool false,.bool false,.bool false,.bool false,.bool false,.bool false,.bool false,.bool false,.bool false,.bool false,.bool false,.bool false,.bool false,.bool false,.bool false,.bool false,.bool false,.bool false,.bool false,.bool false,.bool false,.bool false,.bool false,.bool false,.bool false,.bool false,.bool false,.bool false,.bool false,.bool false,.bool false,.bool false,.bool false,.bool false,.bool false,.bool false,.bool false,.bool false,.bool false,.bool false,.bool false,.bool false,.bool false,.bool false,.bool false,.bool false,.bool false,.bool false,.bool false,.bool false,.bool false,.bool false,.bool false,.bool false,.bool false,.bool false,.bool false,.bool false,.bool false,.bool false,.bool false,.bool false,.bool false,.bool false,.bool false,.bool false,.bool false,.bool false,.bool false,.bool false,.bool false,.bool false,.bool false,.bool false,.bool false,.bool false,.bool false,.bool false,.bool false,.bool false,.bool false,.bool false,.bool false,.bool false,.bool false,.bool false,.bool false,.bool false,.bool false,.bool false,.bool false,.bool false,.bool false,.bool false,.bool false,.bool false,.bool false,.bool false,.bool false,.bool false,.bool false,.bool false,.bool false,.bool false,.bool false,.bool false,.bool false,.bool false,.bool false,.bool false,.bool false,.bool false,.bool false,.bool false,.bool false,.bool false,.bool false,.bool false,.bool false,.bool false,.bool false,.bool false,.bool false,.bool false,.bool false,.bool false,.bool false,.bool false,.bool false,.bool false,.bool false,.bool false,.bool false,.bool false,.bool false,.bool false,.bool false,.bool false,.bool false,.bool false,.bool false,.bool false,.bool false,.bool false,.bool false,.bool false,.bool false,.bool false,.bool false,.bool false,.bool false,.bool false,.bool false],.arr 256 4 1⟩),
 (77,⟨1,8,[.nilFunc],.one⟩),
 (78,⟨1,8,[.nilFunc],.one⟩),
 (79,⟨1,8,[.pointer none],.one⟩),
 (80,⟨1,8,[.nilFunc],.one⟩),
 (81,⟨1,8,[.nilFunc],.one⟩),
 (82,⟨1,8,[.nilFunc],.one⟩),
 (83,⟨1,8,[.nilFunc],.one⟩),
 (84,⟨1,8,[.nilFunc],.one⟩),
 (86,⟨1,8,[.nilFunc],.one⟩),
 (87,⟨1,8,[.nilFunc],.one⟩),
 (88,⟨1,8,[.nilFunc],.one⟩),
 (89,⟨1,8,[.map none],.one⟩),
 (90,⟨2,16,[.bool false,.int .i64 0],.st [(0,1),(1,1)]⟩),
 (91,⟨2,16,[.bool false,.int .i64 0],.st [(0,1),(1,1)]⟩),
 (93,⟨1,8,[.nilFunc],.one⟩),
 (94,⟨1,8,[.pointer none],.one⟩),
 (95,⟨1,8,[.nilFunc],.one⟩),
 (97,⟨1,8,[.nilFunc],.one⟩),
 (98,⟨1,8,[.nilFunc],.one⟩),
 (99,⟨1,8,[.int .u64 0],.int .u64⟩),
 (100,⟨1,8,[.nilFunc],.one⟩),
 (101,⟨1,8,[.nilFunc],.one⟩),
 (102,⟨1,8,[.nilFunc],.one⟩),
 (103,⟨1,8,[.nilFunc],.one⟩),
 (104,⟨1,8,[.nilFunc],.one⟩),
 (108,⟨1,8,[.nilFunc],.one⟩),
 (109,⟨256,256,[.int .u8 0,.int .u8 0,.int .u8 0,.int .u8 0,.int .u8 0,.int .u8 0,.int .u8 0,.int .u8 0,.int .u8 0,.int .u8 0,.int .u8 0,.int .u8 0,.int .u8 0,.int .u8 0,.int .u8 0,.int .u8 0,.int .u8 0,.int .u8 0,.int .u8 0,.int .u8 0,.int .u8 0,.int .u8 0,.int .u8 0,.int .u8 0,.int .u8 0,.int .u8 0,.int .u8 0,.int .u8 0,.int .u8 0,.int .u8 0,.int .u8 0,.int .u8 0,.int .u8 0,.int .u8 0,.int .u8 0,.int .u8 0,.int .u8 0,.int .u8 0,.int .u8 0,.int .u8 0,.int .u8 0,.int .u8 0,.int .u8 0,.int .u8 0,.int .u8 0,.int .u8 0,.int .u8 0,.int .u8 0,.int .u8 0,.int .u8 0,.int .u8 0,.int .u8 0,.int .u8 0,.int .u8 0,.int .u8 0,.int .u8 0,.int .u8 0,.int .u8 0,.int .u8 0,.int .u8 0,.int .u8 0,.int .u8 0,.int .u8 0,.int .u8 0,.int .u8 0,.int .u8 0,.int .u8 0,.int .u8 0,.int .u8 0,.int .u8 0,.int .u8 0,.int .u8 0,.int .u8 0,.int .u8 0,.int .u8 0,.int .u8 0,.int .u8 0,.int .u8 0,.int .u8 0,.int .u8 0,.int .u8 0,.int .u8 0,.int .u8 0,.int .u8 0,.int .u8 0,.int .u8 0,.int .u8 0,.int .u8 0,.int .u8 0,.int .u8 0,.int .u8 0,.int .u8 0,.int .u8 0,.int .u8 0,.int .u8 0,.int .u8 0,.int .u8 0,.int .u8 0,.int .u8 0,.int .u8 0,.int .u8 0,.int .u8 0,.int .u8 0,.int .u8 0,.int .u8 0,.int .u8 0,.int .u8 0,.int .u8 0,.int .u8 0,.int .u8 0,.int .u8 0,.int .u8 0,.int .u8 0,.int .u8 0,.int .u8 0,.int .u8 0,.int .u8 0,.int .u8 0,.int .u8 0,.int .u8 0,.int .u8 0,.int .u8 0,.int .u8 0,.int .u8 0,.int .u8 0,.int .u8 0,.int .u8 0,.int .u8 0,.int .u8 0,.int .u8 0,.int .u8 0,.int .u8 0,.int .u8 0,.int .u8 0,.int .u8 0,.int .u8 0,.int .u8 0,.int .u8 0,.int .u8 0,.int .u8 0,.int .u8 0,.int .u8 0,.int .u8 0,.int .u8 0,.int .u8 0,.int .u8 0,.int .u8 0,.int .u8 0,.int .u8 0,.int .u8 0,.int .u8 0,.int .u8 0,.int .u8 0,.int .u8 0,.int .u8 0,.int .u8 0,.int .u8 0,.int .u8 0,.int .u8 0,.int .u8 0,.int .u8 0,.int .u8 0,.int .u8 0,.int .u8 0,.int .u8 0,.int .u8 0,.int .u8 0,.int .u8 0,.int .u8 0,.int .u8 0,.int .u8 0,.int .u8 0,.int .u8 0,.int .u8 0,.int .u8 0,.int .u8 0,.int .u8 0,.int .u8 0,.int .u8 0,.int .u8 0,.int .u8 0,.int .u8 0,.int .u8 0,.int .u8 0,.int .u8 0,.int .u8 0,.int .u8 0,.int .u8 0,.int .u8 0,.int .u8 0,.int .u8 0,.int .u8 0,.int .u8 0,.int .u8 0,.int .u8 0,.int .u8 0,.int .u8 0,.int .u8 0,.int .u8 0,.int .u8 0,.int .u8 0,.int .u8 0,.int .u8 0,.int .u8 0,.int .u8 0,.int .u8 0,.int .u8 0,.int .u8 0,.int .u8 0,.int .u8 0,.int .u8 0,.int .u8 0,.int .u8 0,.int .u8 0,.int .u8 0,.int .u8 0,.int .u8 0,.int .u8 0,.int .u8 0,.int .u8 0,.int .u8 0,.int .u8 0,.int .u8 0,.int .u8 0,.int .u8 0,.int .u8 0,.int .u8 0,.int .u8 0,.int .u8 0,.int .u8 0,.int .u8 0,.int .u8 0,.int .u8 0,.int .u8 0,.int .u8 0,.int .u8 0,.int .u8 0,.int .u8 0,.int .u8 0,.int .u8 0,.int .u8 0,.int .u8 0,.int .u8 0,.int .u8 0,.int .u8 0,.int .u8 0,.int .u8 0,.int .u8 0,.int .u8 0,.int .u8 0,.int .u8 0,.int .u8 0,.int .u8 0,.int .u8 0,.int .u8 0,.int .u8 0],.arr 256 5 1⟩),
 (110,⟨2,2,[.int .u8 0,.int .u8 0],.st [(0,1),(1,1)]⟩),
 (111,⟨2,2,[.int .u8 0,.int .u8 0],.st [(0,1),(1,1)]⟩),
 (112,⟨32,32,[.int .u8 0,.int .u8 0,.int .u8 0,.int .u8 0,.int .u8 0,.int .u8 0,.int .u8 0,.int .u8 0,.int .u8 0,.int .u8 0,.int .u8 0,.int .u8 0,.int .u8 0,.int .u8 0,.int .u8 0,.int .u8 0,.int .u8 0,.int .u8 0,.int .u8 0,.int .u8 0,.int .u8 0,.int .u8 0,.int .u8 0,.int .u8 0,.int .u8 0,.int .u8 0,.int .u8 0,.int .u8 0,.int .u8 0,.int .u8 0,.int .u8 0,.int .u8 0],.arr 16 111 2⟩),
 (113,⟨1,8,[.nilFunc],.one⟩),
 (114,⟨1,8,[.nilFunc],.one⟩),
 (115,⟨1,8,[.nilFunc],.one⟩),
 (116,⟨1,8,[.int .i64 0],.int .i64⟩),
 (117,⟨1,24,[.slice none 0 0],.sl 5 1⟩),
 (119,⟨1,8,[.nilFunc],.one⟩),
 (120,⟨1,8,[.pointer none],.one⟩),
 (121,⟨1,8,[.nilFunc],.one⟩),
 (122,⟨1,8,[.nilFunc],.one⟩),
 (123,⟨1,8,[.nilFunc],.one⟩),
 (124,⟨1,8,[.int .u64 0],.int .u64⟩),
 (126,⟨1,8,[.nilFunc],.one⟩),
 (127,⟨1,8,[.nilFunc],.one⟩),
 (128,⟨3,48,[.string ⟨#[]⟩,.string ⟨#[]⟩,.nilIface],.st [(0,1),(1,1),(2,1)]⟩),
 (129,⟨3,48,[.string ⟨#[]⟩,.string ⟨#[]⟩,.nilIface],.st [(0,1),(1,1),(2,1)]⟩),
 (130,⟨1,8,[.nilFunc],.one⟩),
 (131,⟨24,24,[.int .u8 0,.int .u8 0,.int .u8 0,.int .u8 0,.int .u8 0,.int .u8 0,.int .u8 0,.int .u8 0,.int .u8 0,.int .u8 0,.int .u8 0,.int .u8 0,.int .u8 0,.int .u8 0,.int .u8 0,.int .u8 0,.int .u8 0,.int .u8 0,.int .u8 0,.int .u8 0,.int .u8 0,.int .u8 0,.int .u8 0,.int .u8 0],.arr 24 5 1⟩),
 (132,⟨1,8,[.nilFunc],.one⟩),
 (133,⟨1,8,[.nilFunc],.one⟩),
 (135,⟨1,8,[.nilFunc],.one⟩),
 (136,⟨1,8,[.nilFunc],.one⟩),
 (137,⟨1,8,[.pointer none],.one⟩),
 (138,⟨1,8,[.pointer none],.one⟩),
 (139,⟨1,16,[.string ⟨#[]⟩],.st [(0,1)]⟩),
 (140,⟨1,16,[.string ⟨#[]⟩],.st [(0,1)]⟩),
 (141,⟨1,8,[.nilFunc],.one⟩),
 (142,⟨20,160,[.int .u64 0,.int .u64 0,.int .u64 0,.int .u64 0,.int .u64 0,.int .u64 0,.int .u64 0,.int .u64 0,.int .u64 0,.int .u64 0,.int .u64 0,.int .u64 0,.int .u64 0,.int .u64 0,.int .u64 0,.int .u64 0,.int .u64 0,.int .u64 0,.int .u64 0,.int .u64 0],.arr 20 124 1⟩),
 (143,⟨1,4,[.int .u32 0],.int .u32⟩),
 (144,⟨65,65,[.int .u8 0,.int .u8 0,.int .u8 0,.int .u8 0,.int .u8 0,.int .u8 0,.int .u8 0,.int .u8 0,.int .u8 0,.int .u8 0,.int .u8 0,.int .u8 0,.int .u8 0,.int .u8 0,.int .u8 0,.int .u8 0,.int .u8 0,.int .u8 0,.int .u8 0,.int .u8 0,.int .u8 0,.int .u8 0,.int .u8 0,.int .u8 0,.int .u8 0,.int .u8 0,.int .u8 0,.int .u8 0,.int .u8 0,.int .u8 0,.int .u8 0,.int .u8 0,.int .u8 0,.int .u8 0,.int .u8 0,.int .u8 0,.int .u8 0,.int .u8 0,.int .u8 0,.int .u8 0,.int .u8 0,.int .u8 0,.int .u8 0,.int .u8 0,.int .u8 0,.int .u8 0,.int .u8 0,.int .u8 0,.int .u8 0,.int .u8 0,.int .u8 0,.int .u8 0,.int .u8 0,.int .u8 0,.int .u8 0,.int .u8 0,.int .u8 0,.int .u8 0,.int .u8 0,.int .u8 0,.int .u8 0,.int .u8 0,.int .u8 0,.int .u8 0,.int .u8 0],.arr 65 5 1⟩),
 (145,⟨1,8,[.nilFunc],.one⟩),
 (146,⟨1,8,[.nilFunc],.one⟩),
 (147,⟨1,8,[.nilFunc],.one⟩),
 (148,⟨32,32,[.int .u8 0,.int .u8 0,.int .u8 0,.int .u8 0,.int .u8 0,.int .u8 0,.int .u8 0,.int .u8 0,.int .u8 0,.int .u8 0,.int .u8 0,.int .u8 0,.int .u8 0,.int .u8 0,.int .u8 0,.int .u8 0,.int .u8 0,.int .u8 0,.int .u8 0,.int .u8 0,.int .u8 0,.int .u8 0,.int .u8 0,.int .u8 0,.int .u8 0,.int .u8 0,.int .u8 0,.int .u8 0,.int .u8 0,.int .u8 0,.int .u8 0,.int .u8 0],.arr 32 5 1⟩),
 (149,⟨64,64,[.int .u8 0,.int .u8 0,.int .u8 0,.int .u8 0,.int .u8 0,.int .u8 0,.int .u8 0,.int .u8 0,.int .u8 0,.int .u8 0,.int .u8 0,.int .u8 0,.int .u8 0,.int .u8 0,.int .u8 0,.int .u8 0,.int .u8 0,.int .u8 0,.int .u8 0,.int .u8 0,.int .u8 0,.int .u8 0,.int .u8 0,.int .u8 0,.int .u8 0,.int .u8 0,.int .u8 0,.int .u8 0,.int .u8 0,.int .u8 0,.int .u8 0,.int .u8 0,.int .u8 0,.int .u8 0,.int .u8 0,.int .u8 0,.int .u8 0,.int .u8 0,.int .u8 0,.int .u8 0,.int .u8 0,.int .u8 0,.int .u8 0,.int .u8 0,.int .u8 0,.int .u8 0,.int .u8 0,.int .u8 0,.int .u8 0,.int .u8 0,.int .u8 0,.int .u8 0,.int .u8 0,.int .u8 0,.int .u8 0,.int .u8 0,.int .u8 0,.int .u8 0,.int .u8 0,.int .u8 0,.int .u8 0,.int .u8 0,.int .u8 0,.int .u8 0],.arr 64 5 1⟩),
 (150,⟨1,8,[.nilFunc],.one⟩),
 (156,⟨1,8,[.nilFunc],.one⟩),
 (159,⟨1,8,[.nilFunc],.one⟩)]
theorem tbl_b:tblB Go.Proofs.Tryd.prog tbl=true:=by kernel_rfl
theorem tbl_ok:TOk Go.Proofs.Tryd.prog tbl:=tok_of tbl_b
theorem mixed_ok:Go.Proofs.Tryd.prog.follows .mixedOrders=true:=by kernel_rfl
end Go.Proofs.YtfpkamiobdkcpaaDoor
namespace Go.Proofs.YtfpkamiobdkcpaaDoor
open Go.AX Go.RF
theorem eq_pair (a b:Pair) (w:World):(Op.equalIn 10000 57 (.agg #[str a.key,i64 a.n]) (.agg #[str b.key,i64 b.n])).run Tryd.prog w = .ok (decide (a=b)) w:=by
 rw[run_equalIn_agg (P:=Tryd.prog) w 9999 57 _ _ (by kernel_rfl) (by kernel_rfl)]
 obtain⟨k1,n1⟩:=a
 obtain⟨k2,n2⟩:=b
 simp only[Program.fieldsOf,Tryd.underlying57,Op.eqFields]
 simp[part,Tryd.isAgg9,Tryd.isAgg3,str,run_equalIn_string,run_equalIn_int,Tryd.underlying9,Tryd.underlying3]
 by_cases h1:k1=k2 <;> by_cases h2:n1=n2 <;> simp[h1,h2]
theorem neq_pair (a b:Pair):BinR Tryd.prog .neq 57 (.agg #[str a.key,i64 a.n]) (.agg #[str b.key,i64 b.n]) (.bool (!decide (a=b))):=by
 intro w x y
 rw[Sem.run_bind,run_eqGuard_agg _ _ _ _ _ _ _ (by kernel_rfl),Result.andThen_ok,run_neq_struct,eq_pair]
 rfl
set_option maxRecDepth 100000
theorem ok_get (l:List Pair) (k:Str) (hl:l.length≤1073741824):FnOk Tryd.prog 15 [.d (encRows l),.d (dstr k)] (.tup [dint (RF.get l k).1,dbool (RF.get l k).2]):=by
 refine fnOk_of tbl_ok mixed_ok Tryd.func15 rfl (by kernel_rfl) rfl rfl fun w0 own0=>?_
 try refine wk ?_
 refine CW.loopT (fun i:Nat=>[(.s 1,.av (.d (dstr k))),(.s 8,.av (.d (encRows l))),(.s 9,.av (.d (dint l.length))),(.s 10,.av (.d (dint i))),(.nx,.num 0)]) (fun i=>i≤l.length∧RF.get (l.drop i) k=RF.get l k) (fun i=>l.length - i) 0 ⟨by omega,rfl⟩ ?_ fun i hI=>?_
 ·
  exact by_less
 ·
  obtain⟨hi,hI⟩:=hI
  rcases drop_case hi with ⟨h1,h2⟩|⟨p,h1,h2,h3⟩
  ·
   try refine wk ?_
   rw[h1]at hI
   rw[← hI]
   exact .two (.tmp rfl (.one (.d (.refl _)))) (.tmp rfl (.one (.d (.refl _))))
  ·
   rw[h1]at hI
   simp only[RF.get]at hI
   by_cases h4:p.key=k
   ·
    try refine wk ?_
    rw[if_pos h4]at hI
    rw[← hI]
    exact .two (.tmp rfl (.one (.d (.refl _)))) (.tmp rfl (.one (.d (.refl _))))
   ·
    try refine wk ?_
    rw[if_neg h4]at hI
    refine q_loopT (i+1) ⟨by omega,hI⟩ (by omega) ?_
    exact by_less
theorem ok_in (l:List Str) (k:Str) (hl:l.length≤1073741824):FnOk Tryd.prog 32 [.d (encStrs l),.d (dstr k)] (.one (dbool (isIn l k))):=by
 refine fnOk_of tbl_ok mixed_ok Tryd.func32 rfl (by kernel_rfl) rfl rfl fun w0 own0=>?_
 try refine wk ?_
 refine CW.loopT (fun i:Nat=>[(.s 1,.av (.d (dstr k))),(.s 7,.av (.d (encStrs l))),(.s 8,.av (.d (dint l.length))),(.s 9,.av (.d (dint i))),(.nx,.num 0)]) (fun i=>i≤l.length∧isIn (l.drop i) k=isIn l k) (fun i=>l.length - i) 0 ⟨by omega,rfl⟩ ?_ fun i hI=>?_
 ·
  exact by_less
 ·
  obtain⟨hi,hI⟩:=hI
  rcases drop_case hi with ⟨h1,h2⟩|⟨p,h1,h2,h3⟩
  ·
   try refine wk ?_
   rw[h1]at hI
   rw[← hI]
   exact .one (.tmp rfl (.one (.d (.refl _))))
  ·
   rw[h1]at hI
   simp only[isIn]at hI
   by_cases h4:p=k
   ·
    try refine wk ?_
    rw[if_pos h4]at hI
    rw[← hI]
    exact .one (.tmp rfl (.one (.d (.refl _))))
   ·
    try refine wk ?_
    rw[if_neg h4]at hI
    refine q_loopT (i+1) ⟨by omega,hI⟩ (by omega) ?_
    exact by_less
theorem ok_key (s:Str) (hl:s.length≤1073741824):FnOk Tryd.prog 9 [.d (dstr s)] (.one (dbool (key s))):=by
 refine fnOk_of tbl_ok mixed_ok Tryd.func9 rfl (by kernel_rfl) rfl rfl fun w0 own0=>?_
 try refine wk ?_
 refine CW.loopT (fun i:Nat=>[(.s 0,.av (.d (dstr s))),(.s 5,.av (.d (dint s.length))),(.s 6,.av (.d (dint i))),(.nx,.num 0)]) (fun i=>i≤s.length∧keyGo s (s.drop i)=key s) (fun i=>s.length - i) 0 ⟨by omega,rfl⟩ ?_ fun i hI=>?_
 ·
  exact by_less
 ·
  obtain⟨hi,hI⟩:=hI
  rcases drop_case hi with ⟨h1,h2⟩|⟨c,h1,h2,h3⟩
  ·
   rw[h1]at hI
   simp only[keyGo]at hI
   by_cases h4:0 < s.length
   ·
    try refine wk ?_
    exact .one (.tmp rfl (.one (.d (dle_bool (by rw[← hI];simp[h4];omega)))))
   ·
    try refine wk ?_
    exact .one (.tmp rfl (.one (.d (dle_bool (by rw[← hI];simp[h4])))))
  ·
   rw[h1]at hI
   simp only[keyGo]at hI
   by_cases h4:(c.toNat:Int) < 97
   ·
    try refine wk ?_
    rw[if_pos (by simp only[bad,h4];rfl)]at hI
    exact .one (.tmp rfl (.one (.d (dle_bool hI))))
   ·
    by_cases h5:(122:Int) < (c.toNat:Int)
    ·
     try refine wk ?_
     rw[if_pos (by simp[bad,h5])]at hI
     exact .one (.tmp rfl (.one (.d (dle_bool hI))))
    ·
     try refine wk ?_
     rw[if_neg (by simp[bad];omega)]at hI
     refine q_loopT (i+1) ⟨by omega,hI⟩ (by omega) ?_
     exact by_less
theorem form_at {k:Nat}(h:k < 10):forms[k]? = some (form k):=by
 simp[form,List.getD_eq_getElem?_getD,List.getElem?_eq_getElem (show k < forms.length from h)]
theorem ok_form (k:Nat) (hk:k < 10):FnOk Tryd.prog 49 [.d (dint k)] (.one (dstr (form k))):=by
 refine fnOk_of tbl_ok mixed_ok Tryd.func49 rfl (by kernel_rfl) rfl rfl fun w0 own0=>?_
 have h:=form_at hk
 repeat(first|((with_reducible apply s5);((with_reducible apply a_bs (forms.map encStr1));(iterate 9 exact rfl);(repeat(first|exact PartsE.nil|(apply PartsE.cons;exact rfl;exact rfl))));exact by_g)|refine wa1 ?_|((with_reducible apply s5);(first|exact by_oa|exact by_ca);exact by_g)|refine wb ?_)
 exact .one (.tmp rfl (.one (.d (.refl _))))
theorem form_len (k:Nat):(form k).length≤2:=by
 rcases Nat.lt_or_ge k 10 with h|h
 ·
  have:∀ k:Fin 10,(form k).length≤2:=by decide
  exact this ⟨k,h⟩
 ·
  simp[form,List.getD_eq_getElem?_getD,List.getElem?_eq_none (show forms.length≤k from h)]
theorem ok_has (k:Nat) (c:UInt8) (hk:k < 10):FnOk Tryd.prog 33 [.d (dint k),.d (.v (.int .u8 c.toNat))] (.one (dbool (has k c))):=by
 refine fnOk_of tbl_ok mixed_ok Tryd.func33 rfl (by kernel_rfl) rfl rfl fun w0 own0=>?_
 have hl:=form_len k
 repeat(first|refine wa ?_|((with_reducible apply s5);(first|exact a_call (ok_form k hk) rfl by_sub|exact by_oa|exact by_ca);exact by_g)|refine wb ?_)
 refine CW.loopT (fun i:Nat=>[(.s 1,.av (.d (.v (.int .u8 c.toNat)))),(.s 5,.av (.d (dstr (form k)))),(.s 10,.av (.d (dint (form k).length))),(.s 11,.av (.d (dint i))),(.nx,.num 0)]) (fun i=>i≤(form k).length∧hasGo c ((form k).drop i)=has k c) (fun i=>(form k).length - i) 0 ⟨by omega,rfl⟩ ?_ fun i hI=>?_
 ·
  exact by_less
 ·
  obtain⟨hi,hI⟩:=hI
  rcases drop_case hi with ⟨h1,h2⟩|⟨x,h1,h2,h3⟩
  ·
   try refine wk ?_
   rw[h1]at hI
   rw[← hI]
   exact .one (.tmp rfl (.one (.d (.refl _))))
  ·
   rw[h1]at hI
   simp only[hasGo]at hI
   by_cases h4:x=c
   ·
    have h5:(x.toNat:Int)=(c.toNat:Int):=by rw[h4]
    try refine wk ?_
    rw[if_pos h4]at hI
    rw[← hI]
    exact .one (.tmp rfl (.one (.d (.refl _))))
   ·
    have h5:¬ ((x.toNat:Int)=(c.toNat:Int)):=fun h=>h4 (UInt8.toNat_inj.1 (by omega))
    try refine wk ?_
    rw[if_neg h4]at hI
    refine q_loopT (i+1) ⟨by omega,hI⟩ (by omega) ?_
    exact by_less
set_option maxHeartbeats 4000000
theorem splitF_len (sep:Str):∀ (n:Nat) (cur r:Str),(splitF sep n cur r).length≤n+1
 |0,cur,r=>by simp[splitF]
 |n+1,cur,r=>by
  simp only[splitF]
  split
  ·
   simp
  split
  ·
   have:=splitF_len sep n [] (r.drop sep.length);simp;omega
  cases r with
  |nil=>simp
  |cons c t=>have:=splitF_len sep n (cur++[c]) t;simp;omega
theorem splitF_succ (sep:Str) (n:Nat) (cur r:Str):splitF sep (n+1) cur r=if r.length < sep.length then [cur++r]
  else if r.take sep.length=sep then cur::splitF sep n [] (r.drop sep.length)
  else match r with
   | []=>[cur]
   |c::t=>splitF sep n (cur++[c]) t:=by cases r <;> rfl
theorem ok_split (s sep:Str) (hs:s.length≤1073741000) (hp:sep≠[]) (hp2:sep.length≤1000):FnOk Tryd.prog 58 [.d (dstr s),.d (dstr sep)] (.one (encStrs (split s sep))):=by
 refine fnOk_of tbl_ok mixed_ok Tryd.func58 rfl (by kernel_rfl) rfl rfl fun w0 own0=>?_
 have hp0:0 < sep.length:=List.length_pos_iff.2 hp
 have hst0:StopA 3:=⟨rfl⟩
 try refine wkS ?_
 clear hst0
 refine Stop.go (CW.stut (stut_promote (i:=5) 9 1) ⟨rfl,rfl,trivial⟩ ?_)
 try refine wk ?_
 refine CW.loopT (fun t:Nat×Nat×List Str=>[sd 0 (dstr s),sd 1 (dstr sep),sd 4 (.v nilS),so 5 0 t.2.2.length,oa 0 9 1 (t.2.2.map encStr1),sd 6 (dint t.1),sd 7 (dint t.2.1),nxt 1])
  (fun t=>t.1≤t.2.1∧t.2.1≤s.length∧t.2.2.length≤t.2.1∧∃ n,s.length≤n+t.2.1∧t.2.2++splitF sep n ((s.drop t.1).take (t.2.1 - t.1)) (s.drop t.2.1)=split s sep) (fun t=>s.length - t.2.1) (0,0,[]) ⟨by dsimp only;omega,by dsimp only;omega,by dsimp only;simp,s.length,by dsimp only;omega,rfl⟩ ?_ ?_
 ·
  exact by_less
 ·
  rintro ⟨f,i,out⟩ ⟨hf,hi,ho,n,hn,hI⟩
  dsimp only at hf hi ho hn hI ⊢
  have hcr:(s.drop f).take (i - f)++s.drop i=s.drop f:=by
   have:=List.take_append_drop (i - f) (s.drop f)
   rw[List.drop_drop,show f+(i - f)=i by omega]at this
   exact this
  have hrl:(s.drop i).length=s.length - i:=by simp
  by_cases h1:i+sep.length≤s.length
  ·
   obtain⟨n,rfl⟩:∃ m,n=m+1:=⟨n - 1,by omega⟩
   rw[splitF_succ,if_neg (by omega)]at hI
   have hcut:((s.drop i).take (i+sep.length - i))=(s.drop i).take sep.length:=by congr 1;omega
   by_cases h2:(s.drop i).take sep.length=sep
   ·
    rw[if_pos h2]at hI
    have h2':(s.drop i).take (i+sep.length - i)=sep:=hcut.trans h2
    repeat(first|((with_reducible apply s5);((with_reducible apply a_bs [[dstr ((s.drop f).take (i - f))]]);(iterate 9 exact rfl);(repeat(first|exact PartsE.nil|(apply PartsE.cons;exact rfl;exact rfl))));exact by_g)|refine wa1 ?_|((with_reducible apply s5);(first|((with_reducible apply(a_sub (l:=i) (h:=i+sep.length)));(iterate 6 exact rfl);omega;omega)|((with_reducible apply(a_sub (l:=f) (h:=i)));(iterate 6 exact rfl);omega;omega)|exact by_oa|exact by_ca);exact by_g)|refine wb ?_)
    refine q_loopT (i+sep.length,i+sep.length,out++[(s.drop f).take (i - f)]) ⟨by dsimp only;omega,by dsimp only;omega,by dsimp only;simp;omega,n,by dsimp only;omega,?_⟩ (by dsimp only;omega) ?_
    ·
     dsimp only
     rw[← hI,List.append_assoc,List.drop_drop,Nat.sub_self,List.take_zero]
     rfl
    exact by_less
   ·
    rw[if_neg h2]at hI
    have h2':¬ (s.drop i).take (i+sep.length - i)=sep:=fun h=>h2 (hcut.symm.trans h)
    have hlt:i < s.length:=by omega
    rw[List.drop_eq_getElem_cons hlt]at hI
    dsimp only at hI
    repeat(first|refine wa ?_|((with_reducible apply s5);(first|((with_reducible apply(a_sub (l:=i) (h:=i+sep.length)));(iterate 6 exact rfl);omega;omega)|exact by_oa|exact by_ca);exact by_g)|refine wb ?_)
    refine q_loopT (f,i+1,out) ⟨by dsimp only;omega,by dsimp only;omega,by dsimp only;omega,n,by dsimp only;omega,?_⟩ (by dsimp only;omega) ?_
    ·
     dsimp only
     rw[← hI,show i+1 - f=(i - f)+1 by omega,List.take_add_one,List.getElem?_drop,show f+(i - f)=i by omega,List.getElem?_eq_getElem hlt]
     rfl
    exact by_less
  ·
   have hfin:out++[s.drop f]=split s sep:=by
    rw[← hI]
    cases n with
    |zero=>rw[splitF,hcr]
    |succ n=>rw[splitF_succ,if_pos (by omega),hcr]
   repeat(first|((with_reducible apply s5);((with_reducible apply a_bs [[dstr (s.drop f)]]);(iterate 9 exact rfl);(repeat(first|exact PartsE.nil|(apply PartsE.cons;exact rfl;exact rfl))));exact by_g)|refine wa1 ?_|((with_reducible apply s5);(first|((with_reducible apply(a_subF (l:=f)));(iterate 5 exact rfl);omega)|exact by_oa|exact by_ca);exact by_g)|refine wb ?_)
   rw[← hfin,show encStrs (out++[s.drop f]) = .sl 1 (out.map encStr1++[[dstr (s.drop f)]]) by simp[encStrs,encStr1]]
   exact .one (.tmp rfl (.one (.own rfl (by simp) (.refl _))))
theorem ok_words:FnOk Tryd.prog 59 [] (.one (encStrs words)):=by
 refine fnOk_of tbl_ok mixed_ok Tryd.func59 rfl (by kernel_rfl) rfl rfl fun w0 own0=>?_
 repeat(first|((with_reducible apply s5);((with_reducible apply a_bs (words.map encStr1));(iterate 9 exact rfl);(repeat(first|exact PartsE.nil|(apply PartsE.cons;exact rfl;exact rfl))));exact by_g)|refine wa1 ?_|((with_reducible apply s5);(first|exact by_oa|exact by_ca);exact by_g)|refine wb ?_)
 exact .one (.tmp rfl (.one (.d (.refl _))))
end Go.Proofs.YtfpkamiobdkcpaaDoor
namespace Go.Proofs
open Go.Shelf Go.RowKit
noncomputable def Tryd.laysC172_ren : Go.Shelf.Ren := ⟨fun | 129 => 93 | 171 => 67 | 172 => 66 | 205 => 85 | 243 => 74 | 244 => 72 | 245 => 73 | 246 => 81 | 247 => 76 | 279 => 77 | 280 => 78 | 281 => 79 | 282 => 80 | 283 => 86 | 284 => 87 | 285 => 88 | 286 => 89 | 287 => 83 | 316 => 84 | 317 => 92 | 318 => 94 | 319 => 95 | 320 => 96 | 321 => 90 | 322 => 91 | 337 => 97 | 338 => 98 | n => n, fun | 0 => 0 | 2 => 2 | 3 => 3 | 4 => 4 | 5 => 5 | 9 => 9 | 20 => 20 | 21 => 21 | 37 => 117 | 46 => 99 | 51 => 143 | 53 => 124 | 75 => 106 | 76 => 107 | 85 => 118 | 127 => 137 | 143 => 138 | 145 => 140 | 167 => 116 | 168 => 120 | 171 => 131 | 173 => 134 | 175 => 125 | 210 => 129 | 212 => 142 | 213 => 144 | 232 => 148 | 233 => 149 | 80 => 150 | n => n, fun | 15 => (Tryd.prog.globals.findIdx? (·.name == "strconv.ErrSyntax")).getD 0 | 16 => (Tryd.prog.globals.findIdx? (·.name == "strconv.ErrRange")).getD 0 | 17 => (Tryd.prog.globals.findIdx? (·.name == "internal/strconv.uint64pow10")).getD 0 | 18 => (Tryd.prog.globals.findIdx? (·.name == "math/bits.deBruijn32tab")).getD 0 | 19 => (Tryd.prog.globals.findIdx? (·.name == "math/bits.deBruijn64tab")).getD 0 | n => n⟩
theorem Tryd.laysC172:Go.Proofs.LaysC.n172 Tryd.prog Tryd.laysC172_ren:={
 mixed:=by kernel_rfl
 f129:=Tryd.func93.trans (congrArg some (by kernel_rfl))
 f171:=Tryd.func67.trans (congrArg some (by kernel_rfl))
 f172:=Tryd.func66.trans (congrArg some (by kernel_rfl))
 f205:=Tryd.func85.trans (congrArg some (by kernel_rfl))
 f243:=Tryd.func74.trans (congrArg some (by kernel_rfl))
 f244:=Tryd.func72.trans (congrArg some (by kernel_rfl))
 f245:=Tryd.func73.trans (congrArg some (by kernel_rfl))
 f246:=Tryd.func81.trans (congrArg some (by kernel_rfl))
 f247:=Tryd.func76.trans (congrArg some (by kernel_rfl))
 f279:=Tryd.func77.trans (congrArg some (by kernel_rfl))
 f280:=Tryd.func78.trans (congrArg some (by kernel_rfl))
 f281:=Tryd.func79.trans (congrArg some (by kernel_rfl))
 f282:=Tryd.func80.trans (congrArg some (by kernel_rfl))
 f283:=Tryd.func86.trans (congrArg some (by kernel_rfl))
 f284:=Tryd.func87.trans (congrArg some (by kernel_rfl))
 f285:=Tryd.func88.trans (congrArg some (by kernel_rfl))
 f286:=Tryd.func89.trans (congrArg some (by kernel_rfl))
 f287:=Tryd.func83.trans (congrArg some (by kernel_rfl))
 f316:=Tryd.func84.trans (congrArg some (by kernel_rfl))
 f317:=Tryd.func92.trans (congrArg some (by kernel_rfl))
 f318:=Tryd.func94.trans (congrArg some (by kernel_rfl))
 f319:=Tryd.func95.trans (congrArg some (by kernel_rfl))
 f320:=Tryd.func96.trans (congrArg some (by kernel_rfl))
 f321:=Tryd.func90.trans (congrArg some (by kernel_rfl))
 f322:=Tryd.func91.trans (congrArg some (by kernel_rfl))
 f337:=Tryd.func97.trans (congrArg some (by kernel_rfl))
 f338:=Tryd.func98.trans (congrArg some (by kernel_rfl))
 t0:=Tryd.underlying0
 a0:=Tryd.isAgg0
 z0:=Tryd.sizeOf0
 v0:=Tryd.zeroValue0
 t2:=Tryd.underlying2
 a2:=Tryd.isAgg2
 z2:=Tryd.sizeOf2
 v2:=Tryd.zeroValue2
 t3:=Tryd.underlying3
 a3:=Tryd.isAgg3
 z3:=Tryd.sizeOf3
 v3:=Tryd.zeroValue3
 t4:=Tryd.underlying4
 a4:=Tryd.isAgg4
 z4:=Tryd.sizeOf4
 v4:=Tryd.zeroValue4
 t5:=Tryd.underlying5
 a5:=Tryd.isAgg5
 z5:=Tryd.sizeOf5
 v5:=Tryd.zeroValue5
 t9:=Tryd.underlying9
 a9:=Tryd.isAgg9
 z9:=Tryd.sizeOf9
 v9:=Tryd.zeroValue9
 t20:=Tryd.underlying20
 a20:=Tryd.isAgg20
 z20:=Tryd.sizeOf20
 v20:=Tryd.zeroValue20
 t21:=Tryd.underlying21
 a21:=Tryd.isAgg21
 z21:=Tryd.sizeOf21
 v21:=Tryd.zeroValue21
 t37:=Tryd.underlying117
 a37:=Tryd.isAgg117
 z37:=Tryd.sizeOf117
 v37:=Tryd.zeroValue117
 t46:=Tryd.underlying99
 a46:=Tryd.isAgg99
 z46:=Tryd.sizeOf99
 v46:=Tryd.zeroValue99
 t51:=Tryd.underlying143
 a51:=Tryd.isAgg143
 z51:=Tryd.sizeOf143
 v51:=Tryd.zeroValue143
 t53:=Tryd.underlying124
 a53:=Tryd.isAgg124
 z53:=Tryd.sizeOf124
 v53:=Tryd.zeroValue124
 t75:=Tryd.underlying106
 a75:=Tryd.isAgg106
 z75:=Tryd.sizeOf106
 v75:=Tryd.zeroValue106
 t76:=Tryd.underlying107
 a76:=Tryd.isAgg107
 z76:=Tryd.sizeOf107
 v76:=Tryd.zeroValue107
 t85:=Tryd.underlying118
 a85:=Tryd.isAgg118
 z85:=Tryd.sizeOf118
 v85:=Tryd.zeroValue118
 t127:=Tryd.underlying137
 a127:=Tryd.isAgg137
 z127:=Tryd.sizeOf137
 v127:=Tryd.zeroValue137
 t143:=Tryd.underlying138
 a143:=Tryd.isAgg138
 z143:=Tryd.sizeOf138
 v143:=Tryd.zeroValue138
 t145:=Tryd.underlying140
 a145:=Tryd.isAgg140
 z145:=Tryd.sizeOf140
 v145:=Tryd.zeroValue140
 t167:=Tryd.underlying116
 a167:=Tryd.isAgg116
 z167:=Tryd.sizeOf116
 v167:=Tryd.zeroValue116
 t168:=Tryd.underlying120
 a168:=Tryd.isAgg120
 z168:=Tryd.sizeOf120
 v168:=Tryd.zeroValue120
 t171:=Tryd.underlying131
 a171:=Tryd.isAgg131
 z171:=Tryd.sizeOf131
 v171:=Tryd.zeroValue131
 t173:=Tryd.underlying134
 a173:=Tryd.isAgg134
 z173:=Tryd.sizeOf134
 v173:=Tryd.zeroValue134
 t175:=Tryd.underlying125
 a175:=Tryd.isAgg125
 z175:=Tryd.sizeOf125
 v175:=Tryd.zeroValue125
 t210:=Tryd.underlying129
 a210:=Tryd.isAgg129
 z210:=Tryd.sizeOf129
 v210:=Tryd.zeroValue129
 t212:=Tryd.underlying142
 a212:=Tryd.isAgg142
 z212:=Tryd.sizeOf142
 v212:=Tryd.zeroValue142
 t213:=Tryd.underlying144
 a213:=Tryd.isAgg144
 z213:=Tryd.sizeOf144
 t232:=Tryd.underlying148
 a232:=Tryd.isAgg148
 z232:=Tryd.sizeOf148
 v232:=Tryd.zeroValue148
 t233:=Tryd.underlying149
 a233:=Tryd.isAgg149
 z233:=Tryd.sizeOf149
 v233:=Tryd.zeroValue149
 g15:=by kernel_rfl
 g16:=by kernel_rfl
 g17:=by kernel_rfl
 g18:=by kernel_rfl
 g19:=by kernel_rfl
 t80:=Tryd.underlying150
 a80:=Tryd.isAgg150
 z80:=Tryd.sizeOf150
 v80:=Tryd.zeroValue150
 i0:=by kernel_rfl
 i2:=by kernel_rfl
 i3:=by kernel_rfl
 i4:=by kernel_rfl
 i5:=by kernel_rfl
 i9:=by kernel_rfl
 i20:=by kernel_rfl
 i21:=by kernel_rfl
 i37:=by kernel_rfl
 i46:=by kernel_rfl
 i51:=by kernel_rfl
 i53:=by kernel_rfl
 i75:=by kernel_rfl
 i76:=by kernel_rfl
 i80:=by kernel_rfl
 i85:=by kernel_rfl
 i127:=by kernel_rfl
 i143:=by kernel_rfl
 i145:=by kernel_rfl
 i167:=by kernel_rfl
 i168:=by kernel_rfl
 i171:=by kernel_rfl
 i173:=by kernel_rfl
 i175:=by kernel_rfl
 i210:=by kernel_rfl
 i212:=by kernel_rfl
 i232:=by kernel_rfl
 i233:=by kernel_rfl
 m15:=by kernel_rfl
 m16:=by kernel_rfl
 m17:=by kernel_rfl
 m18:=by kernel_rfl
 m19:=by kernel_rfl
 c0:=by kernel_rfl
 c2:=by kernel_rfl
 c3:=by kernel_rfl
 c4:=by kernel_rfl
 c5:=by kernel_rfl
 c9:=by kernel_rfl
 c20:=by kernel_rfl
 c21:=by kernel_rfl
 c37:=by kernel_rfl
 c46:=by kernel_rfl
 c51:=by kernel_rfl
 c53:=by kernel_rfl
 c75:=by kernel_rfl
 c76:=by kernel_rfl
 c80:=by kernel_rfl
 c85:=by kernel_rfl
 c127:=by kernel_rfl
 c143:=by kernel_rfl
 c145:=by kernel_rfl
 c167:=by kernel_rfl
 c168:=by kernel_rfl
 c171:=by kernel_rfl
 c173:=by kernel_rfl
 c175:=by kernel_rfl
 c210:=by kernel_rfl
 c212:=by kernel_rfl
 c213:=by kernel_rfl
 c232:=by kernel_rfl
 c233:=by kernel_rfl
 }
noncomputable def Tryd.lays171_ren : Go.Shelf.Ren := ⟨fun | 129 => 93 | 171 => 67 | 243 => 74 | 246 => 81 | 283 => 86 | 284 => 87 | 285 => 88 | 286 => 89 | 317 => 92 | 318 => 94 | 319 => 95 | 320 => 96 | 337 => 97 | 338 => 98 | n => n, fun | 0 => 0 | 2 => 2 | 3 => 3 | 4 => 4 | 5 => 5 | 9 => 9 | 20 => 20 | 37 => 117 | 46 => 99 | 51 => 143 | 53 => 124 | 171 => 131 | 173 => 134 | 212 => 142 | 213 => 144 | 232 => 148 | 233 => 149 | n => n, fun | 17 => (Tryd.prog.globals.findIdx? (·.name == "internal/strconv.uint64pow10")).getD 0 | 18 => (Tryd.prog.globals.findIdx? (·.name == "math/bits.deBruijn32tab")).getD 0 | 19 => (Tryd.prog.globals.findIdx? (·.name == "math/bits.deBruijn64tab")).getD 0 | n => n⟩
theorem Tryd.lays171:Go.Proofs.Lays.n171 Tryd.prog Tryd.lays171_ren:={
 mixed:=by kernel_rfl
 f129:=Tryd.func93.trans (congrArg some (by kernel_rfl))
 f171:=Tryd.func67.trans (congrArg some (by kernel_rfl))
 f243:=Tryd.func74.trans (congrArg some (by kernel_rfl))
 f246:=Tryd.func81.trans (congrArg some (by kernel_rfl))
 f283:=Tryd.func86.trans (congrArg some (by kernel_rfl))
 f284:=Tryd.func87.trans (congrArg some (by kernel_rfl))
 f285:=Tryd.func88.trans (congrArg some (by kernel_rfl))
 f286:=Tryd.func89.trans (congrArg some (by kernel_rfl))
 f317:=Tryd.func92.trans (congrArg some (by kernel_rfl))
 f318:=Tryd.func94.trans (congrArg some (by kernel_rfl))
 f319:=Tryd.func95.trans (congrArg some (by kernel_rfl))
 f320:=Tryd.func96.trans (congrArg some (by kernel_rfl))
 f337:=Tryd.func97.trans (congrArg some (by kernel_rfl))
 f338:=Tryd.func98.trans (congrArg some (by kernel_rfl))
 t0:=Tryd.underlying0
 a0:=Tryd.isAgg0
 z0:=Tryd.sizeOf0
 v0:=Tryd.zeroValue0
 t2:=Tryd.underlying2
 a2:=Tryd.isAgg2
 z2:=Tryd.sizeOf2
 v2:=Tryd.zeroValue2
 t3:=Tryd.underlying3
 a3:=Tryd.isAgg3
 z3:=Tryd.sizeOf3
 v3:=Tryd.zeroValue3
 t4:=Tryd.underlying4
 a4:=Tryd.isAgg4
 z4:=Tryd.sizeOf4
 v4:=Tryd.zeroValue4
 t5:=Tryd.underlying5
 a5:=Tryd.isAgg5
 z5:=Tryd.sizeOf5
 v5:=Tryd.zeroValue5
 t9:=Tryd.underlying9
 a9:=Tryd.isAgg9
 z9:=Tryd.sizeOf9
 v9:=Tryd.zeroValue9
 t20:=Tryd.underlying20
 a20:=Tryd.isAgg20
 z20:=Tryd.sizeOf20
 v20:=Tryd.zeroValue20
 t37:=Tryd.underlying117
 a37:=Tryd.isAgg117
 z37:=Tryd.sizeOf117
 v37:=Tryd.zeroValue117
 t46:=Tryd.underlying99
 a46:=Tryd.isAgg99
 z46:=Tryd.sizeOf99
 v46:=Tryd.zeroValue99
 t51:=Tryd.underlying143
 a51:=Tryd.isAgg143
 z51:=Tryd.sizeOf143
 v51:=Tryd.zeroValue143
 t53:=Tryd.underlying124
 a53:=Tryd.isAgg124
 z53:=Tryd.sizeOf124
 v53:=Tryd.zeroValue124
 t171:=Tryd.underlying131
 a171:=Tryd.isAgg131
 z171:=Tryd.sizeOf131
 v171:=Tryd.zeroValue131
 t173:=Tryd.underlying134
 a173:=Tryd.isAgg134
 z173:=Tryd.sizeOf134
 v173:=Tryd.zeroValue134
 t212:=Tryd.underlying142
 a212:=Tryd.isAgg142
 z212:=Tryd.sizeOf142
 v212:=Tryd.zeroValue142
 t213:=Tryd.underlying144
 a213:=Tryd.isAgg144
 z213:=Tryd.sizeOf144
 t232:=Tryd.underlying148
 a232:=Tryd.isAgg148
 z232:=Tryd.sizeOf148
 v232:=Tryd.zeroValue148
 t233:=Tryd.underlying149
 a233:=Tryd.isAgg149
 z233:=Tryd.sizeOf149
 v233:=Tryd.zeroValue149
 g17:=by kernel_rfl
 g18:=by kernel_rfl
 g19:=by kernel_rfl
 }
end Go.Proofs
namespace Go.Proofs.YtfpkamiobdkcpaaDoor
open Go.AX Go.RF Go.RowKit
set_option maxRecDepth 100000
set_option maxHeartbeats 4000000
theorem numV_ok {s:Str}{v:Int}(h:numV s=some v):Lib.atoiAll s = .ok v∧Lib.itoa v=s:=by
 unfold numV at h
 split at h
 ·
  next x hx =>
  split at h
  ·
   next hy=>cases h;exact⟨hx,hy⟩
  ·
   cases h
 ·
  cases h
theorem ok_atoi (s:Str) (v:Int) (hs:s.length≤1073741824) (h:Lib.atoiAll s = .ok v):FnOk Tryd.prog 66 [.d (dstr s)] (.tup [dint v,.v .nilIface]):=by
 refine⟨⟨_,Tryd.func66,by kernel_rfl,by kernel_rfl⟩,fun w own vs hown ha=>?_⟩
 match vs,ha with
 | [x],⟨h1,_⟩ =>
  obtain rfl:x=str s:=rd_v h1
  refine(Any.strconv_Atoi_ok Tryd.laysC172 ⟨s.toArray⟩ (by show s.toArray.size≤_;simp;omega) v (by simpa using h) w).mono fun e w' he=>?_
  obtain⟨rfl,hw⟩:=he
  refine⟨_,rfl,?_,_,rfl,rfl,fun j c x hj hc=>?_⟩
  ·
   rcases hw with rfl|⟨t,rfl⟩
   ·
    exact Below.refl _ _
   ·
    exact Lib.bytesWorld_below _ _ _
  ·
   match j,hj,hc with
   |0,hj,hc=>simp at hj hc;subst hj hc;exact Rd.v _
   |1,hj,hc=>simp at hj hc;subst hj hc;exact Rd.v _
   |j+2,hj,hc=>simp at hj
theorem ok_itoaS (i:Nat) (hi:i < 100):FnOk Tryd.prog 67 [.d (dint i)] (.one (dstr (Lib.itoa i))):=by
 refine⟨⟨_,Tryd.func67,by kernel_rfl,by kernel_rfl⟩,fun w own vs hown ha=>?_⟩
 match vs,ha with
 | [x],⟨h1,_⟩ =>
  obtain rfl:x=i64 i:=rd_v h1
  refine(Any.strconv_Itoa_small Tryd.lays171 i hi w).mono fun e w' he=>?_
  obtain⟨rfl,rfl⟩:=he
  refine⟨_,rfl,Below.refl _ _,?_⟩
  have hx:Lib.itoa i=Lib.decDigits i:=by rw[Lib.itoa,if_neg (by omega)];rfl
  rw[hx]
  exact Rd.v _
theorem ok_numS (s:Str) (v:Int) (hs:s.length≤1073741824) (h:numV s=some v) (h0:0≤v) (h1:v < 100):FnOk Tryd.prog 60 [.d (dstr s)] (.tup [dint v,dbool true]):=by
 refine fnOk_of tbl_ok mixed_ok Tryd.func60 rfl (by kernel_rfl) rfl rfl fun w0 own0=>?_
 obtain⟨ha,hb⟩:=numV_ok h
 obtain⟨i,rfl⟩:=Int.eq_ofNat_of_zero_le h0
 have c1:=ok_atoi s i hs ha
 have c2:=ok_itoaS i (by omega)
 rw[hb]at c2
 repeat(first|refine wa ?_|((with_reducible apply s5);(first|((with_reducible apply a_noerr);exact rfl;exact Tryd.underlying106;exact rfl)|exact by_oa|exact by_ca);exact by_g)|refine wb ?_)
 exact .two (.tmp rfl (.one (.d (.refl _)))) (.tmp rfl (.one (.d (dle_bool (by simp)))))
end Go.Proofs.YtfpkamiobdkcpaaDoor
namespace Go.Proofs.YtfpkamiobdkcpaaDoor
open Go.AX Go.RF
set_option maxRecDepth 100000
set_option maxHeartbeats 4000000
theorem ls_first {l:List Str}{r:List (List Str)}{v:Int}(h:lsGo (l::r)=v):(keysWrong l=0∧lsGo r=v)∨(keysWrong l≠0∧keysWrong l=v):=by
 simp only[lsGo]at h
 split at h
 ·
  next h0=>exact .inl ⟨h0,h⟩
 ·
  next h0=>exact .inr ⟨h0,h⟩
theorem ok_wrongDeed (d:Deed) (hr:d.reads.length≤268435456) (hw:d.writes.length≤268435456) (hc:d.code.length≤268435456)
  (hrk:∀ s∈d.reads,s.length≤1073741824) (hwk:∀ s∈d.writes,s.length≤1073741824):FnOk Tryd.prog 22 [.d (.agg d.enc)] (.one (dint (wrongDeed d))):=by
 refine fnOk_of tbl_ok mixed_ok Tryd.func22 rfl (by kernel_rfl) rfl rfl fun w0 own0=>?_
 repeat(first|((with_reducible apply s5);((with_reducible apply a_bs ([d.reads,d.writes].map fun l=>[encStrs l]));(iterate 9 exact rfl);(repeat(first|exact PartsE.nil|(apply PartsE.cons;exact rfl;exact rfl))));exact by_g)|refine wa1 ?_|((with_reducible apply s5);(first|exact by_oa|exact by_ca);exact by_g)|refine wb ?_)
 refine CW.loopT (fun j:Nat=>[(.s 1,.av (.ptr 0 0)),(.o 0,.ob (.box (d.enc.map AV.d))),(.s 18,.av (.d (.sl 1 ([d.reads,d.writes].map fun l=>[encStrs l])))),(.s 19,.av (.d (dint 2))),(.s 20,.av (.d (dint j))),(.nx,.num 1)])
  (fun j=>j≤[d.reads,d.writes].length∧lsGo ([d.reads,d.writes].drop j)=lsGo [d.reads,d.writes]) (fun j=>2 - j) 0 ⟨by simp,rfl⟩ ?_ ?_
 ·
  exact by_less
 ·
  rintro j ⟨hj,hI⟩
  have hj2:j≤2:=hj
  rcases drop_case hj with ⟨h1,h2⟩|⟨l,h1,h2,h3⟩
  ·
   have h2':j=2:=h2
   rw[h1]at hI
   have hI':lsGo [d.reads,d.writes]=0:=hI.symm
   by_cases h4:12 < d.code.length
   ·
    try refine wk ?_
    exact .one (.tmp rfl (.one (.d (dle_int (by simp[wrongDeed,hI',h4])))))
   ·
    try refine wk ?_
    refine CW.loopT (fun k:Nat=>[(.s 1,.av (.ptr 0 0)),(.o 0,.ob (.box (d.enc.map AV.d))),(.s 51,.av (.d (encCode d.code))),(.s 52,.av (.d (dint d.code.length))),(.s 53,.av (.d (dint k))),(.nx,.num 1)])
     (fun k=>k≤d.code.length∧codeGo d k (d.code.drop k)=codeGo d 0 d.code) (fun k=>d.code.length - k) 0 ⟨by omega,rfl⟩ ?_ ?_
    ·
     exact by_less
    ·
     rintro k ⟨hk,hC⟩
     rcases drop_case hk with ⟨h5,h6⟩|⟨i,h5,h6,h7⟩
     ·
      rw[h5]at hC
      simp only[codeGo]at hC
      try refine wk ?_
      exact .one (.tmp rfl (.one (.d (dle_int (by rw[wrongDeed,if_pos hI',if_neg h4,hC])))))
     ·
      rw[h5]at hC
      have hbad:wrongIns d ((d.code.length:Int) - 1 - k) i≠0→wrongIns d ((d.code.length:Int) - 1 - k) i=wrongDeed d:=fun h0=>by
       rw[codeGo,if_neg h0]at hC
       rw[wrongDeed,if_pos hI',if_neg h4,hC]
      have hgood:wrongIns d ((d.code.length:Int) - 1 - k) i=0→codeGo d (k+1) (d.code.drop (k+1))=codeGo d 0 d.code:=fun h0=>by
       rw[codeGo,if_pos h0]at hC
       exact hC
      clear hC h5
      obtain⟨kd0,ia,ib,n,key⟩:=i
      by_cases hk1:kd0 < 1
      ·
       try refine wk ?_
       have h0:wrongIns d ((d.code.length:Int) - 1 - k) ⟨kd0,ia,ib,n,key⟩=1:=by simp[wrongIns,hk1]
       exact .one (.tmp rfl (.one (.d (dle_int (by rw[← hbad (by rw[h0];decide),h0])))))
      ·
       by_cases hk9:9 < kd0
       ·
        try refine wk ?_
        have h0:wrongIns d ((d.code.length:Int) - 1 - k) ⟨kd0,ia,ib,n,key⟩=1:=by simp[wrongIns,hk9]
        exact .one (.tmp rfl (.one (.d (dle_int (by rw[← hbad (by rw[h0];decide),h0])))))
       ·
        obtain⟨kd,rfl⟩:=Int.eq_ofNat_of_zero_le (show 0≤kd0 by omega)
        have hkd:kd < 10:=by omega
        have hcA:=ok_has kd 114 hkd
        have hcB:=ok_has kd 115 hkd
        have hcK:=ok_has kd 107 hkd
        have hst0:StopA 21:=⟨rfl⟩
        try refine wkS ?_
        clear hst0
        refine Stop.cutk [(.s 9,.av (.d (dint (insA kd))))] [.s 1,.s 51,.s 52,.s 53,.s 7,.s 8,.s 10,.s 11,.s 12,.o 0,.o 1,.nx] ?_ ?_
        ·
         unfold insA
         cases hA:has kd 114
         ·
          repeat(first|refine wa ?_|((with_reducible apply s5);(first|exact a_call hcA rfl by_sub|exact by_oa|exact by_ca);exact by_g)|refine wb ?_)
          refine q_cut ?_
          exact by_less
         ·
          repeat(first|refine wa ?_|((with_reducible apply s5);(first|exact a_call hcA rfl by_sub|exact by_oa|exact by_ca);exact by_g)|refine wb ?_)
          refine q_cut ?_
          exact by_less
        have hst0:StopA 23:=⟨rfl⟩
        try refine wkS ?_
        clear hst0
        refine Stop.cutk [(.s 10,.av (.d (dint (insB kd))))] [.s 1,.s 51,.s 52,.s 53,.s 7,.s 8,.s 9,.s 11,.s 12,.o 0,.o 1,.nx] ?_ ?_
        ·
         unfold insB
         cases hA:has kd 115
         ·
          repeat(first|refine wa ?_|((with_reducible apply s5);(first|exact a_call hcB rfl by_sub|exact by_oa|exact by_ca);exact by_g)|refine wb ?_)
          refine q_cut ?_
          exact by_less
         ·
          repeat(first|refine wa ?_|((with_reducible apply s5);(first|exact a_call hcB rfl by_sub|exact by_oa|exact by_ca);exact by_g)|refine wb ?_)
          refine q_cut ?_
          exact by_less
        have hst0:StopA 25:=⟨rfl⟩
        try refine wkS ?_
        clear hst0
        refine Stop.cutk [(.s 11,.av (.d (dint (if kd=2 then -1073741824 else 0)))),(.s 12,.av (.d (dint (if kd=2 then 1073741824 else 0))))] [.s 1,.s 51,.s 52,.s 53,.s 7,.s 8,.s 9,.s 10,.o 0,.o 1,.nx] ?_ ?_
        ·
         by_cases hA:kd=2
         ·
          rw[if_pos hA,if_pos hA]
          try refine wk ?_
          refine q_cut ?_
          exact by_less
         ·
          rw[if_neg hA,if_neg hA]
          try refine wk ?_
          refine q_cut ?_
          exact by_less
        have hst0:StopA 27:=⟨rfl⟩
        try refine wkS ?_
        clear hst0
        refine Stop.cutk [(.s 11,.av (.d (dint (insLow kd)))),(.s 12,.av (.d (dint (insHigh kd ((d.code.length:Int) - 1 - k)))))] [.s 1,.s 51,.s 52,.s 53,.s 7,.s 8,.s 9,.s 10,.o 0,.o 1,.nx] ?_ ?_
        ·
         by_cases hA:kd=8
         ·
          have hB:¬ kd=2:=by omega
          rw[insLow,insHigh,if_neg hB,if_neg hB,if_neg hB,if_neg hB,if_pos hA,if_pos hA]
          repeat(first|((with_reducible apply st_bin);exact rfl;exact rfl;(apply bin_sub;simp only[List.length_map];omega);exact .none rfl;exact rfl)|refine wa1 ?_|((with_reducible apply s5);(first|exact by_oa|exact by_ca);exact by_g)|refine wb ?_)
          refine q_cut ?_
          exact by_less
         ·
          rw[insLow,insHigh,if_neg hA,if_neg hA]
          try refine wk ?_
          refine q_cut ?_
          exact by_less
        have hst0:StopR 29:=⟨rfl⟩
        try refine wkS ?_
        clear hst0
        refine Stop.cutk [(.s 115,.av (.d (dbool (insOut kd ia ib n ((d.code.length:Int) - 1 - k)))))] [.s 1,.s 51,.s 52,.s 53,.s 8,.o 0,.o 1,.nx] ?_ ?_
        ·
         unfold insOut
         by_cases c1:ia < 0
         ·
          rw[decide_eq_true c1]
          try refine wk ?_
          refine q_cut ?_
          exact by_less
         rw[decide_eq_false c1,Bool.false_or]
         by_cases c2:insA kd < ia
         ·
          rw[decide_eq_true c2]
          try refine wk ?_
          refine q_cut ?_
          exact by_less
         rw[decide_eq_false c2,Bool.false_or]
         by_cases c3:ib < 0
         ·
          rw[decide_eq_true c3]
          try refine wk ?_
          refine q_cut ?_
          exact by_less
         rw[decide_eq_false c3,Bool.false_or]
         by_cases c4:insB kd < ib
         ·
          rw[decide_eq_true c4]
          try refine wk ?_
          refine q_cut ?_
          exact by_less
         rw[decide_eq_false c4,Bool.false_or]
         by_cases c5:n < insLow kd
         ·
          rw[decide_eq_true c5]
          try refine wk ?_
          refine q_cut ?_
          exact by_less
         rw[decide_eq_false c5,Bool.false_or]
         try refine wk ?_
         refine q_cut ?_
         exact by_less
        have hw0:wrongIns d ((d.code.length:Int) - 1 - k) ⟨kd,ia,ib,n,key⟩=if insOut kd ia ib n ((d.code.length:Int) - 1 - k)=true then 3 else if has kd 107=false then (if key=[] then 0 else 2)
          else if isIn (if (kd:Int)=1 then d.reads else d.writes) key=true then 0 else 9:=by
         rw[wrongIns,if_neg (by show ¬ ((kd:Int) < 1∨9 < (kd:Int));omega)]
         rfl
        have hcr:=ok_in d.reads key (by omega)
        have hcw:=ok_in d.writes key (by omega)
        cases hO:insOut kd ia ib n ((d.code.length:Int) - 1 - k)
        ·
         rw[if_neg (by simp[hO])]at hw0
         cases hK:has kd 107
         ·
          rw[if_pos hK]at hw0
          by_cases hkey:key=[]
          ·
           rw[if_pos hkey]at hw0
           repeat(first|refine wa ?_|((with_reducible apply s5);(first|exact a_call hcK rfl by_sub|exact by_oa|exact by_ca);exact by_g)|refine wb ?_)
           refine q_loopT (k+1) ⟨by omega,hgood hw0⟩ (by omega) ?_
           exact by_less
          ·
           rw[if_neg hkey]at hw0
           repeat(first|refine wa ?_|((with_reducible apply s5);(first|exact a_call hcK rfl by_sub|exact by_oa|exact by_ca);exact by_g)|refine wb ?_)
           exact .one (.tmp rfl (.one (.d (dle_int (by rw[← hbad (by rw[hw0];decide),hw0])))))
         ·
          rw[if_neg (by simp[hK])]at hw0
          by_cases hk1':(kd:Int)=1
          ·
           rw[if_pos hk1']at hw0
           cases hin:isIn d.reads key
           ·
            rw[if_neg (by simp[hin])]at hw0
            repeat(first|refine wa ?_|((with_reducible apply s5);(first|exact a_call hcK rfl by_sub|exact a_call hcr rfl by_sub|exact by_oa|exact by_ca);exact by_g)|refine wb ?_)
            exact .one (.tmp rfl (.one (.d (dle_int (by rw[← hbad (by rw[hw0];decide),hw0])))))
           ·
            rw[if_pos hin]at hw0
            repeat(first|refine wa ?_|((with_reducible apply s5);(first|exact a_call hcK rfl by_sub|exact a_call hcr rfl by_sub|exact by_oa|exact by_ca);exact by_g)|refine wb ?_)
            refine q_loopT (k+1) ⟨by omega,hgood hw0⟩ (by omega) ?_
            exact by_less
          ·
           rw[if_neg hk1']at hw0
           cases hin:isIn d.writes key
           ·
            rw[if_neg (by simp[hin])]at hw0
            repeat(first|refine wa ?_|((with_reducible apply s5);(first|exact a_call hcK rfl by_sub|exact a_call hcw rfl by_sub|exact by_oa|exact by_ca);exact by_g)|refine wb ?_)
            exact .one (.tmp rfl (.one (.d (dle_int (by rw[← hbad (by rw[hw0];decide),hw0])))))
           ·
            rw[if_pos hin]at hw0
            repeat(first|refine wa ?_|((with_reducible apply s5);(first|exact a_call hcK rfl by_sub|exact a_call hcw rfl by_sub|exact by_oa|exact by_ca);exact by_g)|refine wb ?_)
            refine q_loopT (k+1) ⟨by omega,hgood hw0⟩ (by omega) ?_
            exact by_less
        ·
         rw[if_pos hO]at hw0
         try refine wk ?_
         exact .one (.tmp rfl (.one (.d (dle_int (by rw[← hbad (by rw[hw0];decide),hw0])))))
  ·
   have h3':j < 2:=h3
   rw[h1]at hI
   have hl:l.length≤268435456∧∀ s∈l,s.length≤1073741824:=by
    have:=List.mem_of_getElem? h2
    simp at this
    rcases this with rfl|rfl
    ·
     exact⟨hr,hrk⟩
    ·
     exact⟨hw,hwk⟩
   have hbad:keysWrong l≠0→keysWrong l=wrongDeed d:=fun h0=>by
    rcases ls_first hI with ⟨h5,h6⟩|⟨h5,h6⟩
    ·
     exact absurd h5 h0
    ·
     rw[wrongDeed,if_neg (by rw[← h6];exact h0),h6]
   by_cases h4:5 < l.length
   ·
    have h6:keysWrong l=5:=by rw[keysWrong,if_pos h4]
    try refine wk ?_
    exact .one (.tmp rfl (.one (.d (dle_int (by rw[← h6];exact hbad (by rw[h6];decide))))))
   ·
    try refine wk ?_
    refine CW.loopT (fun i:Nat=>[(.s 1,.av (.ptr 0 0)),(.o 0,.ob (.box (d.enc.map AV.d))),(.s 18,.av (.d (.sl 1 ([d.reads,d.writes].map fun l=>[encStrs l])))),(.s 19,.av (.d (dint 2))),(.s 20,.av (.d (dint j))),(.s 4,.av (.d (encStrs l))),(.s 27,.av (.d (encStrs l))),(.s 28,.av (.d (dint l.length))),(.s 29,.av (.d (dint i))),(.nx,.num 1)])
     (fun i=>i≤l.length∧keysGo l i (l.drop i)=keysWrong l) (fun i=>l.length - i) 0 ⟨by omega,by rw[keysWrong,if_neg h4];rfl⟩ ?_ ?_
    ·
     exact by_less
    ·
     rintro i ⟨hi,hJ⟩
     rcases drop_case hi with ⟨h5,h6⟩|⟨k,h5,h6,h7⟩
     ·
      rw[h5]at hJ
      simp only[keysGo]at hJ
      try refine wk ?_
      refine q_loopT (j+1) ⟨by simp;omega,?_⟩ (by omega) ?_
      ·
       rcases ls_first hI with ⟨h8,h9⟩|⟨h8,h9⟩
       ·
        exact h9
       ·
        exact absurd hJ.symm h8
      ·
       exact by_less
     ·
      rw[h5]at hJ
      simp only[keysGo]at hJ
      have hck:=ok_key k (hl.2 k (List.mem_of_getElem? h6))
      have hin:FnOk Tryd.prog 32 [.d (.sl 1 ((l.map encStr1).take i)),.d (dstr k)] (.one (dbool (isIn (l.take i) k))):=by
       rw[← List.map_take]
       exact ok_in (l.take i) k (by rw[List.length_take];have:=hl.1;omega)
      cases h8:key k
      ·
       rw[if_pos h8]at hJ
       try refine wk ?_
       exact .one (.tmp rfl (.one (.d (dle_int (by rw[hJ];exact hbad (by rw[← hJ];decide))))))
      ·
       rw[if_neg (by simp[h8])]at hJ
       cases h9:isIn (l.take i) k
       ·
        rw[if_neg (by simp[h9])]at hJ
        repeat(first|refine wa ?_|((with_reducible apply s5);(first|exact a_call hin rfl by_sub|exact by_oa|exact by_ca);exact by_g)|refine wb ?_)
        refine q_loopT (i+1) ⟨by omega,hJ⟩ (by omega) ?_
        exact by_less
       ·
        rw[if_pos h9]at hJ
        repeat(first|refine wa ?_|((with_reducible apply s5);(first|exact a_call hin rfl by_sub|exact by_oa|exact by_ca);exact by_g)|refine wb ?_)
        exact .one (.tmp rfl (.one (.d (dle_int (by rw[hJ];exact hbad (by rw[← hJ];decide))))))
end Go.Proofs.YtfpkamiobdkcpaaDoor
namespace Go.Proofs.YtfpkamiobdkcpaaDoor
open Go.AX Go.RF Go.RowKit
set_option maxRecDepth 100000
set_option maxHeartbeats 16000000
theorem splitF_part (sep:Str):∀ (n:Nat) (cur r:Str),∀ p∈splitF sep n cur r,p.length≤cur.length+r.length
 |0,cur,r=>by simp[splitF]
 |n+1,cur,r=>by
  rw[splitF_succ]
  split
  ·
   simp
  split
  ·
   intro p hp
   rcases List.mem_cons.1 hp with rfl|hp
   ·
    omega
   ·
    have:=splitF_part sep n [] _ p hp
    rw[List.length_nil,List.length_drop]at this
    omega
  cases r with
  |nil=>simp
  |cons c t =>
   intro p hp
   have:=splitF_part sep n _ _ p hp
   simp at this ⊢
   omega
theorem split_part {s sep:Str}{p:Str}(h:p∈split s sep):p.length≤s.length:=by
 have:=splitF_part sep _ _ _ p h
 simpa using this
theorem split_len (s sep:Str):(split s sep).length≤s.length+1:=splitF_len sep _ _ _
def smallN (o:Option Int):Bool:=match o with
 |none=>true
 |some v=>decide (0≤v∧v < 100)
def smallS (s:Str):Bool:=(split s [59,32]).all fun p=>(split p [32]).all fun w=>smallN (numV w)&&smallN (regV w)
theorem smallN_of {o:Option Int}{v:Int}(h:smallN o=true) (hv:o=some v):0≤v∧v < 100:=by
 subst hv;simpa[smallN] using h
theorem insAll_cons {p:Str}{r:List Str}{l:List Ins}(h:insAll (p::r)=some l):∃ i l',insP (split p [32])=some i∧insAll r=some l'∧l=i::l':=by
 simp only[insAll]at h
 split at h
 ·
  next i l' h1 h2=>cases h;exact⟨i,l',h1,h2,rfl⟩
 ·
  cases h
theorem insP_some {l:List Str}{i:Ins}(h:insP l=some i):∃ w ws,l=w::ws∧kindOf w≠0∧ws.length=(form (kindOf w).toNat).length∧fillI ⟨kindOf w,0,0,0,[]⟩ (form (kindOf w).toNat) ws=some i:=by
 match l,h with
 | [],h=>simp[insP]at h
 |w::ws,h =>
  simp only[insP]at h
  split at h
  ·
   cases h
  ·
   next h1 =>
   split at h
   ·
    next h2=>exact⟨w,ws,rfl,h1,h2,h⟩
   ·
    cases h
theorem fillI_cons {i i':Ins}{c:UInt8}{f:Str}{w:Str}{ws:List Str}(h:fillI i (c::f) (w::ws)=some i') :
  (c.toNat=107∧fillI { i with key:=w } f ws=some i')∨(c.toNat=110∧∃ n,numV w=some n∧fillI { i with n:=n } f ws=some i') ∨
  (c.toNat≠107∧c.toNat≠110∧∃ r x,w=114::r∧numV r=some x∧((c.toNat=114∧fillI { i with a:=x } f ws=some i')∨(c.toNat≠114∧fillI { i with b:=x } f ws=some i'))):=by
 have hc:∀ k:UInt8,c=k↔c.toNat=k.toNat:=fun k=>by rw[UInt8.toNat_inj]
 simp only[fillI]at h
 split at h
 ·
  next h1=>exact .inl ⟨(hc _).1 h1,h⟩
 ·
  next h1 =>
  have h1':c.toNat≠107:=fun e=>h1 ((hc 107).2 e)
  split at h
  ·
   next h2 =>
   split at h
   ·
    next n hn=>exact .inr (.inl ⟨(hc _).1 h2,n,hn,h⟩)
   ·
    cases h
  ·
   next h2 =>
   have h2':c.toNat≠110:=fun e=>h2 ((hc 110).2 e)
   refine .inr (.inr ⟨h1',h2',?_⟩)
   split at h
   ·
    next x hx =>
    have:∃ r,w=114::r∧numV r=some x:=by
     match w,hx with
     | [],hx=>simp[regV]at hx
     |b::r,hx =>
      by_cases hb:b=114
      ·
       subst hb;exact⟨r,rfl,hx⟩
      ·
       unfold regV at hx
       split at hx
       ·
        next r' he=>cases he;exact absurd rfl hb
       ·
        cases hx
    obtain⟨r,h3,h4⟩:=this
    refine⟨r,x,h3,h4,?_⟩
    split at h
    ·
     next h5=>exact .inl ⟨(hc _).1 h5,h⟩
    ·
     next h5=>exact .inr ⟨fun e=>h5 ((hc 114).2 e),h⟩
   ·
    cases h
theorem parseD_some {s:Str}{d:Deed}(h:parseD s=some d):s.length≤400∧∃ p0 p1 ps,split s [59,32]=p0::p1::ps∧split p0 [32]=[114,101,97,100,115]::d.reads∧split p1 [32]=[119,114,105,116,101,115]::d.writes∧insAll ps=some d.code∧wrongDeed d=0:=by
 unfold parseD at h
 split at h
 ·
  cases h
 ·
  next h0 =>
  refine⟨by omega,?_⟩
  split at h
  ·
   next p0 p1 ps h1 =>
   split at h
   ·
    next w0 rs w1 ws code h2 h3 h4 =>
    split at h
    ·
     next h5 =>
     obtain⟨rfl,rfl,h6⟩:=h5
     cases h
     exact⟨p0,p1,ps,h1,h2,h3,h4,h6⟩
    ·
     cases h
   ·
    cases h
  ·
   cases h
theorem ok_parseS (s:Str) (d:Deed) (h:parseD s=some d) (hm:smallS s=true):FnOk Tryd.prog 48 [.d (dstr s)] (.tup [.agg d.enc,dint 0]):=by
 refine fnOk_of tbl_ok mixed_ok Tryd.func48 rfl (by kernel_rfl) rfl rfl fun w0 own0=>?_
 obtain⟨hs,p0,p1,ps,e0,e1,e2,e3,e4⟩:=parseD_some h
 obtain⟨rs,ws,cd⟩:=d
 dsimp only at e1 e2 e3
 have c1:=ok_split s [59,32] (by omega) (by simp) (by simp)
 have hsl:=split_len s [59,32]
 have hsp:∀ p∈split s [59,32],p.length≤400:=fun p hp=>Nat.le_trans (split_part hp) hs
 have hsm:∀ p∈split s [59,32],∀ w∈split p [32],smallN (numV w)=true∧smallN (regV w)=true:=fun p hp w hw=>by
  have:=List.all_eq_true.1 (List.all_eq_true.1 hm p hp) w hw
  simpa using this
 generalize hl:split s [59,32]=l at *
 have h2l:2≤l.length:=by rw[e0];simp
 have hst0:StopA 8:=⟨rfl⟩
 try refine wkS ?_
 clear hst0
 refine Stop.go (CW.stut (stut_promote_cell (id:=1) (j:=2) 65 5 rfl) ⟨rfl,rfl,trivial⟩ ?_)
 try refine wk ?_
 refine CW.loopT (fun t:Nat×D×D×List Ins=>[sp 2 0,ob 0 [.v nilS,.v nilS,.v nilS],sp 6 1,(.o 1,.ob (.box [.d t.2.1,.d t.2.2.1,.own 2 t.2.2.2.length])),oa 2 65 5 (t.2.2.2.map Ins.enc),sd 36 (encStrs l),sd 37 (dint l.length),sd 38 (dint t.1),nxt 3])
  (fun t=>t.1≤l.length∧(1≤t.1→t.2.1=encStrs rs)∧(2≤t.1→t.2.2.1=encStrs ws)∧t.2.2.2.length≤t.1∧∃ rest,insAll (l.drop (max t.1 2))=some rest∧t.2.2.2++rest=cd) (fun t=>l.length - t.1) (0,.v nilS,.v nilS,[])
  ⟨by dsimp only;omega,fun h=>by dsimp only at h;omega,fun h=>by dsimp only at h;omega,by simp,cd,by rw[e0];exact e3,rfl⟩ ?_ ?_
 ·
  exact by_less
 ·
  rintro ⟨x,R,W,code⟩ ⟨hx,hR,hW,hc,rest,hr,hcd⟩
  dsimp only at hx hR hW hc hr hcd ⊢
  rcases drop_case hx with ⟨h1,h2⟩|⟨p,h1,h2,h3⟩
  ·
   rw[show max x 2=x by omega,h1]at hr
   cases hr
   rw[List.append_nil]at hcd
   obtain rfl:=hR (by omega)
   obtain rfl:=hW (by omega)
   subst hcd
   have hrs:∀ k∈rs,k.length≤400:=fun k hk=>Nat.le_trans (split_part (s:=p0) (sep:=[32]) (by rw[e1];exact List.mem_cons_of_mem _ hk)) (hsp p0 (by rw[e0];simp))
   have hws:∀ k∈ws,k.length≤400:=fun k hk=>Nat.le_trans (split_part (s:=p1) (sep:=[32]) (by rw[e2];exact List.mem_cons_of_mem _ hk)) (hsp p1 (by rw[e0];simp))
   have hrl:rs.length≤400:=by have:=split_len p0 [32];rw[e1]at this;have:=hsp p0 (by rw[e0];simp);simp at *;omega
   have hwl:ws.length≤400:=by have:=split_len p1 [32];rw[e2]at this;have:=hsp p1 (by rw[e0];simp);simp at *;omega
   have cw:=ok_wrongDeed ⟨rs,ws,code⟩ (by dsimp only;omega) (by dsimp only;omega) (by dsimp only;omega) (fun k hk=>by have:=hrs k hk;omega) (fun k hk=>by have:=hws k hk;omega)
   rw[e4]at cw
   have hst0:StopA 52:=⟨rfl⟩
   try refine wkS ?_
   clear hst0
   refine Stop.go (CW.stut (stut_freeze_cell (id:=1) (j:=2) (i:=2) rfl (by simp)) ⟨rfl,rfl,trivial⟩ ?_)
   try refine wk ?_
   exact .two (.cell rfl rfl rfl rfl (.aggd rfl (.refl _))) (.tmp rfl (.one (.d (.refl _))))
  ·
   have hp:p∈l:=List.mem_of_getElem? h2
   have hpl:=hsp p hp
   have c2:=ok_split p [32] (by omega) (by simp) (by simp)
   by_cases hx0:x=0
   ·
    subst hx0
    have h2':=h2
    rw[e0]at h2
    obtain rfl:p0=p:=by simpa using h2
    rw[e1]at c2
    have hrl:rs.length≤400:=by have:=split_len p0 [32];rw[e1]at this;simp at *;omega
    have hw0:(([114,101,97,100,115]:Str)::rs)[0]? = some [114,101,97,100,115]:=rfl
    have hn0:([[114,101,97,100,115],[119,114,105,116,101,115]]:List Str)[0]? = some [114,101,97,100,115]:=rfl
    repeat(first|((with_reducible apply s5);((with_reducible apply a_bs (([[114,101,97,100,115],[119,114,105,116,101,115]]:List Str).map encStr1));(iterate 9 exact rfl);(repeat(first|exact PartsE.nil|(apply PartsE.cons;exact rfl;exact rfl))));exact by_g)|refine wa1 ?_|((with_reducible apply s5);(first|exact a_call c2 rfl by_sub|exact by_oa|exact by_ca);exact by_g)|refine wb ?_)
    refine q_loopT (1,encStrs rs,W,code) ⟨by dsimp only;omega,fun _=>rfl,fun h=>by dsimp only at h;omega,by dsimp only;omega,rest,hr,hcd⟩ (by dsimp only;omega) ?_
    exact by_less
   by_cases hx1:x=1
   ·
    subst hx1
    have h2':=h2
    rw[e0]at h2
    obtain rfl:p1=p:=by simpa using h2
    rw[e2]at c2
    have hwl:ws.length≤400:=by have:=split_len p1 [32];rw[e2]at this;simp at *;omega
    have hw0:(([119,114,105,116,101,115]:Str)::ws)[0]? = some [119,114,105,116,101,115]:=rfl
    have hn0:([[114,101,97,100,115],[119,114,105,116,101,115]]:List Str)[1]? = some [119,114,105,116,101,115]:=rfl
    repeat(first|((with_reducible apply s5);((with_reducible apply a_bs (([[114,101,97,100,115],[119,114,105,116,101,115]]:List Str).map encStr1));(iterate 9 exact rfl);(repeat(first|exact PartsE.nil|(apply PartsE.cons;exact rfl;exact rfl))));exact by_g)|refine wa1 ?_|((with_reducible apply s5);(first|exact a_call c2 rfl by_sub|exact by_oa|exact by_ca);exact by_g)|refine wb ?_)
    refine q_loopT (2,R,encStrs ws,code) ⟨by dsimp only;omega,fun _=>hR (by omega),fun _=>rfl,by dsimp only;omega,rest,hr,hcd⟩ (by dsimp only;omega) ?_
    exact by_less
   rw[show max x 2=x by omega,h1]at hr
   obtain⟨i1,rest',hi,hr',rfl⟩:=insAll_cons hr
   have hsw:=hsm p hp
   generalize hwds:split p [32]=wds at *
   obtain⟨w,wz,rfl,hk0,hlen,hfi⟩:=insP_some hi
   have hwl:wz.length≤400:=by have:=split_len p [32];rw[hwds]at this;simp at *;omega
   have cw:=ok_words
   have hw0:(w::wz)[0]? = some w:=rfl
   repeat(first|refine wa ?_|((with_reducible apply s5);(first|exact a_call c2 rfl by_sub|exact a_call cw rfl by_sub|exact by_oa|exact by_ca);exact by_g)|refine wb ?_)
   refine CW.loopT (fun t:Nat×Int=>[sp 2 0,ob 0 [.v nilS,.v nilS,.v nilS],sp 6 1,(.o 1,.ob (.box [.d R,.d W,.own 2 code.length])),oa 2 65 5 (code.map Ins.enc),sd 36 (encStrs l),sd 37 (dint l.length),sd 38 (dint x),
     sd 9 (encStrs (w::wz)),sp 10 3,ob 3 [dint t.2,dint 0,dint 0,dint 0,dstr []],sd 68 (encStrs words),sd 69 (dint words.length),sd 70 (dint t.1),nxt 4])
    (fun t=>t.1≤words.length∧0≤t.2∧t.2 < 10∧kindGo w t.1 t.2 (words.drop t.1)=kindOf w) (fun t=>words.length - t.1) (0,0) ⟨by dsimp only;omega,by dsimp only;omega,by dsimp only;omega,rfl⟩ ?_ ?_
   ·
    exact by_less
   ·
    rintro ⟨y,k⟩ ⟨hy,hk1,hk2,hK⟩
    dsimp only at hy hk1 hk2 hK ⊢
    have hwn:words.length=10:=rfl
    rcases drop_case hy with ⟨g1,g2⟩|⟨u,g1,g2,g3⟩
    ·
     rw[g1,kindGo]at hK
     subst hK
     obtain⟨K,hKe⟩:=Int.eq_ofNat_of_zero_le hk1
     rw[hKe]at hlen hfi hk0 hk2 ⊢
     rw[Int.toNat_natCast]at hlen hfi
     have cf:=ok_form K (by omega)
     have hfl:=form_len K
     generalize form K=f at *
     try refine wk ?_
     refine CW.loopT (fun t:Nat×Ins=>[sp 2 0,ob 0 [.v nilS,.v nilS,.v nilS],sp 6 1,(.o 1,.ob (.box [.d R,.d W,.own 2 code.length])),oa 2 65 5 (code.map Ins.enc),sd 36 (encStrs l),sd 37 (dint l.length),sd 38 (dint x),
       sd 9 (encStrs (w::wz)),sp 10 3,ob 3 t.2.enc,sd 13 (dstr f),sd 107 (dstr f),sd 108 (dint f.length),sd 109 (dint t.1),nxt 4])
      (fun t=>t.1≤f.length∧fillI t.2 (f.drop t.1) (wz.drop t.1)=some i1) (fun t=>f.length - t.1) (0,⟨K,0,0,0,[]⟩) ⟨by dsimp only;omega,hfi⟩ ?_ ?_
     ·
      exact by_less
     ·
      rintro ⟨j,i⟩ ⟨hj,hI⟩
      dsimp only at hj hI ⊢
      rcases drop_case hj with ⟨b1,b2⟩|⟨c,b1,b2,b3⟩
      ·
       rw[b1,fillI]at hI
       cases hI
       try refine wk ?_
       refine q_loopT (x+1,R,W,code++[i1]) ⟨by dsimp only;omega,fun _=>hR (by omega),fun _=>hW (by omega),by dsimp only;simp;omega,rest',by dsimp only;rw[show max (x+1) 2=x+1 by omega];exact hr',by dsimp only;rw[← hcd];simp⟩ (by dsimp only;omega) ?_
       exact by_less
      ·
       have hwj:j < wz.length:=by omega
       have hwa:(w::wz)[j+1]? = some wz[j]:=by simp[List.getElem?_eq_getElem hwj]
       rw[b1,List.drop_eq_getElem_cons hwj]at hI
       have hsj:=hsw wz[j] (List.mem_cons_of_mem _ (List.getElem_mem hwj))
       have hwjl:wz[j].length≤400:=Nat.le_trans (split_part (s:=p) (sep:=[32]) (by rw[hwds];exact List.mem_cons_of_mem _ (List.getElem_mem hwj))) hpl
       generalize wz[j]=u at hwa hI hsj hwjl
       rcases fillI_cons hI with ⟨q1,q2⟩|⟨q1,n,q2,q3⟩|⟨q1,q2,r,n,rfl,q3,q4⟩
       ·
        try refine wk ?_
        refine q_loopT (j+1,{ i with key:=u }) ⟨by dsimp only;omega,q2⟩ (by dsimp only;omega) ?_
        exact by_less
       ·
        have hn:=smallN_of hsj.1 q2
        have cn:=ok_numS u n (by omega) q2 hn.1 hn.2
        try refine wk ?_
        refine q_loopT (j+1,{ i with n:=n }) ⟨by dsimp only;omega,q3⟩ (by dsimp only;omega) ?_
        exact by_less
       ·
        have hn:=smallN_of hsj.2 (show regV (114::r)=some n from q3)
        have cn:=ok_numS r n (by simp at hwjl;omega) q3 hn.1 hn.2
        have hu0:(114::r:Str)[0]? = some 114:=rfl
        rcases q4 with ⟨q4,q5⟩|⟨q4,q5⟩
        ·
         repeat(first|refine wa ?_|((with_reducible apply s5);(first|((with_reducible apply(a_is (k:=0)));(iterate 5 exact rfl);exact rfl)|((with_reducible apply(a_subF (l:=1)));(iterate 5 exact rfl);exact Nat.succ_le_succ (Nat.zero_le _))|exact by_oa|exact by_ca);exact by_g)|refine wb ?_)
         refine q_loopT (j+1,{ i with a:=n }) ⟨by dsimp only;omega,q5⟩ (by dsimp only;omega) ?_
         exact by_less
        ·
         repeat(first|refine wa ?_|((with_reducible apply s5);(first|((with_reducible apply(a_is (k:=0)));(iterate 5 exact rfl);exact rfl)|((with_reducible apply(a_subF (l:=1)));(iterate 5 exact rfl);exact Nat.succ_le_succ (Nat.zero_le _))|exact by_oa|exact by_ca);exact by_g)|refine wb ?_)
         refine q_loopT (j+1,{ i with b:=n }) ⟨by dsimp only;omega,q5⟩ (by dsimp only;omega) ?_
         exact by_less
    ·
     rw[g1,kindGo]at hK
     by_cases hy0:0 < y
     ·
      by_cases hu:u=w
      ·
       rw[if_pos ⟨hy0,hu⟩]at hK
       try refine wk ?_
       refine q_loopT (y+1,(y:Int)) ⟨by dsimp only;omega,by dsimp only;omega,by dsimp only;omega,hK⟩ (by dsimp only;omega) ?_
       exact by_less
      ·
       rw[if_neg (fun h=>hu h.2)]at hK
       try refine wk ?_
       refine q_loopT (y+1,k) ⟨by dsimp only;omega,by dsimp only;omega,by dsimp only;omega,hK⟩ (by dsimp only;omega) ?_
       exact by_less
     ·
      rw[if_neg (fun h=>hy0 h.1)]at hK
      try refine wk ?_
      refine q_loopT (y+1,k) ⟨by dsimp only;omega,by dsimp only;omega,by dsimp only;omega,hK⟩ (by dsimp only;omega) ?_
      exact by_less
end Go.Proofs.YtfpkamiobdkcpaaDoor
namespace Go.AX
open Go.RowKit
variable {cx:Cx}{g:Nat→Value}{σ σ':St}{a:Act}{w w':World}{nx:Nat}{c:Code}{Q:Exit→St→Prop}
variable {ty:TypeId}{pos:String}{af:Array Edge}{gd:Option (Nat×Bool)}{d:Nat}
def SW (cx:Cx) (ops:Array Oper) (Q:Exit→St→Prop) (l:List Oper) (σ:St):Prop :=
 ∀ a w,Sim cx σ a w→wpList cx.P ops (fun e a' w'=>∃ σ',Sim cx σ' a' w'∧Q e σ') l a w
theorem CW.regionS {id:Nat}{l:List Oper}(h:SW cx l.toArray Q l σ):CW cx (.region id l.toArray false) Q σ:=fun a w hs=>wp_region_lit (h a w hs)
variable {ops:Array Oper}{rest:List Oper}{o:Oper}
theorem SW.rw(h:RW cx ops (fun _ σ'=>Q .normal σ') [] rest σ):SW cx ops Q rest σ:=by
 obtain⟨ts,σ',h1,h2⟩:=h
 exact fun a w hs=>wpList_of_steps h1 hs fun a' w' hs'=>⟨σ',hs',h2⟩
theorem SW.step {t:Tr}(hg:o.guard=none) (ho:OA cx σ o t) (h:SW cx ops Q rest (t.wr++σ)):SW cx ops Q (o::rest) σ:=fun a w hs =>
 wpList_plain hg fun K hK=>ho.1 σ a w K _ hs ho.2 fun a' w' hs'=>hK a' w' (h a' w' hs')
theorem SW.fam {ι:Type}{σs:ι→St}(hg:o.guard=none)
  (ho:∀ (a:Act) (w:World) (K:Act→World→Prop) (Q:Exit→Act→World→Prop),Sim cx σ a w→(∀ i a' w',Sim cx (σs i) a' w'→K a' w')→o.wp cx.P a w K Q)
  (h:∀ i,SW cx ops Q rest (σs i)):SW cx ops Q (o::rest) σ:=fun a w hs =>
 wpList_plain hg fun K hK=>ho a w K _ hs fun i a' w' hs'=>hK a' w' (h i a' w' hs')
def plainR:Res→Bool
 |.one (.v _)=>true
 |.tup l=>l.all fun x=>match x with
  |.v _=>true
  |_=>false
 |_=>false
theorem rd_plain {own own':Nat→Prop}{v x:Value}(h:Rd w own v (.v x)):Rd w own' v (.v x):=by
 rw[rd_v h];exact Rd.v _
theorem plainR_ok {r:Res}(h:plainR r=true) {own own':Nat→Prop}{v:Value}(hr:ResOk w own v r):ResOk w own' v r:=by
 cases r with
 |one x =>
  cases x with
  |v x=>exact rd_plain hr
  |x p=>cases h
  |sl k rows=>cases h
  |agg c=>cases h
 |tup xs =>
  obtain⟨vs,rfl,h1,h2⟩:=hr
  refine⟨vs,rfl,h1,fun j c x hx hc=>?_⟩
  have h3:=List.all_eq_true.1 h x (List.mem_of_getElem? hx)
  cases x with
  |v x=>exact rd_plain (h2 j c _ hx hc)
  |x p=>cases h3
  |sl k rows=>cases h3
  |agg c=>cases h3
theorem ArgsOk.less {own own':Nat→Prop}(ho:∀ b,own' b→own b):∀ {vs:List Value}{xs:List Arg},ArgsOk w own vs xs→ArgsOk w own' vs xs
 | [],[],_=>trivial
 |v::vs,x::xs,h=>by
  refine⟨?_,ArgsOk.less ho h.2⟩
  cases x with
  |d y=>exact Rd.less ho h.1
  |pd cells =>
   obtain⟨ad,h1,h2,h3⟩:=h.1
   exact⟨ad,h1,h2,fun j z hz=>by obtain⟨u,h4,h5,h6⟩:=h3 j z hz;exact⟨u,h4,h5,h6.less ho⟩⟩
end Go.AX
namespace Go.AX
open Go.RowKit
variable {cx:Cx}{g:Nat→Value}{σ σ':St}{a:Act}{w w':World}{nx:Nat}{c:Code}{Q:Exit→St→Prop}
variable {ty:TypeId}{pos:String}{af:Array Edge}{gd:Option (Nat×Bool)}{d:Nat}
structure BelowBut (v:Value) (w w':World):Prop where
 os:w'.os=w.os
 tape:w'.tape=w.tape
 output:w'.output=w.output
 size:w.heap.size≤w'.heap.size
 block:∀ b,b < w.heap.size→blk v≠some b→w'.heap[b]? = w.heap[b]?
structure FnUpd (P:Program) (f:FuncId) (e k:Nat) (rows:List (List D)) (args:List Arg) (rows':List (List D)):Prop where
 run : ∃ fn, P.funcs[f]? = some fn ∧ (fn.name == "runtime.NumGoroutine") = false ∧ fn.body.isNone = false
 calls:∀ (w:World) (own:Nat→Prop) (v:Value) (vs:List Value),((∀ b,own b→b < w.heap.size)∧Gl P w)→RowsAt w 0 (with1 own v) e k v rows→(∀ b,own b→blk v≠some b)→ArgsOk w (with1 own v) vs args →
  Calls P f (v::vs).toArray w fun r w'=>∃ v',r = .returned v'∧BelowBut v w w'∧(∀ b,blk v'=some b→blk v=some b∨w.heap.size≤b)∧RowsAt w' 0 (with1 own v') e k v' rows'
theorem ok_upd {f:FuncId}{x:Operand}{xs:List Operand}{avs:List AV}{ys:List Arg}{l:List (Key×Val)}{e k id n:Nat}{rows rows':List (List D)}{ats:Array TypeId}
  (hd:d < cx.n) (hc:FnUpd cx.P f e k rows ys rows') (hx:EvS x (.own id n)) (hn:n=rows.length) (hsub:Subs xs avs ys l) :
  OpOk cx ⟨some d,.call { callee := .value (.func f),args:=⟨x::xs⟩,argTypes:=ats },ty,pos,af,gd⟩ ⟨rdOf x (.own id n)++(l++[(.o id,.ob (.arr e k rows)),(.nx,.num nx)]),[(.s d,.av (.own nx rows'.length)),(.o nx,.ob (.arr e k rows')),(.nx,.num (nx+1)),(.o id,.none)]⟩:=by
 rintro σ a w K Q ⟨g,n',hs⟩ hr hK
 have hnx:n'=nx:=by
  have h2:=hr.right.right.2.1
  rw[hs.hnx]at h2
  simpa using h2
 subst hnx
 have ho:get σ (.o id) = .ob (.arr e k rows):=hr.right.right.1
 have hidlt:=(hs.objs id _ ho).1
 have hval:a.eval x=g id:=((hs.ev hx hr.left).1.2 e k rows ho).2 hn
 have hR:=objRows hs ho
 -- what is kept,but for that slice
 have hown1:∀ b,cx.own g ((.o id,.none)::σ) b→cx.own g σ b∧blk (g id)≠some b:=by
  rintro b (h|⟨j,o,h1,h2⟩)
  ·
   refine⟨.inl h,fun hb=>?_⟩
   have h3:=obj_ge hs ho hb
   have h4:=hs.own0.1 b h
   omega
  ·
   by_cases hj:id=j
   ·
    subst hj;rw[get_cons_same]at h1;cases h1
   ·
    rw[get_cons_ne (by simpa using hj)]at h1
    exact⟨.inr ⟨j,o,h1,h2⟩,fun hb=>hj (hs.sep id j _ o b ho h1 hb h2)⟩
 have hw1:∀ b,with1 (cx.own g ((.o id,.none)::σ)) (g id) b→cx.own g σ b:=by
  rintro b (h|h)
  ·
   exact(hown1 b h).1
  ·
   exact .inr ⟨id,_,ho,h⟩
 have hcall:=hc.calls w (cx.own g ((.o id,.none)::σ)) (g id) (xs.map a.eval) ⟨fun b hb=>own_lt hs (hown1 b hb).1,hs.gl⟩ (hR.re (fun b _=>Nat.zero_le _) hw1) (fun b hb=>(hown1 b hb).2) ((hsub.ok hs hr.right.left).less hw1)
 unfold Oper.wp
 rw[call_run hc.run,List.map_cons,hval]
 refine hcall.mono fun r w' he=>?_
 obtain⟨v',rfl,hbb,hpl,hR'⟩:=he
 have hge:=hs.below.size
 have hbel:Below cx.w0.heap.size w w':=⟨hbb.os,hbb.tape,hbb.output,hbb.size,fun b hb=>hbb.block b (by omega) fun he=>by have:=obj_ge hs ho he;omega⟩
 have hext:Ext (cx.own g σ) w w':=⟨hbb.size,fun b hb hn=>hbb.block b hb fun he=>hn (.inr ⟨id,_,ho,he⟩)⟩
 have hback:∀ j o,j≠n'→get ((.o n',.ob (.arr e k rows'))::(.nx,.num (n'+1))::(.o id,.none)::σ) (.o j) = .ob o→j≠id∧get σ (.o j) = .ob o:=by
  intro j o1 hj h1
  rw[get_cons_ne (by simpa using fun e=>hj e.symm),get_cons_ne (by simp)]at h1
  by_cases he:id=j
  ·
   subst he;rw[get_cons_same]at h1;cases h1
  ·
   rw[get_cons_ne (by simpa using he)]at h1
   exact⟨fun e=>he e.symm,h1⟩
 have hownin:∀ b,cx.own (upd g n' v') ((.o n',.ob (.arr e k rows'))::(.nx,.num (n'+1))::(.o id,.none)::σ) b→with1 (cx.own g ((.o id,.none)::σ)) v' b:=by
  rintro b (h|⟨j,o,h1,h2⟩)
  ·
   exact .inl (.inl h)
  ·
   by_cases hj:j=n'
   ·
    subst hj;rw[upd_same]at h2;exact .inr h2
   ·
    rw[upd_ne hj]at h2
    obtain⟨h3,h4⟩:=hback j o hj h1
    exact .inl (.inr ⟨j,o,(get_cons_ne (by simpa using fun e=>h3 e.symm)).trans h4,h2⟩)
 have hl:Later cx g (upd g n' v') σ ((.o n',.ob (.arr e k rows'))::(.nx,.num (n'+1))::(.o id,.none)::σ) w w' n':=by
  refine⟨hext,hbel,fun b hb=>?_,fun j o1 hj h1=>?_⟩
  ·
   rcases hownin b hb with h|h
   ·
    exact .inl (hown1 b h).1
   ·
    rcases hpl b h with h|h
    ·
     exact .inl (.inr ⟨id,_,ho,h⟩)
    ·
     exact .inr h
  ·
   have hjn:j≠n':=by omega
   refine⟨o1,(hback j o1 hjn h1).2,?_⟩
   cases o1 <;> simp[ObLe,upd_ne hjn]
 have hG:SimG cx ((.o n',.ob (.arr e k rows'))::(.nx,.num (n'+1))::(.o id,.none)::σ) a w' (upd g n' v') (n'+1):=by
  refine hs.next hl (by rw[get_cons_ne (by simp),get_cons_same]) (Nat.le_succ _) hs.size hs.defers hbel (fun j av hj => .inl ⟨?_,rfl⟩) (fun j o1 hj=>?_) (fun j j' o1 o2 b h1 h2 h3 h4=>?_)
  ·
   rw[get_cons_ne (by simp),get_cons_ne (by simp),get_cons_ne (by simp)]at hj;exact hj
  ·
   by_cases hjn:j=n'
   ·
    subst hjn
    rw[get_cons_same]at hj
    cases hj
    refine .inr ⟨Nat.lt_succ_self _,?_,trivial⟩
    show RowsAt w' cx.w0.heap.size _ e k (upd g j v' j) rows'
    rw[upd_same]
    refine hR'.re (fun b hb=>?_) hownin
    rcases hpl b hb with h|h
    ·
     exact(hR.lt h).1
    ·
     omega
   ·
    obtain⟨h5,h6⟩:=hback j o1 hjn hj
    exact .inl ⟨h6,upd_ne hjn,fun b hb=>hbb.block b (own_lt hs (.inr ⟨j,o1,h6,hb⟩)) fun he=>h5 (hs.sep j id o1 _ b h6 ho hb he)⟩
  ·
   have hone:∀ j o1,j≠n'→get ((.o n',.ob (.arr e k rows'))::(.nx,.num (n'+1))::(.o id,.none)::σ) (.o j) = .ob o1→blk (upd g n' v' j)=some b→blk v'=some b→False:=by
    intro j o1 hj hj1 hjb hvb
    rw[upd_ne hj]at hjb
    obtain⟨h5,h6⟩:=hback j o1 hj hj1
    rcases hpl b hvb with h|h
    ·
     exact h5 (hs.sep j id o1 _ b h6 ho hjb h)
    ·
     have:=own_lt hs (.inr ⟨j,o1,h6,hjb⟩);omega
   by_cases he:j=n'
   ·
    by_cases he':j'=n'
    ·
     rw[he,he']
    ·
     subst he;rw[upd_same]at h3;exact(hone j' o2 he' h2 h4 h3).elim
   ·
    by_cases he':j'=n'
    ·
     subst he';rw[upd_same]at h4;exact(hone j o1 he h1 h3 h4).elim
    ·
     obtain⟨_,h6⟩:=hback j o1 he h1
     obtain⟨_,h8⟩:=hback j' o2 he' h2
     rw[upd_ne he]at h3
     rw[upd_ne he']at h4
     exact hs.sep j j' o1 o2 b h6 h8 h3 h4
 refine hK _ _ (Sim.put hG hd (Below.refl _ _) ?_ (Nat.lt_succ_self _))
 refine⟨.of get_cons_same,fun e' k' rows'' hg=>?_⟩
 rw[get_cons_same]at hg
 cases hg
 exact⟨Nat.le_refl _,fun _=>by rw[upd_same]⟩
theorem a_upd {f:FuncId}{x:Operand}{xs:List Operand}{avs:List AV}{ys:List Arg}{l:List (Key×Val)}{e k id n:Nat}{rows rows':List (List D)}{ats:Array TypeId}
  (hc:FnUpd cx.P f e k rows ys rows') (hx:ev σ x=some (.own id n)) (ho:get σ (.o id) = .ob (.arr e k rows)) (hnx:get σ .nx = .num nx) (hn:n=rows.length) (hd:Nat.blt d cx.n=true) (hsub:SubsE σ xs avs ys l) :
  OA cx σ ⟨some d,.call { callee := .value (.func f),args:=⟨x::xs⟩,argTypes:=ats },ty,pos,af,gd⟩ ⟨rdOf x (.own id n)++(l++[(.o id,.ob (.arr e k rows)),(.nx,.num nx)]),[(.s d,.av (.own nx rows'.length)),(.o nx,.ob (.arr e k rows')),(.nx,.num (nx+1)),(.o id,.none)]⟩ :=
 ⟨ok_upd (lt_of_blt hd) hc (ev_out hx).1 hn hsub.out.1,(ev_out hx).2.append (hsub.out.2.append ⟨ho,hnx,trivial⟩)⟩
end Go.AX
namespace Go.AX
open Go.RowKit
variable {cx:Cx}{σ σ':St}{a a':Act}{w w':World}{ops:Array Oper}{Q:Exit→St→Prop}
variable {ty:TypeId}{pos:String}{af:Array Edge}{gd:Option (Nat×Bool)}{d nx:Nat}{g:Nat→Value}
theorem Run.append:∀ {t1 t2:List Tr}{σ:St},Run t1 σ→Run t2 (fin t1 σ)→Run (t1++t2) σ∧fin (t1++t2) σ=fin t2 (fin t1 σ)
 | [],t2,σ,_,h=>⟨h,rfl⟩
 |t::t1,t2,σ,h1,h2=>by
  obtain⟨h3,h4⟩:=Run.append h1.2 h2
  exact⟨⟨h1.1,h3⟩,h4⟩
end Go.AX
namespace Go.AX
open Go.RowKit
variable {cx:Cx}{g:Nat→Value}{σ σ':St}{a:Act}{w w':World}{nx:Nat}{c:Code}{Q:Exit→St→Prop}
variable {ty:TypeId}{pos:String}{af:Array Edge}{gd:Option (Nat×Bool)}{d:Nat}
variable {ops:Array Oper}{rest:List Oper}{o:Oper}
theorem SW.s1 {rd wr:List (Key×Val)}(ha:autA cx σ o=some ⟨rd,wr⟩) (h:SW cx ops Q rest (wr++σ)):SW cx ops Q (o::rest) σ:=by
 obtain⟨dst,op,ty,pos,af,gd⟩:=o
 cases gd with
 |some p=>cases ha
 |none =>
  simp only[autA]at ha
  split at ha
  ·
   next hd =>
   obtain⟨h1,h2⟩:=trA_ok (cx:=cx) (ty:=ty) (pos:=pos) (af:=af) (gd:=none) hd ha
   exact SW.step rfl ⟨h1,h2⟩ h
  ·
   cases ha
theorem SW.s5 {rd wr:List (Key×Val)}(ho:OA cx σ o ⟨rd,wr⟩) (hg:o.guard=none) (h:SW cx ops Q rest (wr++σ)):SW cx ops Q (o::rest) σ:=SW.step hg ho h
theorem SW.nil (h:Q .normal σ):SW cx ops Q [] σ:=fun a w hs=>wpList_nil ⟨σ,hs,h⟩
theorem SW.stut {t:Tr}{l:List Oper}(hs:Stut cx t) (ha:App σ t.rd) (h:SW cx ops Q l (t.wr++σ)):SW cx ops Q l σ:=fun a w hsim=>h a w (hs σ a w hsim ha)
theorem CW.fact {p:Prop}(hf:∀ a w,Sim cx σ a w→p) (h:p→CW cx c Q σ):CW cx c Q σ:=fun a w hs=>h (hf a w hs) a w hs
theorem SW.fact {p:Prop}{l:List Oper}(hf:∀ a w,Sim cx σ a w→p) (h:p→SW cx ops Q l σ):SW cx ops Q l σ:=fun a w hs=>h (hf a w hs) a w hs
end Go.AX
namespace Go.AX
open Go.RowKit
variable {cx:Cx}{g:Nat→Value}{σ σ':St}{a:Act}{w w':World}{nx:Nat}{c:Code}{Q:Exit→St→Prop}
variable {ty:TypeId}{pos:String}{af:Array Edge}{gd:Option (Nat×Bool)}{d:Nat}
theorem SimG.drop (hG:SimG cx σ a w g nx) (id:Nat):SimG cx ((.o id,.none)::σ) a w g nx:=by
 have hl:=Less.drop ⟨g,nx,hG⟩ id
 have hlat:Later cx g g σ ((.o id,.none)::σ) w w nx:=by
  refine⟨Ext.refl _ _,Below.refl _ _,fun b hb=>?_,fun j o' _ h=>⟨o',hl.o _ _ h,?_⟩⟩
  ·
   rcases hb with hb|⟨j,o,h5,h6⟩
   ·
    exact .inl (.inl hb)
   ·
    exact .inl (.inr ⟨j,o,hl.o _ _ h5,h6⟩)
  ·
   cases o' <;> simp[ObLe]
 exact hG.next hlat ((get_cons_ne (by simp)).trans hG.hnx) (Nat.le_refl _) hG.size hG.defers (Below.refl _ _) (fun j av hj => .inl ⟨hl.s _ _ hj,rfl⟩) (fun j o hj => .inl ⟨hl.o _ _ hj,rfl,fun _ _=>rfl⟩)
  (fun j j' o o' b h1 h2=>hG.sep j j' o o' b (hl.o _ _ h1) (hl.o _ _ h2))
end Go.AX
namespace Go.AX
open Go.RowKit
section
variable {P:Program}{t:TypeId}
theorem bin_bneq {a b:Bool}(h:P.underlying t=some .bool):BinR P .neq t (.bool a) (.bool b) (.bool (!decide (a=b))):=by
 intro w x y
 rw[Sem.run_bind,eqGuard_at_bool,Sem.run_pure,Result.andThen_ok,run_neq_bool _ _ _ _ h]
 cases a <;> cases b <;> rfl
theorem bin_beql {a b:Bool}(h:P.underlying t=some .bool):BinR P .eql t (.bool a) (.bool b) (.bool (decide (a=b))):=by
 intro w x y
 simp only[Sem.run_bind,eqGuard_at_bool,Sem.run_pure,Result.andThen_ok,binOp,run_equal_bool _ _ _ _ h]
 cases a <;> cases b <;> rfl
end
variable {cx:Cx}{g:Nat→Value}{σ σ':St}{a:Act}{w w':World}{nx:Nat}
variable {ty:TypeId}{pos:String}{af:Array Edge}{gd:Option (Nat×Bool)}{d:Nat}
inductive AggV:AV→List Value→Prop
 |d {ds:List D} {us:List Value} (h:ds=us.map D.v):AggV (.d (.agg ds)) us
 |a {cs:List AV} {us:List Value} (h:cs=us.map fun u=>AV.d (.v u)):AggV (.agg cs) us
theorem rep_aggv {v:Value}{av:AV}{us:List Value}(h:AggV av us) (hr:Rep cx g σ w v av):v = .agg us.toArray:=by
 cases h with
 |d h=>subst h;exact rd_agg_v hr
 |a h =>
  subst h
  obtain⟨cs,rfl,hs,_,hr⟩:=hr
  congr 1
  apply Array.ext_getElem?
  intro j
  have hs':cs.size=us.length:=by simpa using hs
  rcases Nat.lt_or_ge j us.length with hj|hj
  ·
   have h1:=hr j cs[j] (.d (.v us[j])) (by simp[List.getElem?_map,List.getElem?_eq_getElem hj]) (Array.getElem?_eq_getElem (by omega))
   have h2:cs[j]=us[j]:=rd_v h1
   rw[Array.getElem?_eq_getElem (by omega)]
   simp[h2]
  ·
   rw[Array.getElem?_eq_none (by omega)]
   simp[hj]
theorem a_agg2 {op:BinOp}{t t':TypeId}{x y:Operand}{ax ay:AV}{us vs:List Value}{r:Value}(hb:BinR cx.P op t (.agg us.toArray) (.agg vs.toArray) r) (hx:ev σ x=some ax) (hy:ev σ y=some ay)
  (hu:AggV ax us) (hv:AggV ay vs) (hd:Nat.blt d cx.n=true):OA cx σ ⟨some d,.binOp op t x y t',ty,pos,af,gd⟩ ⟨rdOf x ax++rdOf y ay,[(.s d,.av (.d (.v r)))]⟩:=by
 refine⟨?_,(ev_out hx).2.append (ev_out hy).2⟩
 have ex:=(ev_out hx).1
 have ey:=(ev_out hy).1
 refine ok_val rfl (lt_of_blt hd) fun _ a w _ _ hs hr=>⟨r,w,?_,Below.refl _ _,Rd.v _,trivial⟩
 have h1:=rep_aggv hu (hs.ev ex hr.left).1
 have h2:=rep_aggv hv (hs.ev ey hr.right).1
 have:=hb w x y
 simp only[execOp,h1,h2,Sem.run_bind,Sem.run_pure]at this ⊢
 rw[this]
 rfl
end Go.AX
namespace Go.AX
open Go.RowKit
variable {cx:Cx}{g:Nat→Value}{σ σ':St}{a:Act}{w w':World}{nx:Nat}
variable {ty:TypeId}{pos:String}{af:Array Edge}{gd:Option (Nat×Bool)}{d:Nat}
def refP (ds:List D) (w:World) (own:Nat→Prop) (v:Value):Prop:=∃ ad:Addr,v = .pointer (some ad)∧¬ own ad.block∧ad.block < w.heap.size∧RdCells w own ad ds
def refD (ds:List D):D := .x (refP ds)
def mapP (M:List (List UInt8×Value)) (w:World) (own:Nat→Prop) (v:Value):Prop:=∃ b es clock,v = .map (some b)∧¬ own b∧b < w.heap.size∧w.heap[b]? = some (.map es clock)∧MapIs es M
def mapD (M:List (List UInt8×Value)):D := .x (mapP M)
def fnP (f:FuncId) (ds:List D) (w:World) (own:Nat→Prop) (v:Value):Prop:=∃ cs:Array Value,v = .func (.func f) #[] cs∧cs.size=ds.length∧∀ (j:Nat) (x:D) (c:Value),ds[j]? = some x→cs[j]? = some c→Rd w own c x
def fnD (f:FuncId) (ds:List D):D := .x (fnP f ds)
theorem ref_stable (ds:List D):Stable (refP ds):=by
 rintro own own' w w' v hx ho ⟨ad,rfl,h1,h2,h3⟩
 refine⟨ad,rfl,fun h=>?_,Nat.lt_of_lt_of_le h2 hx.size,h3.step hx ho fun j=>hx.cell (by rw[add_block];exact h2) (by rw[add_block];exact h1)⟩
 rcases ho _ h with h|h
 ·
  exact h1 h
 ·
  omega
theorem map_stable (M:List (List UInt8×Value)):Stable (mapP M):=by
 rintro own own' w w' v hx ho ⟨b,es,clock,rfl,h1,h2,h3,h4⟩
 refine⟨b,es,clock,rfl,fun h=>?_,Nat.lt_of_lt_of_le h2 hx.size,(hx.block b h2 h1).trans h3,h4⟩
 rcases ho _ h with h|h
 ·
  exact h1 h
 ·
  omega
theorem fn_stable (f:FuncId) (ds:List D):Stable (fnP f ds):=by
 rintro own own' w w' v hx ho ⟨cs,rfl,h1,h2⟩
 exact⟨cs,rfl,h1,fun j x c hj hc=>(h2 j x c hj hc).step hx ho⟩
theorem rd_x {own:Nat→Prop}{v:Value}{p:World→(Nat→Prop)→Value→Prop}(h:Rd w own v (.x p)):p w own v:=by
 generalize hD:D.x p=D0 at h
 cases h with
 |v=>cases hD
 |sl=>cases hD
 |agg=>cases hD
 |nil=>cases hD
 |x p v h1 hst hp=>cases hD;exact hp
theorem rd_ref {own:Nat→Prop}{v:Value}{ds:List D}(h:refP ds w own v):Rd w own v (refD ds):=by
 obtain⟨ad,rfl,_⟩:=id h
 exact .x _ _ rfl (ref_stable ds) h
theorem rd_map {own:Nat→Prop}{v:Value}{M:List (List UInt8×Value)}(h:mapP M w own v):Rd w own v (mapD M):=by
 obtain⟨b,es,clock,rfl,_⟩:=id h
 exact .x _ _ rfl (map_stable M) h
theorem rd_fn {own:Nat→Prop}{v:Value}{f:FuncId}{ds:List D}(h:fnP f ds w own v):Rd w own v (fnD f ds):=by
 obtain⟨cs,rfl,_⟩:=id h
 exact .x _ _ rfl (fn_stable f ds) h
theorem stut_refpd {i:Nat}{ds:List D}:Stut cx ⟨[(.s i,.av (.d (refD ds)))],[(.s i,.av (.pd ds))]⟩:=by
 rintro σ a w ⟨g,nx,hG⟩ hr
 obtain⟨ad,h1,h2,h3,h4⟩:=rd_x (hG.slots i _ hr.1).1
 exact Sim.retell hG (av := .pd ds) ⟨ad,h1,.inr h2,h3,h4⟩ trivial
theorem own_drop (hs:SimG cx σ a w g nx) {id:Nat}{o:Ob}(ho:get σ (.o id) = .ob o) {b:Nat}(hb:cx.own g ((.o id,.none)::σ) b):cx.own g σ b∧blk (g id)≠some b:=by
 rcases hb with h|⟨j,o1,h1,h2⟩
 ·
  refine⟨.inl h,fun hb=>?_⟩
  have h3:=obj_ge hs ho hb
  have h4:=hs.own0.1 b h
  omega
 ·
  by_cases hj:id=j
  ·
   subst hj;rw[get_cons_same]at h1;cases h1
  ·
   rw[get_cons_ne (by simpa using hj)]at h1
   exact⟨.inr ⟨j,o1,h1,h2⟩,fun hb=>hj (hs.sep id j _ o1 b ho h1 hb h2)⟩
theorem stut_freezebox {i id:Nat}{cells:List AV}{ds:List D}(hc:cells=ds.map AV.d):Stut cx ⟨[(.s i,.av (.ptr id 0)),(.o id,.ob (.box cells))],[(.s i,.av (.d (refD ds))),(.o id,.none)]⟩:=by
 subst hc
 rintro σ a w hs hr
 have hs0:=hs
 obtain⟨g,nx,hG⟩:=hs0
 have ho:get σ (.o id) = .ob (.box (ds.map AV.d)):=hr.2.1
 obtain⟨b0,hg0,hv⟩:=(hG.slots i _ hr.1).1.2 _ ho
 obtain⟨_,⟨b,cs,t,h0,h1,h2,h3,h4,h5⟩,_⟩:=hG.objs id _ ho
 obtain rfl:b0=b:=by rw[hg0]at h0;simpa using h0
 have hl:=Less.drop hs id
 have hlat:Later cx g g σ ((.o id,.none)::σ) w w nx:=by
  refine⟨Ext.refl _ _,Below.refl _ _,fun b hb => .inl (own_drop hG ho hb).1,fun j o' _ h=>⟨o',hl.o _ _ h,?_⟩⟩
  cases o' <;> simp[ObLe]
 have hG2:SimG cx ((.o id,.none)::σ) a w g nx :=
  hG.next hlat ((get_cons_ne (by simp)).trans hG.hnx) (Nat.le_refl _) hG.size hG.defers (Below.refl _ _) (fun j av hj => .inl ⟨hl.s _ _ hj,rfl⟩) (fun j o hj => .inl ⟨hl.o _ _ hj,rfl,fun _ _=>rfl⟩)
   (fun j j' o o' b h1 h2=>hG.sep j j' o o' b (hl.o _ _ h1) (hl.o _ _ h2))
 have hlt:b0 < w.heap.size:=by
  rcases Nat.lt_or_ge b0 w.heap.size with h|h
  ·
   exact h
  ·
   rw[Array.getElem?_eq_none h]at h2;cases h2
 refine Sim.retell hG2 (av := .d (refD ds)) (rd_ref ⟨_,hv,fun h=>(own_drop hG ho h).2 (by rw[hg0];rfl),hlt,fun j z hz=>?_⟩) trivial
 have hjl:j < cs.size:=by rw[h3];simpa using(List.getElem?_eq_some_iff.1 hz).1
 have hcs:cs[j]? = some cs[j]:=Array.getElem?_eq_getElem hjl
 refine⟨cs[j],by rw[add_lit];simp[World.cell?,h2,hcs],h4 _ _ hcs,?_⟩
 exact Rd.less (fun b hb=>(own_drop hG ho hb).1) (h5 j _ (.d z) (by rw[List.getElem?_map,hz];rfl) hcs)
theorem argsOk_get {own:Nat→Prop}:∀ {vs:List Value}{ds:List D},ArgsOk w own vs (ds.map Arg.d)→vs.length=ds.length∧∀ (j:Nat) (x:D) (c:Value),ds[j]? = some x→vs[j]? = some c→Rd w own c x
 | [],[],_=>⟨rfl,by simp⟩
 |v::vs,y::ds,h=>by
  obtain⟨h1,h2⟩:=argsOk_get h.2
  refine⟨by simp[h1],fun j x c hj hc=>?_⟩
  cases j with
  |zero=>simp at hj hc;subst hj;subst hc;exact h.1
  |succ j=>exact h2 j x c (by simpa using hj) (by simpa using hc)
 | [],y::ds,h=>h.elim
 |v::vs,[],h=>h.elim
theorem argsOk_append {own:Nat→Prop}:∀ {vs us:List Value}{xs ys:List Arg},ArgsOk w own vs xs→ArgsOk w own us ys→ArgsOk w own (vs++us) (xs++ys)
 | [],us,[],ys,_,h=>h
 |v::vs,us,x::xs,ys,h,h'=>⟨h.1,argsOk_append h.2 h'⟩
 | [],us,x::xs,ys,h,_=>h.elim
 |v::vs,us,[],ys,h,_=>h.elim
theorem a_mkfn {f:FuncId}{xs:List Operand}{avs:List AV}{ds:List D}{l:List (Key×Val)}(hd:Nat.blt d cx.n=true) (hsub:SubsE σ xs avs (ds.map Arg.d) l) :
  OA cx σ ⟨some d,.makeFunc (.func f) #[] ⟨xs⟩,ty,pos,af,gd⟩ ⟨l,[(.s d,.av (.d (fnD f ds)))]⟩:=by
 refine⟨ok_val rfl (lt_of_blt hd) fun σ1 a w g nx hs hr=>⟨.func (.func f) #[] (xs.map a.eval).toArray,w,?_,Below.refl _ _,?_,trivial⟩,hsub.out.2⟩
 ·
  simp[execOp,Instr.makeFunc]
 ·
  obtain⟨h1,h2⟩:=argsOk_get (hsub.out.1.ok hs hr)
  exact rd_fn ⟨_,rfl,by simpa using h1,fun j x c hj hc=>h2 j x c hj (by simpa using hc)⟩
inductive Caps:List D→List Arg→Prop
 |nil:Caps [] []
 |ref {cs ds:List D} {zs:List Arg} (h:Caps ds zs):Caps (refD cs::ds) (.pd cs::zs)
 |d {x:D} {ds:List D} {zs:List Arg} (h:Caps ds zs):Caps (x::ds) (.d x::zs)
theorem Caps.ok {own:Nat→Prop}{ds:List D}{zs:List Arg}(h:Caps ds zs):∀ {vs:List Value},vs.length=ds.length→(∀ (j:Nat) (x:D) (c:Value),ds[j]? = some x→vs[j]? = some c→Rd w own c x)→ArgsOk w own vs zs:=by
 induction h with
 |nil =>
  intro vs hl _
  obtain rfl:vs=[]:=List.eq_nil_of_length_eq_zero hl
  trivial
 |@ref cs ds zs h ih =>
  intro vs hl hr
  cases vs with
  |nil=>simp at hl
  |cons v vs =>
   obtain⟨ad,h1,_,h2,h3⟩:=rd_x (hr 0 _ v rfl rfl)
   exact⟨⟨ad,h1,h2,h3⟩,ih (by simpa using hl) fun j x c hj hc=>hr (j+1) x c (by simpa using hj) (by simpa using hc)⟩
 |@d x ds zs h ih =>
  intro vs hl hr
  cases vs with
  |nil=>simp at hl
  |cons v vs=>exact⟨hr 0 _ v rfl rfl,ih (by simpa using hl) fun j x c hj hc=>hr (j+1) x c (by simpa using hj) (by simpa using hc)⟩
theorem callfn_run {P:Program}{f:FuncId}{ys:List Arg}{r:Res}(hc:FnOk P f ys r) {ev:Operand→Value}{z:Operand}{xs:List Operand}{ats:Array TypeId}{dd:Option Nat}{cs:Array Value}(hv:ev z = .func (.func f) #[] cs) :
  (execOp ev ⟨dd,.call { callee := .value z,args:=⟨xs⟩,argTypes:=ats },ty,pos,af,gd⟩).run P w = .ok (.enter f (xs.map ev++cs.toList).toArray) w:=by
 obtain⟨fn,h1,h2,h3⟩:=hc.run
 simp only[execOp,resolve,Deferred.ofValue,hv,invoke,callFunc,Sem.run_bind,Sem.run_pure,Result.andThen_ok,run_program,h1,h2,h3,Bool.false_eq_true,if_false]
 simp
theorem a_callfn {f:FuncId}{z:Operand}{xs:List Operand}{avs:List AV}{ys zs:List Arg}{l:List (Key×Val)}{r:Res}{ats:Array TypeId}{ds:List D}(hc:FnOk cx.P f (ys++zs) r) (hcap:Caps ds zs)
  (hz:ev σ z=some (.d (fnD f ds))) (hd:Nat.blt d cx.n=true) (hsub:SubsE σ xs avs ys l) :
  OA cx σ ⟨some d,.call { callee := .value z,args:=⟨xs⟩,argTypes:=ats },ty,pos,af,gd⟩ ⟨rdOf z (.d (fnD f ds))++l,[(.s d,.av r.av)]⟩:=by
 refine⟨?_,(ev_out hz).2.append hsub.out.2⟩
 rintro σ1 a w K Q ⟨g,nx,hs⟩ hr hK
 obtain⟨cs,hv,h1,h2⟩:=rd_x (hs.ev (ev_out hz).1 hr.left).1
 have hcall:=hc.calls w (cx.own g σ1) (xs.map a.eval++cs.toList) ⟨fun b hb=>own_lt hs hb,hs.gl⟩ (argsOk_append (hsub.out.1.ok hs hr.right) (hcap.ok (by simpa using h1) fun j x c hj hc=>h2 j x c hj (by simpa using hc)))
 unfold Oper.wp
 rw[callfn_run hc hv]
 refine hcall.mono fun e w' he=>?_
 obtain⟨v,rfl,hb,hres⟩:=he
 obtain⟨h1,h2⟩:=Res.rep (nx:=nx) hres
 exact hK _ _ (Sim.put hs (lt_of_blt hd) hb h1 h2)
inductive CapsM (x0:Value) (M:List (List UInt8×Value)):List D→List Arg→Prop
 |nil:CapsM x0 M [] []
 |map {ds:List D} {zs:List Arg} (h:CapsM x0 M ds zs):CapsM x0 M (refD [.v x0]::ds) (.pd [mapD M]::zs)
 |ref {cs ds:List D} {zs:List Arg} (h:CapsM x0 M ds zs):CapsM x0 M (refD cs::ds) (.pd cs::zs)
theorem CapsM.ok {own own':Nat→Prop}{x0:Value}{M:List (List UInt8×Value)}(ho:∀ b,own' b→own b) (hm:Rd w own' x0 (mapD M)) {ds:List D}{zs:List Arg}(h:CapsM x0 M ds zs) :
  ∀ {vs:List Value},vs.length=ds.length→(∀ (j:Nat) (x:D) (c:Value),ds[j]? = some x→vs[j]? = some c→Rd w own c x)→ArgsOk w own' vs zs:=by
 induction h with
 |nil =>
  intro vs hl _
  obtain rfl:vs=[]:=List.eq_nil_of_length_eq_zero hl
  trivial
 |@map ds zs h ih =>
  intro vs hl hr
  cases vs with
  |nil=>simp at hl
  |cons v vs =>
   obtain⟨ad,h1,_,h2,h3⟩:=rd_x (hr 0 _ v rfl rfl)
   refine⟨⟨ad,h1,h2,fun j z hz=>?_⟩,ih (by simpa using hl) fun j x c hj hc=>hr (j+1) x c (by simpa using hj) (by simpa using hc)⟩
   cases j with
   |zero =>
    simp at hz;subst hz
    obtain⟨u,h4,h5,h6⟩:=h3 0 _ rfl
    rw[rd_v h6]at h4 h5
    exact⟨x0,h4,h5,hm⟩
   |succ j=>simp at hz
 |@ref cs ds zs h ih =>
  intro vs hl hr
  cases vs with
  |nil=>simp at hl
  |cons v vs =>
   obtain⟨ad,h1,_,h2,h3⟩:=rd_x (hr 0 _ v rfl rfl)
   exact⟨⟨ad,h1,h2,fun j z hz=>by obtain⟨u,h4,h5,h6⟩:=h3 j z hz;exact⟨u,h4,h5,h6.less ho⟩⟩,ih (by simpa using hl) fun j x c hj hc=>hr (j+1) x c (by simpa using hj) (by simpa using hc)⟩
theorem a_callfnM {f:FuncId}{z:Operand}{xs:List Operand}{avs:List AV}{ys zs:List Arg}{l:List (Key×Val)}{r:Res}{ats:Array TypeId}{ds:List D}{id:Nat}{x0:Value}{M:List (List UInt8×Value)}
  (hc:FnOk cx.P f (ys++zs) r) (hcap:CapsM x0 M ds zs) (hp:plainR r=true) (ho:get σ (.o id) = .ob (.mp M x0)) (hz:ev σ z=some (.d (fnD f ds))) (hd:Nat.blt d cx.n=true) (hsub:SubsE σ xs avs ys l) :
  OA cx σ ⟨some d,.call { callee := .value z,args:=⟨xs⟩,argTypes:=ats },ty,pos,af,gd⟩ ⟨rdOf z (.d (fnD f ds))++(l++[(.o id,.ob (.mp M x0))]),[(.s d,.av r.av)]⟩:=by
 refine⟨?_,(ev_out hz).2.append (hsub.out.2.append ⟨ho,trivial⟩)⟩
 rintro σ1 a w K Q ⟨g,nx,hs⟩ hr hK
 have ho1:get σ1 (.o id) = .ob (.mp M x0):=hr.right.right.1
 obtain⟨cs,hv,h1,h2⟩:=rd_x (hs.ev (ev_out hz).1 hr.left).1
 obtain⟨_,⟨hgx,b,es,clock,hx0,hge,hh,hmi⟩,_⟩:=hs.objs id _ ho1
 have hblt:b < w.heap.size:=by
  rcases Nat.lt_or_ge b w.heap.size with h|h
  ·
   exact h
  ·
   rw[Array.getElem?_eq_none h]at hh;cases hh
 have hm:Rd w (fun c=>cx.own g σ1 c∧blk x0≠some c) x0 (mapD M):=rd_map ⟨b,es,clock,hx0,fun h=>h.2 (by rw[hx0];rfl),hblt,hh,hmi⟩
 have hcall:=hc.calls w (fun c=>cx.own g σ1 c∧blk x0≠some c) (xs.map a.eval++cs.toList) ⟨fun b hb=>own_lt hs hb.1,hs.gl⟩
  (argsOk_append ((hsub.out.1.ok hs hr.right.left).less fun b hb=>hb.1) (hcap.ok (fun b hb=>hb.1) hm (by simpa using h1) fun j x c hj hc=>h2 j x c hj (by simpa using hc)))
 unfold Oper.wp
 rw[callfn_run hc hv]
 refine hcall.mono fun e w' he=>?_
 obtain⟨v,rfl,hb,hres⟩:=he
 obtain⟨h1,h2⟩:=Res.rep (nx:=nx) (plainR_ok hp (own':=cx.own g σ1) hres)
 exact hK _ _ (Sim.put hs (lt_of_blt hd) hb h1 h2)
def mget (M:List (List UInt8×Value)) (k:List UInt8):Option Value:=match M with
 | []=>none
 |(s,v)::r=>if s=k then some v else mget r k
def mset (M:List (List UInt8×Value)) (k:List UInt8) (v:Value):List (List UInt8×Value):=match M with
 | []=>[(k,v)]
 |(s,u)::r=>if s=k then (s,v)::r else (s,u)::mset r k v
def mfind (k:List UInt8):List (List UInt8×Value)→Nat→Option (Nat×Value)
 | [],_=>none
 |(s,v)::r,i=>if s=k then some (i,v) else mfind k r (i+1)
theorem findNow_eq (k:List UInt8):∀ {es:List MapEntry}{M:List (List UInt8×Value)}(i:Nat),es.map (fun e=>(e.key,e.val))=M.map (fun p=>(Value.string ⟨p.1.toArray⟩,p.2)) →
  Instr.findNow .string (.string ⟨k.toArray⟩) es i=some ((mfind k M i).map fun p=>(p.1,p.2))
 | [],[],i,_=>rfl
 | [],p::M,i,h=>by simp at h
 |e::es,[],i,h=>by simp at h
 |e::es,(s,v)::M,i,h=>by
  simp only[List.map_cons,List.cons.injEq,Prod.mk.injEq]at h
  obtain⟨⟨h1,h2⟩,h3⟩:=h
  obtain⟨r,hr,hiff⟩:=MapKept.sameNow_of_keys (d := .string) (a := .string ⟨k.toArray⟩) (b := .string ⟨s.toArray⟩) (by simp[MapKept.IsKey]) (by simp[MapKept.IsKey])
  rw[← h1]at hr
  have hs':r=true↔s=k:=by
   rw[hiff]
   simp only[Value.string.injEq,ByteArray.mk.injEq]
   constructor
   ·
    intro h
    have:=congrArg Array.toList h
    simpa using this.symm
   ·
    rintro rfl;rfl
  simp only[Instr.findNow,hr,mfind]
  by_cases hs:s=k
  ·
   rw[if_pos hs]
   have hrt:=hs'.2 hs
   subst hrt
   simp[h2]
  ·
   rw[if_neg hs]
   have hrf:r=false:=by
    cases r with
    |false=>rfl
    |true=>exact absurd (hs'.1 rfl) hs
   subst hrf
   exact findNow_eq k (i+1) h3
theorem mfind_get (k:List UInt8):∀ (M:List (List UInt8×Value)) (i:Nat),(mfind k M i).map (·.2)=mget M k
 | [],_=>rfl
 |(s,v)::M,i=>by
  simp only[mfind,mget]
  split
  ·
   rfl
  ·
   exact mfind_get k M (i+1)
end Go.AX
