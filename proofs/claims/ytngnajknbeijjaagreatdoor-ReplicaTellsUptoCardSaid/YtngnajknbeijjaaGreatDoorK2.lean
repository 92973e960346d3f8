/-
  Part 2 of what the claim leans on: AxOwn AxMore AxBy Md Sh0 AxOpen AxLaw Pl Rf Rf2 Srt AxDec AxPin AxPin2 AxPin3 Tb G1 Eq F2 F5 Eq2 F13 F17 G3 AxFam AxFam2 AxPin4 AxPin5 AxBool.
-/
import Derived.Test.YtngnajknbeijjaaGreatDoorK1
import Derived.Lib.SliceRun
import Derived.ProofKit
import Derived.Test.YtngnajknbeijjaaGreatDoorRows
import Derived.Deep.Slices
import Derived.Carry
import Derived.JoinedCond
import Derived.OpenShut
import Derived.Test.YtngnajknbeijjaaGreatDoorProg
import Derived.KernelRfl
import Derived.Laws.StructEq
import Derived.Laws.Small
set_option linter.all false

namespace Go.AX
open Go.RowKit
variable {cx:Cx}{g:Nat→Value}{σ:St}{a:Act}{w:World}{nx:Nat}
variable {ty:TypeId}{pos:String}{af:Array Edge}{gd:Option (Nat×Bool)}{d:Nat}
theorem splice_get {α:Type}{l new:List α}{off j:Nat}(h:off+new.length≤l.length) :
  (splice l off new)[j]? = if off≤j∧j < off+new.length then new[j - off]? else l[j]? := by
 unfold splice
 have ht:(l.take off).length=off:=by simp;omega
 rw[List.append_assoc]
 rcases Nat.lt_or_ge j off with h1|h1
 ·
  rw[List.getElem?_append_left (by omega),List.getElem?_take,if_pos h1,if_neg (by omega)]
 ·
  rw[List.getElem?_append_right (by omega),ht]
  rcases Nat.lt_or_ge (j - off) new.length with h2|h2
  ·
   rw[List.getElem?_append_left h2,if_pos (by omega)]
  ·
   rw[List.getElem?_append_right h2,List.getElem?_drop,if_neg (by omega),show off+new.length+(j - off - new.length)=j by omega]
theorem splice_len {α:Type}{l new:List α}{off:Nat}(h:off+new.length≤l.length):(splice l off new).length=l.length:=by
 simp[splice];omega
theorem ok_len_own {t tt:TypeId}{x:Operand}{id n e k k':Nat}{rows:List (List D)}{ti:TI}(hd:d < cx.n) (hx:EvS x (.own id n)) (ht:tget cx.T t=some ti) (hk:slK ti=some k') (hn:n=rows.length) :
  OpOk cx ⟨some d,.call { callee := .builtin .len,args := #[x],argTypes := #[t] },tt,pos,af,gd⟩ ⟨rdOf x (.own id n)++[(.o id,.ob (.arr e k rows))],[(.s d,.av (.d (.v (.int .i64 n))))]⟩:=by
 refine ok_val rfl hd fun σ a w g nx hs hr=>?_
 obtain⟨_,ie,hu,_⟩:=slice_of (cx.hT t ti ht) hk
 have ho:get σ (.o id) = .ob (.arr e k rows):=hr.right.1
 have hv:a.eval x=g id:=((hs.ev hx hr.left).1.2 e k rows ho).2 hn
 obtain⟨_,⟨xs,h1,_⟩,_⟩:=hs.objs id _ ho
 refine⟨.int .i64 n,w,?_,Below.refl _ _,Rd.v _,trivial⟩
 rcases h1.2 with ⟨h2,h3⟩|⟨b,cap,cur,h2,_⟩
 ·
  simp[execOp,resolve,invoke,builtin,hv,h2,Builtin.len_,run_underlying hu,goInt,hn,h3]
 ·
  simp[execOp,resolve,invoke,builtin,hv,h2,Builtin.len_,run_underlying hu,goInt,hn]
theorem ok_ia_own {t:TypeId}{x y:Operand}{id n e k i:Nat}{rows:List (List D)}{kd:IntKind}{ti:TI}(hd:d < cx.n) (hx:EvS x (.own id n)) (hy:EvS y (.d (.v (.int kd (i:Int))))) (ht:tget cx.T t=some ti) (hk:slK ti=some k)
  (hn:n=rows.length) (hi:i < n) :
  OpOk cx ⟨some d,.indexAddr t x y,ty,pos,af,gd⟩ ⟨(rdOf x (.own id n)++rdOf y (.d (.v (.int kd (i:Int)))))++[(.o id,.ob (.arr e k rows))],[(.s d,.av (.pe id n i 0))]⟩:=by
 refine ok_val rfl hd fun σ a w g nx hs hr=>?_
 obtain⟨_,ie,hu,hie,hks,_⟩:=slice_of (cx.hT t ti ht) hk
 have ho:get σ (.o id) = .ob (.arr e k rows):=hr.right.1
 obtain⟨h0,hbd⟩:=hs.ev hx hr.left.left
 have hv:a.eval x=g id:=(h0.2 e k rows ho).2 hn
 have hy':=rep_v (hs.ev hy hr.left.right).1
 obtain⟨_,⟨xs,h1,_⟩,_⟩:=hs.objs id _ ho
 rcases h1.2 with ⟨h2,h3⟩|⟨b,cap,cur,h2,h3,h4,h5,_⟩
 ·
  omega
 ·
  refine⟨.pointer (some ⟨b,i*k,none⟩),w,?_,Below.refl _ _,?_,hbd⟩
  ·
   have:(⟨b,0,none⟩:Addr).add (i*k)=⟨b,i*k,none⟩:=by rw[add_lit,Nat.zero_add]
   simp[execOp,hy',hv,h2,Instr.indexAt,asIntOf,run_underlying hu,sizeOf,typeInfo,hie,hks,this]
   omega
  ·
   refine⟨.of ho,fun e' k' rows' ho'=>?_⟩
   rw[ho]at ho'
   cases ho'
   exact⟨by omega,fun _=>⟨b,by rw[h2];rfl,by rw[Nat.add_zero]⟩⟩
theorem ok_fa_pe {t:TypeId}{x:Operand}{id n i f:Nat}{ti:TI}{fl off:Nat}(hd:d < cx.n) (hx:EvS x (.pe id n i f)) (ht:tget cx.T t=some ti) (hf:fldOff ti fl=some off) {e k:Nat}{rows:List (List D)}(hn:n=rows.length) :
  OpOk cx ⟨some d,.fieldAddr t x fl,ty,pos,af,gd⟩ ⟨rdOf x (.pe id n i f)++[(.o id,.ob (.arr e k rows))],[(.s d,.av (.pe id n i (f+off)))]⟩:=by
 refine ok_val rfl hd fun σ a w g nx hs hr=>?_
 have ho:get σ (.o id) = .ob (.arr e k rows):=hr.right.1
 obtain⟨h0,hbd⟩:=hs.ev hx hr.left
 obtain⟨b,hb,hv⟩:=(h0.2 e k rows ho).2 hn
 refine⟨.pointer (some ⟨b,i*k+(f+off),none⟩),w,?_,Below.refl _ _,?_,hbd⟩
 ·
  have h2:=fieldAt_of (cx.hT t ti ht) hf ⟨b,i*k+f,none⟩ w
  rw[add_lit,Nat.add_assoc]at h2
  simp[execOp,hv,h2]
 ·
  refine⟨.of ho,fun e' k' rows' ho'=>?_⟩
  rw[ho]at ho'
  cases ho'
  exact⟨by omega,fun _=>⟨b,hb,rfl⟩⟩
theorem ok_load_pe {t:TypeId}{x:Operand}{id n i f e k:Nat}{rows:List (List D)}{r:List D}{ti:TI}{y:D}(hd:d < cx.n) (hx:EvS x (.pe id n i f)) (ht:tget cx.T t=some ti) (hn:n=rows.length) (hr:rows[i]? = some r)
  (hl:ldD ti (r.drop f)=some y) :
  OpOk cx ⟨some d,.load t x,ty,pos,af,gd⟩ ⟨rdOf x (.pe id n i f)++[(.o id,.ob (.arr e k rows))],[(.s d,.av (.d y))]⟩:=by
 refine ok_val rfl hd fun σ a w g nx hs hrd=>?_
 have ho:get σ (.o id) = .ob (.arr e k rows):=hrd.right.1
 obtain⟨b,hb,hv⟩:=((hs.ev hx hrd.left).1.2 e k rows ho).2 hn
 obtain⟨_,⟨xs,h1,h2,h3,h4⟩,_⟩:=hs.objs id _ ho
 have hil:=(List.getElem?_eq_some_iff.1 hr).1
 have hrk:=h3 r (List.mem_of_getElem? hr)
 have hc:RdCells w (cx.own g σ) ⟨b,i*k+f,none⟩ (r.drop f):=by
  intro j z hz
  rw[List.getElem?_drop]at hz
  have hj:f+j < k:=by rw[← hrk];exact(List.getElem?_eq_some_iff.1 hz).1
  have hlen:i*k+(f+j) < xs.length:=by
   rw[h1.1]
   have h5:(i+1)*k≤rows.length*k:=Nat.mul_le_mul_right _ hil
   rw[Nat.add_mul,Nat.one_mul]at h5
   omega
  refine⟨xs[i*k+(f+j)],?_,h2 _ (List.getElem_mem _),h4 i (f+j) r z _ hr hz (List.getElem?_eq_getElem hlen)⟩
  rw[add_lit,show i*k+f+j=i*k+(f+j) by omega]
  have:=h1.cells (g:=b) (by rw[← blk_own h1];exact hb) (i*k+(f+j)) _ (List.getElem?_eq_getElem hlen)
  rw[add_lit,Nat.zero_add]at this
  exact this
 obtain⟨v,h5,h6⟩:=run_load_cells (cx.hT t ti ht) hc hl
 have h5':(loadVar t ⟨b,i*k+f,none⟩).run cx.P w = .ok v w:=by simpa[Instr.loadAt,Instr.sureAddr] using h5
 exact⟨v,w,by simp[execOp,hv,Instr.loadAt,Instr.sureAddr,h5'],Below.refl _ _,h6,trivial⟩
theorem ok_store_pe {t:TypeId}{x y:Operand}{id n i f e k:Nat}{rows:List (List D)}{r new:List D}{av:AV}{ti:TI}(hx:EvS x (.pe id n i f)) (hy:EvS y av) (ht:tget cx.T t=some ti) (hc:dcells av=some new)
  (hn:n=rows.length) (hr:rows[i]? = some r) (hnn:Nat.beq new.length ti.n=true) (hle:f+new.length≤r.length) :
  OpOk cx ⟨none,.store t x y,ty,pos,af,gd⟩ ⟨rdOf x (.pe id n i f)++(rdOf y av++[(.o id,.ob (.arr e k rows))]),[(.o id,.ob (.arr e k (rows.set i (splice r f new))))]⟩:=by
 rintro σ a w K Q ⟨g,nx,hs⟩ hrd hK
 have ho:get σ (.o id) = .ob (.arr e k rows):=hrd.right.right.1
 obtain⟨b,hb,hv⟩:=((hs.ev hx hrd.left).1.2 e k rows ho).2 hn
 obtain⟨hav,hbd⟩:=hs.ev hy hrd.right.left
 obtain⟨hidn,⟨xs,h1,h2,h3,h4⟩,_⟩:=hs.objs id _ ho
 obtain⟨c1,c2,c3⟩:=dcells_ok hs hav hc
 have hF:=cx.hT t ti ht
 have hnn':new.length=ti.n:=by simpa using hnn
 have hil:=(List.getElem?_eq_some_iff.1 hr).1
 have hrk:=h3 r (List.mem_of_getElem? hr)
 have h5:(i+1)*k≤rows.length*k:=Nat.mul_le_mul_right _ hil
 rw[Nat.add_mul,Nat.one_mul]at h5
 rcases h1.2 with ⟨_,h6⟩|⟨b',cap,cur,hv',hge,hh,hle',hcm,hsz,htk⟩
 ·
  omega
 have hbb:b'=b:=by rw[hv']at hb;simpa[blk] using hb
 subst hbb
 generalize hX:a.eval y=X at hav c1 c2 c3
 have hlen:X.cells.toList.length=new.length:=c1
 have hcap:rows.length*k≤cap*k:=Nat.mul_le_mul_right _ hle'
 have hst:=run_storeCells_at (P:=cx.P) b' (i*k+f) e X.cells.toList 0 cur w hh (by rw[hlen];omega) c2
 simp only[Nat.add_zero]at hst
 have hX':X.cells.size=ti.n:=by rw[← hnn',← hlen];simp
 have hrun:(Instr.storeAt t (.pointer (some ⟨b',i*k+f,none⟩)) X).run cx.P w = .ok () (w.setRow b' (splice cur.toList (i*k+f) X.cells.toList).toArray):=by
  simp[Instr.storeAt,Instr.sureAddr,storeVar,sizeOf_of hF w,hX',hst,splice]
 generalize hcs':(splice cur.toList (i*k+f) X.cells.toList).toArray=cs' at hrun
 have hheap:(w.setRow b' cs').heap[b']? = some (.cells cs' e (0,0)):=setRow_heap w b' cur cs' e (0,0) hh
 have hle2:i*k+f+X.cells.toList.length≤cur.toList.length:=by rw[hlen];simp;omega
 have hrows:(rows.set i (splice r f new)).length=rows.length:=by simp
 have hOS:ObjStep cx σ g nx nx w (w.setRow b' cs') id (.arr e k (rows.set i (splice r f new))) (g id):=by
  refine⟨.inr ⟨rfl,.arr e k rows,ho,by simp[ObLe,upd_same]⟩,⟨rfl,rfl,rfl,by simp,fun k hk=>setRow_other w b' k cs' (by omega)⟩,fun b hb hne=>setRow_other w b' b cs' (fun e=>hne _ ho (by rw[hv',e];rfl)),fun b hb => .inl ⟨_,ho,hb⟩⟩
 have hxs':cs'.toList.take (rows.length*k)=splice xs (i*k+f) X.cells.toList:=by
  subst hcs'
  apply List.ext_getElem?
  intro j
  have hxl:xs.length=rows.length*k:=h1.1
  rw[List.getElem?_take]
  show(if j < rows.length*k then (splice cur.toList (i*k+f) X.cells.toList)[j]? else none)=_
  rw[splice_get hle2,splice_get (l:=xs) (by rw[hxl,hlen];omega)]
  by_cases hj:j < rows.length*k
  ·
   rw[if_pos hj]
   split
   ·
    rfl
   ·
    rw[← htk,List.getElem?_take,if_pos hj]
  ·
   rw[if_neg hj,if_neg (by rw[hlen];omega),List.getElem?_eq_none (by omega)]
 have hG:=SimG.obj hs hOS (fun hlat=>?_) trivial
 ·
  unfold Oper.wp
  simp only[execOp,hv,hX,Sem.run_bind,hrun,Result.andThen_ok,Sem.run_pure,Oper.upon,Act.put]
  refine hK _ _ (Sim.eqv ⟨_,_,hG⟩ fun k=>?_)
  cases k with
  |s i=>rw[objSt_s];exact(get_cons_ne (by simp)).symm
  |o i =>
   by_cases hi:i=id
   ·
    subst hi;rw[get_cons_same];exact get_cons_same.symm
   ·
    rw[objSt_o hi];exact(get_cons_ne (by simpa using fun e=>hi e.symm)).symm
  |nx=>rw[objSt_nx];exact hs.hnx.symm.trans (get_cons_ne (by simp)).symm
 ·
  have hsl:(splice xs (i*k+f) X.cells.toList).length=xs.length:=splice_len (by rw[h1.1,hlen];omega)
  refine⟨splice xs (i*k+f) X.cells.toList,⟨by rw[hsl,h1.1,hrows],.inr ⟨b',cap,cs',?_,hge,hheap,by rw[hrows];exact hle',hcm,?_,by rw[hrows];exact hxs'⟩⟩,fun x hx=>?_,fun r' hr'=>?_,fun i' j r' z x hi' hj hx=>?_⟩
  ·
   rw[upd_same,hv',hrows]
  ·
   subst hcs';rw[← hsz];simpa using splice_len hle2
  ·
   obtain⟨j,hj⟩:=List.getElem?_of_mem hx
   rw[splice_get (by rw[h1.1,hlen];omega)]at hj
   split at hj
   ·
    exact c2 x (List.mem_of_getElem? hj)
   ·
    exact h2 x (List.mem_of_getElem? hj)
  ·
   rcases List.mem_or_eq_of_mem_set hr' with h|h
   ·
    exact h3 r' h
   ·
    subst h;rw[splice_len hle,hrk]
  ·
   have hjk:j < k:=by
    have hm:r'∈rows.set i (splice r f new):=List.mem_of_getElem? hi'
    have:r'.length=k:=by
     rcases List.mem_or_eq_of_mem_set hm with h|h
     ·
      exact h3 r' h
     ·
      subst h;rw[splice_len hle,hrk]
    rw[← this];exact(List.getElem?_eq_some_iff.1 hj).1
   rw[splice_get (by rw[h1.1,hlen];omega)]at hx
   by_cases hii:i=i'
   ·
    subst hii
    rw[List.getElem?_set_self hil]at hi'
    cases hi'
    rw[splice_get hle]at hj
    by_cases hin:f≤j∧j < f+new.length
    ·
     rw[if_pos hin]at hj
     rw[if_pos (by rw[hlen];omega),show i*k+j - (i*k+f)=j - f by omega]at hx
     exact(c3 (j - f) x z hj hx).step hlat.ext hlat.own
    ·
     rw[if_neg hin]at hj
     rw[if_neg (by rw[hlen];omega)]at hx
     exact(h4 i j r z x hr hj hx).step hlat.ext hlat.own
   ·
    rw[List.getElem?_set_ne hii]at hi'
    have hout:¬ (i*k+f≤i'*k+j∧i'*k+j < i*k+f+X.cells.toList.length):=by
     rw[hlen]
     rcases Nat.lt_or_ge i' i with hlt|hge
     ·
      have:=Nat.mul_le_mul_right k hlt
      rw[Nat.succ_mul]at this
      omega
     ·
      have:=Nat.mul_le_mul_right k (show i+1≤i' by omega)
      rw[Nat.add_mul,Nat.one_mul]at this
      omega
    rw[if_neg hout]at hx
    exact(h4 i' j r' z x hi' hj hx).step hlat.ext hlat.own
variable {ops:Array Oper}{K:List Tr→St→Prop}{acc:List Tr}{rest:List Oper}
theorem a_leno {t tt:TypeId}{x:Operand}{id n e k k':Nat}{rows:List (List D)}{ti:TI}(hx:ev σ x=some (.own id n)) (ho:get σ (.o id) = .ob (.arr e k rows)) (ht:tget cx.T t=some ti) (hk:slK ti=some k') (hd:Nat.blt d cx.n=true) (hn:n=rows.length) :
  OA cx σ ⟨some d,.call { callee := .builtin .len,args := #[x],argTypes := #[t] },tt,pos,af,gd⟩ ⟨rdOf x (.own id n)++[(.o id,.ob (.arr e k rows))],[(.s d,.av (.d (.v (.int .i64 n))))]⟩ :=
 ⟨ok_len_own (lt_of_blt hd) (ev_out hx).1 ht hk hn,(ev_out hx).2.append ⟨ho,trivial⟩⟩
theorem a_io {t:TypeId}{x y:Operand}{id n e k i:Nat}{rows:List (List D)}{kd:IntKind}{ti:TI}(hx:ev σ x=some (.own id n)) (ho:get σ (.o id) = .ob (.arr e k rows)) (hy:ev σ y=some (.d (.v (.int kd (i:Int))))) (ht:tget cx.T t=some ti)
  (hk:slK ti=some k) (hd:Nat.blt d cx.n=true) (hn:n=rows.length) (hi:i < n) :
  OA cx σ ⟨some d,.indexAddr t x y,ty,pos,af,gd⟩ ⟨(rdOf x (.own id n)++rdOf y (.d (.v (.int kd (i:Int)))))++[(.o id,.ob (.arr e k rows))],[(.s d,.av (.pe id n i 0))]⟩ :=
 ⟨ok_ia_own (lt_of_blt hd) (ev_out hx).1 (ev_out hy).1 ht hk hn hi,((ev_out hx).2.append (ev_out hy).2).append ⟨ho,trivial⟩⟩
theorem a_fpe {t:TypeId}{x:Operand}{id n i f:Nat}{ti:TI}{fl off e k:Nat}{rows:List (List D)}(hx:ev σ x=some (.pe id n i f)) (ho:get σ (.o id) = .ob (.arr e k rows)) (ht:tget cx.T t=some ti) (hf:fldOff ti fl=some off) (hd:Nat.blt d cx.n=true) (hn:n=rows.length) :
  OA cx σ ⟨some d,.fieldAddr t x fl,ty,pos,af,gd⟩ ⟨rdOf x (.pe id n i f)++[(.o id,.ob (.arr e k rows))],[(.s d,.av (.pe id n i (f+off)))]⟩ :=
 ⟨ok_fa_pe (lt_of_blt hd) (ev_out hx).1 ht hf hn,(ev_out hx).2.append ⟨ho,trivial⟩⟩
theorem a_lpe {t:TypeId}{x:Operand}{id n i f e k:Nat}{rows:List (List D)}{r:List D}{ti:TI}{y:D}(hx:ev σ x=some (.pe id n i f)) (ho:get σ (.o id) = .ob (.arr e k rows)) (ht:tget cx.T t=some ti)
  (hd:Nat.blt d cx.n=true) (hr:rows[i]? = some r) (hl:ldD ti (r.drop f)=some y) (hn:n=rows.length) :
  OA cx σ ⟨some d,.load t x,ty,pos,af,gd⟩ ⟨rdOf x (.pe id n i f)++[(.o id,.ob (.arr e k rows))],[(.s d,.av (.d y))]⟩ :=
 ⟨ok_load_pe (lt_of_blt hd) (ev_out hx).1 ht hn hr hl,(ev_out hx).2.append ⟨ho,trivial⟩⟩
theorem a_spe {t:TypeId}{x y:Operand}{id n i f e k:Nat}{rows:List (List D)}{r new:List D}{av:AV}{ti:TI}(hx:ev σ x=some (.pe id n i f)) (ho:get σ (.o id) = .ob (.arr e k rows)) (hy:ev σ y=some av) (ht:tget cx.T t=some ti)
  (hc:dcells av=some new) (hnn:Nat.beq new.length ti.n=true) (hr:rows[i]? = some r) (hle:Nat.ble (f+new.length) r.length=true) (hn:n=rows.length) :
  OA cx σ ⟨none,.store t x y,ty,pos,af,gd⟩ ⟨rdOf x (.pe id n i f)++(rdOf y av++[(.o id,.ob (.arr e k rows))]),[(.o id,.ob (.arr e k (rows.set i (splice r f new))))]⟩ :=
 ⟨ok_store_pe (ev_out hx).1 (ev_out hy).1 ht hc hn hr hnn (by simpa using hle),(ev_out hx).2.append ((ev_out hy).2.append ⟨ho,trivial⟩)⟩
theorem a_lptr {t:TypeId}{x:Operand}{id off:Nat}{cells:List AV}{ti:TI}{y:AV}(hx:ev σ x=some (.ptr id off)) (ho:get σ (.o id) = .ob (.box cells)) (ht:tget cx.T t=some ti) (hd:Nat.blt d cx.n=true) (hl:ldA ti (cells.drop off)=some y) :
  OA cx σ ⟨some d,.load t x,ty,pos,af,gd⟩ ⟨rdOf x (.ptr id off)++[(.o id,.ob (.box cells))],[(.s d,.av y)]⟩ :=
 ⟨ok_load_ptr (lt_of_blt hd) (ev_out hx).1 ht hl,(ev_out hx).2.append ⟨ho,trivial⟩⟩
theorem map_at {α:Type}{l:List α}{f:α→List D}{k:Nat}{x:α}(h:l[k]? = some x):(l.map f)[k]? = some (f x):=by simp[h]
end Go.AX
namespace Go.AX
open Go.RowKit
variable {cx:Cx}{g:Nat→Value}{σ:St}{a:Act}{w:World}{nx:Nat}{c:Code}{Q:Exit→St→Prop}
variable {ty:TypeId}{pos:String}{af:Array Edge}{gd:Option (Nat×Bool)}{d:Nat}
theorem CW.empty {k:Nat}(i:Nat) (hi:get σ (.s i) = .av (.d (.sl k []))) (h:∀ (p:Option Addr) (cp:Nat),CW cx c Q ((.s i,.av (.d (.v (.slice p 0 cp))))::σ)):CW cx c Q σ:=by
 intro a w hs
 have hs0:=hs
 obtain⟨g,nx,hG⟩:=hs0
 have hr:Rd w (cx.own g σ) (a.tmps.getD i undef) (.sl k []):=(hG.slots i _ hi).1
 have key:∃ p cp,a.tmps.getD i undef = .slice p 0 cp:=by
  generalize a.tmps.getD i undef=x at hr
  generalize hD:D.sl k []=D0 at hr
  cases hr with
  |v=>cases hD
  |x=>cases hD
  |agg=>cases hD
  |nil p cp=>exact⟨p,cp,rfl⟩
  |sl ad cp k' rows f hb hsz hcap hk hc h1 hr=>cases hD;exact⟨_,_,rfl⟩
 obtain⟨p,cp,hv⟩:=key
 exact h p cp a w (Sim.retell hG (by rw[hv];exact Rd.v _) trivial)
theorem stut_nilv {i k cp:Nat}{p:Option Addr}:Stut cx ⟨[(.s i,.av (.d (.v (.slice p 0 cp))))],[(.s i,.av (.d (.sl k [])))]⟩:=by
 rintro σ a w ⟨g,nx,hs⟩ hr
 exact Sim.retell hs (av := .d (.sl k [])) (DLe_nilv p cp k (hs.slots i _ hr.1).1) trivial
theorem bin_isnil {P:Program}{t e:TypeId}{p:Option Addr}{n cp:Nat}(h:P.underlying t=some (.slice e)):BinR P .eql t (.slice p n cp) (.slice none 0 0) (.bool p.isNone):=by
 intro w x y
 rw[eqGuard_at_slice]
 simp only[Sem.run_bind,Sem.run_pure,Result.andThen_ok]
 exact Go.Lib.run_eql_slice_nil w t e p n cp 0 0 h
theorem tbl_slice {t:TypeId}{ti:TI}{k:Nat}(ht:tget cx.T t=some ti) (hk:slK ti=some k):∃ e,cx.P.underlying t=some (.slice e):=by
 obtain⟨e,ie,hu,_⟩:=slice_of (cx.hT t ti ht) hk
 exact⟨e,hu⟩
theorem a_nilv {t t':TypeId}{x y:Operand}{p:Option Addr}{n cp k:Nat}{ti:TI}(hx:ev σ x=some (.d (.v (.slice p n cp)))) (hy:ev σ y=some (.d (.v (.slice none 0 0)))) (ht:tget cx.T t=some ti) (hk:slK ti=some k) (hd:Nat.blt d cx.n=true) :
  OA cx σ ⟨some d,.binOp .eql t x y t',ty,pos,af,gd⟩ ⟨rdOf x (.d (.v (.slice p n cp)))++rdOf y (.d (.v (.slice none 0 0))),[(.s d,.av (.d (.v (.bool p.isNone))))]⟩:=by
 obtain⟨e,hu⟩:=tbl_slice (cx:=cx) ht hk
 exact a_bin hx hy (bin_isnil hu) hd
theorem ok_nilsl {t t':TypeId}{x y:Operand}{k k':Nat}{r:List D}{rows:List (List D)}{ti:TI}(hn:d < cx.n) (hx:EvS x (.d (.sl k (r::rows)))) (hy:EvS y (.d (.v (.slice none 0 0)))) (ht:tget cx.T t=some ti) (hk:slK ti=some k') :
  OpOk cx ⟨some d,.binOp .eql t x y t',ty,pos,af,gd⟩ ⟨rdOf x (.d (.sl k (r::rows)))++rdOf y (.d (.v (.slice none 0 0))),[(.s d,.av (.d (.v (.bool false))))]⟩:=by
 refine ok_val rfl hn fun σ a w g nx hs hr=>⟨.bool false,w,?_,Below.refl _ _,Rd.v _,trivial⟩
 obtain⟨e,hu⟩:=tbl_slice (cx:=cx) ht hk
 have h1:Rd w (cx.own g σ) (a.eval x) (.sl k (r::rows)):=(hs.ev hx hr.left).1
 have h2:=rep_v (hs.ev hy hr.right).1
 have key:∃ ad n cp,a.eval x = .slice (some ad) n cp:=by
  generalize a.eval x=v at h1
  generalize hD:D.sl k (r::rows)=D0 at h1
  cases h1 with
  |v=>cases hD
  |x=>cases hD
  |agg=>cases hD
  |nil p cp=>cases hD
  |sl ad cp k' rows f hb hsz hcap hk hc h1 hr=>exact⟨_,_,_,rfl⟩
 obtain⟨ad,n,cp,hv⟩:=key
 have:=bin_isnil (P:=cx.P) (p:=some ad) (n:=n) (cp:=cp) hu w x y
 simp only[execOp,hv,h2,Sem.run_bind]at this ⊢
 rw[this]
 rfl
theorem a_nilsl {t t':TypeId}{x y:Operand}{k k':Nat}{r:List D}{rows:List (List D)}{ti:TI}(hx:ev σ x=some (.d (.sl k (r::rows)))) (hy:ev σ y=some (.d (.v (.slice none 0 0)))) (ht:tget cx.T t=some ti) (hk:slK ti=some k') (hd:Nat.blt d cx.n=true) :
  OA cx σ ⟨some d,.binOp .eql t x y t',ty,pos,af,gd⟩ ⟨rdOf x (.d (.sl k (r::rows)))++rdOf y (.d (.v (.slice none 0 0))),[(.s d,.av (.d (.v (.bool false))))]⟩ :=
 ⟨ok_nilsl (lt_of_blt hd) (ev_out hx).1 (ev_out hy).1 ht hk,(ev_out hx).2.append (ev_out hy).2⟩
theorem ok_callv {f:FuncId}{z:Operand}{xs:List Operand}{avs:List AV}{ys:List Arg}{l:List (Key×Val)}{r:Res}{ats:Array TypeId}(hn:d < cx.n) (hz:EvS z (.d (.v (.func (.func f) #[] #[])))) (hc:FnOk cx.P f ys r) (hsub:Subs xs avs ys l) :
  OpOk cx ⟨some d,.call { callee := .value z,args:=⟨xs⟩,argTypes:=ats },ty,pos,af,gd⟩ ⟨rdOf z (.d (.v (.func (.func f) #[] #[])))++l,[(.s d,.av r.av)]⟩:=by
 rintro σ a w K Q ⟨g,nx,hs⟩ hr hK
 have hv:=rep_v (hs.ev hz hr.left).1
 have hcall:=hc.calls w (cx.own g σ) (xs.map a.eval) ⟨fun b hb=>own_lt hs hb,hs.gl⟩ (hsub.ok hs hr.right)
 have hrun:(execOp a.eval ⟨some d,.call { callee := .value z,args:=⟨xs⟩,argTypes:=ats },ty,pos,af,gd⟩).run cx.P w = .ok (.enter f (xs.map a.eval).toArray) w:=by
  obtain⟨fn,h1,h2,h3⟩:=hc.run
  simp only[execOp,resolve,Deferred.ofValue,hv,invoke,callFunc,Sem.run_bind,Sem.run_pure,Result.andThen_ok,run_program,h1,h2,h3,Bool.false_eq_true,if_false]
  simp
 unfold Oper.wp
 rw[hrun]
 refine hcall.mono fun e w' he=>?_
 obtain⟨v,rfl,hb,hres⟩:=he
 obtain⟨h1,h2⟩:=Res.rep (nx:=nx) hres
 exact hK _ _ (Sim.put hs hn hb h1 h2)
theorem a_callv {f:FuncId}{z:Operand}{xs:List Operand}{avs:List AV}{ys:List Arg}{l:List (Key×Val)}{r:Res}{ats:Array TypeId}(hc:FnOk cx.P f ys r) (hz:ev σ z=some (.d (.v (.func (.func f) #[] #[])))) (hd:Nat.blt d cx.n=true) (hsub:SubsE σ xs avs ys l) :
  OA cx σ ⟨some d,.call { callee := .value z,args:=⟨xs⟩,argTypes:=ats },ty,pos,af,gd⟩ ⟨rdOf z (.d (.v (.func (.func f) #[] #[])))++l,[(.s d,.av r.av)]⟩ :=
 ⟨ok_callv (lt_of_blt hd) (ev_out hz).1 hc hsub.out.1,(ev_out hz).2.append hsub.out.2⟩
def inK (ti:TI):Option IntKind:=match ti.kind with
 |.int k=>some k
 |_=>none
theorem int_of {t:TypeId}{ti:TI}{k:IntKind}(ht:tget cx.T t=some ti) (hk:inK ti=some k):cx.P.underlying t=some (.int k):=by
 have h:=(cx.hT t ti ht).kind
 unfold inK at hk
 split at hk
 ·
  next k' hkk=>cases hk;rw[hkk]at h;exact h.1
 ·
  cases hk
theorem ok_conv {s t:TypeId}{x:Operand}{ks kt:IntKind}{n:Int}{si ti:TI}(hn:d < cx.n) (hx:EvS x (.d (.v (.int ks n)))) (hs':tget cx.T s=some si) (hks:inK si=some ks) (ht:tget cx.T t=some ti) (hkt:inK ti=some kt) (hw:kt.wrap n=n) :
  OpOk cx ⟨some d,.convert s t x,ty,pos,af,gd⟩ ⟨rdOf x (.d (.v (.int ks n))),[(.s d,.av (.d (.v (.int kt n))))]⟩:=by
 refine ok_val rfl hn fun σ a w g nx hs hr=>⟨.int kt n,w,?_,Below.refl _ _,Rd.v _,trivial⟩
 have hv:=rep_v (hs.ev hx hr).1
 have h1:=int_of (cx:=cx) hs' hks
 have h2:=int_of (cx:=cx) ht hkt
 have h3:cx.P.intKind t=kt:=by simp[Program.intKind,h2]
 have:=run_convert_int (P:=cx.P) w s t ks n (by simp[h1]) (by rw[h3];exact h2)
 rw[h3,hw]at this
 simp[execOp,hv,this]
theorem a_conv {s t:TypeId}{x:Operand}{ks kt:IntKind}{n:Int}{si ti:TI}(hx:ev σ x=some (.d (.v (.int ks n)))) (hs':tget cx.T s=some si) (hks:inK si=some ks) (ht:tget cx.T t=some ti) (hkt:inK ti=some kt) (hd:Nat.blt d cx.n=true) (hw:kt.wrap n=n) :
  OA cx σ ⟨some d,.convert s t x,ty,pos,af,gd⟩ ⟨rdOf x (.d (.v (.int ks n))),[(.s d,.av (.d (.v (.int kt n))))]⟩ :=
 ⟨ok_conv (lt_of_blt hd) (ev_out hx).1 hs' hks ht hkt hw,(ev_out hx).2⟩
theorem wrap_u64_in {n:Int}(h:0≤n∧n≤9223372036854775807):IntKind.u64.wrap n=n:=by
 rw[IntKind.wrap_u64];omega
theorem bin_half {P:Program}{t:TypeId}{n:Int}:BinR P .shr t (.int .u64 n) (.int .u64 1) (.int .u64 (n / 2)):=by
 intro w x y
 have:=shift_shr .u64 .u64 n 1 (by omega) (by decide)
 rw[eqGuard_shr,binOp_shr,this]
 rfl
end Go.AX
namespace Go.AX
theorem by_k {p:Prop}(h:p:=by((focus first|exact rfl|assumption|((first|apply decide_eq_true|apply decide_eq_false);omega)|(simp;done)|(simp;omega)|(simp;assumption)))):p:=h
theorem by_ks {p:Prop}(h:p:=by((focus first|assumption|((first|apply decide_eq_true|apply decide_eq_false);omega)|(simp;done)|(simp;omega)|(simp;assumption)|exact rfl))):p:=h
theorem by_g {p:Prop}(h:p:=by((first|exact .none rfl|(refine .yes rfl rfl (gt rfl ?_);(focus first|exact rfl|assumption|((first|apply decide_eq_true|apply decide_eq_false);omega)|(simp;done)|(simp;omega)|(simp;assumption)))))):p:=h
theorem by_less {p:Prop}(h:p:=by((refine less_of rfl rfl rfl ?_);(repeat(first|exact lessL_nil|refine lessL_nx ?_|refine lessL_cons (by first|exact rfl|exact get_int rfl (by(focus first|omega|(simp;done)|(simp;omega)))|exact get_own rfl (by first|rfl|(simp;done)|(simp;omega))|exact get_bool rfl (by(focus first|exact rfl|assumption|((first|apply decide_eq_true|apply decide_eq_false);omega)|(simp;done)|(simp;omega)|(simp;assumption)))|exact get_sl rfl (by first|rfl|assumption|(simp;done)|(simp only[List.map_append];rfl)|(simp only[List.map_append,List.append_assoc];rfl)|(simp;rfl))|exact get_arr rfl (by first|rfl|assumption|(simp;done)|(simp only[List.map_append];rfl)|(simp only[List.map_append,List.append_assoc];rfl)|(simp;rfl))|exact get_box rfl (by first|rfl|assumption|(simp;done)|(simp;rfl))) rfl ?_)))):p:=h
theorem by_oa {p:Prop}(h:p:=by
  first
  |((with_reducible apply a_ia);(iterate 5 exact rfl);apply idx_map;assumption)
  |((with_reducible apply a_bin);(iterate 2 exact rfl);(first|with_reducible apply bin_add|with_reducible apply bin_sub|apply bin_add|apply bin_sub);(focus first|omega|(simp;done)|(simp;omega));exact rfl)
  |((with_reducible apply a_pick_t);exact rfl;(focus first|exact rfl|assumption|((first|apply decide_eq_true|apply decide_eq_false);omega)|(simp;done)|(simp;omega)|(simp;assumption));(iterate 2 exact rfl))
  |((with_reducible apply a_pick_f);exact rfl;(focus first|exact rfl|assumption|((first|apply decide_eq_true|apply decide_eq_false);omega)|(simp;done)|(simp;omega)|(simp;assumption));(iterate 2 exact rfl))
  |((with_reducible apply a_app);(iterate 8 exact rfl);(focus first|exact rfl|(simp;done)|(simp;omega));(focus first|omega|(simp;done)|(simp;omega)))
  |((with_reducible apply a_store);(iterate 7 exact rfl);(first|exact⟨rfl,trivial⟩|(apply nw_own;exact rfl;(focus first|exact rfl|(simp;done)|(simp;omega)))))
  |((with_reducible apply a_ib);(iterate 6 exact rfl);(first|omega|decide))
  |((with_reducible apply a_is);(iterate 5 exact rfl);assumption)
  |((with_reducible apply a_from);(iterate 5 exact rfl);apply cut_from;(focus first|omega|(simp;omega)|(simp;done)))
  |((with_reducible apply a_to);(iterate 5 exact rfl);apply cut_to;(focus first|omega|(simp;omega)|(simp;done)))
  |((with_reducible apply a_leno);(iterate 5 exact rfl);(focus first|exact rfl|(simp;done)|(simp;omega)))
  |((with_reducible apply a_io);(iterate 6 exact rfl);(focus first|exact rfl|(simp;done)|(simp;omega));(focus first|omega|(simp;done)|(simp;omega)))
  |((with_reducible apply a_fpe);(iterate 5 exact rfl);(focus first|exact rfl|(simp;done)|(simp;omega)))
  |((with_reducible apply a_lpe);(iterate 4 exact rfl);(focus first|assumption|(apply map_at;assumption));exact rfl;(focus first|exact rfl|(simp;done)|(simp;omega)))
  |((with_reducible apply a_spe);(iterate 6 exact rfl);(focus first|assumption|(apply map_at;assumption));exact rfl;(focus first|exact rfl|(simp;done)|(simp;omega)))
  |((with_reducible apply a_nilv);(iterate 5 exact rfl))
  |((with_reducible apply a_nilsl);(iterate 5 exact rfl))
  |((with_reducible apply a_conv);(iterate 6 exact rfl);(apply wrap_u64_in;(focus first|omega|(simp;done)|(simp;omega))))
  |((with_reducible apply a_conv);(iterate 6 exact rfl);(apply wrap_in;(focus first|omega|(simp;done)|(simp;omega))))
  |((with_reducible apply a_box);(iterate 4 exact rfl);(first|exact⟨rfl,trivial⟩|(apply nw_own;exact rfl;(focus first|exact rfl|(simp;done)|(simp;omega)))))
  ):p:=h
theorem by_sub {p:Prop}(h:p:=by(repeat(first|exact SubsE.nil|(apply SubsE.cons;exact rfl;(first|exact .d (.refl _)|exact .d (.nil _)|exact .agg rfl (.refl _)|exact .pd|exact .ptr rfl);(first|exact trivial|exact⟨rfl,trivial⟩))))):p:=h
theorem by_ca {p:Prop}(h:p:=by exact a_call (by assumption) rfl by_sub):p:=h
structure Hold (q:Prop):Prop where
 get:q
structure StopA (n:Nat):Prop where
 t:n=n
structure StopX (n:Nat):Prop where
 t:n=n
structure StopR (n:Nat):Prop where
 t:n=n
variable {cx:Cx}{σ:St}{Q:Exit→St→Prop}
theorem stop_atA {x y:Code}{n:Nat}(_h:firstRegion x=some n) (_hn:StopA n) (hs:Stop (CW cx (.seq x y) Q σ)):CW cx (.seq x y) Q σ:=hs
theorem stop_atX {ops:Array Oper}{b:Bool}{n:Nat}(_hn:StopX n) (hs:Stop (CW cx (.region n ops b) Q σ)):CW cx (.region n ops b) Q σ:=hs
theorem stop_atR {ops:Array Oper}{b:Bool}{y:Code}{n:Nat}(_hn:StopR n) (hs:Stop (CW cx (.seq (.region n ops b) y) Q σ)):CW cx (.seq (.region n ops b) y) Q σ:=hs
theorem wk {p q:Prop}(h:q) (s:Hold q→p:=by
  intro hq
  (first|((with_reducible apply s1);exact rfl)|(with_reducible first|apply CW.seq|apply CW.block|apply CW.region|apply CW.draw|apply CW.skip|apply CW.exit|apply CW.ret|apply q_then|apply q_then_exit|apply q_then_ret|apply q_block|apply q_block_ret|apply q_block_hit|apply q_ret|apply q_end|apply q_loop_exit|apply q_loop_ret|apply q_loopT_exit|apply q_loopT_ret|apply RW.nil)|((with_reducible apply s3);exact rfl;exact by_k)|((with_reducible apply s2);exact rfl;exact by_k)|((with_reducible apply s4);exact rfl)|((with_reducible apply s5);(first|exact by_oa|exact by_ca);exact by_g)|((with_reducible apply CW.cond_t);exact rfl;exact by_ks)|((with_reducible apply CW.cond_f);exact rfl;exact by_ks)|((with_reducible apply q_block_miss);exact rfl)|(refine And.intro (show chk [] [] _ _=true by kernel_rfl) ?_))
  (repeat(first|((with_reducible apply s1);exact rfl)|(with_reducible first|apply CW.seq|apply CW.block|apply CW.region|apply CW.draw|apply CW.skip|apply CW.exit|apply CW.ret|apply q_then|apply q_then_exit|apply q_then_ret|apply q_block|apply q_block_ret|apply q_block_hit|apply q_ret|apply q_end|apply q_loop_exit|apply q_loop_ret|apply q_loopT_exit|apply q_loopT_ret|apply RW.nil)|((with_reducible apply s3);exact rfl;exact by_k)|((with_reducible apply s2);exact rfl;exact by_k)|((with_reducible apply s4);exact rfl)|((with_reducible apply s5);(first|exact by_oa|exact by_ca);exact by_g)|((with_reducible apply CW.cond_t);exact rfl;exact by_ks)|((with_reducible apply CW.cond_f);exact rfl;exact by_ks)|((with_reducible apply q_block_miss);exact rfl)|(refine And.intro (show chk [] [] _ _=true by kernel_rfl) ?_)))
  exact hq.get):p:=s ⟨h⟩
theorem wkS {p q:Prop}(h:q) (s:Hold q→p:=by
  intro hq
  (first|((with_reducible apply stop_atA);exact rfl;assumption)|((with_reducible apply stop_atX);assumption)|((with_reducible apply stop_atR);assumption)|((with_reducible apply s1);exact rfl)|(with_reducible first|apply CW.seq|apply CW.block|apply CW.region|apply CW.draw|apply CW.skip|apply CW.exit|apply CW.ret|apply q_then|apply q_then_exit|apply q_then_ret|apply q_block|apply q_block_ret|apply q_block_hit|apply q_ret|apply q_end|apply q_loop_exit|apply q_loop_ret|apply q_loopT_exit|apply q_loopT_ret|apply RW.nil)|((with_reducible apply s3);exact rfl;exact by_k)|((with_reducible apply s2);exact rfl;exact by_k)|((with_reducible apply s4);exact rfl)|((with_reducible apply s5);(first|exact by_oa|exact by_ca);exact by_g)|((with_reducible apply CW.cond_t);exact rfl;exact by_ks)|((with_reducible apply CW.cond_f);exact rfl;exact by_ks)|((with_reducible apply q_block_miss);exact rfl)|(refine And.intro (show chk [] [] _ _=true by kernel_rfl) ?_))
  (repeat(first|((with_reducible apply stop_atA);exact rfl;assumption)|((with_reducible apply stop_atX);assumption)|((with_reducible apply stop_atR);assumption)|((with_reducible apply s1);exact rfl)|(with_reducible first|apply CW.seq|apply CW.block|apply CW.region|apply CW.draw|apply CW.skip|apply CW.exit|apply CW.ret|apply q_then|apply q_then_exit|apply q_then_ret|apply q_block|apply q_block_ret|apply q_block_hit|apply q_ret|apply q_end|apply q_loop_exit|apply q_loop_ret|apply q_loopT_exit|apply q_loopT_ret|apply RW.nil)|((with_reducible apply s3);exact rfl;exact by_k)|((with_reducible apply s2);exact rfl;exact by_k)|((with_reducible apply s4);exact rfl)|((with_reducible apply s5);(first|exact by_oa|exact by_ca);exact by_g)|((with_reducible apply CW.cond_t);exact rfl;exact by_ks)|((with_reducible apply CW.cond_f);exact rfl;exact by_ks)|((with_reducible apply q_block_miss);exact rfl)|(refine And.intro (show chk [] [] _ _=true by kernel_rfl) ?_)))
  exact hq.get):p:=s ⟨h⟩
theorem wa {p q:Prop}(h:q) (s:Hold q→p:=by
  intro hq
  (first|((with_reducible apply s1);exact rfl)|(with_reducible first|apply CW.seq|apply CW.block|apply CW.region|apply CW.draw|apply CW.skip|apply CW.exit|apply CW.ret|apply q_then|apply q_then_exit|apply q_then_ret|apply q_block|apply q_block_ret|apply q_block_hit|apply q_ret|apply q_end|apply q_loop_exit|apply q_loop_ret|apply q_loopT_exit|apply q_loopT_ret|apply RW.nil)|((with_reducible apply s3);exact rfl;exact by_k)|((with_reducible apply s2);exact rfl;exact by_k)|((with_reducible apply s4);exact rfl))
  (repeat(first|((with_reducible apply s1);exact rfl)|(with_reducible first|apply CW.seq|apply CW.block|apply CW.region|apply CW.draw|apply CW.skip|apply CW.exit|apply CW.ret|apply q_then|apply q_then_exit|apply q_then_ret|apply q_block|apply q_block_ret|apply q_block_hit|apply q_ret|apply q_end|apply q_loop_exit|apply q_loop_ret|apply q_loopT_exit|apply q_loopT_ret|apply RW.nil)|((with_reducible apply s3);exact rfl;exact by_k)|((with_reducible apply s2);exact rfl;exact by_k)|((with_reducible apply s4);exact rfl)))
  exact hq.get):p:=s ⟨h⟩
theorem waS {p q:Prop}(h:q) (s:Hold q→p:=by
  intro hq
  (first|((with_reducible apply stop_atA);exact rfl;assumption)|((with_reducible apply stop_atX);assumption)|((with_reducible apply stop_atR);assumption)|((with_reducible apply s1);exact rfl)|(with_reducible first|apply CW.seq|apply CW.block|apply CW.region|apply CW.draw|apply CW.skip|apply CW.exit|apply CW.ret|apply q_then|apply q_then_exit|apply q_then_ret|apply q_block|apply q_block_ret|apply q_block_hit|apply q_ret|apply q_end|apply q_loop_exit|apply q_loop_ret|apply q_loopT_exit|apply q_loopT_ret|apply RW.nil)|((with_reducible apply s3);exact rfl;exact by_k)|((with_reducible apply s2);exact rfl;exact by_k)|((with_reducible apply s4);exact rfl))
  (repeat(first|((with_reducible apply stop_atA);exact rfl;assumption)|((with_reducible apply stop_atX);assumption)|((with_reducible apply stop_atR);assumption)|((with_reducible apply s1);exact rfl)|(with_reducible first|apply CW.seq|apply CW.block|apply CW.region|apply CW.draw|apply CW.skip|apply CW.exit|apply CW.ret|apply q_then|apply q_then_exit|apply q_then_ret|apply q_block|apply q_block_ret|apply q_block_hit|apply q_ret|apply q_end|apply q_loop_exit|apply q_loop_ret|apply q_loopT_exit|apply q_loopT_ret|apply RW.nil)|((with_reducible apply s3);exact rfl;exact by_k)|((with_reducible apply s2);exact rfl;exact by_k)|((with_reducible apply s4);exact rfl)))
  exact hq.get):p:=s ⟨h⟩
theorem wa1 {p q:Prop}(h:q) (s:Hold q→p:=by
  intro hq
  (first|((with_reducible apply s1);exact rfl)|(with_reducible first|apply CW.seq|apply CW.block|apply CW.region|apply CW.draw|apply CW.skip|apply CW.exit|apply CW.ret|apply q_then|apply q_then_exit|apply q_then_ret|apply q_block|apply q_block_ret|apply q_block_hit|apply q_ret|apply q_end|apply q_loop_exit|apply q_loop_ret|apply q_loopT_exit|apply q_loopT_ret|apply RW.nil)|((with_reducible apply s3);exact rfl;exact by_k)|((with_reducible apply s2);exact rfl;exact by_k)|((with_reducible apply s4);exact rfl))
  exact hq.get):p:=s ⟨h⟩
theorem wa1S {p q:Prop}(h:q) (s:Hold q→p:=by
  intro hq
  (first|((with_reducible apply stop_atA);exact rfl;assumption)|((with_reducible apply stop_atX);assumption)|((with_reducible apply stop_atR);assumption)|((with_reducible apply s1);exact rfl)|(with_reducible first|apply CW.seq|apply CW.block|apply CW.region|apply CW.draw|apply CW.skip|apply CW.exit|apply CW.ret|apply q_then|apply q_then_exit|apply q_then_ret|apply q_block|apply q_block_ret|apply q_block_hit|apply q_ret|apply q_end|apply q_loop_exit|apply q_loop_ret|apply q_loopT_exit|apply q_loopT_ret|apply RW.nil)|((with_reducible apply s3);exact rfl;exact by_k)|((with_reducible apply s2);exact rfl;exact by_k)|((with_reducible apply s4);exact rfl))
  exact hq.get):p:=s ⟨h⟩
theorem wb {p q:Prop}(h:q) (s:Hold q→p:=by
  intro hq
  (first|((with_reducible apply CW.cond_t);exact rfl;exact by_ks)|((with_reducible apply CW.cond_f);exact rfl;exact by_ks)|((with_reducible apply q_block_miss);exact rfl)|(refine And.intro (show chk [] [] _ _=true by kernel_rfl) ?_))
  exact hq.get):p:=s ⟨h⟩
end Go.AX
namespace Go.RF
open Go.AX
abbrev Str:=List UInt8
abbrev i64 (n:Int):Value := .int .i64 n
abbrev dint (n:Int):D := .v (.int .i64 n)
abbrev dbool (b:Bool):D := .v (.bool b)
abbrev dstr (s:Str):D := .v (str s)
structure Pair where
 key:Str
 n:Int
 deriving DecidableEq
structure Version where
 by_:Int
 made:Bool
 has:Bool
 n:Int
 deriving DecidableEq
structure Chain where
 key:Str
 vs:List Version
 deriving DecidableEq
structure Ins where
 kind:Int
 a:Int
 b:Int
 n:Int
 key:Str
 deriving DecidableEq
structure Deed where
 reads:List Str
 writes:List Str
 code:List Ins
 deriving DecidableEq
structure Done where
 failed:Bool
 r0:Int
 r1:Int
 r2:Int
 r3:Int
 deriving DecidableEq
structure Engine where
 chains:List Chain
 deeds:List Deed
 state:List Int
 ends:List Done
 base:Int
 deriving DecidableEq
def Pair.enc (p:Pair):List D:=[dstr p.key,dint p.n]
def Version.enc (v:Version):List D:=[dint v.by_,dbool v.made,dbool v.has,dint v.n]
def encVs (l:List Version):D := .sl 4 (l.map Version.enc)
def Chain.enc (c:Chain):List D:=[dstr c.key,encVs c.vs]
def Ins.enc (i:Ins):List D:=[dint i.kind,dint i.a,dint i.b,dint i.n,dstr i.key]
def encStr1 (s:Str):List D:=[dstr s]
def encInt1 (n:Int):List D:=[dint n]
def encStrs (l:List Str):D := .sl 1 (l.map encStr1)
def encInts (l:List Int):D := .sl 1 (l.map encInt1)
def encCode (l:List Ins):D := .sl 5 (l.map Ins.enc)
def Deed.enc (d:Deed):List D:=[encStrs d.reads,encStrs d.writes,encCode d.code]
def Done.enc (d:Done):List D:=[dbool d.failed,dint d.r0,dint d.r1,dint d.r2,dint d.r3]
def encRows (l:List Pair):D := .sl 2 (l.map Pair.enc)
def encChains (l:List Chain):D := .sl 2 (l.map Chain.enc)
def encDeeds (l:List Deed):D := .sl 3 (l.map Deed.enc)
def encEnds (l:List Done):D := .sl 5 (l.map Done.enc)
def Engine.enc (e:Engine):List D:=[encChains e.chains,encDeeds e.deeds,encInts e.state,encEnds e.ends,dint e.base]
def Engine.enc0 (_e:Engine):List D:=[.v nilS,.v nilS,.v nilS,.v nilS,dint 0]
theorem dle_int {n m:Int}(h:n=m):DLe (dint n) (dint m):=by rw[h];exact .refl _
theorem dle_bool {n m:Bool}(h:n=m):DLe (dbool n) (dbool m):=by rw[h];exact .refl _
theorem dle_eq {x y:D}(h:x=y):DLe x y:=by rw[h];exact .refl _
inductive DLes:List D→List D→Prop
 |nil:DLes [] []
 |cons {x y:D} {xs ys:List D} (h:DLe x y) (hr:DLes xs ys):DLes (x::xs) (y::ys)
theorem DLes.at {a b:List D}(h:DLes a b):a.length=b.length∧∀ (j:Nat) (x y:D),a[j]? = some x→b[j]? = some y→DLe x y:=by
 induction h with
 |nil=>exact⟨rfl,fun j x y h=>by simp at h⟩
 |cons h hr ih =>
  refine⟨by simp[ih.1],fun j x y hx hy=>?_⟩
  cases j with
  |zero=>simp at hx hy;subst hx hy;exact h
  |succ j=>exact ih.2 j x y (by simpa using hx) (by simpa using hy)
theorem DLes.agg {a b:List D}(h:DLes a b):DLe (.agg a) (.agg b) := .agg a b h.at.1 h.at.2
theorem dle_nil (k:Nat):DLe (.v nilS) (.sl k []) := .nil k
theorem idx_map {α:Type}{l:List α}{f:α→List D}{k:Nat}{x:α}(h:l[k]? = some x):idx (l.map f) (k:Int)=some (f x):=by
 simp[idx,List.getElem?_map,h]
end Go.RF
namespace Go.AX
open Go.RowKit Go.WideShapes Go.ChangeShapes
section
variable {H:Type}{enc:TypeId×Value→H}{P:Program}
theorem post_of_below {f:Func}{s:ChangeSpec}{apart fresh handsOn again:Bool}{W W':World}{args:Array Value}{v:Value}{ds gs:List (DataW H)}{before pa pv:List MemPlace}
  (hW:DataW.Whole enc P f.params.toList s.vars apart W args.toList ds gs before)
  (hres:∀ (b:Nat) (sp:Nat→Bool) (hd:Bool),DataW.TrodAll enc P W' b sp hd f.resultTypes.toList (v.resultList f.resultTypes.size) (s.fn H (ds++gs)).results [])
  (hargs:∀ sp:Nat→Bool,(∀ p∈before,sp p.block=true)→DataW.TrodAll enc P W' 0 sp true f.params.toList args.toList (s.fn H (ds++gs)).args pa)
  (hvars:∀ sp:Nat→Bool,(∀ p∈before,sp p.block=true)→DataW.TrodVars enc P W' sp s.vars (s.fn H (ds++gs)).vars pv)
  (hps:before=pa++pv) (hb:Below W.heap.size W W')
  (hok:∀ (j:Nat) (t:TypeId) (r:Value),f.resultTypes[j]? = some t→(v.resultList f.resultTypes.size)[j]? = some r→Value.okWide P W' .any 0 t r) :
  s.post enc P f apart fresh handsOn again W args v W':=by
 have hlt:∀ p∈before,p.block < W.heap.size:=fun p hp=>hW.lt p hp
 have hold:∀ p∈before,(fun b=>decide (b < W.heap.size)) p.block=true:=fun p hp=>by simpa using hlt p hp
 refine⟨ds,gs,before,[],pa,pv,hW,hres _ _ _,hargs _ hold,hvars _ hold,World.keptBut_mono (fun p hp=>⟨hp,?_⟩) (hb.frame (· ∈ before)),fun _=>?_⟩
 ·
  rw[hps,List.mem_append]at hp
  exact Or.inr hp
 ·
  obtain⟨_,_,_,_,_,hz,hn⟩:=hW
  refine⟨hok,_,_,([]++pa)++pv,⟨[]++pa,pv,trodAll_append (hargs _ (fun _ _=>rfl)) (hres _ _ _),hvars _ (fun _ _=>rfl),rfl,?_,?_⟩,?_⟩
  ·
   intro b off hp
   have hin:MemPlace.cell b off∈before:=by rw[hps];simpa using hp
   rw[hb.frozen (hlt _ hin)]
   exact hz b off hin
  ·
   intro ha
   have:=hn ha
   rw[hps]at this
   simpa using this
  ·
   intro p hp _
   rw[hps]
   simpa using hp
end
theorem FnOk.bool {P:Program}{f:FuncId}{args:List Arg}{b:Bool}(h:FnOk P f args (.one (.v (.bool b)))) {w:World}{vs:List Value}(hgl:Gl P w) (ha:ArgsOk w (fun _=>False) vs args) :
  Calls P f vs.toArray w fun e w'=>e = .returned (.bool b)∧Below w.heap.size w w' :=
 (h.calls w (fun _=>False) vs ⟨fun _ h=>h.elim,hgl⟩ ha).mono fun _ _ ⟨v,h1,h2,h3⟩=>⟨by rw[h1,rd_v h3],h2⟩
end Go.AX
namespace Go.Proofs.YtngnajknbeijjaaGreatDoor
open Go.AX Go.RF Go.RowKit Go.ChangeShapes Go.WideShapes Go.Deep
inductive Sh where
 |num (k:IntKind)
 |str
 |bool
 |sl (fs:List Sh)
mutual
inductive Fits:Sh→Nat→D→Prop
 |num (k:IntKind) (n:Int) (m:Nat) (h:(Lit.int k n).wf=true):Fits (.num k) m (.v (.int k n))
 |str (s:Str) (m:Nat) (h:s.length≤m):Fits .str m (dstr s)
 |bool (b:Bool) (m:Nat):Fits .bool m (dbool b)
 |sl (fs:List Sh) (m:Nat) (rows:List (List D)) (h:FitsR fs m rows):Fits (.sl fs) m (.sl fs.length rows)
inductive FitsL:List Sh→Nat→List D→Prop
 |nil (m:Nat):FitsL [] m []
 |cons {s:Sh} {a b m:Nat} {d:D} {ss:List Sh} {ds:List D} (h:Fits s a d) (hr:FitsL ss b ds) (hm:a+b≤m):FitsL (s::ss) m (d::ds)
inductive FitsR:List Sh→Nat→List (List D)→Prop
 |nil (fs:List Sh) (m:Nat):FitsR fs m []
 |cons {fs:List Sh} {a b m:Nat} {r:List D} {rows:List (List D)} (h:FitsL fs a r) (hr:FitsR fs b rows) (hm:a+b+1≤m):FitsR fs m (r::rows)
end
mutual
inductive TySh (P:Program):TypeId→List Sh→Prop
 |num {t:TypeId} {k:IntKind} (h:P.underlying t=some (.int k)):TySh P t [.num k]
 |str {t:TypeId} (h:P.underlying t=some .string):TySh P t [.str]
 |bool {t:TypeId} (h:P.underlying t=some .bool):TySh P t [.bool]
 |sl {t e:TypeId} {fs:List Sh} (h:P.underlying t=some (.slice e)) (hk:P.cellsOf e=fs.length) (h0:0 < fs.length) (he:TySh P e fs):TySh P t [.sl fs]
 |arr {t e:TypeId} {n:Nat} {fs:List Sh} (h:P.underlying t=some (.array n e)) (hC:P.cellsOf t=n*fs.length) (hk:P.cellsOf e=fs.length) (he:TySh P e fs):TySh P t (List.replicate n fs).flatten
 |st {t:TypeId} {fs:Array Field} {ss:List Sh} (h:P.underlying t=some (.struct fs)) (hC:P.cellsOf t=ss.length) (hf:TyFs P fs.toList 0 ss):TySh P t ss
inductive TyFs (P:Program):List Field→Nat→List Sh→Prop
 |nil (o:Nat):TyFs P [] o []
 |cons {f:Field} {r:List Field} {o n:Nat} {s ss:List Sh} (ho:f.offset=o) (hc:P.cellsOf f.type=s.length) (hn:n=o+s.length) (ht:TySh P f.type s) (hr:TyFs P r n ss):TyFs P (f::r) o (s++ss)
end
theorem FitsL.mono {ss:List Sh}{m n:Nat}{ds:List D}(h:FitsL ss m ds) (hm:m≤n):FitsL ss n ds:=by
 cases h with
 |nil=>exact .nil _
 |cons h1 h2 h3=>exact .cons h1 h2 (by omega)
theorem FitsL.append:∀ {ss ts:List Sh}{a b m:Nat}{ds es:List D},FitsL ss a ds→FitsL ts b es→a+b≤m→FitsL (ss++ts) m (ds++es)
 | [],ts,a,b,m,ds,es,h,h',hm=>by cases h;exact h'.mono (by omega)
 |s::ss,ts,a,b,m,ds,es,h,h',hm=>by
  cases h with
  |cons h1 h2 h3=>exact .cons h1 (h2.append (m:=_) h' (Nat.le_refl _)) (by omega)
theorem FitsL.len:∀ {ss:List Sh}{m:Nat}{ds:List D},FitsL ss m ds→ds.length=ss.length
 | [],m,ds,h=>by cases h;rfl
 |s::ss,m,ds,h=>by
  cases h with
  |cons h1 h2 h3=>simp[h2.len]
theorem FitsR.row {fs:List Sh}:∀ {rows:List (List D)}{m:Nat},FitsR fs m rows→∀ r∈rows,r.length=fs.length
 | [],m,h,r,hr=>by simp at hr
 |x::rows,m,h,r,hr=>by
  cases h with
  |cons h1 h2 h3 =>
   rcases List.mem_cons.1 hr with rfl|hr
   ·
    exact h1.len
   ·
    exact h2.row r hr
theorem FitsR.mono {fs:List Sh}{m n:Nat}{rows:List (List D)}(h:FitsR fs m rows) (hm:m≤n):FitsR fs n rows:=by
 cases h with
 |nil=>exact .nil _ _
 |cons h1 h2 h3=>exact .cons h1 h2 (by omega)
section
variable {H:Type}{enc:TypeId×Value→H}{P:Program}{w:World}
theorem bulk_append (l r:List (DataW H)):Rows.uptoBulkAll (l++r)=Rows.uptoBulkAll l+Rows.uptoBulkAll r:=by
 induction l with
 |nil=>simp[Rows.uptoBulkAll]
 |cons x l ih=>simp only[List.cons_append,Rows.uptoBulkAll,ih];omega
theorem fitsR_of {fs:List Sh}{ι:Type}{D0:ι→DataW H}{f:ι→List D}:∀ {l:List ι},(∀ i∈l,FitsL fs (Rows.uptoBulk (D0 i) - 1) (f i)∧1≤Rows.uptoBulk (D0 i))→FitsR fs (Rows.uptoBulkAll (l.map D0)) (l.map f)
 | [],_ => .nil _ _
 |i::l,h=>by
  have h1:=h i (List.mem_cons_self ..)
  refine .cons h1.1 (fitsR_of fun j hj=>h j (List.mem_cons_of_mem _ hj)) ?_
  simp only[List.map_cons,Rows.uptoBulkAll]
  omega
theorem one_le (d:DataW H):1≤Rows.uptoBulk d:=by
 cases d with
 |lit l=>cases l <;> simp[Rows.uptoBulk]
 |nil=>simp[Rows.uptoBulk]
 |ptr d=>simp[Rows.uptoBulk]
 |slice elems spare=>simp[Rows.uptoBulk]
 |agg parts=>simp[Rows.uptoBulk]
 |iface t d=>simp[Rows.uptoBulk]
 |map entries=>simp[Rows.uptoBulk]
 |held h=>simp[Rows.uptoBulk]
def RdL (w:World) (own:Nat→Prop) (cs:List Value) (ds:List D):Prop :=
 cs.length=ds.length∧∀ (j:Nat) (c:Value) (d:D),cs[j]? = some c→ds[j]? = some d→c.oneCell'=true∧Rd w own c d
theorem RdL.one {own:Nat→Prop}{c:Value}{d:D}(h1:c.oneCell'=true) (h:Rd w own c d):RdL w own [c] [d]:=by
 refine⟨rfl,fun j c' d' hc hd=>?_⟩
 cases j with
 |zero=>simp at hc hd;subst hc hd;exact⟨h1,h⟩
 |succ j=>simp at hc
theorem RdL.append {own:Nat→Prop}{a b:List Value}{x y:List D}(h:RdL w own a x) (h':RdL w own b y):RdL w own (a++b) (x++y):=by
 refine⟨by simp[h.1,h'.1],fun j c d hc hd=>?_⟩
 rcases Nat.lt_or_ge j a.length with hj|hj
 ·
  rw[List.getElem?_append_left hj]at hc
  rw[List.getElem?_append_left (by rw[← h.1];exact hj)]at hd
  exact h.2 j c d hc hd
 ·
  rw[List.getElem?_append_right hj]at hc
  rw[List.getElem?_append_right (by rw[← h.1];exact hj),← h.1]at hd
  exact h'.2 _ c d hc hd
abbrev noOwn:Nat→Prop:=fun _=>False
theorem block_lt {a:Addr}{c:Value}(h:w.cell? (a.add 0)=some c):a.block < w.heap.size:=by
 rcases Nat.lt_or_ge a.block w.heap.size with hlt|hge
 ·
  exact hlt
 ·
  exfalso
  have:w.heap[a.block]? = none:=Array.getElem?_eq_none hge
  simp[World.cell?,add_zero,this]at h
theorem open_fields {n:Nat}(ih:∀ {t:TypeId}{ss:List Sh}{cs:List Value}{x:DataW H×List MemPlace},TySh P t ss→DataW.trod enc P w 0 (fun _=>true) true n t cs=some x →
   ∃ ds:List D,RdL w noOwn cs ds∧FitsL ss (Rows.uptoBulk x.1 - 1) ds):∀ {fs:List Field} {o:Nat} {ss:List Sh} {cs:List Value} {xs:List (DataW H×List MemPlace)},TyFs P fs o ss→xs.length=fs.length →
  (∀ (i:Nat) (f:Field),fs[i]? = some f→DataW.trod enc P w 0 (fun _=>true) true n f.type ((cs.drop f.offset).take (P.cellsOf f.type))=xs[i]?)→cs.length=o+ss.length →
  ∃ ds:List D,RdL w noOwn (cs.drop o) ds∧FitsL ss (Rows.uptoBulkAll (xs.map (·.1))) ds
 | [],o,ss,cs,xs,hT,hl,hat,hc=>by
  cases hT
  refine⟨[],⟨by simp;simp at hc;omega,fun j c d _ hd=>by simp at hd⟩,.nil _⟩
 |f::r,o,ss,cs,xs,hT,hl,hat,hc=>by
  cases hT with
  |@cons _ _ _ n' s ss' ho hcc hn ht hr =>
   cases xs with
   |nil=>simp at hl
   |cons x xs =>
    have h0:=hat 0 f rfl
    rw[List.getElem?_cons_zero,ho,hcc]at h0
    obtain⟨ds,h1,h2⟩:=ih ht h0
    rw[List.length_append]at hc
    obtain⟨es,h3,h4⟩:=open_fields ih (cs:=cs) hr (by simpa using hl) (fun i g hg=>by simpa using hat (i+1) g hg) (by omega)
    refine⟨ds++es,?_,h2.append h4 ?_⟩
    ·
     have:=h1.append h3
     rw[hn,← List.drop_drop,List.take_append_drop]at this
     exact this
    ·
     simp only[List.map_cons,Rows.uptoBulkAll];omega
theorem open_elems {n N:Nat}{e:TypeId}{fs:List Sh}(ih:∀ {cs:List Value}{x:DataW H×List MemPlace},DataW.trod enc P w 0 (fun _=>true) true n e cs=some x →
   ∃ ds:List D,RdL w noOwn cs ds∧FitsL fs (Rows.uptoBulk x.1 - 1) ds) {cs:List Value} {xs:List (DataW H×List MemPlace)} (hk:P.cellsOf e=fs.length) (hl:xs.length=N)
  (hat:∀ (i:Nat),i < N→DataW.trod enc P w 0 (fun _=>true) true n e ((cs.drop (i*P.cellsOf e)).take (P.cellsOf e))=xs[i]?):∀ (m:Nat),m≤N →
  ∃ ds:List D,RdL w noOwn (cs.take (m*fs.length)) ds∧FitsL (List.replicate m fs).flatten (Rows.uptoBulkAll ((xs.take m).map (·.1))) ds
 |0,_=>⟨[],⟨by simp,fun j c d _ hd=>by simp at hd⟩,.nil _⟩
 |m+1,hm=>by
  obtain⟨ds,h1,h2⟩:=open_elems ih hk hl hat m (by omega)
  have hx:xs[m]? = some (xs[m]'(by omega)):=List.getElem?_eq_getElem (by omega)
  have h0:=hat m (by omega)
  rw[hx,hk]at h0
  obtain⟨es,h3,h4⟩:=ih h0
  refine⟨ds++es,?_,?_⟩
  ·
   have:=h1.append h3
   rwa [← List.take_add,show m*fs.length+fs.length=(m+1)*fs.length by rw[Nat.add_mul,Nat.one_mul]]at this
  ·
   rw[List.replicate_succ',List.flatten_append,List.take_add_one,hx,List.map_append,bulk_append]
   have h5:=one_le (xs[m]'(by omega)).1
   have:=h2.append (m:=Rows.uptoBulkAll ((xs.take m).map (·.1))+Rows.uptoBulkAll [(xs[m]'(by omega)).1]) h4 (by simp only[Rows.uptoBulkAll];omega)
   simpa using this
theorem open_cells:∀ (n:Nat) {t:TypeId}{ss:List Sh}{cs:List Value}{x:DataW H×List MemPlace},TySh P t ss→DataW.trod enc P w 0 (fun _=>true) true n t cs=some x →
  ∃ ds:List D,RdL w noOwn cs ds∧FitsL ss (Rows.uptoBulk x.1 - 1) ds
 |0,t,ss,cs,x,_,h=>by simp[DataW.trod]at h
 |n+1,t,ss,cs,x,hT,h=>by
  cases hT with
  |num ht =>
   obtain⟨v,rfl,rfl,hw⟩:=DataW.trod_int ht h
   exact⟨[.v (.int _ v)],.one (by simp[Value.oneCell']) (.v _),.cons (a:=0) (b:=0) (.num _ v _ hw) (.nil _) (by omega)⟩
  |str ht =>
   obtain⟨s,rfl,rfl,hm⟩:=DataW.trod_string ht h
   refine⟨[dstr s.data.toList],.one (by simp[Value.oneCell']) (.v _),.cons (a:=s.data.toList.length) (b:=0) (.str _ _ (Nat.le_refl _)) (.nil _) ?_⟩
   simp[Rows.uptoBulk]
  |bool ht =>
   obtain⟨v,rfl,rfl⟩:=DataW.trod_bool ht h
   exact⟨[dbool v],.one (by simp[Value.oneCell']) (.v _),.cons (a:=0) (b:=0) (.bool v _) (.nil _) (by omega)⟩
  |@sl _ e fs ht hk h0 he =>
   rcases DataW.trod_slice ht h with ⟨rfl,rfl⟩|⟨a,len,cap,elems,rest,n',hn,rfl,rfl,hb,hl,hm,hlen,hel,_,_⟩
   ·
    exact⟨[.sl fs.length []],.one (by simp[Value.oneCell']) (.nil none 0 _),.cons (a:=0) (b:=0) (.sl fs 0 [] (.nil _ _)) (.nil _) (by omega)⟩
   ·
    obtain rfl:n=n':=by omega
    obtain⟨D0,hD0⟩:∃ D0:Nat→DataW H,D0=fun i=>(elems.getD i (.nil,[])).1:=⟨_,rfl⟩
    have hmap:elems.map (·.1)=(List.range len).map D0:=by rw[hD0,← hlen];exact map_by_index elems (.nil,[]) (·.1)
    rw[hmap]
    obtain⟨F,hF⟩:=choose_lt (α:=List Value×List D) (n:=len) (p:=fun i y=>w.cells? 0 (a.add (i*P.cellsOf e)) (P.cellsOf e)=some y.1∧RdL w noOwn y.1 y.2∧FitsL fs (Rows.uptoBulk (D0 i) - 1) y.2) fun i hil=>by
     have hei:elems[i]? = some (elems[i]'(by omega)):=List.getElem?_eq_getElem (by omega)
     have h0:=hel i hil
     rw[hei]at h0
     obtain⟨cs',h1,h2⟩:=Option.bind_eq_some_iff.1 h0
     obtain⟨ds,h3,h4⟩:=open_cells n he h2
     have hDi:D0 i=(elems[i]'(by omega)).1:=by rw[hD0];simp[List.getD,hei]
     rw[← hDi]at h4
     exact⟨(cs',ds),h1,h3,h4⟩
    have hx:∀ i,i < len→(F i).1.length=fs.length∧(F i).2.length=fs.length∧∀ j c,(F i).1[j]? = some c→w.cell? (a.add (i*fs.length+j))=some c:=fun i hil=>by
     obtain⟨h1,h2,h3⟩:=hF i hil
     obtain⟨_,hlen,hat⟩:=World.cells?_some h1
     rw[hk]at hlen hat
     refine⟨hlen,by rw[← h2.1,hlen],fun j c hj=>?_⟩
     rw[← AX.add_add,hat j (by rw[← hlen];exact(List.getElem?_eq_some_iff.1 hj).1)]
     exact hj
    have hrow:∀ i r,((List.range len).map fun i=>(F i).2)[i]? = some r→i < len∧r=(F i).2:=fun i r hir=>by
     obtain⟨hi1,hi2⟩:=List.getElem?_eq_some_iff.1 hir
     simp at hi1 hi2
     exact⟨hi1,hi2.symm⟩
    refine⟨[.sl fs.length ((List.range len).map fun i=>(F i).2)],.one (by simp[Value.oneCell']) ?_,.cons (a:=Rows.uptoBulkAll ((List.range len).map D0)) (b:=0) (.sl fs _ _ (fitsR_of fun i hir=>⟨(hF i (by simpa using hir)).2.2,one_le _⟩)) (.nil _) ?_⟩
    ·
     rcases Nat.eq_zero_or_pos len with rfl|hlen
     ·
      exact .nil _ _ _
     ·
      have hpos:=(hx 0 hlen)
      have hcell:∃ c,w.cell? (a.add 0)=some c:=by
       have h1:0 < (F 0).1.length:=by rw[hpos.1];exact h0
       exact⟨_,by simpa using hpos.2.2 0 _ (List.getElem?_eq_getElem h1)⟩
      have hsz:a.block < w.heap.size:=by
       obtain⟨c,hc⟩:=hcell
       exact block_lt hc
      have key:=Rd.sl (w:=w) (own:=noOwn) a cap fs.length ((List.range len).map fun i=>(F i).2) (fun i j=>((F i).1[j]?).getD undef) (fun h=>h) hsz (by simpa using hl)
       (fun r hr=>by
        obtain⟨i,hi2,rfl⟩:=List.mem_map.1 hr
        exact(hx i (by simpa using hi2)).2.1)
       (fun i j r d hr hd=>by
        obtain⟨hil,rfl⟩:=hrow i r hr
        obtain⟨h1,h2,h3⟩:=hx i hil
        have hj:j < (F i).1.length:=by rw[h1,← h2];exact(List.getElem?_eq_some_iff.1 hd).1
        rw[List.getElem?_eq_getElem hj]
        exact h3 j _ (List.getElem?_eq_getElem hj))
       (fun i j r d hr hd=>by
        obtain⟨hil,rfl⟩:=hrow i r hr
        obtain⟨h1,h2,h3⟩:=hx i hil
        have hj:j < (F i).1.length:=by rw[h1,← h2];exact(List.getElem?_eq_some_iff.1 hd).1
        rw[List.getElem?_eq_getElem hj]
        exact((hF i hil).2.1.2 j _ d (List.getElem?_eq_getElem hj) hd).1)
       (fun i j r d hr hd=>by
        obtain⟨hil,rfl⟩:=hrow i r hr
        obtain⟨h1,h2,h3⟩:=hx i hil
        have hj:j < (F i).1.length:=by rw[h1,← h2];exact(List.getElem?_eq_some_iff.1 hd).1
        rw[List.getElem?_eq_getElem hj]
        exact((hF i hil).2.1.2 j _ d (List.getElem?_eq_getElem hj) hd).2)
      simpa using key
    ·
     simp only[Rows.uptoBulk];omega
  |@arr _ e m fs ht hC hk he =>
   obtain⟨xs,n',hn,rfl,hcl,hxl,hat⟩:=DataW.trod_array ht h
   obtain rfl:n=n':=by omega
   obtain⟨ds,h1,h2⟩:=open_elems (N:=m) (fun {cs x} h=>open_cells n he h) hk hxl hat m (Nat.le_refl _)
   rw[List.take_of_length_le (by rw[hcl,hC];exact Nat.le_refl _)]at h1
   rw[List.take_of_length_le (by omega)]at h2
   exact⟨ds,h1,h2.mono (by simp only[Rows.uptoBulk];omega)⟩
  |@st _ fs _ ht hC hf =>
   obtain⟨xs,n',hn,rfl,hcl,hxl,hat⟩:=DataW.trod_struct ht h
   obtain rfl:n=n':=by omega
   obtain⟨ds,h1,h2⟩:=open_fields (fun {t ss cs x} hT h=>open_cells n hT h) hf (by simpa using hxl) (fun i f hi=>hat i f (by simpa using hi)) (by omega)
   exact⟨ds,by simpa using h1,h2.mono (by simp only[Rows.uptoBulk];omega)⟩
end
end Go.Proofs.YtngnajknbeijjaaGreatDoor
namespace Go.Proofs.YtngnajknbeijjaaGreatDoor
open Go.AX Go.RF Go.RowKit Go.ChangeShapes Go.WideShapes Go.Deep
inductive PS where
 |one (s:Sh)
 |st (ss:List Sh)
def isSt (P:Program) (t:TypeId):Bool:=match P.underlying t with
 |some (.struct _)=>true
 |_=>false
def isOne (P:Program) (t:TypeId):Bool:=match P.underlying t with
 |some (.int _)=>true
 |some .string=>true
 |some .bool=>true
 |some (.slice _)=>true
 |_=>false
inductive TyPs (P:Program):List TypeId→List PS→Prop
 |nil:TyPs P [] []
 |one {t:TypeId} {s:Sh} {ts:List TypeId} {ps:List PS} (h:TySh P t [s]) (hn:isOne P t=true) (hr:TyPs P ts ps):TyPs P (t::ts) (.one s::ps)
 |st {t:TypeId} {ss:List Sh} {ts:List TypeId} {ps:List PS} (h:TySh P t ss) (hn:isSt P t=true) (hr:TyPs P ts ps):TyPs P (t::ts) (.st ss::ps)
inductive FitsPs:List PS→Nat→List D→Prop
 |nil (m:Nat):FitsPs [] m []
 |one {s:Sh} {a b m:Nat} {d:D} {ps:List PS} {ds:List D} (h:Fits s a d) (hr:FitsPs ps b ds) (hm:a+b≤m):FitsPs (.one s::ps) m (d::ds)
 |st {ss:List Sh} {a b m:Nat} {es:List D} {ps:List PS} {ds:List D} (h:FitsL ss a es) (hr:FitsPs ps b ds) (hm:a+b≤m):FitsPs (.st ss::ps) m (.agg es::ds)
def fldsB (P:Program) (ty:TypeId→Option (List Sh)):List Field→Nat→Option (List Sh)
 | [],_=>some []
 |f::r,o=>match ty f.type with
  |some s=>match Nat.beq f.offset o&&Nat.beq (P.cellsOf f.type) s.length with
   |true=>match fldsB P ty r (o+s.length) with
    |some ss=>some (s++ss)
    |none=>none
   |false=>none
  |none=>none
def tyB (P:Program):Nat→TypeId→Option (List Sh)
 |0,_=>none
 |n+1,t=>match P.underlying t with
  |some (.int k)=>some [.num k]
  |some .string=>some [.str]
  |some .bool=>some [.bool]
  |some (.slice e)=>match tyB P n e with
   |some fs=>match Nat.beq (P.cellsOf e) fs.length&&Nat.blt 0 fs.length with
    |true=>some [.sl fs]
    |false=>none
   |none=>none
  |some (.struct fs)=>match fldsB P (tyB P n) fs.toList 0 with
   |some ss=>match Nat.beq (P.cellsOf t) ss.length with
    |true=>some ss
    |false=>none
   |none=>none
  |some (.array m e)=>match tyB P n e with
   |some fs=>match Nat.beq (P.cellsOf t) (m*fs.length)&&Nat.beq (P.cellsOf e) fs.length with
    |true=>some (List.replicate m fs).flatten
    |false=>none
   |none=>none
  |_=>none
def parB (P:Program):List TypeId→Option (List PS)
 | []=>some []
 |t::ts=>match tyB P 9 t with
  |some ss=>match parB P ts with
   |some ps=>match isSt P t with
    |true=>some (.st ss::ps)
    |false=>match isOne P t with
     |true=>(match ss with
      | [s]=>some (.one s::ps)
      |_=>none)
     |false=>none
   |none=>none
  |none=>none
theorem fldsB_ok {P:Program}{ty:TypeId→Option (List Sh)}(hty:∀ t ss,ty t=some ss→TySh P t ss):∀ {fs:List Field}{o:Nat}{ss:List Sh},fldsB P ty fs o=some ss→TyFs P fs o ss
 | [],o,ss,h=>by cases h;exact .nil _
 |f::r,o,ss,h=>by
  simp only[fldsB]at h
  split at h
  ·
   next s hs =>
   split at h
   ·
    next hb =>
    split at h
    ·
     next ss' hr =>
     cases h
     simp only[Bool.and_eq_true,Nat.beq_eq]at hb
     exact .cons hb.1 hb.2 rfl (hty _ _ hs) (fldsB_ok hty hr)
    ·
     cases h
   ·
    cases h
  ·
   cases h
theorem tyB_ok {P:Program}:∀ {n:Nat}{t:TypeId}{ss:List Sh},tyB P n t=some ss→TySh P t ss
 |0,t,ss,h=>by cases h
 |n+1,t,ss,h=>by
  simp only[tyB]at h
  split at h
  ·
   next k hu=>cases h;exact .num hu
  ·
   next hu=>cases h;exact .str hu
  ·
   next hu=>cases h;exact .bool hu
  ·
   next e hu =>
   split at h
   ·
    next fs hf =>
    split at h
    ·
     next hb =>
     cases h
     simp only[Bool.and_eq_true,Nat.beq_eq]at hb
     exact .sl hu hb.1 (by simpa[Nat.blt_eq] using hb.2) (tyB_ok hf)
    ·
     cases h
   ·
    cases h
  ·
   next fs hu =>
   split at h
   ·
    next ss' hf =>
    split at h
    ·
     next hb=>cases h;exact .st hu (by simpa using hb) (fldsB_ok (fun t ss h=>tyB_ok h) hf)
    ·
     cases h
   ·
    cases h
  ·
   next m e hu =>
   split at h
   ·
    next fs hf =>
    split at h
    ·
     next hb =>
     cases h
     simp only[Bool.and_eq_true,Nat.beq_eq]at hb
     exact .arr hu hb.1 hb.2 (tyB_ok hf)
    ·
     cases h
   ·
    cases h
  ·
   cases h
theorem parB_ok {P:Program}:∀ {ts:List TypeId}{ps:List PS},parB P ts=some ps→TyPs P ts ps
 | [],ps,h=>by cases h;exact .nil
 |t::ts,ps,h=>by
  simp only[parB]at h
  split at h
  ·
   next ss hs =>
   split at h
   ·
    next ps' hp =>
    split at h
    ·
     next hi=>cases h;exact .st (tyB_ok hs) hi (parB_ok hp)
    ·
     split at h
     ·
      next hi =>
      split at h
      ·
       next s=>cases h;exact .one (tyB_ok hs) hi (parB_ok hp)
      ·
       cases h
     ·
      cases h
   ·
    cases h
  ·
   cases h
theorem FitsPs.mono {ps:List PS}{m n:Nat}{xs:List D}(h:FitsPs ps m xs) (hm:m≤n):FitsPs ps n xs:=by
 cases h with
 |nil=>exact .nil _
 |one h1 h2 h3=>exact .one h1 h2 (by omega)
 |st h1 h2 h3=>exact .st h1 h2 (by omega)
theorem Fits.mono' {s:Sh}{m n:Nat}{d:D}(h:Fits s m d) (hm:m≤n):Fits s n d:=by
 cases h with
 |num k v m h=>exact .num k v n h
 |str s m h=>exact .str s n (by omega)
 |bool b m=>exact .bool b n
 |sl fs m rows h=>exact .sl fs n rows (h.mono hm)
theorem fits_one {s:Sh}{ps:List PS}{m:Nat}{xs:List D}(h:FitsPs (.one s::ps) m xs):∃ d r,xs=d::r∧Fits s m d∧FitsPs ps m r:=by
 cases h with
 |one h1 h2 h3=>exact⟨_,_,rfl,h1.mono' (by omega),h2.mono (by omega)⟩
theorem fits_st {ss:List Sh}{ps:List PS}{m:Nat}{xs:List D}(h:FitsPs (.st ss::ps) m xs):∃ es r,xs = .agg es::r∧FitsL ss m es∧FitsPs ps m r:=by
 cases h with
 |st h1 h2 h3=>exact⟨_,_,rfl,h1.mono (by omega),h2.mono (by omega)⟩
theorem fits_nil {m:Nat}{xs:List D}(h:FitsPs [] m xs):xs=[]:=by
 cases h;rfl
section
variable {H:Type}{enc:TypeId×Value→H}{P:Program}{w:World}
theorem one_cell {t:TypeId}{s:Sh}{r:Reach}{b:Nat}{v:Value}(hT:TySh P t [s]) (hn:isOne P t=true) (hv:Value.okWide P w r b t v):v.cells.toList=[v]:=by
 generalize hs:[s]=ss at hT
 cases hT with
 |num h=>obtain⟨n,rfl⟩:=okWide_int h hv;rfl
 |str h=>obtain⟨n,rfl⟩:=okWide_string h hv;rfl
 |bool h=>obtain⟨n,rfl⟩:=okWide_bool h hv;rfl
 |sl h=>obtain⟨a,l,c,rfl⟩:=okWide_slice h hv;rfl
 |arr h=>simp[isOne,h]at hn
 |st h=>simp[isOne,h]at hn
theorem open_args {r:Reach}{b:Nat}:∀ {ts:List TypeId}{ps:List PS}{vs:List Value}{ds:List (DataW H)}{p:List MemPlace},TyPs P ts ps →
  (∀ (j:Nat) (t:TypeId) (v:Value),ts[j]? = some t→vs[j]? = some v→Value.okWide P w r b t v)→DataW.TrodAll enc P w 0 (fun _=>true) true ts vs ds p →
  ∃ xs:List D,ArgsOk w noOwn vs (xs.map Arg.d)∧FitsPs ps (Rows.uptoBulkAll ds) xs∧ds.length=ts.length
 | [],ps,vs,ds,p,hT,hv,h=>by
  cases hT
  obtain⟨rfl,rfl,rfl⟩:=trodAll_nil h
  exact⟨[],trivial,.nil _,rfl⟩
 |t::ts,ps,vs,ds,p,hT,hv,h=>by
  obtain⟨v,vs,d,ds,p,q,rfl,rfl,rfl,⟨n,h0⟩,hr⟩:=trodAll_cons h
  have hv0:=hv 0 t v rfl rfl
  have hvr:∀ (j:Nat) (t:TypeId) (v:Value),ts[j]? = some t→vs[j]? = some v→Value.okWide P w r b t v:=fun j t' v' h1 h2=>hv (j+1) t' v' (by simpa using h1) (by simpa using h2)
  have hb:=one_le d
  cases hT with
  |one hT hn hTr =>
   obtain⟨xs,h1,h2,h3⟩:=open_args hTr hvr hr
   rw[one_cell hT hn hv0]at h0
   obtain⟨es,⟨h4,h5⟩,h6⟩:=open_cells n hT h0
   cases h6 with
   |@cons _ a b _ e _ es h7 h8 h9 =>
    cases h8
    have h9':a+b≤Rows.uptoBulk d - 1:=h9
    exact⟨e::xs,⟨(h5 0 v e rfl rfl).2,h1⟩,.one h7 h2 (by simp only[Rows.uptoBulkAll];omega),by simp[h3]⟩
  |st hT hn hTr =>
   obtain⟨xs,h1,h2,h3⟩:=open_args hTr hvr hr
   obtain⟨es,h5,h6⟩:=open_cells n hT h0
   have h6':FitsL _ (Rows.uptoBulk d - 1) es:=h6
   have hs:∃ fs,P.underlying t=some (.struct fs):=by
    unfold isSt at hn
    split at hn
    ·
     exact⟨_,by assumption⟩
    ·
     cases hn
   obtain⟨fs,hs⟩:=hs
   obtain⟨cs,rfl,hsz⟩:=okWide_struct hs hv0
   refine⟨.agg es::xs,⟨.agg cs es ?_ (fun j c hj=>?_) fun j d c hd hc=>?_,h1⟩,.st h6' h2 (by simp only[Rows.uptoBulkAll];omega),by simp[h3]⟩
   ·
    simpa[Value.cells] using h5.1
   ·
    have hj':j < es.length:=by rw[← h5.1];simpa[Value.cells] using(Array.getElem?_eq_some_iff.1 hj).1
    exact(h5.2 j c _ (by simpa[Value.cells] using hj) (List.getElem?_eq_getElem hj')).1
   ·
    exact(h5.2 j c d (by simpa[Value.cells] using hc) hd).2
theorem again_args {W W':World}{sp:Nat→Bool}(hl:laidOutB P=true) (hb:Below W.heap.size W W'):∀ {ts:List TypeId}{vs:List Value}{ds:List (DataW H)}{p:List MemPlace},
  (∀ t∈ts,P.readableRec t=true∧t < P.types.size)→DataW.TrodAll enc P W 0 (fun _=>true) true ts vs ds p→(∀ x∈p,x.block < W.heap.size)→(∀ x∈p,sp x.block=true) →
  DataW.TrodAll enc P W' 0 sp true ts vs ds p
 | [],vs,ds,p,_,h,_,_=>by
  obtain⟨rfl,rfl,rfl⟩:=trodAll_nil h
  exact trodAll_mk0
 |t::ts,vs,ds,p,hr,h,hlt,hsp=>by
  obtain⟨v,vs,d,ds,p,q,rfl,rfl,rfl,h0,hq⟩:=trodAll_cons h
  have ht:=hr t (List.mem_cons_self ..)
  exact trodAll_cons_mk (WideElems.Trod_stays hl ht.1 ht.2 h0 (fun x hx=>hb.same (hlt x (List.mem_append_left _ hx))) fun x hx=>hsp x (List.mem_append_left _ hx))
   (again_args hl hb (fun t h=>hr t (List.mem_cons_of_mem _ h)) hq (fun x hx=>hlt x (List.mem_append_right _ hx)) fun x hx=>hsp x (List.mem_append_right _ hx))
end
theorem law_contract {H:Type}{enc:TypeId×Value→H}{P:Program}{f:FuncId}{fn:Func}{s:ChangeSpec}{tb:TypeId}{ps:List PS}
  (hT:TyPs P fn.params.toList ps) (hl:laidOutB P=true) (hread:fn.params.toList.all (fun t=>P.readableRec t&&decide (t < P.types.size))=true) (hvars:s.vars=[])
  (hres:fn.resultTypes = #[tb]) (htb:P.underlying tb=some .bool)
  (hfn:∀ ds:List (DataW H),ds.length=fn.params.toList.length→s.fn H ds={ results:=[.lit (.bool true)],args:=ds })
  (hlaw:∀ (xs:List D) (m:Nat),m≤1048576→FitsPs ps m xs→FnOk P f (xs.map Arg.d) (.one (dbool true)))
  (W:World) (base:Nat) (args:Array Value) (ds gs:List (DataW H)) (before:List MemPlace)
  (hval:∀ (j:Nat) t v,fn.params[j]? = some t→args[j]? = some v→Value.okWide P W .any base t v)
  (hW:DataW.Whole enc P fn.params.toList s.vars false W args.toList ds gs before) (hk:Rows.uptoSmall H (ds++gs)=true) (hgl:Gl P W) :
  Calls P f args W fun e W'=>∃ v,e = .returned v∧s.post enc P fn false true false false W args v W':=by
 have hW':=hW
 obtain⟨p,q,hA,hV,rfl,hfz,hnd⟩:=hW
 rw[hvars]at hV
 obtain⟨rfl,rfl⟩:=trodVars_none hV
 obtain⟨xs,h1,h2,h3⟩:=open_args hT (fun j t v ht hv=>hval j t v (by simpa using ht) (by simpa using hv)) hA
 rw[List.append_nil]at hk
 have hk':Rows.uptoBulkAll ds≤1048576:=of_decide_eq_true hk
 have hc:=hlaw xs _ hk' h2
 have key:=FnOk.bool hc (w:=W) (vs:=args.toList) hgl h1
 rw[Array.toArray_toList]at key
 refine key.mono fun e W' ⟨he,hg⟩=>?_
 subst he
 have hf:=hfn ds h3
 have hlt:∀ x∈p,x.block < W.heap.size:=fun x hx=>hW'.lt x (by simpa using hx)
 refine⟨_,rfl,Go.AX.post_of_below (pa:=p) (pv:=[]) hW' (fun _ _ _=>?_) (fun sp hsp=>?_) (fun _ _=>?_) rfl hg (ok_one hres rfl (okWide_bool_mk htb _))⟩
 ·
  rw[List.append_nil,hf,hres]
  exact trodAll_cons_mk (shut_bool htb _) trodAll_mk0
 ·
  rw[List.append_nil,hf]
  refine again_args hl hg (fun t ht=>?_) hA hlt fun x hx=>hsp x (by simpa using hx)
  have:=List.all_eq_true.1 hread t ht
  simpa using this
 ·
  rw[List.append_nil,hf,hvars]
  rfl
end Go.Proofs.YtngnajknbeijjaaGreatDoor
namespace Go.RF
def agree {α β:Type}(f:α→β→Bool):List α→List β→Nat
 |a::l,b::r=>match f a b with
  |true=>agree f l r+1
  |false=>0
 |_,_=>0
theorem agree_le {α β:Type}{f:α→β→Bool}:∀ {l:List α}{r:List β},agree f l r≤l.length
 | [],_=>by simp[agree]
 |a::l,[]=>by simp[agree]
 |a::l,b::r=>by
  have:=agree_le (f:=f) (l:=l) (r:=r)
  simp only[agree]
  split <;> simp <;> omega
theorem agree_lt {α β:Type}{f:α→β→Bool}:∀ {l:List α}{r:List β}{k:Nat},k < agree f l r→∃ a b,l[k]? = some a∧r[k]? = some b∧f a b=true
 | [],_,k,h=>by simp[agree]at h
 |a::l,[],k,h=>by simp[agree]at h
 |a::l,b::r,k,h=>by
  simp only[agree]at h
  split at h
  ·
   next hf =>
   cases k with
   |zero=>exact⟨a,b,rfl,rfl,hf⟩
   |succ k=>simpa using agree_lt (l:=l) (r:=r) (k:=k) (by omega)
  ·
   omega
theorem agree_at {α β:Type}{f:α→β→Bool}:∀ {l:List α}{r:List β}{a:α}{b:β},l[agree f l r]? = some a→r[agree f l r]? = some b→f a b=false
 | [],_,a,b,h,_=>by simp at h
 |a::l,[],x,y,_,h=>by simp at h
 |a::l,b::r,x,y,h,h'=>by
  simp only[agree]at h h'
  split at h
  ·
   next hf =>
   simp only[hf]at h'
   exact agree_at (l:=l) (r:=r) (by simpa using h) (by simpa using h')
  ·
   next hf=>simp only[hf]at h';simp at h h';subst h h';exact hf
def allB {α β:Type}(f:α→β→Bool):List α→List β→Bool
 | [],[]=>true
 |a::l,b::r=>f a b&&allB f l r
 |_,_=>false
theorem allB_agree {α β:Type}{f:α→β→Bool}:∀ {l:List α}{r:List β},l.length=r.length→(allB f l r=true↔agree f l r=l.length)
 | [],[],_=>by simp[allB,agree]
 | [],b::r,h=>by simp at h
 |a::l,[],h=>by simp at h
 |a::l,b::r,h=>by
  have ih:=allB_agree (f:=f) (l:=l) (r:=r) (by simpa using h)
  simp only[allB,agree,Bool.and_eq_true]
  split
  ·
   next hf=>simp[hf,ih]
  ·
   next hf=>simp[hf]
theorem allB_len {α β:Type}{f:α→β→Bool}:∀ {l:List α}{r:List β},allB f l r=true→l.length=r.length
 | [],[],_=>rfl
 | [],b::r,h=>by simp[allB]at h
 |a::l,[],h=>by simp[allB]at h
 |a::l,b::r,h=>by simp only[allB,Bool.and_eq_true]at h;simp[allB_len h.2]
theorem allB_eq {α:Type} [DecidableEq α] {f:α→α→Bool}(hf:∀ a b,f a b=decide (a=b)):∀ {l r:List α},allB f l r=decide (l=r)
 | [],[]=>by simp[allB]
 | [],b::r=>by simp[allB]
 |a::l,[]=>by simp[allB]
 |a::l,b::r=>by
  simp only[allB,hf,allB_eq hf (l:=l) (r:=r)]
  by_cases h1:a=b <;> by_cases h2:l=r <;> simp[h1,h2]
theorem agree_case {α β:Type}{f:α→β→Bool}{l:List α}{r:List β}(hl:l.length=r.length) {k:Nat}(hk:k≤agree f l r) :
  (k < agree f l r∧k < l.length∧∃ a b,l[k]? = some a∧r[k]? = some b∧f a b=true)∨(k=l.length∧allB f l r=true) ∨
   (k < l.length∧allB f l r=false∧∃ a b,l[k]? = some a∧r[k]? = some b∧f a b=false):=by
 rcases Nat.lt_or_ge k (agree f l r) with h|h
 ·
  exact .inl ⟨h,by have:=agree_le (f:=f) (l:=l) (r:=r);omega,agree_lt h⟩
 ·
  have he:k=agree f l r:=by omega
  have hle:=agree_le (f:=f) (l:=l) (r:=r)
  rcases Nat.lt_or_ge k l.length with h2|h2
  ·
   refine .inr (.inr ⟨h2,?_,l[k],r[k]'(by omega),List.getElem?_eq_getElem h2,List.getElem?_eq_getElem (by omega),?_⟩)
   ·
    cases hb:allB f l r
    ·
     rfl
    ·
     have:=(allB_agree hl).1 hb;omega
   ·
    exact agree_at (f:=f) (l:=l) (r:=r) (by rw[← he];exact List.getElem?_eq_getElem h2) (by rw[← he];exact List.getElem?_eq_getElem (by omega))
  ·
   exact .inr (.inl ⟨by omega,(allB_agree hl).2 (by omega)⟩)
end Go.RF
namespace Go.RF
open Go.AX
abbrev slt (a b:Str):Bool:=Go.Op.bytesLess a b
abbrev sle (a b:Str):Bool:=slt a b || decide (a=b)
def bad (c:UInt8):Bool:=decide ((c.toNat:Int) < 97) || decide ((122:Int) < (c.toNat:Int))
def keyGo (s:Str):Str→Bool
 | []=>decide (0 < s.length)&&decide (s.length < 7)
 |c::r=>if bad c then false else keyGo s r
def key (s:Str):Bool:=keyGo s s
def get (r:List Pair) (k:Str):Int×Bool:=match r with
 | []=>(0,false)
 |p::r=>if p.key=k then (p.n,true) else get r k
def isIn (l:List Str) (s:Str):Bool:=match l with
 | []=>false
 |x::l=>if x=s then true else isIn l s
def putGo (k:Str) (n:Int) (h:Bool):Bool→List Pair→List Pair→List Pair
 |done,out,[]=>if !done&&h then out++[⟨k,n⟩] else out
 |done,out,p::r =>
  let done':=done || !slt p.key k
  let out':=if !done && !slt p.key k&&h then out++[⟨k,n⟩] else out
  putGo k n h done' (if p.key=k then out' else out'++[p]) r
def put (r:List Pair) (k:Str) (n:Int) (h:Bool):List Pair:=putGo k n h false [] r
def round (n:Int):Int:=n - n.tdiv 1073741825*1073741825
def wrongRowsGo:Nat→Str→List Pair→Int
 |_,_,[]=>0
 |i,last,p::r=>if key p.key=false then 7 else if 0 < i∧sle p.key last=true then 2 else if 1073741824 < p.n∨p.n < -1073741824 then 3 else wrongRowsGo (i+1) p.key r
def wrongRows (r:List Pair):Int:=wrongRowsGo 0 [] r
def forms:List Str:=[[],[114,107],[114,110],[114,115],[114,115],[114,115],[114,107],[107],[114,110],[114]]
def form (k:Nat):Str:=forms.getD k []
def hasGo (c:UInt8):Str→Bool
 | []=>false
 |x::r=>if x=c then true else hasGo c r
def has (k:Nat) (c:UInt8):Bool:=hasGo c (form k)
def keysGo (l:List Str):Nat→List Str→Int
 |_,[]=>0
 |i,k::r=>if key k=false then 7 else if isIn (l.take i) k=true then 7 else keysGo l (i+1) r
def keysWrong (l:List Str):Int:=if 5 < l.length then 5 else keysGo l 0 l
def lsGo:List (List Str)→Int
 | []=>0
 |l::r=>if keysWrong l=0 then lsGo r else keysWrong l
def insA (k:Nat):Int:=if has k 114=true then 3 else 0
def insB (k:Nat):Int:=if has k 115=true then 3 else 0
def insLow (k:Nat):Int:=if k=2 then -1073741824 else if k=8 then 1 else 0
def insHigh (k:Nat) (m:Int):Int:=if k=2 then 1073741824 else if k=8 then m else 0
def insOut (k:Nat) (a b n m:Int):Bool:=decide (a < 0) || (decide (insA k < a) || (decide (b < 0) || (decide (insB k < b) || (decide (n < insLow k) || decide (insHigh k m < n)))))
def wrongIns (d:Deed) (m:Int) (i:Ins):Int :=
 if i.kind < 1∨9 < i.kind then 1
 else if insOut i.kind.toNat i.a i.b i.n m=true then 3
 else if has i.kind.toNat 107=false then (if i.key=[] then 0 else 2)
 else if isIn (if i.kind=1 then d.reads else d.writes) i.key=true then 0 else 9
def codeGo (d:Deed):Nat→List Ins→Int
 |_,[]=>0
 |k,i::r=>if wrongIns d ((d.code.length:Int) - 1 - k) i=0 then codeGo d (k+1) r else wrongIns d ((d.code.length:Int) - 1 - k) i
def wrongDeed (d:Deed):Int :=
 if lsGo [d.reads,d.writes]=0 then (if 12 < d.code.length then 5 else codeGo d 0 d.code) else lsGo [d.reads,d.writes]
structure Deed.Sm (d:Deed):Prop where
 r:d.reads.length≤268435456
 w:d.writes.length≤268435456
 c:d.code.length≤268435456
 rk:∀ s∈d.reads,s.length≤1073741824
 wk:∀ s∈d.writes,s.length≤1073741824
def right:List Deed→Bool
 | []=>true
 |d::r=>if wrongDeed d=0 then right r else false
def bvs (hit:Bool) (b:Int):Version→List Version→Version
 |out,[]=>out
 |out,v::r=>bvs hit b (if hit&&decide (v.by_ < b) then v else out) r
def beforeGo (k:Str) (b:Int):Version→List Chain→Version
 |out,[]=>out
 |out,c::r=>beforeGo k b (bvs (decide (c.key=k)) b out c.vs) r
def before (l:List Chain) (k:Str) (b:Int):Version:=beforeGo k b ⟨-1,true,false,0⟩ l
def rowsAtGo (l:List Chain) (b:Int):List Pair→List Chain→List Pair×Bool
 |out,[]=>(out,true)
 |out,c::r=>if (before l c.key b).made=false then ([],false) else if (before l c.key b).has=true then rowsAtGo l b (out++[⟨c.key,(before l c.key b).n⟩]) r else rowsAtGo l b out r
def rowsAt (l:List Chain) (b:Int):List Pair×Bool:=rowsAtGo l b [] l
def setV (hit:Bool) (v w:Version):Version:=if hit=true∧w.by_=v.by_ then v else w
def setC (k:Str) (v:Version) (c:Chain):Chain:=⟨c.key,c.vs.map (setV (decide (c.key=k)) v)⟩
def setChains (l:List Chain) (k:Str) (v:Version):List Chain:=l.map (setC k v)
def later (b:Int):List Version→Bool
 | []=>false
 |w::_=>decide (w.by_ < b)
def old (b:Int) (r:List Version) (v:Version):Bool:=(later b r&&decide (v.by_ < b)) || (decide (v.by_ < b)&&(v.made && !v.has))
def clrV (b:Int):List Version→List Version
 | []=>[]
 |v::r=>if old b r v=true then clrV b r else v::clrV b r
def clear (b:Int):List Chain→List Chain
 | []=>[]
 |c::r=>if clrV b c.vs=[] then clear b r else ⟨c.key,clrV b c.vs⟩::clear b r
structure Chain.Sm (c:Chain):Prop where
 k:c.key.length≤1073741824
 v:c.vs.length≤268435456
def sameC (a b:Chain):Bool:=decide (a.key=b.key)&&allB (fun x y=>decide (x=y)) a.vs b.vs
def addGo (k:Str) (b:Int):Bool→List Chain→List Chain→List Chain
 |done,out,[]=>if done=true then out else out++[⟨k,[⟨b,false,false,0⟩]⟩]
 |done,out,c::r =>
  let now := !done && !(slt c.key k || decide (c.key=k))
  let out':=if now=true then out++[⟨k,[⟨b,false,false,0⟩]⟩] else out
  if c.key=k then addGo k b true (out'++[⟨c.key,c.vs++[⟨b,false,false,0⟩]⟩]) r else addGo k b (done || now) (out'++[c]) r
def addC (l:List Chain) (k:Str) (b:Int):List Chain:=addGo k b false [] l
def rowChain (p:Pair):Chain:=⟨p.key,[⟨-1,true,true,p.n⟩]⟩
def newE (r:List Pair):Engine:=⟨r.map rowChain,[],[],[],0⟩
def noE:Engine:=⟨[],[],[],[],0⟩
def done0:Done:=⟨false,0,0,0,0⟩
def addKeys (b:Int):List Chain→List Str→List Chain
 |cs,[]=>cs
 |cs,k::r=>addKeys b (addC cs k b) r
def add1 (e:Engine) (d:Deed):Engine:=⟨addKeys (e.base+e.deeds.length) e.chains d.writes,e.deeds++[d],e.state++[0],e.ends++[done0],e.base⟩
def addAll:Engine→List Deed→Engine
 |e,[]=>e
 |e,d::r=>addAll (add1 e d) r
def wrongs:List Deed→Int
 | []=>0
 |d::r=>if wrongDeed d=0 then wrongs r else wrongDeed d
def addE (e:Engine) (l:List Deed):Engine×Int:=if wrongs l=0 then (addAll e l,0) else (noE,wrongs l)
def keysGo':List Str→List Str→List Str
 |out,[]=>out
 |out,k::r=>keysGo' (if isIn out k=true then out else out++[k]) r
def keysD (d:Deed):List Str:=keysGo' [] (d.reads++d.writes)
def hit (cs:List Chain) (b:Int) (want:Int) (k:Str):Bool := !(before cs k b).made&&decide ((before cs k b).by_=want)
def anyHit (cs:List Chain) (b:Int) (want:Int):List Str→Bool
 | []=>false
 |k::r=>if hit cs b want k=true then true else anyHit cs b want r
def needsGo (cs:List Chain) (base b:Int) (ks:List Str):Nat→List Nat→List Int
 |_,[]=>[]
 |_,k::r=>if anyHit cs b (base+k) ks=true then (k:Int)::needsGo cs base b ks 0 r else needsGo cs base b ks 0 r
def needs (e:Engine) (at_:Nat) (d:Deed):List Int:=needsGo e.chains e.base (e.base+at_) (keysD d) 0 (List.range at_)
def markN:List Int→Nat
 | []=>0
 |s::r=>if s=1 then markN r+1 else 0
def clearE (e:Engine):Engine:=⟨clear (e.base+markN e.state) e.chains,e.deeds.drop (markN e.state),e.state.drop (markN e.state),e.ends.drop (markN e.state),e.base+markN e.state⟩
def seenE (e:Engine) (at_:Int):List Pair×Int :=
 if at_ < 0∨(e.deeds.length:Int) < at_ then ([],6) else if (rowsAt e.chains (e.base+at_)).2=true then ((rowsAt e.chains (e.base+at_)).1,0) else ([],10)
def sameE (a b:Engine):Bool :=
 allB sameC a.chains b.chains&&(allB (fun x y=>decide (x=y)) a.deeds b.deeds&&(allB (fun x y=>decide (x=y)) a.state b.state&&(allB (fun x y=>decide (x=y)) a.ends b.ends&&decide (a.base=b.base))))
def rget (e:Done):Nat→Int
 |0=>e.r0
 |1=>e.r1
 |2=>e.r2
 |_=>e.r3
def rset (e:Done) (k:Nat) (x:Int):Done:=match k with
 |0=>⟨e.failed,x,e.r1,e.r2,e.r3⟩
 |1=>⟨e.failed,e.r0,x,e.r2,e.r3⟩
 |2=>⟨e.failed,e.r0,e.r1,x,e.r3⟩
 |_=>⟨e.failed,e.r0,e.r1,e.r2,x⟩
def bustE (e:Done):Done:=⟨true,e.r0,e.r1,e.r2,e.r3⟩
def doGo (r0:List Pair):Int→List Pair→Done→List Ins→List Pair×Done
 |_,now,e,[]=>(now,e)
 |sk,now,e,i::r =>
  if 0 < sk then doGo r0 (sk - 1) now e r
  else if i.kind=1 then doGo r0 sk now (rset e i.a.toNat (get now i.key).1) r
  else if i.kind=2 then doGo r0 sk now (rset e i.a.toNat i.n) r
  else if i.kind=3 then doGo r0 sk now (rset e i.a.toNat (round (rget e i.a.toNat+rget e i.b.toNat))) r
  else if i.kind=4 then doGo r0 sk now (rset e i.a.toNat (round (rget e i.a.toNat - rget e i.b.toNat))) r
  else if i.kind=5 then doGo r0 sk now (rset e i.a.toNat (round (rget e i.a.toNat*rget e i.b.toNat))) r
  else if i.kind=6 then doGo r0 sk (put now i.key (rget e i.a.toNat) true) e r
  else if i.kind=7 then doGo r0 sk (put now i.key 0 false) e r
  else if i.kind=8 then doGo r0 (if rget e i.a.toNat < 1 then i.n else sk) now e r
  else if rget e i.a.toNat < 0 then (r0,bustE e) else doGo r0 sk now e r
def doD (r:List Pair) (d:Deed):List Pair×Done:=doGo r 0 r done0 d.code
def allD:List Pair→List Deed→List Pair×List Done
 |r,[]=>(r,[])
 |r,d::l=>((allD (doD r d).1 l).1,(doD r d).2::(allD (doD r d).1 l).2)
def nOk (n:Int):Prop := -1073741824≤n∧n≤1073741824
structure Ins.Ok (i:Ins):Prop where
 k:1≤i.kind∧i.kind≤9
 a:0≤i.a∧i.a≤3
 b:0≤i.b∧i.b≤3
 c:i.kind=2→nOk i.n
 s:i.kind=8→0≤i.n∧i.n≤1073741824
def encBatch1 (b:List Deed):List D:=[encDeeds b]
def encBatches (bs:List (List Deed)):D := .sl 1 (bs.map encBatch1)
structure Done.Ok (e:Done):Prop where
 a:nOk e.r0
 b:nOk e.r1
 c:nOk e.r2
 d:nOk e.r3
def rowsOk (r:List Pair):Prop:=∀ p∈r,nOk p.n
theorem rset_self (e:Done) (k:Nat):rset e k (rget e k)=e:=by
 match k with
 |0=>rfl
 |1=>rfl
 |2=>rfl
 |_+3=>rfl
theorem rget_ok {e:Done}(h:e.Ok) (k:Nat):nOk (rget e k):=by
 unfold rget
 split
 ·
  exact h.a
 ·
  exact h.b
 ·
  exact h.c
 ·
  exact h.d
theorem rset_ok {e:Done}(h:e.Ok) (k:Nat) {x:Int}(hx:nOk x):(rset e k x).Ok:=by
 unfold rset
 split
 ·
  exact⟨hx,h.b,h.c,h.d⟩
 ·
  exact⟨h.a,hx,h.c,h.d⟩
 ·
  exact⟨h.a,h.b,hx,h.d⟩
 ·
  exact⟨h.a,h.b,h.c,hx⟩
theorem rset_failed (e:Done) (k:Nat) (x:Int):(rset e k x).failed=e.failed:=by
 unfold rset
 split <;> rfl
theorem round_ok (n:Int):nOk (round n):=by
 have h1:n.tdiv 1073741825*1073741825+n.tmod 1073741825=n:=Int.tdiv_mul_add_tmod n 1073741825
 have h2:n.tmod 1073741825 < 1073741825:=Int.tmod_lt_of_pos n (by omega)
 have h4:=Int.tmod_lt_of_pos (-n) (show(0:Int) < 1073741825 by omega)
 rw[Int.neg_tmod]at h4
 unfold nOk round
 omega
theorem get_ok {r:List Pair}(h:rowsOk r) (k:Str):nOk (get r k).1:=by
 induction r with
 |nil=>simp[get,nOk]
 |cons p r ih =>
  simp only[get]
  split
  ·
   exact h p (List.mem_cons_self ..)
  ·
   exact ih fun q hq=>h q (List.mem_cons_of_mem _ hq)
theorem putGo_mem {k:Str}{n:Int}{hs:Bool}:∀ {l:List Pair}{dn:Bool}{out:List Pair}{q:Pair},q∈putGo k n hs dn out l→q∈out∨q∈l∨(q=⟨k,n⟩∧hs=true)
 | [],dn,out,q,h=>by
  simp only[putGo]at h
  split at h
  ·
   next hb =>
   rcases List.mem_append.1 h with h|h
   ·
    exact .inl h
   ·
    simp at hb;exact .inr (.inr ⟨by simpa using h,hb.2⟩)
  ·
   exact .inl h
 |p::l,dn,out,q,h=>by
  simp only[putGo]at h
  rcases putGo_mem h with h|h|h
  ·
   have key:∀ out':List Pair,(q∈out'→q∈out∨(q=⟨k,n⟩∧hs=true))→q∈(if p.key=k then out' else out'++[p])→q∈out∨q∈p::l∨(q=⟨k,n⟩∧hs=true):=by
    intro out' h1 h2
    split at h2
    ·
     rcases h1 h2 with h|h
     ·
      exact .inl h
     ·
      exact .inr (.inr h)
    ·
     rcases List.mem_append.1 h2 with h2|h2
     ·
      rcases h1 h2 with h|h
      ·
       exact .inl h
      ·
       exact .inr (.inr h)
     ·
      exact .inr (.inl (by simp at h2;simp[h2]))
   refine key _ (fun h1=>?_) h
   split at h1
   ·
    next hb =>
    rcases List.mem_append.1 h1 with h1|h1
    ·
     exact .inl h1
    ·
     simp at hb;exact .inr ⟨by simpa using h1,hb.2⟩
   ·
    exact .inl h1
  ·
   exact .inr (.inl (List.mem_cons_of_mem _ h))
  ·
   exact .inr (.inr h)
theorem putGo_len {k:Str}{n:Int}{hs:Bool}:∀ (l:List Pair) (dn:Bool) (out:List Pair),(putGo k n hs dn out l).length≤out.length+l.length+(if dn=true then 0 else 1)
 | [],dn,out=>by
  simp only[putGo]
  cases dn <;> cases hs <;> simp
 |p::l,dn,out=>by
  simp only[putGo]
  have:=putGo_len (k:=k) (n:=n) (hs:=hs) l (dn || !slt p.key k) (if p.key=k then (if (!dn && !slt p.key k&&hs)=true then out++[⟨k,n⟩] else out) else (if (!dn && !slt p.key k&&hs)=true then out++[⟨k,n⟩] else out)++[p])
  refine Nat.le_trans this ?_
  cases dn <;> cases hq:slt p.key k <;> cases hs <;> by_cases hk:p.key=k <;> simp[hk] <;> omega
theorem put_len (l:List Pair) (k:Str) (n:Int) (hs:Bool):(put l k n hs).length≤l.length+1:=by
 have:=putGo_len (k:=k) (n:=n) (hs:=hs) l false []
 unfold put
 simpa using this
theorem put_ok {l:List Pair}(h:rowsOk l) (k:Str) {n:Int}(hn:nOk n) (hs:Bool):rowsOk (put l k n hs):=by
 intro q hq
 rcases putGo_mem hq with h1|h1|h1
 ·
  simp at h1
 ·
  exact h q h1
 ·
  rw[h1.1];exact hn
structure Engine.Sm (e:Engine):Prop where
 c:e.chains.length≤134217728
 v:∀ c∈e.chains,c.vs.length≤134217728
 d:e.deeds.length≤134217728
 s:e.state.length≤134217728
 n:e.ends.length≤134217728
 b:0≤e.base∧e.base≤134217728
 dd:∀ d∈e.deeds,d.Sm
def inI (n:Int):Prop := -9223372036854775808≤n∧n≤9223372036854775807
theorem bl_nil_cons (b:UInt8) (r:Str):slt [] (b::r)=true:=by simp[slt,Op.bytesLess]
theorem bl_nil (a:Str):slt a []=false:=by cases a <;> simp[slt,Op.bytesLess]
theorem bl_cons (a b:UInt8) (l r:Str):slt (a::l) (b::r)=if a < b then true else if b < a then false else slt l r:=by
 simp only[slt,Op.bytesLess]
 by_cases h1:a < b
 ·
  simp[h1]
 ·
  by_cases h2:b < a
  ·
   have h3:¬ a=b:=fun h=>by subst h;exact h1 h2
   simp[h1,h2,h3]
  ·
   have h3:a=b:=UInt8.le_antisymm (UInt8.not_lt.1 h2) (UInt8.not_lt.1 h1)
   subst h3
   simp[h1]
theorem slt_irrefl (a:Str):slt a a=false:=by
 induction a with
 |nil=>exact bl_nil []
 |cons x l ih=>rw[bl_cons];simp[ih]
theorem slt_trans:∀ {a b c:Str},slt a b=true→slt b c=true→slt a c=true
 | [],[],c,h,_=>by simp[bl_nil]at h
 |a::l,[],c,h,_=>by simp[bl_nil]at h
 |a,b::r,[],_,h=>by simp[bl_nil]at h
 | [],b::r,c::s,_,_=>bl_nil_cons _ _
 |a::l,b::r,c::s,h,h'=>by
  rw[bl_cons]at h h' ⊢
  by_cases h1:a < b
  ·
   by_cases h2:b < c
   ·
    simp[UInt8.lt_trans h1 h2]
   ·
    by_cases h3:c < b
    ·
     simp[h2,h3]at h'
    ·
     have h4:b=c:=UInt8.le_antisymm (UInt8.not_lt.1 h3) (UInt8.not_lt.1 h2)
     subst h4;simp[h1]
  ·
   by_cases h2:b < a
   ·
    simp[h1,h2]at h
   ·
    have h4:a=b:=UInt8.le_antisymm (UInt8.not_lt.1 h2) (UInt8.not_lt.1 h1)
    subst h4
    simp only[UInt8.lt_irrefl,if_false]at h
    by_cases h2:a < c
    ·
     simp[h2]
    ·
     by_cases h3:c < a
     ·
      simp[h2,h3]at h'
     ·
      simp only[h2,h3,if_false]at h' ⊢
      exact slt_trans h h'
theorem slt_tri:∀ (a b:Str),slt a b=true∨a=b∨slt b a=true
 | [],[] => .inr (.inl rfl)
 | [],b::r => .inl (bl_nil_cons _ _)
 |a::l,[] => .inr (.inr (bl_nil_cons _ _))
 |a::l,b::r=>by
  rw[bl_cons,bl_cons]
  by_cases h1:a < b
  ·
   simp[h1]
  ·
   by_cases h2:b < a
   ·
    simp[h2]
   ·
    have h4:a=b:=UInt8.le_antisymm (UInt8.not_lt.1 h2) (UInt8.not_lt.1 h1)
    subst h4
    rcases slt_tri l r with h|h|h
    ·
     simp[h]
    ·
     subst h;simp
    ·
     simp[h]
theorem slt_ne {a b:Str}(h:slt a b=true):a≠b:=fun e=>by subst e;rw[slt_irrefl]at h;cases h
structure AtK {α:Type} (f:α→Str) (l:List α) (k:Str) (m:Nat):Prop where
 le:m≤l.length
 lt:∀ x c,l[x]? = some c→x < m→slt (f c) k=true
 ge:∀ x c,l[x]? = some c→m≤x→slt (f c) k=false
def isAtK {α:Type}(f:α→Str) (l:List α) (k:Str) (m:Nat):Bool:=match l[m]? with
 |some c=>decide (f c=k)
 |none=>false
def Srt {α:Type}(f:α→Str) (l:List α):Prop:=l.Pairwise fun a b=>slt (f a) (f b)=true
theorem Srt.at {α:Type}{f:α→Str}(k:Str):∀ {l:List α},Srt f l→∃ m,AtK f l k m
 | [],_=>⟨0,⟨by simp,by simp,by simp⟩⟩
 |c::l,h=>by
  have h':(∀ a∈l,slt (f c) (f a)=true)∧Srt f l:=List.pairwise_cons.1 h
  cases hc:slt (f c) k with
  |true =>
   obtain⟨m,hm⟩:=Srt.at k h'.2
   refine⟨m+1,⟨by have:=hm.le;simpa using this,fun x d hx hlt=>?_,fun x d hx hge=>?_⟩⟩
   ·
    cases x with
    |zero=>simp at hx;subst hx;exact hc
    |succ x=>exact hm.lt x d (by simpa using hx) (by omega)
   ·
    cases x with
    |zero=>omega
    |succ x=>exact hm.ge x d (by simpa using hx) (by omega)
  |false =>
   refine⟨0,⟨by simp,fun x d _ hlt=>by omega,fun x d hx _=>?_⟩⟩
   cases x with
   |zero=>simp at hx;subst hx;exact hc
   |succ x =>
    have h1:=h'.1 d (List.mem_of_getElem? (by simpa using hx))
    cases hd:slt (f d) k with
    |false=>rfl
    |true=>rw[slt_trans h1 hd]at hc;cases hc
theorem Srt.lt {α:Type}{f:α→Str}{l:List α}(h:Srt f l) {i j:Nat}{a b:α}(hi:l[i]? = some a) (hj:l[j]? = some b) (hlt:i < j):slt (f a) (f b)=true:=by
 obtain⟨h1,rfl⟩:=List.getElem?_eq_some_iff.1 hi
 obtain⟨h2,rfl⟩:=List.getElem?_eq_some_iff.1 hj
 exact List.pairwise_iff_getElem.1 h i j h1 h2 hlt
theorem Srt.ne {α:Type}{f:α→Str}{l:List α}(h:Srt f l) {i j:Nat}{a b:α}(hi:l[i]? = some a) (hj:l[j]? = some b) (hne:i≠j):f a≠f b:=by
 rcases Nat.lt_or_gt_of_ne hne with hlt|hgt
 ·
  exact slt_ne (h.lt hi hj hlt)
 ·
  exact fun e=>slt_ne (h.lt hj hi hgt) e.symm
def noV:Version:=⟨-1,true,false,0⟩
theorem bvs_false {b:Int}:∀ {l:List Version}{out:Version},bvs false b out l=out
 | [],out=>rfl
 |v::l,out=>by simp only[bvs];exact bvs_false
theorem bvs_append {h:Bool}{b:Int}:∀ {l r:List Version}{out:Version},bvs h b out (l++r)=bvs h b (bvs h b out l) r
 | [],r,out=>rfl
 |v::l,r,out=>by simp only[List.cons_append,bvs];exact bvs_append
theorem bvs_ge {h:Bool}{b:Int}:∀ {l:List Version}{out:Version},(∀ v∈l,b≤v.by_)→bvs h b out l=out
 | [],out,_=>rfl
 |v::l,out,hl=>by
  have:=hl v (List.mem_cons_self ..)
  simp only[bvs]
  rw[if_neg (by simp;omega)]
  exact bvs_ge fun w hw=>hl w (List.mem_cons_of_mem _ hw)
theorem beforeGo_none {k:Str}{b:Int}:∀ {l:List Chain}{out:Version},(∀ c∈l,c.key≠k)→beforeGo k b out l=out
 | [],out,_=>rfl
 |c::l,out,h=>by
  simp only[beforeGo]
  rw[decide_eq_false (h c (List.mem_cons_self ..)),bvs_false]
  exact beforeGo_none fun d hd=>h d (List.mem_cons_of_mem _ hd)
theorem beforeGo_append {k:Str}{b:Int}:∀ {l r:List Chain}{out:Version},beforeGo k b out (l++r)=beforeGo k b (beforeGo k b out l) r
 | [],r,out=>rfl
 |c::l,r,out=>by simp only[List.cons_append,beforeGo];exact beforeGo_append
theorem split_at {α:Type}{l:List α}{m:Nat}{c:α}(h:l[m]? = some c):l=l.take m++c::l.drop (m+1):=by
 obtain⟨h1,rfl⟩:=List.getElem?_eq_some_iff.1 h
 rw[List.getElem_cons_drop,List.take_append_drop]
theorem before_yes {l:List Chain}(hs:Srt Chain.key l) {k:Str}{b:Int}{m:Nat}{c:Chain}(hc:l[m]? = some c) (hk:c.key=k):before l k b=bvs true b noV c.vs:=by
 have hl:=split_at hc
 unfold before
 have hlt:m < l.length:=(List.getElem?_eq_some_iff.1 hc).1
 rw[hl,beforeGo_append,beforeGo_none (l:=l.take m) (fun d hd=>?_)]
 ·
  simp only[beforeGo]
  rw[hk,decide_eq_true rfl,beforeGo_none fun d hd=>?_]
  ·
   rfl
  obtain⟨j,hj⟩:=List.getElem?_of_mem hd
  rw[List.getElem?_drop]at hj
  rw[← hk]
  exact hs.ne hj hc (by omega)
 ·
  obtain⟨j,hj⟩:=List.getElem?_of_mem hd
  rw[List.getElem?_take]at hj
  split at hj
  ·
   rw[← hk];exact hs.ne hj hc (by omega)
  ·
   cases hj
theorem before_no {l:List Chain}(hs:Srt Chain.key l) {k:Str}{b:Int}{m:Nat}(hm:AtK Chain.key l k m) (hn:isAtK Chain.key l k m=false):before l k b=noV:=by
 unfold before
 refine beforeGo_none fun d hd e=>?_
 obtain⟨j,hj⟩:=List.getElem?_of_mem hd
 rcases Nat.lt_trichotomy j m with h|h|h
 ·
  have:=hm.lt j d hj h
  rw[e,slt_irrefl]at this;cases this
 ·
  subst h
  rw[isAtK,hj]at hn
  simp[e]at hn
 ·
  have hml:m < l.length:=by have:=(List.getElem?_eq_some_iff.1 hj).1;omega
  have hme:l[m]? = some l[m]:=List.getElem?_eq_getElem hml
  have h1:=hm.ge m l[m] hme (Nat.le_refl _)
  have h2:=hs.lt hme hj h
  rw[e,h1]at h2;cases h2
end Go.RF
namespace Go.Proofs.YtngnajknbeijjaaGreatDoor
open Go.AX Go.RF
abbrev i64s:Sh := .num .i64
abbrev shPair:List Sh:=[.str,i64s]
abbrev shIns:List Sh:=[i64s,i64s,i64s,i64s,.str]
abbrev shDeed:List Sh:=[.sl [.str],.sl [.str],.sl shIns]
theorem inI_of {n:Int}(h:(Lit.int .i64 n).wf=true):inI n:=by
 simpa[Lit.wf,IntKind.min,IntKind.max,IntKind.signed,IntKind.bits,inI] using h
theorem fitsR_map {α:Type}{enc:α→List D}{Q:α→Nat→Prop}{fs:List Sh}(h:∀ r m,FitsL fs m r→∃ x,r=enc x∧Q x m):∀ {rows:List (List D)}{m:Nat},FitsR fs m rows →
  ∃ l:List (α×Nat),rows=(l.map (·.1)).map enc∧(∀ y∈l,Q y.1 y.2)∧(l.map (·.2)).sum+l.length≤m
 | [],m,_=>⟨[],rfl,by simp,by simp⟩
 |r::rows,m,hR=>by
  cases hR with
  |@cons _ a b _ _ _ h1 h2 h3 =>
   obtain⟨x,rfl,hx⟩:=h r a h1
   obtain⟨l,rfl,hl,hs⟩:=fitsR_map h h2
   refine⟨(x,a)::l,rfl,fun y hy=>?_,by simp;omega⟩
   rcases List.mem_cons.1 hy with rfl|hy
   ·
    exact hx
   ·
    exact hl y hy
theorem sum_mem {l:List Nat}{n:Nat}(h:n∈l):n≤l.sum:=by
 induction l with
 |nil=>simp at h
 |cons x l ih =>
  rcases List.mem_cons.1 h with rfl|h
  ·
   simp
  ·
   have:=ih h;simp;omega
theorem fitsR_all {α:Type}{enc:α→List D}{Q:α→Nat→Prop}{fs:List Sh}(h:∀ r m,FitsL fs m r→∃ x,r=enc x∧Q x m) {rows:List (List D)}{m:Nat}(hR:FitsR fs m rows) :
  ∃ l:List α,rows=l.map enc∧(∀ x∈l,∃ k,k≤m∧Q x k)∧l.length≤m:=by
 obtain⟨l,h1,h2,h3⟩:=fitsR_map h hR
 refine⟨l.map (·.1),h1,fun x hx=>?_,by simp;omega⟩
 obtain⟨y,hy,rfl⟩:=List.mem_map.1 hx
 have:=sum_mem (List.mem_map.2 ⟨y,hy,rfl⟩:y.2∈l.map (·.2))
 exact⟨y.2,by omega,h2 y hy⟩
theorem dec_int {m:Nat}{d:D}(h:Fits i64s m d):∃ n,d=dint n∧inI n:=by
 cases h with
 |num k n m h=>exact⟨n,rfl,inI_of h⟩
theorem dec_str {m:Nat}{d:D}(h:Fits .str m d):∃ s,d=dstr s∧s.length≤m:=by
 cases h with
 |str s m h=>exact⟨s,rfl,h⟩
theorem dec_one {s:Sh}{m:Nat}{r:List D}(h:FitsL [s] m r):∃ d,r=[d]∧Fits s m d:=by
 cases h with
 |@cons _ a b _ d _ ds h1 h2 h3 =>
  cases h2
  exact⟨d,rfl,h1.mono' (by omega)⟩
theorem dec_two {s t:Sh}{m:Nat}{r:List D}(h:FitsL [s,t] m r):∃ d e,r=[d,e]∧Fits s m d∧Fits t m e:=by
 cases h with
 |@cons _ a b _ d _ ds h1 h2 h3 =>
  obtain⟨e,rfl,h4⟩:=dec_one h2
  exact⟨d,e,rfl,h1.mono' (by omega),h4.mono' (by omega)⟩
theorem dec_three {s t u:Sh}{m:Nat}{r:List D}(h:FitsL [s,t,u] m r):∃ d e f,r=[d,e,f]∧Fits s m d∧Fits t m e∧Fits u m f:=by
 cases h with
 |@cons _ a b _ d _ ds h1 h2 h3 =>
  obtain⟨e,f,rfl,h4,h5⟩:=dec_two h2
  exact⟨d,e,f,rfl,h1.mono' (by omega),h4.mono' (by omega),h5.mono' (by omega)⟩
theorem dec_four {s t u v:Sh}{m:Nat}{r:List D}(h:FitsL [s,t,u,v] m r):∃ d e f g,r=[d,e,f,g]∧Fits s m d∧Fits t m e∧Fits u m f∧Fits v m g:=by
 cases h with
 |@cons _ a b _ d _ ds h1 h2 h3 =>
  obtain⟨e,f,g,rfl,h4,h5,h6⟩:=dec_three h2
  exact⟨d,e,f,g,rfl,h1.mono' (by omega),h4.mono' (by omega),h5.mono' (by omega),h6.mono' (by omega)⟩
theorem dec_five {s t u v x:Sh}{m:Nat}{r:List D}(h:FitsL [s,t,u,v,x] m r):∃ d e f g k,r=[d,e,f,g,k]∧Fits s m d∧Fits t m e∧Fits u m f∧Fits v m g∧Fits x m k:=by
 cases h with
 |@cons _ a b _ d _ ds h1 h2 h3 =>
  obtain⟨e,f,g,k,rfl,h4,h5,h6,h7⟩:=dec_four h2
  exact⟨d,e,f,g,k,rfl,h1.mono' (by omega),h4.mono' (by omega),h5.mono' (by omega),h6.mono' (by omega),h7.mono' (by omega)⟩
theorem dec_sl {fs:List Sh}{m:Nat}{d:D}(h:Fits (.sl fs) m d):∃ rows,d = .sl fs.length rows∧FitsR fs m rows:=by
 cases h with
 |sl fs m rows h=>exact⟨rows,rfl,h⟩
theorem dec_pair (r:List D) (m:Nat) (h:FitsL shPair m r):∃ p:Pair,r=p.enc∧(p.key.length≤m∧inI p.n):=by
 obtain⟨d,e,rfl,h1,h2⟩:=dec_two h
 obtain⟨s,rfl,hs⟩:=dec_str h1
 obtain⟨n,rfl,hn⟩:=dec_int h2
 exact⟨⟨s,n⟩,rfl,hs,hn⟩
theorem dec_text (r:List D) (m:Nat) (h:FitsL [.str] m r):∃ s:Str,r=encStr1 s∧s.length≤m:=by
 obtain⟨d,rfl,h1⟩:=dec_one h
 obtain⟨s,rfl,hs⟩:=dec_str h1
 exact⟨s,rfl,hs⟩
theorem dec_num (r:List D) (m:Nat) (h:FitsL [i64s] m r):∃ n:Int,r=encInt1 n∧inI n:=by
 obtain⟨d,rfl,h1⟩:=dec_one h
 obtain⟨s,rfl,hs⟩:=dec_int h1
 exact⟨s,rfl,hs⟩
theorem dec_ins (r:List D) (m:Nat) (h:FitsL shIns m r):∃ i:Ins,r=i.enc∧(i.key.length≤m∧inI i.kind∧inI i.a∧inI i.b∧inI i.n):=by
 obtain⟨d,e,f,g,k,rfl,h1,h2,h3,h4,h5⟩:=dec_five h
 obtain⟨a,rfl,ha⟩:=dec_int h1
 obtain⟨b,rfl,hb⟩:=dec_int h2
 obtain⟨c,rfl,hc⟩:=dec_int h3
 obtain⟨n,rfl,hn⟩:=dec_int h4
 obtain⟨s,rfl,hs⟩:=dec_str h5
 exact⟨⟨a,b,c,n,s⟩,rfl,hs,ha,hb,hc,hn⟩
structure Deed.In (d:Deed) (m:Nat):Prop where
 r:d.reads.length≤m
 w:d.writes.length≤m
 c:d.code.length≤m
 rk:∀ s∈d.reads,s.length≤m
 wk:∀ s∈d.writes,s.length≤m
 ck:∀ i∈d.code,i.key.length≤m
theorem Deed.In.sm {d:Deed}{m:Nat}(h:Deed.In d m) (hm:m≤1048576):d.Sm :=
 ⟨by have:=h.r;omega,by have:=h.w;omega,by have:=h.c;omega,fun s hs=>by have:=h.rk s hs;omega,fun s hs=>by have:=h.wk s hs;omega⟩
theorem Deed.In.mono {d:Deed}{m n:Nat}(h:Deed.In d m) (hm:m≤n):Deed.In d n :=
 ⟨by have:=h.r;omega,by have:=h.w;omega,by have:=h.c;omega,fun s hs=>by have:=h.rk s hs;omega,fun s hs=>by have:=h.wk s hs;omega,fun s hs=>by have:=h.ck s hs;omega⟩
theorem dec_deed (r:List D) (m:Nat) (h:FitsL shDeed m r):∃ d:Deed,r=d.enc∧Deed.In d m:=by
 obtain⟨x,y,z,rfl,h1,h2,h3⟩:=dec_three h
 obtain⟨r1,rfl,hr1⟩:=dec_sl h1
 obtain⟨r2,rfl,hr2⟩:=dec_sl h2
 obtain⟨r3,rfl,hr3⟩:=dec_sl h3
 obtain⟨a,rfl,ha,hal⟩:=fitsR_all dec_text hr1
 obtain⟨b,rfl,hb,hbl⟩:=fitsR_all dec_text hr2
 obtain⟨c,rfl,hc,hcl⟩:=fitsR_all dec_ins hr3
 exact⟨⟨a,b,c⟩,rfl,hal,hbl,hcl,fun s hs=>let ⟨_,h1,h2⟩:=ha s hs;Nat.le_trans h2 h1,fun s hs=>let ⟨_,h1,h2⟩:=hb s hs;Nat.le_trans h2 h1,fun s hs=>let ⟨_,h1,h2⟩:=hc s hs;Nat.le_trans h2.1 h1⟩
theorem dec_rows {m:Nat}{d:D}(h:Fits (.sl shPair) m d):∃ l:List Pair,d=encRows l∧l.length≤m∧∀ p∈l,p.key.length≤m∧inI p.n:=by
 obtain⟨rows,rfl,hr⟩:=dec_sl h
 obtain⟨l,rfl,hl,hn⟩:=fitsR_all dec_pair hr
 exact⟨l,rfl,hn,fun p hp=>let ⟨_,h1,h2⟩:=hl p hp;⟨Nat.le_trans h2.1 h1,h2.2⟩⟩
theorem dec_ints {m:Nat}{d:D}(h:Fits (.sl [i64s]) m d):∃ l:List Int,d=encInts l∧l.length≤m∧∀ n∈l,inI n:=by
 obtain⟨rows,rfl,hr⟩:=dec_sl h
 obtain⟨l,rfl,hl,hn⟩:=fitsR_all dec_num hr
 exact⟨l,rfl,hn,fun p hp=>let ⟨_,h1,h2⟩:=hl p hp;h2⟩
theorem dec_deeds {m:Nat}{d:D}(h:Fits (.sl shDeed) m d):∃ l:List Deed,d=encDeeds l∧l.length≤m∧∀ x∈l,Deed.In x m:=by
 obtain⟨rows,rfl,hr⟩:=dec_sl h
 obtain⟨l,rfl,hl,hn⟩:=fitsR_all dec_deed hr
 exact⟨l,rfl,hn,fun p hp=>let ⟨_,h1,h2⟩:=hl p hp;h2.mono h1⟩
theorem dec_batch (r:List D) (m:Nat) (h:FitsL [.sl shDeed] m r):∃ l:List Deed,r=encBatch1 l∧(l.length≤m∧∀ x∈l,Deed.In x m):=by
 obtain⟨d,rfl,h1⟩:=dec_one h
 obtain⟨l,rfl,h2,h3⟩:=dec_deeds h1
 exact⟨l,rfl,h2,h3⟩
theorem dec_batches {m:Nat}{d:D}(h:Fits (.sl [.sl shDeed]) m d):∃ l:List (List Deed),d=encBatches l∧l.length≤m∧(l.map List.length).sum≤m∧∀ b∈l,b.length≤m∧∀ x∈b,Deed.In x m:=by
 obtain⟨rows,rfl,hr⟩:=dec_sl h
 obtain⟨l,rfl,hl,hn⟩:=fitsR_map dec_batch hr
 have hle:∀ k:List (List Deed×Nat),(∀ y∈k,y.1.length≤y.2)→((k.map (·.1)).map List.length).sum≤(k.map (·.2)).sum:=by
  intro k
  induction k with
  |nil=>simp
  |cons y k ih =>
   intro hk
   have h1:=hk y (List.mem_cons_self ..)
   have h2:=ih fun z hz=>hk z (List.mem_cons_of_mem _ hz)
   simp only[List.map_cons,List.sum_cons]
   omega
 refine⟨l.map (·.1),rfl,by simp;omega,?_,fun b hb=>?_⟩
 ·
  have:=hle l fun y hy=>(hl y hy).1
  omega
 ·
  obtain⟨y,hy,rfl⟩:=List.mem_map.1 hb
  have:=sum_mem (List.mem_map.2 ⟨y,hy,rfl⟩:y.2∈l.map (·.2))
  exact⟨by have:=(hl y hy).1;omega,fun x hx=>((hl y hy).2 x hx).mono (by omega)⟩
end Go.Proofs.YtngnajknbeijjaaGreatDoor
namespace Go.AX
open Go.RowKit
variable {cx:Cx}{g:Nat→Value}{σ σ':St}{a:Act}{w w':World}{nx:Nat}{c:Code}{Q:Exit→St→Prop}
variable {ty:TypeId}{pos:String}{af:Array Edge}{gd:Option (Nat×Bool)}{d:Nat}
def RowsAt (w:World) (base:Nat) (own:Nat→Prop) (e k:Nat) (v:Value) (rows:List (List D)):Prop :=
 ∃ xs:List Value,w.ownsRow base e k v rows.length xs∧(∀ x∈xs,Value.oneCell' x=true)∧(∀ r∈rows,r.length=k) ∧
  ∀ (i j:Nat) (r:List D) (d:D) (x:Value),rows[i]? = some r→r[j]? = some d→xs[i*k+j]? = some x→Rd w own x d
def with1 (own:Nat→Prop) (v:Value):Nat→Prop:=fun b=>own b∨blk v=some b
theorem ownsRow_base {base base':Nat}{e k:Nat}{v:Value}{n:Nat}{xs:List Value}(h:w.ownsRow base e k v n xs) (hb:∀ b,blk v=some b→base'≤b):w.ownsRow base' e k v n xs:=by
 refine⟨h.1,?_⟩
 rcases h.2 with h1|⟨g,cap,cur,hv,h1,h2⟩
 ·
  exact .inl h1
 ·
  exact .inr ⟨g,cap,cur,hv,hb g (by rw[hv];rfl),h2⟩
theorem RowsAt.lt {base e k:Nat}{own:Nat→Prop}{v:Value}{rows:List (List D)}(h:RowsAt w base own e k v rows) {b:Nat}(hb:blk v=some b):base≤b∧b < w.heap.size:=by
 obtain⟨xs,h1,_⟩:=h
 exact h1.lt b (by rw[← blk_own h1];exact hb)
theorem RowsAt.re {base base' e k:Nat}{own own':Nat→Prop}{v:Value}{rows:List (List D)}(h:RowsAt w base own e k v rows) (hb:∀ b,blk v=some b→base'≤b) (ho:∀ b,own' b→own b):RowsAt w base' own' e k v rows:=by
 obtain⟨xs,h1,h2,h3,h4⟩:=h
 exact⟨xs,ownsRow_base h1 hb,h2,h3,fun i j r d x hi hj hx=>(h4 i j r d x hi hj hx).less ho⟩
theorem RowsAt.rd {base e k:Nat}{own own':Nat→Prop}{v:Value}{rows:List (List D)}(h:RowsAt w base own e k v rows) (ho:∀ b,own' b→own b∧blk v≠some b):Rd w own' v (.sl k rows):=by
 obtain⟨xs,h1,h2,h3,h4⟩:=h
 rcases h1.2 with ⟨hv,hn⟩|⟨b,cap,cur,hv,hb,hh,hle,hcm,hsz,htk⟩
 ·
  obtain rfl:rows=[]:=List.eq_nil_of_length_eq_zero hn
  rw[hv];exact .nil none 0 k
 ·
  have hlt:b < w.heap.size:=by
   rcases Nat.lt_or_ge b w.heap.size with h|h
   ·
    exact h
   ·
    rw[Array.getElem?_eq_none h]at hh;cases hh
  have hx:∀ i j r d,rows[i]? = some r→r[j]? = some d→∃ x,xs[i*k+j]? = some x∧w.cell? ((⟨b,0,none⟩:Addr).add (i*k+j))=some x:=by
   intro i j r d hi hj
   have hil:=(List.getElem?_eq_some_iff.1 hi).1
   have hjl:j < k:=by rw[← h3 r (List.mem_of_getElem? hi)];exact(List.getElem?_eq_some_iff.1 hj).1
   have hlen:i*k+j < xs.length:=by
    rw[h1.1]
    have h5:(i+1)*k≤rows.length*k:=Nat.mul_le_mul_right _ hil
    rw[Nat.add_mul,Nat.one_mul]at h5
    omega
   exact⟨xs[i*k+j],List.getElem?_eq_getElem hlen,h1.cells (g:=b) (by rw[hv];rfl) _ _ (List.getElem?_eq_getElem hlen)⟩
  have hblk:blk v=some b:=by rw[hv];rfl
  rw[hv]
  refine .sl ⟨b,0,none⟩ cap k rows (fun i j=>xs.getD (i*k+j) undef) (fun h0=>(ho b h0).2 hblk) hlt hle h3 (fun i j r d hi hj=>?_) (fun i j r d hi hj=>?_) fun i j r d hi hj=>?_
  ·
   obtain⟨x,h5,h6⟩:=hx i j r d hi hj
   rw[h6];simp[List.getD,h5]
  ·
   obtain⟨x,h5,h6⟩:=hx i j r d hi hj
   simp only[List.getD,h5,Option.getD_some]
   exact h2 x (List.mem_of_getElem? h5)
  ·
   obtain⟨x,h5,h6⟩:=hx i j r d hi hj
   simp only[List.getD,h5,Option.getD_some]
   exact(h4 i j r d x hi hj h5).less fun b hb=>(ho b hb).1
theorem RowsAt.at {base e k:Nat}{own:Nat→Prop}{v:Value}{rows:List (List D)}(h:RowsAt w base own e k v rows) {i j:Nat}{r:List D}{x0:Value}{d':D}(hi:rows[i]? = some r) (hj:r[j]? = some (.v x0)) (hd:Rd w own x0 d') :
  RowsAt w base own e k v (rows.set i (r.set j d')):=by
 obtain⟨xs,h1,h2,h3,h4⟩:=h
 have hil:=(List.getElem?_eq_some_iff.1 hi).1
 have hjl:=(List.getElem?_eq_some_iff.1 hj).1
 refine⟨xs,by simpa using h1,h2,fun r' hr'=>?_,fun i' j' r' z x hi' hj' hx=>?_⟩
 ·
  rcases List.mem_or_eq_of_mem_set hr' with h|h
  ·
   exact h3 r' h
  ·
   subst h;simp;exact h3 r (List.mem_of_getElem? hi)
 ·
  by_cases he:i=i'
  ·
   subst he
   rw[List.getElem?_set_self hil]at hi'
   cases hi'
   by_cases hf:j=j'
   ·
    subst hf
    rw[List.getElem?_set_self hjl]at hj'
    cases hj'
    have:=h4 i j r (.v x0) x hi hj hx
    rw[rd_v this];exact hd
   ·
    rw[List.getElem?_set_ne hf]at hj'
    exact h4 i j' r z x hi hj' hx
  ·
   rw[List.getElem?_set_ne he]at hi'
   exact h4 i' j' r' z x hi' hj' hx
structure FnNew (P:Program) (f:FuncId) (args:List Arg) (e k:Nat) (rows:List (List D)):Prop where
 run : ∃ fn, P.funcs[f]? = some fn ∧ (fn.name == "runtime.NumGoroutine") = false ∧ fn.body.isNone = false
 calls:∀ (w:World) (own:Nat→Prop) (vs:List Value),((∀ b,own b→b < w.heap.size)∧Gl P w)→ArgsOk w own vs args →
  Calls P f vs.toArray w fun r w'=>∃ v,r = .returned v∧Below w.heap.size w w'∧RowsAt w' w.heap.size (with1 own v) e k v rows
inductive RetNew (σ:St) (t e k:Nat) (rows:List (List D)):Prop
 |own {id n:Nat} (h:get σ (.s t) = .av (.own id n)) (ho:get σ (.o id) = .ob (.arr e k rows)) (hn:n=rows.length)
 |nil (h:get σ (.s t) = .av (.d (.v nilS))) (hr:rows=[])
def newQ (t e k:Nat) (rows:List (List D)):Exit→St→Prop
 |.normal,σ=>RetNew σ t e k rows
 |.ret,σ=>RetNew σ t e k rows
 |_,_=>False
theorem objRows (hs:SimG cx σ a w g nx) {id e k:Nat}{rows:List (List D)}(ho:get σ (.o id) = .ob (.arr e k rows)):RowsAt w cx.w0.heap.size (cx.own g σ) e k (g id) rows:=(hs.objs id _ ho).2.1
theorem RetNew.ok (hs:SimG cx σ a w g nx) {t e k:Nat}{rows:List (List D)}(h:RetNew σ t e k rows):RowsAt w cx.w0.heap.size (with1 cx.own0 (a.tmps.getD t undef)) e k (a.tmps.getD t undef) rows:=by
 cases h with
 |@own id n h ho hn =>
  have hv:a.tmps.getD t undef=g id:=((hs.slots t _ h).1.2 e k rows ho).2 hn
  rw[hv]
  refine(objRows hs ho).re (fun b hb=>obj_ge hs ho hb) fun b hb=>?_
  rcases hb with hb|hb
  ·
   exact .inl hb
  ·
   exact .inr ⟨id,_,ho,hb⟩
 |nil h hr =>
  subst hr
  rw[rd_v (hs.slots t _ h).1]
  exact⟨[],World.ownsRow_nil _ _ _ _,by simp,by simp,by simp⟩
theorem fnNew_of {P:Program}{T:Tbl}(hT:TOk P T) (hm:P.follows .mixedOrders=true) {f:FuncId}{fn:Func}{c:Code}{t e k:Nat}{args:List Arg}{rows:List (List D)}
  (hf : P.funcs[f]? = some fn) (hb : fn.body = some c) (hname : (fn.name == "runtime.NumGoroutine") = false) (hr : fn.results = #[.tmp t]) (hn : Nat.ble args.length fn.ntmps = true)
  (h:∀ w0 own0,CW ⟨P,T,hT,hm,fn.ntmps,w0,own0,0,[]⟩ c (newQ t e k rows) (argSt 0 args)):FnNew P f args e k rows:=by
 refine⟨⟨fn,hf,hname,by rw[hb];rfl⟩,fun w own vs hown ha=>?_⟩
 have hsim:=entry_sim (P:=P) (T:=T) (hT:=hT) (hm:=hm) (n:=fn.ntmps) hown ha (by simpa using hn)
 refine calls_of_wp hf hb (wp_mono (h w own _ _ hsim) fun x a' w' he=>?_)
 obtain⟨σ',⟨g,nx,hg⟩,hq⟩:=he
 have fin:∀ hq:RetNew σ' t e k rows,a'.defers=[]∧∃ v,(results fn a'.tmps).run P w' = .ok v w'∧∃ v',Ending.returned v = .returned v'∧Below w.heap.size w w'∧RowsAt w' w.heap.size (with1 own v') e k v' rows:=by
  intro hq
  exact⟨hg.defers,_,by rw[results_one hr];simp[rvRun],_,rfl,hg.below,hq.ok hg⟩
 cases x with
 |normal=>exact fin hq
 |ret=>exact fin hq
 |exit j=>exact hq.elim
 |goto j=>exact hq.elim
 |panic c=>exact hq.elim
 |outgrown=>exact hq.elim
theorem FnNew.ok {P:Program}{f:FuncId}{args:List Arg}{e k:Nat}{rows:List (List D)}(h:FnNew P f args e k rows):FnOk P f args (.one (.sl k rows)):=by
 refine⟨h.run,fun w own vs hown ha=>(h.calls w own vs hown ha).mono fun r w' hr=>?_⟩
 obtain⟨v,rfl,h1,h2⟩:=hr
 exact⟨v,rfl,h1,h2.rd fun b hb=>⟨.inl hb,fun he=>by have:=(h2.lt he).1;have:=hown.1 b hb;omega⟩⟩
theorem SimG.join (hs:SimG cx σ a w g nx) (hb:Below w.heap.size w w') {v:Value}{o:Ob}{e k:Nat}{rows:List (List D)}(hr:RowsAt w' w.heap.size (with1 (cx.own g σ) v) e k v rows)
  (ho:o = .arr e k rows∨o = .pin e k rows v):SimG cx (objSt σ (nx+1) nx o) a w' (upd g nx v) (nx+1):=by
 have hge:=hs.below.size
 refine SimG.obj hs ⟨.inl ⟨rfl,rfl⟩,hb.mono hge,fun b hb' _=>hb.block b hb',fun b hb' => .inr (hr.lt hb').1⟩ (fun hl=>?_) (by rcases ho with rfl|rfl <;> trivial)
 have hre:RowsAt w' cx.w0.heap.size (cx.own (upd g nx v) (objSt σ (nx+1) nx o)) e k (upd g nx v nx) rows:=by
  rw[upd_same]
  refine hr.re (fun b hb'=>by have:=(hr.lt hb').1;omega) fun b hb'=>?_
  rcases hb' with h|⟨id,o',h1,h2⟩
  ·
   exact .inl (.inl h)
  ·
   by_cases hid:id=nx
   ·
    subst hid;rw[upd_same]at h2;exact .inr h2
   ·
    rw[objSt_o hid]at h1
    rw[upd_ne hid]at h2
    exact .inl (.inr ⟨id,o',h1,h2⟩)
 rcases ho with rfl|rfl
 ·
  exact hre
 ·
  exact⟨upd_same _ _ _,hre⟩
theorem call_run {P : Program} {f : FuncId} {xs : List Operand} {ats : Array TypeId} (hr : ∃ fn, P.funcs[f]? = some fn ∧ (fn.name == "runtime.NumGoroutine") = false ∧ fn.body.isNone = false) :
  (execOp a.eval ⟨some d,.call { callee := .value (.func f),args:=⟨xs⟩,argTypes:=ats },ty,pos,af,gd⟩).run P w = .ok (.enter f (xs.map a.eval).toArray) w:=by
 obtain⟨fn,h1,h2,h3⟩:=hr
 simp only[execOp,resolve,Deferred.ofValue,Act.eval,invoke,callFunc,Sem.run_bind,Sem.run_pure,Result.andThen_ok,run_program,h1,h2,h3,Bool.false_eq_true,if_false]
 simp
theorem ok_callnew {f:FuncId}{xs:List Operand}{avs:List AV}{ys:List Arg}{l:List (Key×Val)}{e k:Nat}{rows:List (List D)}{ats:Array TypeId}(hn:d < cx.n) (hc:FnNew cx.P f ys e k rows) (hsub:Subs xs avs ys l) :
  OpOk cx ⟨some d,.call { callee := .value (.func f),args:=⟨xs⟩,argTypes:=ats },ty,pos,af,gd⟩ ⟨l++[(.nx,.num nx)],[(.s d,.av (.own nx rows.length)),(.o nx,.ob (.arr e k rows)),(.nx,.num (nx+1))]⟩:=by
 rintro σ a w K Q ⟨g,n',hs⟩ hr hK
 have hnx:n'=nx:=by
  have h2:=hr.right.1
  rw[hs.hnx]at h2
  simpa using h2
 subst hnx
 have hcall:=hc.calls w (cx.own g σ) (xs.map a.eval) ⟨fun b hb=>own_lt hs hb,hs.gl⟩ (hsub.ok hs hr.left)
 unfold Oper.wp
 rw[call_run hc.run]
 refine hcall.mono fun r w' he=>?_
 obtain⟨v,rfl,hb,hres⟩:=he
 have hG:=SimG.join hs hb hres (.inl rfl)
 refine hK _ _ (Sim.put hG hn (Below.refl _ _) ?_ (Nat.lt_succ_self _))
 refine⟨.of get_cons_same,fun e' k' rows' hg=>?_⟩
 rw[get_cons_same]at hg
 cases hg
 exact⟨Nat.le_refl _,fun _=>by rw[upd_same]⟩
theorem a_callnew {f:FuncId}{xs:List Operand}{avs:List AV}{ys:List Arg}{l:List (Key×Val)}{e k:Nat}{rows:List (List D)}{ats:Array TypeId}(hc:FnNew cx.P f ys e k rows) (hn:get σ .nx = .num nx) (hd:Nat.blt d cx.n=true) (hsub:SubsE σ xs avs ys l) :
  OA cx σ ⟨some d,.call { callee := .value (.func f),args:=⟨xs⟩,argTypes:=ats },ty,pos,af,gd⟩ ⟨l++[(.nx,.num nx)],[(.s d,.av (.own nx rows.length)),(.o nx,.ob (.arr e k rows)),(.nx,.num (nx+1))]⟩ :=
 ⟨ok_callnew (lt_of_blt hd) hc hsub.out.1,hsub.out.2.append ⟨hn,trivial⟩⟩
end Go.AX
namespace Go.AX
open Go.RowKit
variable {cx:Cx}{g:Nat→Value}{σ σ':St}{a:Act}{w w':World}{nx:Nat}{c:Code}{Q:Exit→St→Prop}
variable {ty:TypeId}{pos:String}{af:Array Edge}{gd:Option (Nat×Bool)}{d:Nat}
theorem SimG.reob (hs:SimG cx σ a w g nx) {id:Nat}{o o':Ob}(ho:get σ (.o id) = .ob o) (hle:ObLe g g id o o') (hr:ObOk cx g σ w id o') (hb:o'.bd nx) :
  SimG cx ((.o id,.ob o')::σ) a w g nx:=by
 have hback:∀ j o1,get ((.o id,.ob o')::σ) (.o j) = .ob o1→∃ o0,get σ (.o j) = .ob o0∧ObLe g g j o0 o1:=by
  intro j o1 hj
  by_cases he:id=j
  ·
   subst he
   rw[get_cons_same]at hj
   cases hj
   exact⟨_,ho,hle⟩
  ·
   rw[get_cons_ne (by simpa using he)]at hj
   exact⟨o1,hj,by cases o1 <;> simp[ObLe]⟩
 have hl:Later cx g g σ ((.o id,.ob o')::σ) w w nx:=by
  refine⟨Ext.refl _ _,Below.refl _ _,fun b hb=>?_,fun j o1 _ h=>hback j o1 h⟩
  rcases hb with hb|⟨j,o1,h1,h2⟩
  ·
   exact .inl (.inl hb)
  ·
   obtain⟨o0,h3,_⟩:=hback j o1 h1
   exact .inl (.inr ⟨j,o0,h3,h2⟩)
 refine hs.next hl ((get_cons_ne (by simp)).trans hs.hnx) (Nat.le_refl _) hs.size hs.defers (Below.refl _ _) (fun i av hi => .inl ⟨(get_cons_ne (by simp)).symm.trans hi,rfl⟩) (fun j o1 hj=>?_) (fun j j' o1 o2 b h1 h2=>?_)
 ·
  by_cases he:id=j
  ·
   subst he
   rw[get_cons_same]at hj
   cases hj
   exact .inr ⟨(hs.objs id _ ho).1,hr.step hl rfl (fun _ _=>rfl) hb,hb⟩
  ·
   rw[get_cons_ne (by simpa using he)]at hj
   exact .inl ⟨hj,rfl,fun _ _=>rfl⟩
 ·
  obtain⟨o3,h3,_⟩:=hback j o1 h1
  obtain⟨o4,h4,_⟩:=hback j' o2 h2
  exact hs.sep j j' o3 o4 b h3 h4
theorem CW.pin (i id n e k:Nat) (rows:List (List D)) (hi:get σ (.s i) = .av (.own id n)) (ho:get σ (.o id) = .ob (.arr e k rows)) (hn:n=rows.length)
  (h:∀ x,CW cx c Q ((.s i,.av (.d (.v x)))::(.o id,.ob (.pin e k rows x))::σ)):CW cx c Q σ:=by
 rintro a w ⟨g,nx,hs⟩
 have hv:a.tmps.getD i undef=g id:=((hs.slots i _ hi).1.2 e k rows ho).2 hn
 have hG:=hs.reob ho (o' := .pin e k rows (g id)) trivial ⟨rfl,(hs.objs id _ ho).2.1⟩ trivial
 refine h (g id) a w (Sim.retell hG (av := .d (.v (g id))) ?_ trivial)
 rw[hv];exact Rd.v _
theorem sim_unpin (i id e k nx0:Nat) (rows:List (List D)) (x:Value) (hi:get σ (.s i) = .av (.d (.v x))) (ho:get σ (.o id) = .ob (.pin e k rows x)) (hnx:get σ .nx = .num nx0)
  (hsim:Sim cx σ a w):Sim cx ((.s i,.av (.own nx0 rows.length))::(.o nx0,.ob (.arr e k rows))::(.nx,.num (nx0+1))::(.o id,.none)::σ) a w:=by
 obtain⟨g,nx,hs⟩:=hsim
 obtain rfl:nx=nx0:=by have:=hs.hnx;rw[hnx]at this;simpa using this.symm
 obtain⟨hlt,⟨hgx,hrows⟩,_⟩:=hs.objs id _ ho
 have hrows':RowsAt w cx.w0.heap.size (cx.own g σ) e k (g id) rows:=hrows
 have hv:a.tmps.getD i undef=x:=rd_v (hs.slots i _ hi).1
 -- the old name goes,a new one comes
 have hne:id≠nx:=by omega
 have hback:∀ j o1,j≠nx→get ((.o nx,.ob (.arr e k rows))::(.nx,.num (nx+1))::(.o id,.none)::σ) (.o j) = .ob o1→j≠id∧get σ (.o j) = .ob o1:=by
  intro j o1 hj h1
  rw[get_cons_ne (by simpa using fun e=>hj e.symm),get_cons_ne (by simp)]at h1
  by_cases he:id=j
  ·
   subst he;rw[get_cons_same]at h1;cases h1
  ·
   rw[get_cons_ne (by simpa using he)]at h1
   exact⟨fun e=>he e.symm,h1⟩
 have hown:∀ b,cx.own (upd g nx x) ((.o nx,.ob (.arr e k rows))::(.nx,.num (nx+1))::(.o id,.none)::σ) b→cx.own g σ b:=by
  rintro b (hb|⟨j,o1,h1,h2⟩)
  ·
   exact .inl hb
  ·
   by_cases hj:j=nx
   ·
    subst hj
    rw[upd_same,← hgx]at h2
    exact .inr ⟨id,_,ho,h2⟩
   ·
    rw[upd_ne hj]at h2
    exact .inr ⟨j,o1,(hback j o1 hj h1).2,h2⟩
 have hl:Later cx g (upd g nx x) σ ((.o nx,.ob (.arr e k rows))::(.nx,.num (nx+1))::(.o id,.none)::σ) w w nx:=by
  refine⟨Ext.refl _ _,Below.refl _ _,fun b hb => .inl (hown b hb),fun j o1 hj h1=>?_⟩
  have hjn:j≠nx:=by omega
  refine⟨o1,(hback j o1 hjn h1).2,?_⟩
  cases o1 <;> simp[ObLe,upd_ne hjn]
 have hG:SimG cx ((.o nx,.ob (.arr e k rows))::(.nx,.num (nx+1))::(.o id,.none)::σ) a w (upd g nx x) (nx+1):=by
  refine hs.next hl (by rw[get_cons_ne (by simp),get_cons_same]) (Nat.le_succ _) hs.size hs.defers (Below.refl _ _) (fun j av hj => .inl ⟨?_,rfl⟩) (fun j o1 hj=>?_) (fun j j' o1 o2 b h1 h2 h3 h4=>?_)
  ·
   rw[get_cons_ne (by simp),get_cons_ne (by simp),get_cons_ne (by simp)]at hj;exact hj
  ·
   by_cases hjn:j=nx
   ·
    subst hjn
    rw[get_cons_same]at hj
    cases hj
    refine .inr ⟨Nat.lt_succ_self _,?_,trivial⟩
    show RowsAt w cx.w0.heap.size _ e k (upd g j x j) rows
    rw[upd_same,← hgx]
    exact hrows'.re (fun b hb=>(hrows'.lt hb).1) (by rw[hgx];exact hown)
   ·
    exact .inl ⟨(hback j o1 hjn hj).2,upd_ne hjn,fun _ _=>rfl⟩
  ·
   have key:∀ j o1,get ((.o nx,.ob (.arr e k rows))::(.nx,.num (nx+1))::(.o id,.none)::σ) (.o j) = .ob o1→blk (upd g nx x j)=some b→∃ j0 o0,get σ (.o j0) = .ob o0∧blk (g j0)=some b∧((j=nx∧j0=id)∨(j≠nx∧j0≠id∧j0=j)):=by
    intro j o1 h1 h3
    by_cases hjn:j=nx
    ·
     subst hjn
     rw[upd_same,← hgx]at h3
     exact⟨id,_,ho,h3,.inl ⟨rfl,rfl⟩⟩
    ·
     rw[upd_ne hjn]at h3
     obtain⟨h5,h6⟩:=hback j o1 hjn h1
     exact⟨j,o1,h6,h3,.inr ⟨hjn,h5,rfl⟩⟩
   obtain⟨p,po,q1,q2,q3⟩:=key j o1 h1 h3
   obtain⟨p',po',r1,r2,r3⟩:=key j' o2 h2 h4
   have:=hs.sep p p' po po' b q1 r1 q2 r2
   rcases q3 with ⟨e1,e2⟩|⟨e1,e2,e3⟩ <;> rcases r3 with ⟨f1,f2⟩|⟨f1,f2,f3⟩ <;> omega
 refine Sim.retell hG (av := .own nx rows.length) ?_ (Nat.lt_succ_self _)
 refine⟨.of get_cons_same,fun e' k' rows' hg=>?_⟩
 rw[get_cons_same]at hg
 cases hg
 exact⟨Nat.le_refl _,fun _=>by rw[upd_same];exact hv⟩
def SW (cx:Cx) (ops:Array Oper) (Q:Exit→St→Prop) (l:List Oper) (σ:St):Prop :=
 ∀ a w,Sim cx σ a w→wpList cx.P ops (fun e a' w'=>∃ σ',Sim cx σ' a' w'∧Q e σ') l a w
theorem CW.regionS {id:Nat}{l:List Oper}(h:SW cx l.toArray Q l σ):CW cx (.region id l.toArray false) Q σ:=fun a w hs=>wp_region_lit (h a w hs)
variable {ops:Array Oper}{rest:List Oper}{o:Oper}
theorem SW.rw(h:RW cx ops (fun _ σ'=>Q .normal σ') [] rest σ):SW cx ops Q rest σ:=by
 obtain⟨ts,σ',h1,h2⟩:=h
 exact fun a w hs=>wpList_of_steps h1 hs fun a' w' hs'=>⟨σ',hs',h2⟩
theorem SW.step {t:Tr}(hg:o.guard=none) (ho:OA cx σ o t) (h:SW cx ops Q rest (t.wr++σ)):SW cx ops Q (o::rest) σ:=fun a w hs =>
 wpList_plain hg fun K hK=>ho.1 σ a w K _ hs ho.2 fun a' w' hs'=>hK a' w' (h a' w' hs')
theorem SW.fam {ι:Type}{σs:ι→St}(hg:o.guard=none)
  (ho:∀ (a:Act) (w:World) (K:Act→World→Prop) (Q:Exit→Act→World→Prop),Sim cx σ a w→(∀ i a' w',Sim cx (σs i) a' w'→K a' w')→o.wp cx.P a w K Q)
  (h:∀ i,SW cx ops Q rest (σs i)):SW cx ops Q (o::rest) σ:=fun a w hs =>
 wpList_plain hg fun K hK=>ho a w K _ hs fun i a' w' hs'=>hK a' w' (h i a' w' hs')
inductive View (σ:St) (id e k:Nat) (rows:List (List D)):D→List (Key×Val)→Prop
 |plain (h:get σ (.o id) = .ob (.arr e k rows)):View σ id e k rows (.sl k rows) [(.o id,.ob (.arr e k rows))]
 |pin {i j id2 e2 k2:Nat} {r:List D} {x:Value} {rows2:List (List D)} (h:get σ (.o id) = .ob (.arr e k rows)) (hi:rows[i]? = some r) (hj:r[j]? = some (.v x))
   (h2:get σ (.o id2) = .ob (.pin e2 k2 rows2 x)):View σ id e k rows (.sl k (rows.set i (r.set j (.sl k2 rows2)))) [(.o id,.ob (.arr e k rows)),(.o id2,.ob (.pin e2 k2 rows2 x))]
def plainR:Res→Bool
 |.one (.v _)=>true
 |.tup l=>l.all fun x=>match x with
  |.v _=>true
  |_=>false
 |_=>false
theorem rd_plain {own own':Nat→Prop}{v x:Value}(h:Rd w own v (.v x)):Rd w own' v (.v x):=by
 rw[rd_v h];exact Rd.v _
theorem plainR_ok {r:Res}(h:plainR r=true) {own own':Nat→Prop}{v:Value}(hr:ResOk w own v r):ResOk w own' v r:=by
 cases r with
 |one x =>
  cases x with
  |v x=>exact rd_plain hr
  |x p=>cases h
  |sl k rows=>cases h
  |agg c=>cases h
 |tup xs =>
  obtain⟨vs,rfl,h1,h2⟩:=hr
  refine⟨vs,rfl,h1,fun j c x hx hc=>?_⟩
  have h3:=List.all_eq_true.1 h x (List.mem_of_getElem? hx)
  cases x with
  |v x=>exact rd_plain (h2 j c _ hx hc)
  |x p=>cases h3
  |sl k rows=>cases h3
  |agg c=>cases h3
theorem ArgsOk.less {own own':Nat→Prop}(ho:∀ b,own' b→own b):∀ {vs:List Value}{xs:List Arg},ArgsOk w own vs xs→ArgsOk w own' vs xs
 | [],[],_=>trivial
 |v::vs,x::xs,h=>by
  refine⟨?_,ArgsOk.less ho h.2⟩
  cases x with
  |d y=>exact Rd.less ho h.1
  |pd cells =>
   obtain⟨ad,h1,h2,h3⟩:=h.1
   exact⟨ad,h1,h2,fun j z hz=>by obtain⟨u,h4,h5,h6⟩:=h3 j z hz;exact⟨u,h4,h5,h6.less ho⟩⟩
theorem a_lend {f:FuncId}{x:Operand}{xs:List Operand}{avs:List AV}{ys:List Arg}{l lv:List (Key×Val)}{r:Res}{ats:Array TypeId}{id n e k:Nat}{rows:List (List D)}{dd:D}
  (hc:FnOk cx.P f (.d dd::ys) r) (hx:ev σ x=some (.own id n)) (hv:View σ id e k rows dd lv) (hn:n=rows.length) (hp:plainR r=true) (hd:Nat.blt d cx.n=true) (hsub:SubsE σ xs avs ys l) :
  OA cx σ ⟨some d,.call { callee := .value (.func f),args:=⟨x::xs⟩,argTypes:=ats },ty,pos,af,gd⟩ ⟨rdOf x (.own id n)++(l++lv),[(.s d,.av r.av)]⟩:=by
 refine⟨?_,(ev_out hx).2.append (hsub.out.2.append ?_)⟩
 ·
  rintro σ1 a w K Q ⟨g,nx,hs⟩ hr hK
  have hxv:=hs.ev (ev_out hx).1 hr.left
  have hargs:=hsub.out.1.ok hs hr.right.left
  have hlv:=hr.right.right
  -- the first argument,read by whoever keeps all but that
  have key:∃ own':Nat→Prop,(∀ b,own' b→cx.own g σ1 b)∧Rd w own' (a.eval x) dd:=by
   cases hv with
   |plain h =>
    have ho:get σ1 (.o id) = .ob (.arr e k rows):=hlv.1
    have hval:a.eval x=g id:=(hxv.1.2 e k rows ho).2 hn
    refine⟨fun b=>cx.own g σ1 b∧blk (g id)≠some b,fun b hb=>hb.1,?_⟩
    rw[hval]
    exact(objRows hs ho).rd fun b hb=>hb
   |@pin i j id2 e2 k2 r x0 rows2 h hi hj h2 =>
    have ho:get σ1 (.o id) = .ob (.arr e k rows):=hlv.1
    have ho2:get σ1 (.o id2) = .ob (.pin e2 k2 rows2 x0):=hlv.2.1
    have hval:a.eval x=g id:=(hxv.1.2 e k rows ho).2 hn
    obtain⟨_,⟨hgx,hp2⟩,_⟩:=hs.objs id2 _ ho2
    have hp2':RowsAt w cx.w0.heap.size (cx.own g σ1) e2 k2 (g id2) rows2:=hp2
    rw[hgx]at hp2'
    refine⟨fun b=>(cx.own g σ1 b∧blk x0≠some b)∧blk (g id)≠some b,fun b hb=>hb.1.1,?_⟩
    rw[hval]
    have h3:RowsAt w cx.w0.heap.size (fun b=>cx.own g σ1 b∧blk x0≠some b) e k (g id) rows:=(objRows hs ho).re (fun b hb=>((objRows hs ho).lt hb).1) fun b hb=>hb.1
    exact(h3.at hi hj (hp2'.rd fun b hb=>hb)).rd fun b hb=>hb
  obtain⟨own',hsub',hrd⟩:=key
  have hcall:=hc.calls w own' (a.eval x::xs.map a.eval) ⟨fun b hb=>own_lt hs (hsub' b hb),hs.gl⟩ ⟨hrd,hargs.less hsub'⟩
  unfold Oper.wp
  rw[call_run hc.run]
  refine hcall.mono fun z w' he=>?_
  obtain⟨v,rfl,hb,hres⟩:=he
  obtain⟨h1,h2⟩:=Res.rep (nx:=nx) (plainR_ok hp (own':=cx.own g σ1) hres)
  exact hK _ _ (Sim.put hs (lt_of_blt hd) hb h1 h2)
 ·
  cases hv with
  |plain h=>exact⟨h,trivial⟩
  |pin h hi hj h2=>exact⟨h,h2,trivial⟩
end Go.AX
namespace Go.AX
open Go.RowKit
variable {cx:Cx}{g:Nat→Value}{σ σ':St}{a:Act}{w w':World}{nx:Nat}{c:Code}{Q:Exit→St→Prop}
variable {ty:TypeId}{pos:String}{af:Array Edge}{gd:Option (Nat×Bool)}{d:Nat}
structure FnOwn2 (P:Program) (f:FuncId) (args:List Arg) (e k:Nat) (rowsF:Value→List (List D)) (e2 k2:Nat) (rows2:List (List D)):Prop where
 run : ∃ fn, P.funcs[f]? = some fn ∧ (fn.name == "runtime.NumGoroutine") = false ∧ fn.body.isNone = false
 calls:∀ (w:World) (own:Nat→Prop) (vs:List Value),((∀ b,own b→b < w.heap.size)∧Gl P w)→ArgsOk w own vs args →
  Calls P f vs.toArray w fun r w'=>∃ v x,r = .returned v∧Below w.heap.size w w'∧RowsAt w' w.heap.size (with1 (with1 own v) x) e k v (rowsF x) ∧
   RowsAt w' w.heap.size (with1 (with1 own v) x) e2 k2 x rows2∧∀ b,blk v=some b→blk x≠some b
def own2Q (t e k:Nat) (rowsF:Value→List (List D)) (e2 k2:Nat) (rows2:List (List D)):Exit→St→Prop
 |.normal,σ=>∃ id n id2 x,get σ (.s t) = .av (.own id n)∧get σ (.o id) = .ob (.arr e k (rowsF x))∧n=(rowsF x).length∧get σ (.o id2) = .ob (.pin e2 k2 rows2 x)
 |.ret,σ=>∃ id n id2 x,get σ (.s t) = .av (.own id n)∧get σ (.o id) = .ob (.arr e k (rowsF x))∧n=(rowsF x).length∧get σ (.o id2) = .ob (.pin e2 k2 rows2 x)
 |_,_=>False
theorem fnOwn2_of {P:Program}{T:Tbl}(hT:TOk P T) (hm:P.follows .mixedOrders=true) {f:FuncId}{fn:Func}{c:Code}{t e k e2 k2:Nat}{args:List Arg}{rowsF:Value→List (List D)}{rows2:List (List D)}
  (hf : P.funcs[f]? = some fn) (hb : fn.body = some c) (hname : (fn.name == "runtime.NumGoroutine") = false) (hr : fn.results = #[.tmp t]) (hn : Nat.ble args.length fn.ntmps = true)
  (h:∀ w0 own0,CW ⟨P,T,hT,hm,fn.ntmps,w0,own0,0,[]⟩ c (own2Q t e k rowsF e2 k2 rows2) (argSt 0 args)):FnOwn2 P f args e k rowsF e2 k2 rows2:=by
 refine⟨⟨fn,hf,hname,by rw[hb];rfl⟩,fun w own vs hown ha=>?_⟩
 have hsim:=entry_sim (P:=P) (T:=T) (hT:=hT) (hm:=hm) (n:=fn.ntmps) hown ha (by simpa using hn)
 refine calls_of_wp hf hb (wp_mono (h w own _ _ hsim) fun z a' w' he=>?_)
 obtain⟨σ',⟨g,nx,hg⟩,hq⟩:=he
 have fin:∀ hq:∃ id n id2 x,get σ' (.s t) = .av (.own id n)∧get σ' (.o id) = .ob (.arr e k (rowsF x))∧n=(rowsF x).length∧get σ' (.o id2) = .ob (.pin e2 k2 rows2 x),
   a'.defers=[]∧∃ v,(results fn a'.tmps).run P w' = .ok v w'∧∃ v' x,Ending.returned v = .returned v'∧Below w.heap.size w w'∧RowsAt w' w.heap.size (with1 (with1 own v') x) e k v' (rowsF x) ∧
    RowsAt w' w.heap.size (with1 (with1 own v') x) e2 k2 x rows2∧∀ b,blk v'=some b→blk x≠some b:=by
  rintro ⟨id,n,id2,x,h1,h2,h3,h4⟩
  have hv:a'.tmps.getD t undef=g id:=((hg.slots t _ h1).1.2 e k _ h2).2 h3
  obtain⟨_,⟨hgx,hp⟩,_⟩:=hg.objs id2 _ h4
  have hp':RowsAt w' w.heap.size (Cx.own ⟨P,T,hT,hm,fn.ntmps,w,own,0,[]⟩ g σ') e2 k2 (g id2) rows2:=hp
  have hin:∀ b,with1 (with1 own (g id)) x b→Cx.own ⟨P,T,hT,hm,fn.ntmps,w,own,0,[]⟩ g σ' b:=by
   rintro b ((hb|hb)|hb)
   ·
    exact .inl hb
   ·
    exact .inr ⟨id,_,h2,hb⟩
   ·
    exact .inr ⟨id2,_,h4,by rw[hgx];exact hb⟩
  have hR1:=objRows hg h2
  refine⟨hg.defers,g id,by rw[results_one hr,← hv];simp[rvRun],g id,x,rfl,hg.below,hR1.re (fun b hb=>(hR1.lt hb).1) hin,?_,fun b hb hb2=>?_⟩
  ·
   rw[hgx]at hp'
   exact hp'.re (fun b hb=>(hp'.lt hb).1) hin
  ·
   have:=hg.sep id id2 _ _ b h2 h4 hb (by rw[hgx];exact hb2)
   subst this
   rw[h2]at h4;cases h4
 cases z with
 |normal=>exact fin hq
 |ret=>exact fin hq
 |exit j=>exact hq.elim
 |goto j=>exact hq.elim
 |panic c=>exact hq.elim
 |outgrown=>exact hq.elim
theorem SimG.join2 (hs:SimG cx σ a w g nx) (hb:Below w.heap.size w w') {v x:Value}{e k e2 k2:Nat}{rows rows2:List (List D)}(h1:RowsAt w' w.heap.size (with1 (with1 (cx.own g σ) v) x) e k v rows)
  (h2:RowsAt w' w.heap.size (with1 (with1 (cx.own g σ) v) x) e2 k2 x rows2) (hd:∀ b,blk v=some b→blk x≠some b) :
  SimG cx ((.o nx,.ob (.arr e k rows))::(.o (nx+1),.ob (.pin e2 k2 rows2 x))::(.nx,.num (nx+2))::σ) a w' (upd (upd g nx v) (nx+1) x) (nx+2):=by
 have hge:=hs.below.size
 have hg1:upd (upd g nx v) (nx+1) x nx=v:=by rw[upd_ne (by omega),upd_same]
 have hg2:upd (upd g nx v) (nx+1) x (nx+1)=x:=upd_same _ _ _
 have hg0:∀ j,j < nx→upd (upd g nx v) (nx+1) x j=g j:=fun j hj=>by rw[upd_ne (by omega),upd_ne (by omega)]
 have hback:∀ j o,get ((.o nx,.ob (.arr e k rows))::(.o (nx+1),.ob (.pin e2 k2 rows2 x))::(.nx,.num (nx+2))::σ) (.o j) = .ob o →
   (j=nx∧o = .arr e k rows)∨(j=nx+1∧o = .pin e2 k2 rows2 x)∨(j < nx∧get σ (.o j) = .ob o):=by
  intro j o hj
  by_cases hj1:j=nx
  ·
   subst hj1;rw[get_cons_same]at hj;cases hj;exact .inl ⟨rfl,rfl⟩
  ·
   rw[get_cons_ne (by simpa using fun e=>hj1 e.symm)]at hj
   by_cases hj2:j=nx+1
   ·
    subst hj2;rw[get_cons_same]at hj;cases hj;exact .inr (.inl ⟨rfl,rfl⟩)
   ·
    rw[get_cons_ne (by simpa using fun e=>hj2 e.symm),get_cons_ne (by simp)]at hj
    exact .inr (.inr ⟨(hs.objs j o hj).1,hj⟩)
 have hown:∀ b,cx.own (upd (upd g nx v) (nx+1) x) ((.o nx,.ob (.arr e k rows))::(.o (nx+1),.ob (.pin e2 k2 rows2 x))::(.nx,.num (nx+2))::σ) b→with1 (with1 (cx.own g σ) v) x b:=by
  rintro b (h|⟨j,o,h3,h4⟩)
  ·
   exact .inl (.inl (.inl h))
  ·
   rcases hback j o h3 with ⟨rfl,rfl⟩|⟨rfl,rfl⟩|⟨hj,h5⟩
   ·
    rw[hg1]at h4;exact .inl (.inr h4)
   ·
    rw[hg2]at h4;exact .inr h4
   ·
    rw[hg0 j hj]at h4;exact .inl (.inl (.inr ⟨j,o,h5,h4⟩))
 have hl:Later cx g (upd (upd g nx v) (nx+1) x) σ ((.o nx,.ob (.arr e k rows))::(.o (nx+1),.ob (.pin e2 k2 rows2 x))::(.nx,.num (nx+2))::σ) w w' nx:=by
  refine⟨Ext.of_below hb,hb.mono hge,fun b hbb=>?_,fun j o hj h3=>?_⟩
  ·
   rcases hown b hbb with (h|h)|h
   ·
    exact .inl h
   ·
    exact .inr (h1.lt h).1
   ·
    exact .inr (h2.lt h).1
  ·
   rcases hback j o h3 with ⟨rfl,_⟩|⟨rfl,_⟩|⟨hj',h5⟩
   ·
    omega
   ·
    omega
   ·
    exact⟨o,h5,by cases o <;> simp[ObLe,hg0 j hj']⟩
 refine hs.next hl (by rw[get_cons_ne (by simp),get_cons_ne (by simp),get_cons_same]) (by omega) hs.size hs.defers (hb.mono hge) (fun j av hj => .inl ⟨?_,rfl⟩) (fun j o hj=>?_) (fun j j' o o' b h3 h4 h5 h6=>?_)
 ·
  rw[get_cons_ne (by simp),get_cons_ne (by simp),get_cons_ne (by simp)]at hj;exact hj
 ·
  rcases hback j o hj with ⟨rfl,rfl⟩|⟨rfl,rfl⟩|⟨hj',h5⟩
  ·
   refine .inr ⟨by omega,?_,trivial⟩
   show RowsAt w' cx.w0.heap.size _ e k _ rows
   rw[hg1]
   exact h1.re (fun b hb'=>by have:=(h1.lt hb').1;omega) hown
  ·
   refine .inr ⟨by omega,⟨hg2,?_⟩,trivial⟩
   show RowsAt w' cx.w0.heap.size _ e2 k2 _ rows2
   rw[hg2]
   exact h2.re (fun b hb'=>by have:=(h2.lt hb').1;omega) hown
  ·
   exact .inl ⟨h5,hg0 j hj',fun b hb'=>hb.block b (own_lt hs (.inr ⟨j,o,h5,hb'⟩))⟩
 ·
  have place:∀ j o,get ((.o nx,.ob (.arr e k rows))::(.o (nx+1),.ob (.pin e2 k2 rows2 x))::(.nx,.num (nx+2))::σ) (.o j) = .ob o→blk (upd (upd g nx v) (nx+1) x j)=some b →
    (j=nx∧blk v=some b∧w.heap.size≤b)∨(j=nx+1∧blk x=some b∧w.heap.size≤b)∨(j < nx∧get σ (.o j) = .ob o∧blk (g j)=some b∧b < w.heap.size):=by
   intro j o hj hbj
   rcases hback j o hj with ⟨rfl,rfl⟩|⟨rfl,rfl⟩|⟨hj',h7⟩
   ·
    rw[hg1]at hbj;exact .inl ⟨rfl,hbj,(h1.lt hbj).1⟩
   ·
    rw[hg2]at hbj;exact .inr (.inl ⟨rfl,hbj,(h2.lt hbj).1⟩)
   ·
    rw[hg0 j hj']at hbj;exact .inr (.inr ⟨hj',h7,hbj,own_lt hs (.inr ⟨j,o,h7,hbj⟩)⟩)
  rcases place j o h3 h5 with ⟨p1,p2,p3⟩|⟨p1,p2,p3⟩|⟨p1,p2,p3,p4⟩ <;> rcases place j' o' h4 h6 with ⟨q1,q2,q3⟩|⟨q1,q2,q3⟩|⟨q1,q2,q3,q4⟩
  ·
   omega
  ·
   exact(hd b p2 q2).elim
  ·
   omega
  ·
   exact(hd b q2 p2).elim
  ·
   omega
  ·
   omega
  ·
   omega
  ·
   omega
  ·
   exact hs.sep j j' o o' b p2 q2 p3 q3
theorem fam_own2 {f:FuncId}{xs:List Operand}{avs:List AV}{ys:List Arg}{l:List (Key×Val)}{e k e2 k2:Nat}{rowsF:Value→List (List D)}{rows2:List (List D)}{ats:Array TypeId}
  (hc:FnOwn2 cx.P f ys e k rowsF e2 k2 rows2) (hnx:get σ .nx = .num nx) (hd:Nat.blt d cx.n=true) (hsub:SubsE σ xs avs ys l)
  (a:Act) (w:World) (K:Act→World→Prop) (Q:Exit→Act→World→Prop) (hs:Sim cx σ a w)
  (hK:∀ (x:Value) a' w',Sim cx ((.s d,.av (.own nx (rowsF x).length))::(.o nx,.ob (.arr e k (rowsF x)))::(.o (nx+1),.ob (.pin e2 k2 rows2 x))::(.nx,.num (nx+2))::σ) a' w'→K a' w') :
  Oper.wp cx.P ⟨some d,.call { callee := .value (.func f),args:=⟨xs⟩,argTypes:=ats },ty,pos,af,gd⟩ a w K Q:=by
 obtain⟨g,n',hs⟩:=hs
 obtain rfl:n'=nx:=by have:=hs.hnx;rw[hnx]at this;simpa using this.symm
 have hcall:=hc.calls w (cx.own g σ) (xs.map a.eval) ⟨fun b hb=>own_lt hs hb,hs.gl⟩ (hsub.out.1.ok hs hsub.out.2)
 unfold Oper.wp
 rw[call_run hc.run]
 refine hcall.mono fun r w' he=>?_
 obtain⟨v,x,rfl,hb,h1,h2,h3⟩:=he
 have hG:=SimG.join2 hs hb h1 h2 h3
 refine hK x _ _ (Sim.put hG (lt_of_blt hd) (Below.refl _ _) ?_ (show n' < n'+2 by omega))
 refine⟨.of get_cons_same,fun e' k' rows' hg=>?_⟩
 rw[get_cons_same]at hg
 cases hg
 exact⟨Nat.le_refl _,fun _=>by rw[upd_ne (by omega),upd_same]⟩
structure BelowBut (v:Value) (w w':World):Prop where
 os:w'.os=w.os
 tape:w'.tape=w.tape
 output:w'.output=w.output
 size:w.heap.size≤w'.heap.size
 block:∀ b,b < w.heap.size→blk v≠some b→w'.heap[b]? = w.heap[b]?
structure FnUpd (P:Program) (f:FuncId) (e k:Nat) (rows:List (List D)) (args:List Arg) (rows':List (List D)):Prop where
 run : ∃ fn, P.funcs[f]? = some fn ∧ (fn.name == "runtime.NumGoroutine") = false ∧ fn.body.isNone = false
 calls:∀ (w:World) (own:Nat→Prop) (v:Value) (vs:List Value),((∀ b,own b→b < w.heap.size)∧Gl P w)→RowsAt w 0 (with1 own v) e k v rows→(∀ b,own b→blk v≠some b)→ArgsOk w (with1 own v) vs args →
  Calls P f (v::vs).toArray w fun r w'=>∃ v',r = .returned v'∧BelowBut v w w'∧(∀ b,blk v'=some b→blk v=some b∨w.heap.size≤b)∧RowsAt w' 0 (with1 own v') e k v' rows'
theorem ok_upd {f:FuncId}{x:Operand}{xs:List Operand}{avs:List AV}{ys:List Arg}{l:List (Key×Val)}{e k id n:Nat}{rows rows':List (List D)}{ats:Array TypeId}
  (hd:d < cx.n) (hc:FnUpd cx.P f e k rows ys rows') (hx:EvS x (.own id n)) (hn:n=rows.length) (hsub:Subs xs avs ys l) :
  OpOk cx ⟨some d,.call { callee := .value (.func f),args:=⟨x::xs⟩,argTypes:=ats },ty,pos,af,gd⟩ ⟨rdOf x (.own id n)++(l++[(.o id,.ob (.arr e k rows)),(.nx,.num nx)]),[(.s d,.av (.own nx rows'.length)),(.o nx,.ob (.arr e k rows')),(.nx,.num (nx+1)),(.o id,.none)]⟩:=by
 rintro σ a w K Q ⟨g,n',hs⟩ hr hK
 have hnx:n'=nx:=by
  have h2:=hr.right.right.2.1
  rw[hs.hnx]at h2
  simpa using h2
 subst hnx
 have ho:get σ (.o id) = .ob (.arr e k rows):=hr.right.right.1
 have hidlt:=(hs.objs id _ ho).1
 have hval:a.eval x=g id:=((hs.ev hx hr.left).1.2 e k rows ho).2 hn
 have hR:=objRows hs ho
 -- what is kept,but for that slice
 have hown1:∀ b,cx.own g ((.o id,.none)::σ) b→cx.own g σ b∧blk (g id)≠some b:=by
  rintro b (h|⟨j,o,h1,h2⟩)
  ·
   refine⟨.inl h,fun hb=>?_⟩
   have h3:=obj_ge hs ho hb
   have h4:=hs.own0.1 b h
   omega
  ·
   by_cases hj:id=j
   ·
    subst hj;rw[get_cons_same]at h1;cases h1
   ·
    rw[get_cons_ne (by simpa using hj)]at h1
    exact⟨.inr ⟨j,o,h1,h2⟩,fun hb=>hj (hs.sep id j _ o b ho h1 hb h2)⟩
 have hw1:∀ b,with1 (cx.own g ((.o id,.none)::σ)) (g id) b→cx.own g σ b:=by
  rintro b (h|h)
  ·
   exact(hown1 b h).1
  ·
   exact .inr ⟨id,_,ho,h⟩
 have hcall:=hc.calls w (cx.own g ((.o id,.none)::σ)) (g id) (xs.map a.eval) ⟨fun b hb=>own_lt hs (hown1 b hb).1,hs.gl⟩ (hR.re (fun b _=>Nat.zero_le _) hw1) (fun b hb=>(hown1 b hb).2) ((hsub.ok hs hr.right.left).less hw1)
 unfold Oper.wp
 rw[call_run hc.run,List.map_cons,hval]
 refine hcall.mono fun r w' he=>?_
 obtain⟨v',rfl,hbb,hpl,hR'⟩:=he
 have hge:=hs.below.size
 have hbel:Below cx.w0.heap.size w w':=⟨hbb.os,hbb.tape,hbb.output,hbb.size,fun b hb=>hbb.block b (by omega) fun he=>by have:=obj_ge hs ho he;omega⟩
 have hext:Ext (cx.own g σ) w w':=⟨hbb.size,fun b hb hn=>hbb.block b hb fun he=>hn (.inr ⟨id,_,ho,he⟩)⟩
 have hback:∀ j o,j≠n'→get ((.o n',.ob (.arr e k rows'))::(.nx,.num (n'+1))::(.o id,.none)::σ) (.o j) = .ob o→j≠id∧get σ (.o j) = .ob o:=by
  intro j o1 hj h1
  rw[get_cons_ne (by simpa using fun e=>hj e.symm),get_cons_ne (by simp)]at h1
  by_cases he:id=j
  ·
   subst he;rw[get_cons_same]at h1;cases h1
  ·
   rw[get_cons_ne (by simpa using he)]at h1
   exact⟨fun e=>he e.symm,h1⟩
 have hownin:∀ b,cx.own (upd g n' v') ((.o n',.ob (.arr e k rows'))::(.nx,.num (n'+1))::(.o id,.none)::σ) b→with1 (cx.own g ((.o id,.none)::σ)) v' b:=by
  rintro b (h|⟨j,o,h1,h2⟩)
  ·
   exact .inl (.inl h)
  ·
   by_cases hj:j=n'
   ·
    subst hj;rw[upd_same]at h2;exact .inr h2
   ·
    rw[upd_ne hj]at h2
    obtain⟨h3,h4⟩:=hback j o hj h1
    exact .inl (.inr ⟨j,o,(get_cons_ne (by simpa using fun e=>h3 e.symm)).trans h4,h2⟩)
 have hl:Later cx g (upd g n' v') σ ((.o n',.ob (.arr e k rows'))::(.nx,.num (n'+1))::(.o id,.none)::σ) w w' n':=by
  refine⟨hext,hbel,fun b hb=>?_,fun j o1 hj h1=>?_⟩
  ·
   rcases hownin b hb with h|h
   ·
    exact .inl (hown1 b h).1
   ·
    rcases hpl b h with h|h
    ·
     exact .inl (.inr ⟨id,_,ho,h⟩)
    ·
     exact .inr h
  ·
   have hjn:j≠n':=by omega
   refine⟨o1,(hback j o1 hjn h1).2,?_⟩
   cases o1 <;> simp[ObLe,upd_ne hjn]
 have hG:SimG cx ((.o n',.ob (.arr e k rows'))::(.nx,.num (n'+1))::(.o id,.none)::σ) a w' (upd g n' v') (n'+1):=by
  refine hs.next hl (by rw[get_cons_ne (by simp),get_cons_same]) (Nat.le_succ _) hs.size hs.defers hbel (fun j av hj => .inl ⟨?_,rfl⟩) (fun j o1 hj=>?_) (fun j j' o1 o2 b h1 h2 h3 h4=>?_)
  ·
   rw[get_cons_ne (by simp),get_cons_ne (by simp),get_cons_ne (by simp)]at hj;exact hj
  ·
   by_cases hjn:j=n'
   ·
    subst hjn
    rw[get_cons_same]at hj
    cases hj
    refine .inr ⟨Nat.lt_succ_self _,?_,trivial⟩
    show RowsAt w' cx.w0.heap.size _ e k (upd g j v' j) rows'
    rw[upd_same]
    refine hR'.re (fun b hb=>?_) hownin
    rcases hpl b hb with h|h
    ·
     exact(hR.lt h).1
    ·
     omega
   ·
    obtain⟨h5,h6⟩:=hback j o1 hjn hj
    exact .inl ⟨h6,upd_ne hjn,fun b hb=>hbb.block b (own_lt hs (.inr ⟨j,o1,h6,hb⟩)) fun he=>h5 (hs.sep j id o1 _ b h6 ho hb he)⟩
  ·
   have hone:∀ j o1,j≠n'→get ((.o n',.ob (.arr e k rows'))::(.nx,.num (n'+1))::(.o id,.none)::σ) (.o j) = .ob o1→blk (upd g n' v' j)=some b→blk v'=some b→False:=by
    intro j o1 hj hj1 hjb hvb
    rw[upd_ne hj]at hjb
    obtain⟨h5,h6⟩:=hback j o1 hj hj1
    rcases hpl b hvb with h|h
    ·
     exact h5 (hs.sep j id o1 _ b h6 ho hjb h)
    ·
     have:=own_lt hs (.inr ⟨j,o1,h6,hjb⟩);omega
   by_cases he:j=n'
   ·
    by_cases he':j'=n'
    ·
     rw[he,he']
    ·
     subst he;rw[upd_same]at h3;exact(hone j' o2 he' h2 h4 h3).elim
   ·
    by_cases he':j'=n'
    ·
     subst he';rw[upd_same]at h4;exact(hone j o1 he h1 h3 h4).elim
    ·
     obtain⟨_,h6⟩:=hback j o1 he h1
     obtain⟨_,h8⟩:=hback j' o2 he' h2
     rw[upd_ne he]at h3
     rw[upd_ne he']at h4
     exact hs.sep j j' o1 o2 b h6 h8 h3 h4
 refine hK _ _ (Sim.put hG hd (Below.refl _ _) ?_ (Nat.lt_succ_self _))
 refine⟨.of get_cons_same,fun e' k' rows'' hg=>?_⟩
 rw[get_cons_same]at hg
 cases hg
 exact⟨Nat.le_refl _,fun _=>by rw[upd_same]⟩
theorem a_upd {f:FuncId}{x:Operand}{xs:List Operand}{avs:List AV}{ys:List Arg}{l:List (Key×Val)}{e k id n:Nat}{rows rows':List (List D)}{ats:Array TypeId}
  (hc:FnUpd cx.P f e k rows ys rows') (hx:ev σ x=some (.own id n)) (ho:get σ (.o id) = .ob (.arr e k rows)) (hnx:get σ .nx = .num nx) (hn:n=rows.length) (hd:Nat.blt d cx.n=true) (hsub:SubsE σ xs avs ys l) :
  OA cx σ ⟨some d,.call { callee := .value (.func f),args:=⟨x::xs⟩,argTypes:=ats },ty,pos,af,gd⟩ ⟨rdOf x (.own id n)++(l++[(.o id,.ob (.arr e k rows)),(.nx,.num nx)]),[(.s d,.av (.own nx rows'.length)),(.o nx,.ob (.arr e k rows')),(.nx,.num (nx+1)),(.o id,.none)]⟩ :=
 ⟨ok_upd (lt_of_blt hd) hc (ev_out hx).1 hn hsub.out.1,(ev_out hx).2.append (hsub.out.2.append ⟨ho,hnx,trivial⟩)⟩
end Go.AX
namespace Go.Proofs.YtngnajknbeijjaaGreatDoor
open Go.AX
def tbl:Tbl:=[
 (1,⟨1,8,[.nilFunc],.one⟩),
 (2,⟨1,8,[.int .i64 0],.int .i64⟩),
 (3,⟨1,8,[.int .i64 0],.int .i64⟩),
 (4,⟨1,1,[.bool false],.bool⟩),
 (5,⟨1,1,[.int .u8 0],.int .u8⟩),
 (9,⟨1,16,[.string ⟨#[]⟩],.str⟩),
 (12,⟨1,8,[.int .u64 0],.int .u64⟩),
 (13,⟨2,24,[.string ⟨#[]⟩,.int .u64 0],.st [(0,1),(1,1)]⟩),
 (21,⟨1,4,[.int .i32 0],.int .i32⟩),
 (22,⟨1,24,[.slice none 0 0],.sl 70 2⟩),
 (23,⟨1,24,[.slice none 0 0],.sl 70 2⟩),
 (24,⟨1,24,[.slice none 0 0],.sl 26 1⟩),
 (25,⟨1,24,[.slice none 0 0],.sl 3 1⟩),
 (26,⟨1,24,[.slice none 0 0],.sl 42 3⟩),
 (27,⟨1,8,[.int .i64 0],.int .i64⟩),
 (28,⟨1,8,[.nilFunc],.one⟩),
 (29,⟨1,8,[.nilFunc],.one⟩),
 (30,⟨1,24,[.slice none 0 0],.sl 80 2⟩),
 (31,⟨1,24,[.slice none 0 0],.sl 86 5⟩),
 (32,⟨5,104,[.slice none 0 0,.slice none 0 0,.slice none 0 0,.slice none 0 0,.int .i64 0],.st [(0,1),(1,1),(2,1),(3,1),(4,1)]⟩),
 (33,⟨5,104,[.slice none 0 0,.slice none 0 0,.slice none 0 0,.slice none 0 0,.int .i64 0],.st [(0,1),(1,1),(2,1),(3,1),(4,1)]⟩),
 (34,⟨1,8,[.nilFunc],.one⟩),
 (35,⟨1,8,[.nilFunc],.one⟩),
 (37,⟨1,8,[.nilFunc],.one⟩),
 (38,⟨1,8,[.nilFunc],.one⟩),
 (39,⟨1,24,[.slice none 0 0],.sl 9 1⟩),
 (40,⟨1,24,[.slice none 0 0],.sl 115 5⟩),
 (41,⟨3,72,[.slice none 0 0,.slice none 0 0,.slice none 0 0],.st [(0,1),(1,1),(2,1)]⟩),
 (42,⟨3,72,[.slice none 0 0,.slice none 0 0,.slice none 0 0],.st [(0,1),(1,1),(2,1)]⟩),
 (43,⟨1,8,[.nilFunc],.one⟩),
 (44,⟨1,8,[.nilFunc],.one⟩),
 (45,⟨1,8,[.nilFunc],.one⟩),
 (46,⟨1,8,[.nilFunc],.one⟩),
 (47,⟨1,8,[.nilFunc],.one⟩),
 (48,⟨1,24,[.slice none 0 0],.sl 50 2⟩),
 (49,⟨2,32,[.int .i64 0,.slice none 0 0],.st [(0,1),(1,1)]⟩),
 (50,⟨2,32,[.int .i64 0,.slice none 0 0],.st [(0,1),(1,1)]⟩),
 (51,⟨7,136,[.slice none 0 0,.slice none 0 0,.slice none 0 0,.slice none 0 0,.int .i64 0,.int .i64 0,.slice none 0 0],.st [(0,5),(5,1),(6,1)]⟩),
 (52,⟨7,136,[.slice none 0 0,.slice none 0 0,.slice none 0 0,.slice none 0 0,.int .i64 0,.int .i64 0,.slice none 0 0],.st [(0,5),(5,1),(6,1)]⟩),
 (53,⟨1,8,[.nilFunc],.one⟩),
 (54,⟨1,8,[.nilFunc],.one⟩),
 (55,⟨1,8,[.nilFunc],.one⟩),
 (56,⟨1,8,[.nilFunc],.one⟩),
 (57,⟨1,8,[.nilFunc],.one⟩),
 (59,⟨1,8,[.nilFunc],.one⟩),
 (60,⟨1,8,[.nilFunc],.one⟩),
 (61,⟨1,8,[.nilFunc],.one⟩),
 (62,⟨1,8,[.nilFunc],.one⟩),
 (64,⟨1,8,[.nilFunc],.one⟩),
 (65,⟨1,8,[.nilFunc],.one⟩),
 (66,⟨1,8,[.nilFunc],.one⟩),
 (67,⟨1,8,[.nilFunc],.one⟩),
 (68,⟨1,8,[.nilFunc],.one⟩),
 (69,⟨2,24,[.string ⟨#[]⟩,.int .i64 0],.st [(0,1),(1,1)]⟩),
 (70,⟨2,24,[.string ⟨#[]⟩,.int .i64 0],.st [(0,1),(1,1)]⟩),
 (71,⟨1,8,[.nilFunc],.one⟩),
 (72,⟨1,8,[.nilFunc],.one⟩),
 (73,⟨1,8,[.nilFunc],.one⟩),
 (74,⟨1,8,[.nilFunc],.one⟩),
 (75,⟨1,8,[.nilFunc],.one⟩),
 (76,⟨4,24,[.int .i64 0,.bool false,.bool false,.int .i64 0],.st [(0,1),(1,1),(2,1),(3,1)]⟩),
 (77,⟨4,24,[.int .i64 0,.bool false,.bool false,.int .i64 0],.st [(0,1),(1,1),(2,1),(3,1)]⟩),
 (78,⟨1,24,[.slice none 0 0],.sl 77 4⟩),
 (79,⟨2,40,[.string ⟨#[]⟩,.slice none 0 0],.st [(0,1),(1,1)]⟩),
 (80,⟨2,40,[.string ⟨#[]⟩,.slice none 0 0],.st [(0,1),(1,1)]⟩),
 (81,⟨1,8,[.nilFunc],.one⟩),
 (82,⟨1,8,[.nilFunc],.one⟩),
 (83,⟨1,8,[.nilFunc],.one⟩),
 (84,⟨4,32,[.int .i64 0,.int .i64 0,.int .i64 0,.int .i64 0],.arr 4 3 1⟩),
 (85,⟨5,40,[.bool false,.int .i64 0,.int .i64 0,.int .i64 0,.int .i64 0],.st [(0,1),(1,4)]⟩),
 (86,⟨5,40,[.bool false,.int .i64 0,.int .i64 0,.int .i64 0,.int .i64 0],.st [(0,1),(1,4)]⟩),
 (87,⟨1,8,[.nilFunc],.one⟩),
 (88,⟨1,8,[.nilFunc],.one⟩),
 (89,⟨1,8,[.nilFunc],.one⟩),
 (90,⟨1,8,[.nilFunc],.one⟩),
 (91,⟨1,8,[.nilFunc],.one⟩),
 (92,⟨1,8,[.nilFunc],.one⟩),
 (93,⟨1,8,[.nilFunc],.one⟩),
 (94,⟨1,8,[.nilFunc],.one⟩),
 (95,⟨1,8,[.nilFunc],.one⟩),
 (96,⟨1,8,[.nilFunc],.one⟩),
 (97,⟨1,8,[.nilFunc],.one⟩),
 (98,⟨1,8,[.nilFunc],.one⟩),
 (99,⟨1,8,[.nilFunc],.one⟩),
 (100,⟨1,8,[.pointer none],.one⟩),
 (101,⟨1,8,[.nilFunc],.one⟩),
 (102,⟨1,8,[.nilFunc],.one⟩),
 (104,⟨1,8,[.nilFunc],.one⟩),
 (106,⟨1,8,[.nilFunc],.one⟩),
 (107,⟨1,8,[.nilFunc],.one⟩),
 (108,⟨1,8,[.nilFunc],.one⟩),
 (110,⟨1,8,[.nilFunc],.one⟩),
 (111,⟨1,8,[.nilFunc],.one⟩),
 (112,⟨1,24,[.slice none 0 0],.sl 39 1⟩),
 (113,⟨1,8,[.nilFunc],.one⟩),
 (114,⟨5,48,[.int .i64 0,.int .i64 0,.int .i64 0,.int .i64 0,.string ⟨#[]⟩],.st [(0,1),(1,1),(2,1),(3,1),(4,1)]⟩),
 (115,⟨5,48,[.int .i64 0,.int .i64 0,.int .i64 0,.int .i64 0,.string ⟨#[]⟩],.st [(0,1),(1,1),(2,1),(3,1),(4,1)]⟩),
 (116,⟨1,8,[.nilFunc],.one⟩),
 (117,⟨1,8,[.pointer none],.one⟩),
 (118,⟨1,8,[.nilFunc],.one⟩),
 (119,⟨1,8,[.nilFunc],.one⟩),
 (120,⟨1,8,[.nilFunc],.one⟩),
 (121,⟨1,8,[.nilFunc],.one⟩),
 (122,⟨1,8,[.nilFunc],.one⟩),
 (123,⟨1,8,[.nilFunc],.one⟩),
 (124,⟨1,8,[.nilFunc],.one⟩),
 (125,⟨1,8,[.nilFunc],.one⟩),
 (126,⟨1,8,[.nilFunc],.one⟩),
 (127,⟨1,8,[.nilFunc],.one⟩),
 (128,⟨1,8,[.nilFunc],.one⟩),
 (129,⟨1,8,[.int .u64 0],.int .u64⟩),
 (130,⟨1,8,[.nilFunc],.one⟩),
 (131,⟨1,8,[.nilFunc],.one⟩),
 (132,⟨1,8,[.nilFunc],.one⟩),
 (134,⟨1,8,[.nilFunc],.one⟩),
 (135,⟨1,8,[.nilFunc],.one⟩),
 (136,⟨1,8,[.nilFunc],.one⟩),
 (137,⟨1,8,[.nilFunc],.one⟩),
 (138,⟨1,8,[.nilFunc],.one⟩),
 (139,⟨1,8,[.nilFunc],.one⟩),
 (140,⟨1,8,[.nilFunc],.one⟩),
 (141,⟨1,8,[.nilFunc],.one⟩),
 (142,⟨1,8,[.nilFunc],.one⟩),
 (143,⟨1,8,[.int .i64 0],.int .i64⟩),
 (145,⟨1,8,[.nilFunc],.one⟩),
 (146,⟨1,8,[.nilFunc],.one⟩),
 (147,⟨1,8,[.nilFunc],.one⟩),
 (148,⟨1,8,[.nilFunc],.one⟩),
 (149,⟨1,8,[.nilFunc],.one⟩),
 (150,⟨1,8,[.nilFunc],.one⟩),
 (151,⟨1,4,[.int .u32 0],.int .u32⟩),
 (152,⟨1,8,[.nilFunc],.one⟩),
 (153,⟨1,8,[.int .u64 0],.int .u64⟩),
 (154,⟨1,8,[.nilFunc],.one⟩),
 (155,⟨1,8,[.map none],.one⟩),
 (156,⟨2,16,[.bool false,.int .i64 0],.st [(0,1),(1,1)]⟩),
 (157,⟨2,16,[.bool false,.int .i64 0],.st [(0,1),(1,1)]⟩),
 (159,⟨1,8,[.nilFunc],.one⟩),
 (160,⟨1,8,[.pointer none],.one⟩),
 (161,⟨1,8,[.nilFunc],.one⟩),
 (162,⟨1,8,[.int .u64 0],.int .u64⟩),
 (163,⟨1,8,[.nilFunc],.one⟩),
 (164,⟨1,8,[.nilFunc],.one⟩),
 (165,⟨1,8,[.nilFunc],.one⟩),
 (166,⟨1,8,[.pointer none],.one⟩),
 (167,⟨1,8,[.nilFunc],.one⟩),
 (168,⟨1,8,[.nilFunc],.one⟩),
 (169,⟨1,8,[.nilFunc],.one⟩),
 (170,⟨256,256,[.bool false,.bool false,.bool false,.bool false,.bool false,.bool false,.bool false,.bool false,.bool false,.bool false,.bool false,.bool false,.bool false,.bool false,.bool false,.bool false,.bool false,.bool false,.bool false,.bool false,.bool false,.bool false,.bool false,.bool false,.bool false,.bool false,.bool false,.bool false,.bool false,.bool false,.bool false,.bool false,.bool false,.bool false,.bool false,.bool false,.bool false,.bool false,.bool false,.bool false,.bool false,.bool false,.bool false,.bool false,.bool false,.bool false,.bool false,.bool false,.bool false,.bool false,.bool false,.bool false,.bool false,.bool false,.bool false,.bool false,.bool false,.bool false,.bool false,.bool false,.bool false,.bool false,.bool false,.bool false,.bool false,.bool false,.bool false,.bool false,.bool false,.bool false,.bool false,.bool false,.bool false,.bool false,.bool false,.bool false,.bool false,.bool false,.bool false,.bool false,.bool false,.bool false,.bool false,.bool false,.bool false,.bool false,.bool false,.bool false,.bool false,.bool false,.bool false,.bool false,.bool false,.bool false,.bool false,.bool false,.bool false,.bool false,.bool false,.bool false,.bool false,.bool false,.bool false,.bool false,.bool false,.bool false,.bool false,.bool false,.bool false,.bool false,.bool false,.bool false,.bool false,.bool false,.bool false,.bool false,.bool false,.bool false,.bool false,.bool false,.bool false,.bool false,.bool false,.bool false,.bool false,.bool false,.bool false,.bool false,.bool false,.bool false,.bool false,.bool false,.bool false,.bool false,.bool false,.bool false,.bool false,.bool false,.bool false,.bool false,.bool false,.bool false,.bool false,.bool false,.bool false,.bool false,.bool false,.bool false,.bool false,.bool false,.bool false,.bool false,.bool false,.bool false,.bool false,.bool false,.bool false,.bool false,.bool false,.bool false,.bool false,.bool false,.bool false,.bool false,.bool false,.bool false,.bool false,.bool false,.bool false,.bool false,.bool false,.bool false,.bool false,.bool false,.bool false,.bool false,.bool false,.bool false,.bool false,.bool false,.bool false,.bool false,.bool false,.bool false,.bool false,.bool false,.bool false,.bool false,.bool false,.bool false,.bool false,.bool false,.bool false,.bool false,.bool false,.bool false,.bool false,.bool false,.bool false,.bool false,.bool false,.bool false,.bool false,.bool false,.bool false,.bool false,.bool false,.bool false,.bool false,.bool false,.bool false,.bool false,.bool false,.bool false,.bool false,.bool false,.bool false,.bool false,.bool false,.bool false,.bool false,.bool false,.bool false,.bool false,.bool false,.bool false,.bool false,.bool false,.bool false,.bool false,.bool false,.bool false,.bool false,.bool false,.bool false,.bool false,.bool false,.bool false,.bool false,.bool false,.bool false,.bool false,.bool false,.bool false,.bool false,.bool false,.bool false,.bool false,.bool false,.bool false,.bool false,.bool false,.bool false,.bool false,.bool false,.bool false],.arr 256 4 1⟩),
 (171,⟨256,256,[.bool false,.bool false,.bool false,.bool false,.bool false,.bool false,.bool false,.bool false,.bool false,.bool false,.bool false,.bool false,.bool false,.bool false,.bool false,.bool false,.bool false,.bool false,.bool false,.bool false,.bool false,.bool false,.bool false,.bool false,.bool false,.bool false,.bool false,.bool false,.bool false,.bool false,.bool false,.bool false,.bool false,.bool false,.bool false,.bool false,.bool false,.bool false,.bool false,.bool false,.bool false,.bool false,.bool false,.bool false,.bool false,.bool false,.bool false,.bool false,.bool false,.bool false,.bool false,.bool false,.bool false,.bool false,.bool false,.bool false,.bool false,.bool false,.bool false,.bool false,.bool false,.bool false,.bool false,.bool false,.bool false,.bool false,.bool false,.bool false,.bool false,.bool false,.bool false,.bool false,.bool false,.bool false,.bool false,.bool false,.bool false,.bool false,.bool false,.bool false,.bool false,.bool false,.bool false,.bool false,.bool false,.bool false,.bool false,.bool false,.bool false,.bool false,.bool false,.bool false,.bool false,.bool false,.bool false,.bool false,.bool false,.bool false,.bool false,.bool false,.bool false,.bool false,.bool false,.bool false,.bool false,.bool false,.bool false,.bool false,.bool false,.bool false,.bool false,.bool false,.bool false,.bool false,.bool false,.bool false,.bool false,.bool false,.bool false,.bool false,.bool false,.bool false,.bool false,.bool false,.bool false,.bool false,.bool false,.bool false,.bool false,.bool false,.bool false,.bool false,.bool false,.bool false,.bool false,.bool false,.bool false,.bool false,.bool false,.bool false,.bool false,.bool false,.bool false,.bool false,.bool false,.bool false,.bool false,.bool false,.bool false,.bool false,.bool false,.bool false,.bool false,.bool false,.bool false,.bool false,.bool false,.bool false,.bool false,.bool false,.bool false,.bool false,.bool false,.bool false,.bool false,.bool false,.bool false,.bool false,.bool false,.bool false,.bool false,.bool false,.bool false,.bool false,.bool false,.bool false,.bool false,.bool false,.bool false,.bool false,.bool false,.bool false,.bool false,.bool false,.bool false,.bool false,.bool false,.bool false,.bool false,.bool false,.bool false,.bool false,.bool false,.bool false,.bool false,.bool false,.bool false,.bool false,.bool false,.bool false,.bool false,.bool false,.bool false,.bool false,.bool false,.bool false,.bool false,.bool false,.bool false,.bool false,.bool false,.bool false,.bool false,.bool false,.bool false,.bool false,.bool false,.bool false,.bool false,.bool false,.bool false,.bool false,.bool false,.bool false,.bool false,.bool false,.bool false,.bool false,.bool false,.bool false,.bool false,.bool false,.bool false,.bool false,.bool false,.bool false,.bool false,.bool false,.bool false,.bool false,.bool false,.bool false,.bool false,.bool false,.bool false,.bool false,.bool false,.bool false,.bool false,.bool false,.bool false,.bool false,.bool false,.bool false,.bool false,.bool false],.arr 256 4 1⟩),
 (173,⟨1,8,[.nilFunc],.one⟩),
 (174,⟨1,8,[.nilFunc],.one⟩),
 (175,⟨1,8,[.pointer none],.one⟩),
 (176,⟨1,8,[.nilFunc],.one⟩),
 (177,⟨1,8,[.pointer none],.one⟩),
 (179,⟨1,8,[.nilFunc],.one⟩),
 (180,⟨1,8,[.nilFunc],.one⟩),
 (182,⟨1,8,[.nilFunc],.one⟩),
 (183,⟨1,8,[.nilFunc],.one⟩),
 (184,⟨1,8,[.nilFunc],.one⟩),
 (185,⟨256,256,[.int .u8 0,.int .u8 0,.int .u8 0,.int .u8 0,.int .u8 0,.int .u8 0,.int .u8 0,.int .u8 0,.int .u8 0,.int .u8 0,.int .u8 0,.int .u8 0,.int .u8 0,.int .u8 0,.int .u8 0,.int .u8 0,.int .u8 0,.int .u8 0,.int .u8 0,.int .u8 0,.int .u8 0,.int .u8 0,.int .u8 0,.int .u8 0,.int .u8 0,.int .u8 0,.int .u8 0,.int .u8 0,.int .u8 0,.int .u8 0,.int .u8 0,.int .u8 0,.int .u8 0,.int .u8 0,.int .u8 0,.int .u8 0,.int .u8 0,.int .u8 0,.int .u8 0,.int .u8 0,.int .u8 0,.int .u8 0,.int .u8 0,.int .u8 0,.int .u8 0,.int .u8 0,.int .u8 0,.int .u8 0,.int .u8 0,.int .u8 0,.int .u8 0,.int .u8 0,.int .u8 0,.int .u8 0,.int .u8 0,.int .u8 0,.int .u8 0,.int .u8 0,.int .u8 0,.int .u8 0,.int .u8 0,.int .u8 0,.int .u8 0,.int .u8 0,.int .u8 0,.int .u8 0,.int .u8 0,.int .u8 0,.int .u8 0,.int .u8 0,.int .u8 0,.int .u8 0,.int .u8 0,.int .u8 0,.int .u8 0,.int .u8 0,.int .u8 0,.int .u8 0,.int .u8 0,.int .u8 0,.int .u8 0,.int .u8 0,.int .u8 0,.int .u8 0,.int .u8 0,.int .u8 0,.int .u8 0,.int .u8 0,.int .u8 0,.int .u8 0,.int .u8 0,.int .u8 0,.int .u8 0,.int .u8 0,.int .u8 0,.int .u8 0,.int .u8 0,.int .u8 0,.int .u8 0,.int .u8 0,.int .u8 0,.int .u8 0,.int .u8 0,.int .u8 0,.int .u8 0,.int .u8 0,.int .u8 0,.int .u8 0,.int .u8 0,.int .u8 0,.int .u8 0,.int .u8 0,.int .u8 0,.int .u8 0,.int .u8 0,.int .u8 0,.int .u8 0,.int .u8 0,.int .u8 0,.int .u8 0,.int .u8 0,.int .u8 0,.int .u8 0,.int .u8 0,.int .u8 0,.int .u8 0,.int .u8 0,.int .u8 0,.int .u8 0,.int .u8 0,.int .u8 0,.int .u8 0,.int .u8 0,.int .u8 0,.int .u8 0,.int .u8 0,.int .u8 0,.int .u8 0,.int .u8 0,.int .u8 0,.int .u8 0,.int .u8 0,.int .u8 0,.int .u8 0,.int .u8 0,.int .u8 0,.int .u8 0,.int .u8 0,.int .u8 0,.int .u8 0,.int .u8 0,.int .u8 0,.int .u8 0,.int .u8 0,.int .u8 0,.int .u8 0,.int .u8 0,.int .u8 0,.int .u8 0,.int .u8 0,.int .u8 0,.int .u8 0,.int .u8 0,.int .u8 0,.int .u8 0,.int .u8 0,.int .u8 0,.int .u8 0,.int .u8 0,.int .u8 0,.int .u8 0,.int .u8 0,.int .u8 0,.int .u8 0,.int .u8 0,.int .u8 0,.int .u8 0,.int .u8 0,.int .u8 0,.int .u8 0,.int .u8 0,.int .u8 0,.int .u8 0,.int .u8 0,.int .u8 0,.int .u8 0,.int .u8 0,.int .u8 0,.int .u8 0,.int .u8 0,.int .u8 0,.int .u8 0,.int .u8 0,.int .u8 0,.int .u8 0,.int .u8 0,.int .u8 0,.int .u8 0,.int .u8 0,.int .u8 0,.int .u8 0,.int .u8 0,.int .u8 0,.int .u8 0,.int .u8 0,.int .u8 0,.int .u8 0,.int .u8 0,.int .u8 0,.int .u8 0,.int .u8 0,.int .u8 0,.int .u8 0,.int .u8 0,.int .u8 0,.int .u8 0,.int .u8 0,.int .u8 0,.int .u8 0,.int .u8 0,.int .u8 0,.int .u8 0,.int .u8 0,.int .u8 0,.int .u8 0,.int .u8 0,.int .u8 0,.int .u8 0,.int .u8 0,.int .u8 0,.int .u8 0,.int .u8 0,.int .u8 0,.int .u8 0,.int .u8 0,.int .u8 0,.int .u8 0,.int .u8 0,.int .u8 0,.int .u8 0,.int .u8 0,.int .u8 0,.int .u8 0,.int .u8 0,.int .u8 0,.int .u8 0,.int .u8 0,.int .u8 0,.int .u8 0,.int .u8 0,.int .u8 0,.int .u8 0,.int .u8 0,.int .u8 0,.int .u8 0,.int .u8 0],.arr 256 5 1⟩),
 (186,⟨2,2,[.int .u8 0,.int .u8 0],.st [(0,1),(1,1)]⟩),
 (187,⟨2,2,[.int .u8 0,.int .u8 0],.st [(0,1),(1,1)]⟩),
 (188,⟨32,32,[.int .u8 0,.int .u8 0,.int .u8 0,.int .u8 0,.int .u8 0,.int .u8 0,.int .u8 0,.int .u8 0,.int .u8 0,.int .u8 0,.int .u8 0,.int .u8 0,.int .u8 0,.int .u8 0,.int .u8 0,.int .u8 0,.int .u8 0,.int .u8 0,.int .u8 0,.int .u8 0,.int .u8 0,.int .u8 0,.int .u8 0,.int .u8 0,.int .u8 0,.int .u8 0,.int .u8 0,.int .u8 0,.int .u8 0,.int .u8 0,.int .u8 0,.int .u8 0],.arr 16 187 2⟩),
 (189,⟨1,8,[.nilFunc],.one⟩),
 (190,⟨1,8,[.nilFunc],.one⟩),
 (191,⟨1,8,[.nilFunc],.one⟩),
 (197,⟨1,8,[.nilFunc],.one⟩),
 (200,⟨1,8,[.nilFunc],.one⟩),
 (201,⟨1,8,[.pointer none],.one⟩)]
theorem tbl_b:tblB Go.Proofs.Tryz.prog tbl=true:=by kernel_rfl
theorem tbl_ok:TOk Go.Proofs.Tryz.prog tbl:=tok_of tbl_b
theorem mixed_ok:Go.Proofs.Tryz.prog.follows .mixedOrders=true:=by kernel_rfl
end Go.Proofs.YtngnajknbeijjaaGreatDoor
namespace Go.Proofs.YtngnajknbeijjaaGreatDoor
open Go.AX Go.RF
set_option maxRecDepth 100000
set_option maxHeartbeats 4000000
theorem new_clone_version (rows:List (List D)) (hl:rows.length≤536870912):FnNew Tryz.prog 79 [.d (.sl 4 rows)] 77 4 rows:=by
 refine fnNew_of tbl_ok mixed_ok Tryz.func79 rfl (by kernel_rfl) rfl rfl fun w0 own0=>?_
 cases rows with
 |nil =>
  refine CW.empty 0 rfl fun p cp=>?_
  cases p with
  |none =>
   try refine wk ?_
   exact RetNew.nil rfl rfl
  |some ad =>
   have hst0:StopR 3:=⟨rfl⟩
   try refine wkS ?_
   clear hst0
   refine Stop.go (CW.stut (stut_nilv (i:=0) (k:=4)) ⟨rfl,trivial⟩ ?_)
   try refine wk ?_
   exact RetNew.own rfl rfl rfl
 |cons r rows =>
  have hl2:rows.length≤536870911:=by simp at hl;omega
  try refine wk ?_
  exact RetNew.own rfl rfl (by simp)
theorem ok_clone_version (rows:List (List D)) (hl:rows.length≤536870912):FnOk Tryz.prog 79 [.d (.sl 4 rows)] (.one (.sl 4 rows)):=(new_clone_version rows hl).ok
theorem new_clone_int (rows:List (List D)) (hl:rows.length≤536870912):FnNew Tryz.prog 46 [.d (.sl 1 rows)] 3 1 rows:=by
 refine fnNew_of tbl_ok mixed_ok Tryz.func46 rfl (by kernel_rfl) rfl rfl fun w0 own0=>?_
 cases rows with
 |nil =>
  refine CW.empty 0 rfl fun p cp=>?_
  cases p with
  |none =>
   try refine wk ?_
   exact RetNew.nil rfl rfl
  |some ad =>
   have hst0:StopR 3:=⟨rfl⟩
   try refine wkS ?_
   clear hst0
   refine Stop.go (CW.stut (stut_nilv (i:=0) (k:=1)) ⟨rfl,trivial⟩ ?_)
   try refine wk ?_
   exact RetNew.own rfl rfl rfl
 |cons r rows =>
  have hl2:rows.length≤536870911:=by simp at hl;omega
  try refine wk ?_
  exact RetNew.own rfl rfl (by simp)
theorem ok_clone_int (rows:List (List D)) (hl:rows.length≤536870912):FnOk Tryz.prog 46 [.d (.sl 1 rows)] (.one (.sl 1 rows)):=(new_clone_int rows hl).ok
theorem new_clone_done (rows:List (List D)) (hl:rows.length≤536870912):FnNew Tryz.prog 47 [.d (.sl 5 rows)] 86 5 rows:=by
 refine fnNew_of tbl_ok mixed_ok Tryz.func47 rfl (by kernel_rfl) rfl rfl fun w0 own0=>?_
 cases rows with
 |nil =>
  refine CW.empty 0 rfl fun p cp=>?_
  cases p with
  |none =>
   try refine wk ?_
   exact RetNew.nil rfl rfl
  |some ad =>
   have hst0:StopR 3:=⟨rfl⟩
   try refine wkS ?_
   clear hst0
   refine Stop.go (CW.stut (stut_nilv (i:=0) (k:=5)) ⟨rfl,trivial⟩ ?_)
   try refine wk ?_
   exact RetNew.own rfl rfl rfl
 |cons r rows =>
  have hl2:rows.length≤536870911:=by simp at hl;omega
  try refine wk ?_
  exact RetNew.own rfl rfl (by simp)
theorem ok_clone_done (rows:List (List D)) (hl:rows.length≤536870912):FnOk Tryz.prog 47 [.d (.sl 5 rows)] (.one (.sl 5 rows)):=(new_clone_done rows hl).ok
theorem new_clone_str (rows:List (List D)) (hl:rows.length≤536870912):FnNew Tryz.prog 52 [.d (.sl 1 rows)] 9 1 rows:=by
 refine fnNew_of tbl_ok mixed_ok Tryz.func52 rfl (by kernel_rfl) rfl rfl fun w0 own0=>?_
 cases rows with
 |nil =>
  refine CW.empty 0 rfl fun p cp=>?_
  cases p with
  |none =>
   try refine wk ?_
   exact RetNew.nil rfl rfl
  |some ad =>
   have hst0:StopR 3:=⟨rfl⟩
   try refine wkS ?_
   clear hst0
   refine Stop.go (CW.stut (stut_nilv (i:=0) (k:=1)) ⟨rfl,trivial⟩ ?_)
   try refine wk ?_
   exact RetNew.own rfl rfl rfl
 |cons r rows =>
  have hl2:rows.length≤536870911:=by simp at hl;omega
  try refine wk ?_
  exact RetNew.own rfl rfl (by simp)
theorem ok_clone_str (rows:List (List D)) (hl:rows.length≤536870912):FnOk Tryz.prog 52 [.d (.sl 1 rows)] (.one (.sl 1 rows)):=(new_clone_str rows hl).ok
theorem new_clone_ins (rows:List (List D)) (hl:rows.length≤536870912):FnNew Tryz.prog 76 [.d (.sl 5 rows)] 115 5 rows:=by
 refine fnNew_of tbl_ok mixed_ok Tryz.func76 rfl (by kernel_rfl) rfl rfl fun w0 own0=>?_
 cases rows with
 |nil =>
  refine CW.empty 0 rfl fun p cp=>?_
  cases p with
  |none =>
   try refine wk ?_
   exact RetNew.nil rfl rfl
  |some ad =>
   have hst0:StopR 3:=⟨rfl⟩
   try refine wkS ?_
   clear hst0
   refine Stop.go (CW.stut (stut_nilv (i:=0) (k:=5)) ⟨rfl,trivial⟩ ?_)
   try refine wk ?_
   exact RetNew.own rfl rfl rfl
 |cons r rows =>
  have hl2:rows.length≤536870911:=by simp at hl;omega
  try refine wk ?_
  exact RetNew.own rfl rfl (by simp)
theorem ok_clone_ins (rows:List (List D)) (hl:rows.length≤536870912):FnOk Tryz.prog 76 [.d (.sl 5 rows)] (.one (.sl 5 rows)):=(new_clone_ins rows hl).ok
theorem eq_pair (a b:Pair) (w:World):(Op.equalIn 10000 70 (.agg #[str a.key,i64 a.n]) (.agg #[str b.key,i64 b.n])).run Tryz.prog w = .ok (decide (a=b)) w:=by
 rw[run_equalIn_agg (P:=Tryz.prog) w 9999 70 _ _ (by kernel_rfl) (by kernel_rfl)]
 obtain⟨k1,n1⟩:=a
 obtain⟨k2,n2⟩:=b
 simp only[Program.fieldsOf,Tryz.underlying70,Op.eqFields]
 simp[part,Tryz.isAgg9,Tryz.isAgg3,str,run_equalIn_string,run_equalIn_int,Tryz.underlying9,Tryz.underlying3]
 by_cases h1:k1=k2 <;> by_cases h2:n1=n2 <;> simp[h1,h2]
theorem eq_version (a b:Version) (w:World):(Op.equalIn 10000 77 (.agg #[i64 a.by_,.bool a.made,.bool a.has,i64 a.n]) (.agg #[i64 b.by_,.bool b.made,.bool b.has,i64 b.n])).run Tryz.prog w = .ok (decide (a=b)) w:=by
 rw[run_equalIn_agg (P:=Tryz.prog) w 9999 77 _ _ (by kernel_rfl) (by kernel_rfl)]
 obtain⟨k1,m1,h1,n1⟩:=a
 obtain⟨k2,m2,h2,n2⟩:=b
 simp only[Program.fieldsOf,Tryz.underlying77,Op.eqFields]
 simp[part,Tryz.isAgg4,Tryz.isAgg3,run_equalIn_bool',run_equalIn_int,Tryz.underlying4,Tryz.underlying3]
 by_cases e1:k1=k2 <;> by_cases e2:m1=m2 <;> by_cases e3:h1=h2 <;> by_cases e4:n1=n2 <;> simp[e1,e2,e3,e4]
theorem neq_pair (a b:Pair):BinR Tryz.prog .neq 70 (.agg #[str a.key,i64 a.n]) (.agg #[str b.key,i64 b.n]) (.bool (!decide (a=b))):=by
 intro w x y
 rw[Sem.run_bind,run_eqGuard_agg _ _ _ _ _ _ _ (by kernel_rfl),Result.andThen_ok,run_neq_struct,eq_pair]
 rfl
theorem neq_version (a b:Version):BinR Tryz.prog .neq 77 (.agg #[i64 a.by_,.bool a.made,.bool a.has,i64 a.n]) (.agg #[i64 b.by_,.bool b.made,.bool b.has,i64 b.n]) (.bool (!decide (a=b))):=by
 intro w x y
 rw[Sem.run_bind,run_eqGuard_agg _ _ _ _ _ _ _ (by kernel_rfl),Result.andThen_ok,run_neq_struct,eq_version]
 rfl
theorem ok_get (l:List Pair) (k:Str) (hl:l.length≤1073741824):FnOk Tryz.prog 64 [.d (encRows l),.d (dstr k)] (.tup [dint (RF.get l k).1,dbool (RF.get l k).2]):=by
 refine fnOk_of tbl_ok mixed_ok Tryz.func64 rfl (by kernel_rfl) rfl rfl fun w0 own0=>?_
 try refine wk ?_
 refine CW.loopT (fun i:Nat=>[(.s 1,.av (.d (dstr k))),(.s 8,.av (.d (encRows l))),(.s 9,.av (.d (dint l.length))),(.s 10,.av (.d (dint i))),(.nx,.num 0)]) (fun i=>i≤l.length∧RF.get (l.drop i) k=RF.get l k) (fun i=>l.length - i) 0 ⟨by omega,rfl⟩ ?_ fun i hI=>?_
 ·
  exact by_less
 ·
  obtain⟨hi,hI⟩:=hI
  rcases drop_case hi with ⟨h1,h2⟩|⟨p,h1,h2,h3⟩
  ·
   try refine wk ?_
   rw[h1]at hI
   rw[← hI]
   exact .two (.tmp rfl (.one (.d (.refl _)))) (.tmp rfl (.one (.d (.refl _))))
  ·
   rw[h1]at hI
   simp only[RF.get]at hI
   by_cases h4:p.key=k
   ·
    try refine wk ?_
    rw[if_pos h4]at hI
    rw[← hI]
    exact .two (.tmp rfl (.one (.d (.refl _)))) (.tmp rfl (.one (.d (.refl _))))
   ·
    try refine wk ?_
    rw[if_neg h4]at hI
    refine q_loopT (i+1) ⟨by omega,hI⟩ (by omega) ?_
    exact by_less
theorem ok_in (l:List Str) (k:Str) (hl:l.length≤1073741824):FnOk Tryz.prog 77 [.d (encStrs l),.d (dstr k)] (.one (dbool (isIn l k))):=by
 refine fnOk_of tbl_ok mixed_ok Tryz.func77 rfl (by kernel_rfl) rfl rfl fun w0 own0=>?_
 try refine wk ?_
 refine CW.loopT (fun i:Nat=>[(.s 1,.av (.d (dstr k))),(.s 7,.av (.d (encStrs l))),(.s 8,.av (.d (dint l.length))),(.s 9,.av (.d (dint i))),(.nx,.num 0)]) (fun i=>i≤l.length∧isIn (l.drop i) k=isIn l k) (fun i=>l.length - i) 0 ⟨by omega,rfl⟩ ?_ fun i hI=>?_
 ·
  exact by_less
 ·
  obtain⟨hi,hI⟩:=hI
  rcases drop_case hi with ⟨h1,h2⟩|⟨p,h1,h2,h3⟩
  ·
   try refine wk ?_
   rw[h1]at hI
   rw[← hI]
   exact .one (.tmp rfl (.one (.d (.refl _))))
  ·
   rw[h1]at hI
   simp only[isIn]at hI
   by_cases h4:p=k
   ·
    try refine wk ?_
    rw[if_pos h4]at hI
    rw[← hI]
    exact .one (.tmp rfl (.one (.d (.refl _))))
   ·
    try refine wk ?_
    rw[if_neg h4]at hI
    refine q_loopT (i+1) ⟨by omega,hI⟩ (by omega) ?_
    exact by_less
theorem ok_key (s:Str) (hl:s.length≤1073741824):FnOk Tryz.prog 35 [.d (dstr s)] (.one (dbool (key s))):=by
 refine fnOk_of tbl_ok mixed_ok Tryz.func35 rfl (by kernel_rfl) rfl rfl fun w0 own0=>?_
 try refine wk ?_
 refine CW.loopT (fun i:Nat=>[(.s 0,.av (.d (dstr s))),(.s 5,.av (.d (dint s.length))),(.s 6,.av (.d (dint i))),(.nx,.num 0)]) (fun i=>i≤s.length∧keyGo s (s.drop i)=key s) (fun i=>s.length - i) 0 ⟨by omega,rfl⟩ ?_ fun i hI=>?_
 ·
  exact by_less
 ·
  obtain⟨hi,hI⟩:=hI
  rcases drop_case hi with ⟨h1,h2⟩|⟨c,h1,h2,h3⟩
  ·
   rw[h1]at hI
   simp only[keyGo]at hI
   by_cases h4:0 < s.length
   ·
    try refine wk ?_
    exact .one (.tmp rfl (.one (.d (dle_bool (by rw[← hI];simp[h4];omega)))))
   ·
    try refine wk ?_
    exact .one (.tmp rfl (.one (.d (dle_bool (by rw[← hI];simp[h4])))))
  ·
   rw[h1]at hI
   simp only[keyGo]at hI
   by_cases h4:(c.toNat:Int) < 97
   ·
    try refine wk ?_
    rw[if_pos (by simp only[bad,h4];rfl)]at hI
    exact .one (.tmp rfl (.one (.d (dle_bool hI))))
   ·
    by_cases h5:(122:Int) < (c.toNat:Int)
    ·
     try refine wk ?_
     rw[if_pos (by simp[bad,h5])]at hI
     exact .one (.tmp rfl (.one (.d (dle_bool hI))))
    ·
     try refine wk ?_
     rw[if_neg (by simp[bad];omega)]at hI
     refine q_loopT (i+1) ⟨by omega,hI⟩ (by omega) ?_
     exact by_less
theorem ok_round (n:Int) (hn : -4611686018427387904≤n∧n≤4611686018427387904):FnOk Tryz.prog 90 [.d (dint n)] (.one (dint (round n))):=by
 refine fnOk_of tbl_ok mixed_ok Tryz.func90 rfl (by kernel_rfl) rfl rfl fun w0 own0=>?_
 have h1:n.tdiv 1073741825*1073741825+n.tmod 1073741825=n:=Int.tdiv_mul_add_tmod n 1073741825
 have h2:n.tmod 1073741825 < 1073741825:=Int.tmod_lt_of_pos n (by omega)
 have h3 : -1073741825 < n.tmod 1073741825:=by
  have:=Int.neg_le_neg (Int.le_of_lt (Int.tmod_lt_of_pos (-n) (show(0:Int) < 1073741825 by omega)))
  have h4:=Int.tmod_lt_of_pos (-n) (show(0:Int) < 1073741825 by omega)
  rw[Int.neg_tmod]at h4
  omega
 repeat(first|((with_reducible apply st_bin);exact rfl;exact rfl;(first|(apply bin_quo;omega;omega)|(apply bin_mul;omega)|(apply bin_sub;omega));exact .none rfl;exact rfl)|refine wa1 ?_|((with_reducible apply s5);(first|exact by_oa|exact by_ca);exact by_g)|refine wb ?_)
 exact .one (.tmp rfl (.one (.d (.refl _))))
theorem form_at {k:Nat}(h:k < 10):forms[k]? = some (form k):=by
 simp[form,List.getD_eq_getElem?_getD,List.getElem?_eq_getElem (show k < forms.length from h)]
theorem ok_form (k:Nat) (hk:k < 10):FnOk Tryz.prog 100 [.d (dint k)] (.one (dstr (form k))):=by
 refine fnOk_of tbl_ok mixed_ok Tryz.func100 rfl (by kernel_rfl) rfl rfl fun w0 own0=>?_
 have h:=form_at hk
 repeat(first|((with_reducible apply s5);((with_reducible apply a_bs (forms.map encStr1));(iterate 9 exact rfl);(repeat(first|exact PartsE.nil|(apply PartsE.cons;exact rfl;exact rfl))));exact by_g)|refine wa1 ?_|((with_reducible apply s5);(first|exact by_oa|exact by_ca);exact by_g)|refine wb ?_)
 exact .one (.tmp rfl (.one (.d (.refl _))))
theorem form_len (k:Nat):(form k).length≤2:=by
 rcases Nat.lt_or_ge k 10 with h|h
 ·
  have:∀ k:Fin 10,(form k).length≤2:=by decide
  exact this ⟨k,h⟩
 ·
  simp[form,List.getD_eq_getElem?_getD,List.getElem?_eq_none (show forms.length≤k from h)]
theorem ok_has (k:Nat) (c:UInt8) (hk:k < 10):FnOk Tryz.prog 78 [.d (dint k),.d (.v (.int .u8 c.toNat))] (.one (dbool (has k c))):=by
 refine fnOk_of tbl_ok mixed_ok Tryz.func78 rfl (by kernel_rfl) rfl rfl fun w0 own0=>?_
 have hl:=form_len k
 repeat(first|refine wa ?_|((with_reducible apply s5);(first|exact a_call (ok_form k hk) rfl by_sub|exact by_oa|exact by_ca);exact by_g)|refine wb ?_)
 refine CW.loopT (fun i:Nat=>[(.s 1,.av (.d (.v (.int .u8 c.toNat)))),(.s 5,.av (.d (dstr (form k)))),(.s 10,.av (.d (dint (form k).length))),(.s 11,.av (.d (dint i))),(.nx,.num 0)]) (fun i=>i≤(form k).length∧hasGo c ((form k).drop i)=has k c) (fun i=>(form k).length - i) 0 ⟨by omega,rfl⟩ ?_ fun i hI=>?_
 ·
  exact by_less
 ·
  obtain⟨hi,hI⟩:=hI
  rcases drop_case hi with ⟨h1,h2⟩|⟨x,h1,h2,h3⟩
  ·
   try refine wk ?_
   rw[h1]at hI
   rw[← hI]
   exact .one (.tmp rfl (.one (.d (.refl _))))
  ·
   rw[h1]at hI
   simp only[hasGo]at hI
   by_cases h4:x=c
   ·
    have h5:(x.toNat:Int)=(c.toNat:Int):=by rw[h4]
    try refine wk ?_
    rw[if_pos h4]at hI
    rw[← hI]
    exact .one (.tmp rfl (.one (.d (.refl _))))
   ·
    have h5:¬ ((x.toNat:Int)=(c.toNat:Int)):=fun h=>h4 (UInt8.toNat_inj.1 (by omega))
    try refine wk ?_
    rw[if_neg h4]at hI
    refine q_loopT (i+1) ⟨by omega,hI⟩ (by omega) ?_
    exact by_less
theorem ls_first {l:List Str}{r:List (List Str)}{v:Int}(h:lsGo (l::r)=v):(keysWrong l=0∧lsGo r=v)∨(keysWrong l≠0∧keysWrong l=v):=by
 simp only[lsGo]at h
 split at h
 ·
  next h0=>exact .inl ⟨h0,h⟩
 ·
  next h0=>exact .inr ⟨h0,h⟩
theorem ok_wrongDeed (d:Deed) (hr:d.reads.length≤268435456) (hw:d.writes.length≤268435456) (hc:d.code.length≤268435456)
  (hrk:∀ s∈d.reads,s.length≤1073741824) (hwk:∀ s∈d.writes,s.length≤1073741824):FnOk Tryz.prog 43 [.d (.agg d.enc)] (.one (dint (wrongDeed d))):=by
 refine fnOk_of tbl_ok mixed_ok Tryz.func43 rfl (by kernel_rfl) rfl rfl fun w0 own0=>?_
 repeat(first|((with_reducible apply s5);((with_reducible apply a_bs ([d.reads,d.writes].map fun l=>[encStrs l]));(iterate 9 exact rfl);(repeat(first|exact PartsE.nil|(apply PartsE.cons;exact rfl;exact rfl))));exact by_g)|refine wa1 ?_|((with_reducible apply s5);(first|exact by_oa|exact by_ca);exact by_g)|refine wb ?_)
 refine CW.loopT (fun j:Nat=>[(.s 1,.av (.ptr 0 0)),(.o 0,.ob (.box (d.enc.map AV.d))),(.s 18,.av (.d (.sl 1 ([d.reads,d.writes].map fun l=>[encStrs l])))),(.s 19,.av (.d (dint 2))),(.s 20,.av (.d (dint j))),(.nx,.num 1)])
  (fun j=>j≤[d.reads,d.writes].length∧lsGo ([d.reads,d.writes].drop j)=lsGo [d.reads,d.writes]) (fun j=>2 - j) 0 ⟨by simp,rfl⟩ ?_ ?_
 ·
  exact by_less
 ·
  rintro j ⟨hj,hI⟩
  have hj2:j≤2:=hj
  rcases drop_case hj with ⟨h1,h2⟩|⟨l,h1,h2,h3⟩
  ·
   have h2':j=2:=h2
   rw[h1]at hI
   have hI':lsGo [d.reads,d.writes]=0:=hI.symm
   by_cases h4:12 < d.code.length
   ·
    try refine wk ?_
    exact .one (.tmp rfl (.one (.d (dle_int (by simp[wrongDeed,hI',h4])))))
   ·
    try refine wk ?_
    refine CW.loopT (fun k:Nat=>[(.s 1,.av (.ptr 0 0)),(.o 0,.ob (.box (d.enc.map AV.d))),(.s 51,.av (.d (encCode d.code))),(.s 52,.av (.d (dint d.code.length))),(.s 53,.av (.d (dint k))),(.nx,.num 1)])
     (fun k=>k≤d.code.length∧codeGo d k (d.code.drop k)=codeGo d 0 d.code) (fun k=>d.code.length - k) 0 ⟨by omega,rfl⟩ ?_ ?_
    ·
     exact by_less
    ·
     rintro k ⟨hk,hC⟩
     rcases drop_case hk with ⟨h5,h6⟩|⟨i,h5,h6,h7⟩
     ·
      rw[h5]at hC
      simp only[codeGo]at hC
      try refine wk ?_
      exact .one (.tmp rfl (.one (.d (dle_int (by rw[wrongDeed,if_pos hI',if_neg h4,hC])))))
     ·
      rw[h5]at hC
      have hbad:wrongIns d ((d.code.length:Int) - 1 - k) i≠0→wrongIns d ((d.code.length:Int) - 1 - k) i=wrongDeed d:=fun h0=>by
       rw[codeGo,if_neg h0]at hC
       rw[wrongDeed,if_pos hI',if_neg h4,hC]
      have hgood:wrongIns d ((d.code.length:Int) - 1 - k) i=0→codeGo d (k+1) (d.code.drop (k+1))=codeGo d 0 d.code:=fun h0=>by
       rw[codeGo,if_pos h0]at hC
       exact hC
      clear hC h5
      obtain⟨kd0,ia,ib,n,key⟩:=i
      by_cases hk1:kd0 < 1
      ·
       try refine wk ?_
       have h0:wrongIns d ((d.code.length:Int) - 1 - k) ⟨kd0,ia,ib,n,key⟩=1:=by simp[wrongIns,hk1]
       exact .one (.tmp rfl (.one (.d (dle_int (by rw[← hbad (by rw[h0];decide),h0])))))
      ·
       by_cases hk9:9 < kd0
       ·
        try refine wk ?_
        have h0:wrongIns d ((d.code.length:Int) - 1 - k) ⟨kd0,ia,ib,n,key⟩=1:=by simp[wrongIns,hk9]
        exact .one (.tmp rfl (.one (.d (dle_int (by rw[← hbad (by rw[h0];decide),h0])))))
       ·
        obtain⟨kd,rfl⟩:=Int.eq_ofNat_of_zero_le (show 0≤kd0 by omega)
        have hkd:kd < 10:=by omega
        have hcA:=ok_has kd 114 hkd
        have hcB:=ok_has kd 115 hkd
        have hcK:=ok_has kd 107 hkd
        have hst0:StopA 21:=⟨rfl⟩
        try refine wkS ?_
        clear hst0
        refine Stop.cutk [(.s 9,.av (.d (dint (insA kd))))] [.s 1,.s 51,.s 52,.s 53,.s 7,.s 8,.s 10,.s 11,.s 12,.o 0,.o 1,.nx] ?_ ?_
        ·
         unfold insA
         cases hA:has kd 114
         ·
          repeat(first|refine wa ?_|((with_reducible apply s5);(first|exact a_call hcA rfl by_sub|exact by_oa|exact by_ca);exact by_g)|refine wb ?_)
          refine q_cut ?_
          exact by_less
         ·
          repeat(first|refine wa ?_|((with_reducible apply s5);(first|exact a_call hcA rfl by_sub|exact by_oa|exact by_ca);exact by_g)|refine wb ?_)
          refine q_cut ?_
          exact by_less
        have hst0:StopA 23:=⟨rfl⟩
        try refine wkS ?_
        clear hst0
        refine Stop.cutk [(.s 10,.av (.d (dint (insB kd))))] [.s 1,.s 51,.s 52,.s 53,.s 7,.s 8,.s 9,.s 11,.s 12,.o 0,.o 1,.nx] ?_ ?_
        ·
         unfold insB
         cases hA:has kd 115
         ·
          repeat(first|refine wa ?_|((with_reducible apply s5);(first|exact a_call hcB rfl by_sub|exact by_oa|exact by_ca);exact by_g)|refine wb ?_)
          refine q_cut ?_
          exact by_less
         ·
          repeat(first|refine wa ?_|((with_reducible apply s5);(first|exact a_call hcB rfl by_sub|exact by_oa|exact by_ca);exact by_g)|refine wb ?_)
          refine q_cut ?_
          exact by_less
        have hst0:StopA 25:=⟨rfl⟩
        try refine wkS ?_
        clear hst0
        refine Stop.cutk [(.s 11,.av (.d (dint (if kd=2 then -1073741824 else 0)))),(.s 12,.av (.d (dint (if kd=2 then 1073741824 else 0))))] [.s 1,.s 51,.s 52,.s 53,.s 7,.s 8,.s 9,.s 10,.o 0,.o 1,.nx] ?_ ?_
        ·
         by_cases hA:kd=2
         ·
          rw[if_pos hA,if_pos hA]
          try refine wk ?_
          refine q_cut ?_
          exact by_less
         ·
          rw[if_neg hA,if_neg hA]
          try refine wk ?_
          refine q_cut ?_
          exact by_less
        have hst0:StopA 27:=⟨rfl⟩
        try refine wkS ?_
        clear hst0
        refine Stop.cutk [(.s 11,.av (.d (dint (insLow kd)))),(.s 12,.av (.d (dint (insHigh kd ((d.code.length:Int) - 1 - k)))))] [.s 1,.s 51,.s 52,.s 53,.s 7,.s 8,.s 9,.s 10,.o 0,.o 1,.nx] ?_ ?_
        ·
         by_cases hA:kd=8
         ·
          have hB:¬ kd=2:=by omega
          rw[insLow,insHigh,if_neg hB,if_neg hB,if_neg hB,if_neg hB,if_pos hA,if_pos hA]
          repeat(first|((with_reducible apply st_bin);exact rfl;exact rfl;(apply bin_sub;simp only[List.length_map];omega);exact .none rfl;exact rfl)|refine wa1 ?_|((with_reducible apply s5);(first|exact by_oa|exact by_ca);exact by_g)|refine wb ?_)
          refine q_cut ?_
          exact by_less
         ·
          rw[insLow,insHigh,if_neg hA,if_neg hA]
          try refine wk ?_
          refine q_cut ?_
          exact by_less
        have hst0:StopR 29:=⟨rfl⟩
        try refine wkS ?_
        clear hst0
        refine Stop.cutk [(.s 115,.av (.d (dbool (insOut kd ia ib n ((d.code.length:Int) - 1 - k)))))] [.s 1,.s 51,.s 52,.s 53,.s 8,.o 0,.o 1,.nx] ?_ ?_
        ·
         unfold insOut
         by_cases c1:ia < 0
         ·
          rw[decide_eq_true c1]
          try refine wk ?_
          refine q_cut ?_
          exact by_less
         rw[decide_eq_false c1,Bool.false_or]
         by_cases c2:insA kd < ia
         ·
          rw[decide_eq_true c2]
          try refine wk ?_
          refine q_cut ?_
          exact by_less
         rw[decide_eq_false c2,Bool.false_or]
         by_cases c3:ib < 0
         ·
          rw[decide_eq_true c3]
          try refine wk ?_
          refine q_cut ?_
          exact by_less
         rw[decide_eq_false c3,Bool.false_or]
         by_cases c4:insB kd < ib
         ·
          rw[decide_eq_true c4]
          try refine wk ?_
          refine q_cut ?_
          exact by_less
         rw[decide_eq_false c4,Bool.false_or]
         by_cases c5:n < insLow kd
         ·
          rw[decide_eq_true c5]
          try refine wk ?_
          refine q_cut ?_
          exact by_less
         rw[decide_eq_false c5,Bool.false_or]
         try refine wk ?_
         refine q_cut ?_
         exact by_less
        have hw0:wrongIns d ((d.code.length:Int) - 1 - k) ⟨kd,ia,ib,n,key⟩=if insOut kd ia ib n ((d.code.length:Int) - 1 - k)=true then 3 else if has kd 107=false then (if key=[] then 0 else 2)
          else if isIn (if (kd:Int)=1 then d.reads else d.writes) key=true then 0 else 9:=by
         rw[wrongIns,if_neg (by show ¬ ((kd:Int) < 1∨9 < (kd:Int));omega)]
         rfl
        have hcr:=ok_in d.reads key (by omega)
        have hcw:=ok_in d.writes key (by omega)
        cases hO:insOut kd ia ib n ((d.code.length:Int) - 1 - k)
        ·
         rw[if_neg (by simp[hO])]at hw0
         cases hK:has kd 107
         ·
          rw[if_pos hK]at hw0
          by_cases hkey:key=[]
          ·
           rw[if_pos hkey]at hw0
           repeat(first|refine wa ?_|((with_reducible apply s5);(first|exact a_call hcK rfl by_sub|exact by_oa|exact by_ca);exact by_g)|refine wb ?_)
           refine q_loopT (k+1) ⟨by omega,hgood hw0⟩ (by omega) ?_
           exact by_less
          ·
           rw[if_neg hkey]at hw0
           repeat(first|refine wa ?_|((with_reducible apply s5);(first|exact a_call hcK rfl by_sub|exact by_oa|exact by_ca);exact by_g)|refine wb ?_)
           exact .one (.tmp rfl (.one (.d (dle_int (by rw[← hbad (by rw[hw0];decide),hw0])))))
         ·
          rw[if_neg (by simp[hK])]at hw0
          by_cases hk1':(kd:Int)=1
          ·
           rw[if_pos hk1']at hw0
           cases hin:isIn d.reads key
           ·
            rw[if_neg (by simp[hin])]at hw0
            repeat(first|refine wa ?_|((with_reducible apply s5);(first|exact a_call hcK rfl by_sub|exact a_call hcr rfl by_sub|exact by_oa|exact by_ca);exact by_g)|refine wb ?_)
            exact .one (.tmp rfl (.one (.d (dle_int (by rw[← hbad (by rw[hw0];decide),hw0])))))
           ·
            rw[if_pos hin]at hw0
            repeat(first|refine wa ?_|((with_reducible apply s5);(first|exact a_call hcK rfl by_sub|exact a_call hcr rfl by_sub|exact by_oa|exact by_ca);exact by_g)|refine wb ?_)
            refine q_loopT (k+1) ⟨by omega,hgood hw0⟩ (by omega) ?_
            exact by_less
          ·
           rw[if_neg hk1']at hw0
           cases hin:isIn d.writes key
           ·
            rw[if_neg (by simp[hin])]at hw0
            repeat(first|refine wa ?_|((with_reducible apply s5);(first|exact a_call hcK rfl by_sub|exact a_call hcw rfl by_sub|exact by_oa|exact by_ca);exact by_g)|refine wb ?_)
            exact .one (.tmp rfl (.one (.d (dle_int (by rw[← hbad (by rw[hw0];decide),hw0])))))
           ·
            rw[if_pos hin]at hw0
            repeat(first|refine wa ?_|((with_reducible apply s5);(first|exact a_call hcK rfl by_sub|exact a_call hcw rfl by_sub|exact by_oa|exact by_ca);exact by_g)|refine wb ?_)
            refine q_loopT (k+1) ⟨by omega,hgood hw0⟩ (by omega) ?_
            exact by_less
        ·
         rw[if_pos hO]at hw0
         try refine wk ?_
         exact .one (.tmp rfl (.one (.d (dle_int (by rw[← hbad (by rw[hw0];decide),hw0])))))
  ·
   have h3':j < 2:=h3
   rw[h1]at hI
   have hl:l.length≤268435456∧∀ s∈l,s.length≤1073741824:=by
    have:=List.mem_of_getElem? h2
    simp at this
    rcases this with rfl|rfl
    ·
     exact⟨hr,hrk⟩
    ·
     exact⟨hw,hwk⟩
   have hbad:keysWrong l≠0→keysWrong l=wrongDeed d:=fun h0=>by
    rcases ls_first hI with ⟨h5,h6⟩|⟨h5,h6⟩
    ·
     exact absurd h5 h0
    ·
     rw[wrongDeed,if_neg (by rw[← h6];exact h0),h6]
   by_cases h4:5 < l.length
   ·
    have h6:keysWrong l=5:=by rw[keysWrong,if_pos h4]
    try refine wk ?_
    exact .one (.tmp rfl (.one (.d (dle_int (by rw[← h6];exact hbad (by rw[h6];decide))))))
   ·
    try refine wk ?_
    refine CW.loopT (fun i:Nat=>[(.s 1,.av (.ptr 0 0)),(.o 0,.ob (.box (d.enc.map AV.d))),(.s 18,.av (.d (.sl 1 ([d.reads,d.writes].map fun l=>[encStrs l])))),(.s 19,.av (.d (dint 2))),(.s 20,.av (.d (dint j))),(.s 4,.av (.d (encStrs l))),(.s 27,.av (.d (encStrs l))),(.s 28,.av (.d (dint l.length))),(.s 29,.av (.d (dint i))),(.nx,.num 1)])
     (fun i=>i≤l.length∧keysGo l i (l.drop i)=keysWrong l) (fun i=>l.length - i) 0 ⟨by omega,by rw[keysWrong,if_neg h4];rfl⟩ ?_ ?_
    ·
     exact by_less
    ·
     rintro i ⟨hi,hJ⟩
     rcases drop_case hi with ⟨h5,h6⟩|⟨k,h5,h6,h7⟩
     ·
      rw[h5]at hJ
      simp only[keysGo]at hJ
      try refine wk ?_
      refine q_loopT (j+1) ⟨by simp;omega,?_⟩ (by omega) ?_
      ·
       rcases ls_first hI with ⟨h8,h9⟩|⟨h8,h9⟩
       ·
        exact h9
       ·
        exact absurd hJ.symm h8
      ·
       exact by_less
     ·
      rw[h5]at hJ
      simp only[keysGo]at hJ
      have hck:=ok_key k (hl.2 k (List.mem_of_getElem? h6))
      have hin:FnOk Tryz.prog 77 [.d (.sl 1 ((l.map encStr1).take i)),.d (dstr k)] (.one (dbool (isIn (l.take i) k))):=by
       rw[← List.map_take]
       exact ok_in (l.take i) k (by rw[List.length_take];have:=hl.1;omega)
      cases h8:key k
      ·
       rw[if_pos h8]at hJ
       try refine wk ?_
       exact .one (.tmp rfl (.one (.d (dle_int (by rw[hJ];exact hbad (by rw[← hJ];decide))))))
      ·
       rw[if_neg (by simp[h8])]at hJ
       cases h9:isIn (l.take i) k
       ·
        rw[if_neg (by simp[h9])]at hJ
        repeat(first|refine wa ?_|((with_reducible apply s5);(first|exact a_call hin rfl by_sub|exact by_oa|exact by_ca);exact by_g)|refine wb ?_)
        refine q_loopT (i+1) ⟨by omega,hJ⟩ (by omega) ?_
        exact by_less
       ·
        rw[if_pos h9]at hJ
        repeat(first|refine wa ?_|((with_reducible apply s5);(first|exact a_call hin rfl by_sub|exact by_oa|exact by_ca);exact by_g)|refine wb ?_)
        exact .one (.tmp rfl (.one (.d (dle_int (by rw[hJ];exact hbad (by rw[← hJ];decide))))))
theorem eq_regs (n:Nat) (a0 a1 a2 a3 b0 b1 b2 b3:Int) (w:World):(Op.equalIn (n+2) 84 (.agg #[i64 a0,i64 a1,i64 a2,i64 a3]) (.agg #[i64 b0,i64 b1,i64 b2,i64 b3])).run Tryz.prog w = .ok (decide (a0=b0∧a1=b1∧a2=b2∧a3=b3)) w:=by
 have hs:∀ w,(sizeOf 3).run Tryz.prog w = .ok 1 w:=by
  intro w
  obtain⟨i,h1,h2⟩:∃ i,Tryz.prog.info? 3=some i∧i.size=1:=by
   have:=tbl_ok 3 _ rfl
   obtain⟨i,h1,h2,_⟩:=this.info
   exact⟨i,h1,h2⟩
  simp[sizeOf,typeInfo,h1,h2]
 unfold Op.equalIn
 simp only[Sem.run_bind,run_underlying Tryz.underlying84,Result.andThen_ok,hs]
 simp[Std.Legacy.Range.forIn_eq_forIn_range',List.range',Std.Legacy.Range.size,part,Tryz.isAgg3,run_equalIn_int,Tryz.underlying3]
 by_cases h0:a0=b0 <;> by_cases h1:a1=b1 <;> by_cases h2:a2=b2 <;> by_cases h3:a3=b3 <;> simp[h0,h1,h2,h3]
def Done.vals (e:Done):List Value:=[.bool e.failed,i64 e.r0,i64 e.r1,i64 e.r2,i64 e.r3]
theorem eq_done (a b:Done) (w:World):(Op.equalIn 10000 86 (.agg (Done.vals a).toArray) (.agg (Done.vals b).toArray)).run Tryz.prog w = .ok (decide (a=b)) w:=by
 rw[run_equalIn_agg (P:=Tryz.prog) w 9999 86 _ _ (by kernel_rfl) (by kernel_rfl)]
 obtain⟨f,a0,a1,a2,a3⟩:=a
 obtain⟨g,b0,b1,b2,b3⟩:=b
 have hs:∀ w,(sizeOf 84).run Tryz.prog w = .ok 4 w:=by
  intro w
  obtain⟨i,h1,h2⟩:∃ i,Tryz.prog.info? 84=some i∧i.size=4:=by
   have:=tbl_ok 84 _ rfl
   obtain⟨i,h1,h2,_⟩:=this.info
   exact⟨i,h1,h2⟩
  simp[sizeOf,typeInfo,h1,h2]
 have hp:∀ (f:Bool) (a0 a1 a2 a3:Int) (w:World),(part 84 #[.bool f,i64 a0,i64 a1,i64 a2,i64 a3] 1).run Tryz.prog w = .ok (.agg #[i64 a0,i64 a1,i64 a2,i64 a3]) w:=by
  intro f a0 a1 a2 a3 w
  simp[part,Tryz.isAgg84,hs]
 have hb:∀ (f:Bool) (a0 a1 a2 a3:Int) (w:World),(part 4 #[.bool f,i64 a0,i64 a1,i64 a2,i64 a3] 0).run Tryz.prog w = .ok (.bool f) w:=by
  intro f a0 a1 a2 a3 w
  simp[part,Tryz.isAgg4]
 have he:=fun w=>eq_regs 9997 a0 a1 a2 a3 b0 b1 b2 b3 w
 simp only[Program.fieldsOf,Tryz.underlying86,Op.eqFields,Done.vals]
 simp[hb,hp,he,run_equalIn_bool',Tryz.underlying4]
 by_cases e1:f=g
 ·
  subst e1
  by_cases h0:a0=b0 <;> by_cases h1:a1=b1 <;> by_cases h2:a2=b2 <;> by_cases h3:a3=b3 <;> simp[h0,h1,h2,h3]
 ·
  simp[e1]
theorem neq_done (a b:Done):BinR Tryz.prog .neq 86 (.agg (Done.vals a).toArray) (.agg (Done.vals b).toArray) (.bool (!decide (a=b))):=by
 intro w x y
 rw[Sem.run_bind,run_eqGuard_agg _ _ _ _ _ _ _ (by kernel_rfl),Result.andThen_ok,run_neq_struct,eq_done]
 rfl
theorem eq_ins (a b:Ins) (w:World):(Op.equalIn 10000 115 (.agg #[i64 a.kind,i64 a.a,i64 a.b,i64 a.n,str a.key]) (.agg #[i64 b.kind,i64 b.a,i64 b.b,i64 b.n,str b.key])).run Tryz.prog w = .ok (decide (a=b)) w:=by
 rw[run_equalIn_agg (P:=Tryz.prog) w 9999 115 _ _ (by kernel_rfl) (by kernel_rfl)]
 obtain⟨k1,a1,b1,n1,s1⟩:=a
 obtain⟨k2,a2,b2,n2,s2⟩:=b
 simp only[Program.fieldsOf,Tryz.underlying115,Op.eqFields]
 simp[part,Tryz.isAgg9,Tryz.isAgg3,str,run_equalIn_string,run_equalIn_int,Tryz.underlying9,Tryz.underlying3]
 by_cases e1:k1=k2 <;> by_cases e2:a1=a2 <;> by_cases e3:b1=b2 <;> by_cases e4:n1=n2 <;> by_cases e5:s1=s2 <;> simp[e1,e2,e3,e4,e5]
theorem neq_ins (a b:Ins):BinR Tryz.prog .neq 115 (.agg #[i64 a.kind,i64 a.a,i64 a.b,i64 a.n,str a.key]) (.agg #[i64 b.kind,i64 b.a,i64 b.b,i64 b.n,str b.key]) (.bool (!decide (a=b))):=by
 intro w x y
 rw[Sem.run_bind,run_eqGuard_agg _ _ _ _ _ _ _ (by kernel_rfl),Result.andThen_ok,run_neq_struct,eq_ins]
 rfl
theorem ok_add (l:List Chain) (k:Str) (b:Int) (hl:l.length≤268435456) (hs:∀ c∈l,c.vs.length≤268435456):FnOk Tryz.prog 44 [.d (encChains l),.d (dstr k),.d (dint b)] (.one (encChains (addC l k b))):=by
 refine fnOk_of tbl_ok mixed_ok Tryz.func44 rfl (by kernel_rfl) rfl rfl fun w0 own0=>?_
 try refine wk ?_
 refine CW.stut (stut_promote (i:=7) 80 2) ⟨rfl,rfl,trivial⟩ ?_
 refine CW.loopT (fun t:Nat×Bool×List Chain=>[sd 1 (dstr k),sd 2 (dint b),so 7 0 t.2.2.length,sd 8 (dbool t.2.1),sd 11 (encChains l),sd 12 (dint l.length),sd 13 (dint t.1),oa 0 80 2 (t.2.2.map Chain.enc),nxt 1])
  (fun t=>t.1≤l.length∧t.2.2.length≤2*t.1∧addGo k b t.2.1 t.2.2 (l.drop t.1)=addC l k b) (fun t=>l.length - t.1) (0,false,[]) ⟨by omega,by simp,rfl⟩ ?_ ?_
 ·
  exact by_less
 ·
  rintro ⟨i,done,out⟩ ⟨hi,ho,hI⟩
  dsimp only at hi ho hI ⊢
  rcases drop_case hi with ⟨h1,h2⟩|⟨c,h1,h2,h3⟩
  ·
   rw[h1]at hI
   simp only[addGo]at hI
   cases done
   ·
    try refine wk ?_
    exact .one (.tmp rfl (.one (.own rfl (by simp) (dle_eq (by rw[← hI];simp[encChains];rfl)))))
   ·
    try refine wk ?_
    exact .one (.tmp rfl (.one (.own rfl (by simp) (dle_eq (by rw[← hI];rfl)))))
  ·
   rw[h1]at hI
   simp only[addGo]at hI
   have hcv:=hs c (List.mem_of_getElem? h2)
   have he:out.map Chain.enc++[[dstr c.key,.sl 4 (c.vs.map Version.enc++[[dint b,dbool false,dbool false,dint 0]])]]=(out++[Chain.mk c.key (c.vs++[Version.mk b false false 0])]).map Chain.enc:=by
    simp[Chain.enc,encVs,Version.enc]
   have he2:(out.map Chain.enc++[[dstr k,.sl 4 [[dint b,dbool false,dbool false,dint 0]]]])++[c.enc]=((out++[Chain.mk k [Version.mk b false false 0]])++[c]).map Chain.enc:=by
    simp[Chain.enc,encVs,Version.enc]
   cases done
   ·
    by_cases h4:c.key=k
    ·
     simp[h4]at hI
     have h6:(!(slt c.key k || decide (c.key=k)))=false:=by simp[h4]
     have hst0:StopX 12:=⟨rfl⟩
     try refine wkS ?_
     clear hst0
     refine Stop.go (CW.stut (stut_freeze_cell (id:=1) (j:=1) (i:=2) rfl (by simp)) ⟨rfl,rfl,trivial⟩ ?_)
     try refine wk ?_
     refine q_loopT (i+1,true,out++[⟨c.key,c.vs++[⟨b,false,false,0⟩]⟩]) ⟨by dsimp only;omega,by dsimp only;simp;omega,by rw[h4];exact hI⟩ (by dsimp only;omega) ?_
     exact by_less
    ·
     cases h5:slt c.key k
     ·
      simp[h4,h5]at hI
      have h6:(!(slt c.key k || decide (c.key=k)))=true:=by simp[h4,h5]
      try refine wk ?_
      refine q_loopT (i+1,true,(out++[⟨k,[⟨b,false,false,0⟩]⟩])++[c]) ⟨by dsimp only;omega,by dsimp only;simp;omega,by simpa using hI⟩ (by dsimp only;omega) ?_
      exact by_less
     ·
      simp[h4,h5]at hI
      have h6:(!(slt c.key k || decide (c.key=k)))=false:=by simp[h5]
      try refine wk ?_
      refine q_loopT (i+1,false,out++[c]) ⟨by dsimp only;omega,by dsimp only;simp;omega,hI⟩ (by dsimp only;omega) ?_
      exact by_less
   ·
    by_cases h4:c.key=k
    ·
     simp[h4]at hI
     have hst0:StopX 12:=⟨rfl⟩
     try refine wkS ?_
     clear hst0
     refine Stop.go (CW.stut (stut_freeze_cell (id:=1) (j:=1) (i:=2) rfl (by simp)) ⟨rfl,rfl,trivial⟩ ?_)
     try refine wk ?_
     refine q_loopT (i+1,true,out++[⟨c.key,c.vs++[⟨b,false,false,0⟩]⟩]) ⟨by dsimp only;omega,by dsimp only;simp;omega,by rw[h4];exact hI⟩ (by dsimp only;omega) ?_
     exact by_less
    ·
     simp[h4]at hI
     try refine wk ?_
     refine q_loopT (i+1,true,out++[c]) ⟨by dsimp only;omega,by dsimp only;simp;omega,hI⟩ (by dsimp only;omega) ?_
     exact by_less
set_option maxHeartbeats 8000000
structure Engine.Sz (e:Engine) (N:Nat):Prop where
 c:e.chains.length≤N
 v:∀ c∈e.chains,c.vs.length≤N
 d:e.deeds.length≤N
 s:e.state.length=e.deeds.length
 n:e.ends.length=e.deeds.length
 b:0≤e.base∧e.base+e.deeds.length≤N
 dd:∀ d∈e.deeds,d.Sm
theorem Engine.Sz.sm {e:Engine}{N:Nat}(h:Engine.Sz e N) (hN:N≤134217728):e.Sm :=
 ⟨by have:=h.c;omega,fun c hc=>by have:=h.v c hc;omega,by have:=h.d;omega,by have:=h.d;have:=h.s;omega,by have:=h.d;have:=h.n;omega,by have:=h.b;omega,h.dd⟩
theorem addGo_true {k:Str}{b:Int}:∀ (l out:List Chain),(addGo k b true out l).length=out.length+l.length
 | [],out=>by simp[addGo]
 |c::l,out=>by
  simp only[addGo,Bool.not_true,Bool.false_and,Bool.true_or]
  split
  ·
   rw[addGo_true l];simp;omega
  ·
   rw[addGo_true l];simp;omega
theorem addGo_false {k:Str}{b:Int}:∀ (l out:List Chain),(addGo k b false out l).length≤out.length+l.length+1
 | [],out=>by simp[addGo]
 |c::l,out=>by
  simp only[addGo,Bool.not_false,Bool.true_and,Bool.false_or]
  by_cases h:(!(slt c.key k || decide (c.key=k)))=true
  ·
   rw[h]
   simp only[if_true]
   split
   ·
    rw[addGo_true l];simp;omega
   ·
    rw[addGo_true l];simp;omega
  ·
   rw[show(!(slt c.key k || decide (c.key=k)))=false by simpa using h]
   simp only[Bool.false_eq_true,if_false]
   split
   ·
    rw[addGo_true l];simp;omega
   ·
    refine Nat.le_trans (addGo_false l _) ?_
    simp;omega
theorem addC_len (l:List Chain) (k:Str) (b:Int):(addC l k b).length≤l.length+1:=by
 have:=addGo_false (k:=k) (b:=b) l []
 unfold addC
 simpa using this
theorem addGo_vs {k:Str}{b:Int}{M:Nat}:∀ {l:List Chain}{dn:Bool}{out:List Chain},(∀ c∈l,c.vs.length≤M)→(∀ c∈out,c.vs.length≤M+1)→∀ c∈addGo k b dn out l,c.vs.length≤M+1
 | [],dn,out,_,ho,c,hc=>by
  simp only[addGo]at hc
  split at hc
  ·
   exact ho c hc
  ·
   rcases List.mem_append.1 hc with hc|hc
   ·
    exact ho c hc
   ·
    simp at hc;subst hc;simp
 |x::l,dn,out,hl,ho,c,hc=>by
  simp only[addGo]at hc
  have h1:∀ (g:Bool),∀ c∈(if g=true then out++[⟨k,[⟨b,false,false,0⟩]⟩] else out),c.vs.length≤M+1:=by
   intro g c hc
   split at hc
   ·
    rcases List.mem_append.1 hc with hc|hc
    ·
     exact ho c hc
    ·
     simp at hc;subst hc;simp
   ·
    exact ho c hc
  have hx:=hl x (List.mem_cons_self ..)
  split at hc
  ·
   refine addGo_vs (fun c hc=>hl c (List.mem_cons_of_mem _ hc)) (fun c hc=>?_) c hc
   rcases List.mem_append.1 hc with hc|hc
   ·
    exact h1 _ c hc
   ·
    simp at hc;subst hc;simp;omega
  ·
   refine addGo_vs (fun c hc=>hl c (List.mem_cons_of_mem _ hc)) (fun c hc=>?_) c hc
   rcases List.mem_append.1 hc with hc|hc
   ·
    exact h1 _ c hc
   ·
    simp at hc;subst hc;omega
theorem addC_vs {l:List Chain}{k:Str}{b:Int}{M:Nat}(h:∀ c∈l,c.vs.length≤M):∀ c∈addC l k b,c.vs.length≤M+1:=addGo_vs h (by simp)
theorem addKeys_sz {b:Int}{M:Nat}:∀ {ks:List Str}{l:List Chain}{n:Nat},l.length≤n→(∀ c∈l,c.vs.length≤M)→(addKeys b l ks).length≤n+ks.length∧∀ c∈addKeys b l ks,c.vs.length≤M+ks.length
 | [],l,n,h1,h2=>⟨h1,h2⟩
 |k::ks,l,n,h1,h2=>by
  have:=addKeys_sz (b:=b) (M:=M+1) (ks:=ks) (l:=addC l k b) (n:=n+1) (Nat.le_trans (addC_len l k b) (by omega)) (addC_vs h2)
  refine⟨by simp only[addKeys,List.length_cons];omega,fun c hc=>?_⟩
  have:=this.2 c hc
  simp;omega
theorem add1_sz {e:Engine}{N:Nat}(h:Engine.Sz e N) {d:Deed}(hd:d.Sm) (hw:d.writes.length≤5):Engine.Sz (add1 e d) (N+5):=by
 have:=addKeys_sz (b:=e.base+e.deeds.length) (ks:=d.writes) h.c h.v
 refine⟨by have:=this.1;simp only[add1];omega,fun c hc=>by have:=this.2 c hc;omega,?_,?_,?_,?_,?_⟩
 ·
  have:=h.d;simp[add1];omega
 ·
  have:=h.s;simp[add1,this]
 ·
  have:=h.n;simp[add1,this]
 ·
  have:=h.b;simp[add1];omega
 ·
  intro x hx
  rcases List.mem_append.1 hx with hx|hx
  ·
   exact h.dd x hx
  ·
   simp at hx;subst hx;exact hd
theorem wrong_writes {d:Deed}(h:wrongDeed d=0):d.reads.length≤5∧d.writes.length≤5∧d.code.length≤12:=by
 unfold wrongDeed at h
 by_cases h0:lsGo [d.reads,d.writes]=0
 ·
  rw[if_pos h0]at h
  simp only[lsGo]at h0
  have hc:d.code.length≤12:=by
   by_cases hc:12 < d.code.length
   ·
    rw[if_pos hc]at h;simp at h
   ·
    omega
  have key:∀ l:List Str,keysWrong l=0→l.length≤5:=by
   intro l hl
   unfold keysWrong at hl
   by_cases h5:5 < l.length
   ·
    rw[if_pos h5]at hl;simp at hl
   ·
    omega
  by_cases h1:keysWrong d.reads=0
  ·
   rw[if_pos h1]at h0
   by_cases h2:keysWrong d.writes=0
   ·
    exact⟨key _ h1,key _ h2,hc⟩
   ·
    rw[if_neg h2]at h0;exact absurd h0 h2
  ·
   rw[if_neg h1]at h0;exact absurd h0 h1
 ·
  rw[if_neg h0]at h;exact absurd h h0
theorem wrongs_mem:∀ {l:List Deed},wrongs l=0→∀ d∈l,wrongDeed d=0
 | [],_,d,hd=>by cases hd
 |x::l,h,d,hd=>by
  simp only[wrongs]at h
  by_cases h0:wrongDeed x=0
  ·
   rw[if_pos h0]at h
   rcases List.mem_cons.1 hd with rfl|hd
   ·
    exact h0
   ·
    exact wrongs_mem h d hd
  ·
   rw[if_neg h0]at h;exact absurd h h0
set_option maxHeartbeats 4000000
theorem ok_chainOwn (l:List Chain) (hl:l.length≤268435456) (hv:∀ c∈l,c.vs.length≤268435456):FnOk Tryz.prog 45 [.d (encChains l)] (.one (encChains l)):=by
 refine fnOk_of tbl_ok mixed_ok Tryz.func45 rfl (by kernel_rfl) rfl rfl fun w0 own0=>?_
 try refine wk ?_
 refine CW.stut (stut_promote (i:=3) 80 2) ⟨rfl,rfl,trivial⟩ ?_
 refine CW.loopT (fun i:Nat=>[sd 6 (encChains l),sd 7 (dint l.length),sd 8 (dint i),so 3 0 i,oa 0 80 2 ((l.take i).map Chain.enc),nxt 1]) (fun i=>i≤l.length) (fun i=>l.length - i) 0 (by omega) ?_ ?_
 ·
  exact by_less
 ·
  rintro i hi
  rcases drop_case hi with ⟨h1,h2⟩|⟨c,h1,h2,h3⟩
  ·
   try refine wk ?_
   exact .one (.tmp rfl (.one (.own rfl (by simp;omega) (dle_eq (by rw[h2,List.take_length];rfl)))))
  ·
   have h4:(l.take i).map Chain.enc++[c.enc]=(l.take (i+1)).map Chain.enc:=by rw[List.take_add_one,h2];simp
   have hcv:=hv c (List.mem_of_getElem? h2)
   have hc:=ok_clone_version (c.vs.map Version.enc) (by simp;omega)
   try refine wk ?_
   refine q_loopT (i+1) (by omega) (by omega) ?_
   exact by_less
theorem ok_deedOwn (d:Deed) (hs:d.Sm):FnOk Tryz.prog 42 [.d (.agg d.enc)] (.one (.agg d.enc)):=by
 refine fnOk_of tbl_ok mixed_ok Tryz.func42 rfl (by kernel_rfl) rfl rfl fun w0 own0=>?_
 have h1:=hs.r
 have h2:=hs.w
 have h3:=hs.c
 have c1:=ok_clone_str (d.reads.map encStr1) (by simp;omega)
 have c2:=ok_clone_str (d.writes.map encStr1) (by simp;omega)
 have c3:=ok_clone_ins (d.code.map Ins.enc) (by simp;omega)
 repeat(first|refine wa ?_|((with_reducible apply s5);(first|exact a_call c1 rfl by_sub|exact a_call c2 rfl by_sub|exact by_oa|exact by_ca);exact by_g)|refine wb ?_)
 exact .one (.cell rfl rfl rfl rfl (.aggd (ds:=d.enc) rfl (.refl _)))
theorem ok_planOwn (e:Engine) (hs:e.Sm):FnOk Tryz.prog 12 [.d (.agg e.enc)] (.one (.agg e.enc)):=by
 refine fnOk_of tbl_ok mixed_ok Tryz.func12 rfl (by kernel_rfl) rfl rfl fun w0 own0=>?_
 have h1:=hs.c
 have h2:=hs.s
 have h3:=hs.n
 have h4:=hs.d
 have c1:=ok_chainOwn e.chains (by omega) (fun c hc=>by have:=hs.v c hc;omega)
 have c2:=ok_clone_int (e.state.map encInt1) (by simp;omega)
 have c3:=ok_clone_done (e.ends.map Done.enc) (by simp;omega)
 try refine wk ?_
 refine CW.stut (stut_promote_cell (id:=2) (j:=1) 42 3 rfl) ⟨rfl,rfl,trivial⟩ ?_
 refine CW.loopT (fun i:Nat=>[sp 2 1,ob 1 noE.enc0,sp 3 2,(.o 2,.ob (.box [.d (encChains e.chains),.own 3 i,.d (encInts e.state),.d (encEnds e.ends),.d (dint e.base)])),sd 19 (encDeeds e.deeds),sd 20 (dint e.deeds.length),sd 21 (dint i),
   oa 3 42 3 ((e.deeds.take i).map Deed.enc),nxt 4]) (fun i=>i≤e.deeds.length) (fun i=>e.deeds.length - i) 0 (by omega) ?_ ?_
 ·
  exact by_less
 ·
  rintro i hi
  rcases drop_case hi with ⟨h5,h6⟩|⟨d,h5,h6,h7⟩
  ·
   have h8:(e.deeds.take i).map Deed.enc=e.deeds.map Deed.enc:=by rw[h6,List.take_length]
   have hst0:StopR 7:=⟨rfl⟩
   try refine wkS ?_
   clear hst0
   refine Stop.go (CW.stut (stut_freeze_cell (id:=2) (j:=1) (i:=3) rfl (by simp;omega)) ⟨rfl,rfl,trivial⟩ ?_)
   try refine wk ?_
   exact .one (.cell rfl rfl rfl rfl (.aggd (ds:=[encChains e.chains,.sl 3 ((e.deeds.take i).map Deed.enc),encInts e.state,encEnds e.ends,dint e.base]) rfl (dle_eq (by rw[h8];rfl))))
  ·
   have h8:(e.deeds.take i).map Deed.enc++[d.enc]=(e.deeds.take (i+1)).map Deed.enc:=by rw[List.take_add_one,h6];simp
   have hd:=ok_deedOwn d (hs.dd d (List.mem_of_getElem? h6))
   try refine wk ?_
   refine q_loopT (i+1) (by omega) (by omega) ?_
   exact by_less
end Go.Proofs.YtngnajknbeijjaaGreatDoor
namespace Go.AX
open Go.RowKit
variable {cx:Cx}{σ σ':St}{a a':Act}{w w':World}{ops:Array Oper}
theorem wpAny_but {ts:List Tr}{s0:Nat}{Q:Exit→Act→World→Prop}(hA:∀ i o,ops[i]? = some o→i≠s0→∃ t,ts[i]? = some t∧TrOk cx ops o t) (hlen:ts.length=ops.size) (hfit:Fit ops.toList ts) :
  ∀ (fuel:Nat) (listed:Array Bool) (σ:St) (a:Act) (w:World),listed.size=ops.size→listed.getD s0 true=true→Closed ops listed→Run (left ts listed 0) σ→(left ts listed 0).length=fuel→Sim cx σ a w →
   (∀ a' w',Sim cx (fin (left ts listed 0) σ) a' w'→Q .normal a' w')→wpAny cx.P .any ops Q fuel listed a w:=by
 intro fuel
 induction fuel with
 |zero =>
  intro listed σ a w hsz hls hcl hrun hl hs hq
  have hnil:left ts listed 0=[]:=List.eq_nil_of_length_eq_zero hl
  refine⟨?_,hq a w (by rw[hnil];exact hs)⟩
  refine List.eq_nil_iff_forall_not_mem.2 fun i hi=>?_
  obtain⟨h1,o,ho,_⟩:=mem_ready.1 hi
  have:=left_nil hnil i (by rw[hlen];exact(Array.getElem?_eq_some_iff.1 ho).1)
  rw[Nat.zero_add,h1]at this
  cases this
 |succ fuel ih =>
  intro listed σ a w hsz hls hcl hrun hl hs hq
  refine⟨fun hr=>?_,fun i hi=>?_⟩
  ·
   have hne:left ts listed 0≠[]:=by intro e;rw[e]at hl;simp at hl
   obtain⟨i,h1,h2,h3⟩:=left_ne hne
   rw[Nat.zero_add]at h2
   have hi:i < ops.size:=by omega
   have hm:i∈Region.ready .any ops listed:=mem_ready.2 ⟨h2,ops[i],Array.getElem?_eq_getElem hi,fun j hj=>by
    have hj':=hfit.down i ops[i] (by simp[hi]) j hj
    have:=h3 j hj'
    rw[Nat.zero_add]at this
    rw[← getD_tf (by omega)];exact this⟩
   rw[hr]at hm
   cases hm
  ·
   obtain⟨h1,o,ho,h2⟩:=mem_ready.1 hi
   have hi':i < ops.size:=(Array.getElem?_eq_some_iff.1 ho).1
   have his:i≠s0:=fun e=>by subst e;rw[hls]at h1;cases h1
   obtain⟨t,ht,htr⟩:=hA i o ho his
   obtain⟨pre,post,h3,h4,h5⟩:=left_split (k:=0) ht (by rw[Nat.zero_add];exact h1) (by omega)
   rw[Nat.zero_add]at h4
   rw[h3]at hrun hq hl
   have hap:∀ s∈pre,Apart s t:=by
    intro s hsm
    obtain⟨j,h6,h7,h8⟩:=h5 s hsm
    rw[Nat.zero_add]at h8
    rcases hfit.apart i j s t h6 h7 ht with h9|h9
    ·
     exfalso
     have hanc:∀ m,m∈edges o→Anc ops.toList j m→False:=fun m hm hma=>by
      have hml:listed.getD m false=true:=h2 m hm
      have hms:=hfit.down i o (by simpa using ho) m hm
      have:=hcl.anc hsz hma (by rw[getD_tf (by omega)];exact hml) (by omega)
      rw[← getD_tf (by omega)]at this
      rw[h8]at this;cases this
     cases h9 with
     |one ho' h =>
      rw[show ops.toList[i]? = some o by simpa using ho]at ho'
      cases ho'
      have:=h2 j h
      rw[← getD_tf (by omega)]at this
      rw[h8]at this;cases this
     |step ho' h hm =>
      rw[show ops.toList[i]? = some o by simpa using ho]at ho'
      cases ho'
      exact hanc _ h hm
    ·
     exact h9
   obtain⟨h6,h7⟩:=Run.front hap hrun
   unfold wpOp
   rw[ho]
   have hstep:=htr σ a w (wpAny cx.P .any ops Q fuel (listed.setIfInBounds i true)) Q hs h6.1 fun a' w' hs'=>by
    refine ih _ _ a' w' (by simp[hsz]) (by simpa only[Array.getD_eq_getD_getElem?,Array.getElem?_setIfInBounds,if_neg his] using hls) (fun i' o' ho' hi2 hli j hj=>?_) (by rw[h4];exact h6.2) (by rw[h4];simp at hl ⊢;omega) hs' (fun a2 w2 hs2=>hq a2 w2 ?_)
    ·
     by_cases he:i'=i
     ·
      subst he
      rw[ho]at ho'
      cases ho'
      have hne:j≠i':=fun e=>by have:=hfit.down i' o (by simpa using ho) j hj;omega
      simp only[Array.getD_eq_getD_getElem?,Array.getElem?_setIfInBounds,if_neg (show ¬ i'=j from fun e=>hne e.symm)]
      simpa only[Array.getD_eq_getD_getElem?] using h2 j hj
     ·
      have hli':listed.getD i' true=true:=by
       simpa only[Array.getD_eq_getD_getElem?,Array.getElem?_setIfInBounds,if_neg (show ¬ i=i' from fun e=>he e.symm)] using hli
      have hjl:=hcl i' o' ho' (by simpa using hi2) hli' j hj
      by_cases hji:i=j
      ·
       subst hji
       simp[Array.getD_eq_getD_getElem?,hsz,hi']
      ·
       simpa only[Array.getD_eq_getD_getElem?,Array.getElem?_setIfInBounds,if_neg hji] using hjl
    ·
     rw[h4]at hs2
     exact hs2.eqv h7.symm
   dsimp only
   split
   ·
    rename_i hw;rw[if_pos hw]at hstep;exact .inl hstep
   ·
    rename_i hw;rw[if_neg hw]at hstep;exact hstep
theorem wpAny_fam {ι:Type}{ts:ι→List Tr}{s0:Nat}{os:Oper}{rs:List (Key×Val)}{Q:Exit→Act→World→Prop}(x0:ι) (hA:∀ x i o,ops[i]? = some o→i≠s0→∃ t,(ts x)[i]? = some t∧TrOk cx ops o t)
  (hpre:∀ x i,i < s0→(ts x)[i]? = (ts x0)[i]?) (hlen:∀ x,(ts x).length=ops.size) (hfit:∀ x,Fit ops.toList (ts x))
  (hos:ops[s0]? = some os) (hgs:os.guard=none) (hrs:∀ x,∃ t,(ts x)[s0]? = some t∧t.rd=rs)
  (hsp:∀ (σ:St) (a:Act) (w:World) (K:Act→World→Prop) (Q:Exit→Act→World→Prop),Sim cx σ a w→App σ rs→(∀ x t a' w',(ts x)[s0]? = some t→Sim cx (t.wr++σ) a' w'→K a' w')→os.wp cx.P a w K Q)
  (hanc:∀ i,s0 < i→i < ops.size→Anc ops.toList s0 i) :
  ∀ (fuel:Nat) (listed:Array Bool) (σ:St) (a:Act) (w:World),listed.size=ops.size→listed.getD s0 true=false→Closed ops listed→(∀ x,Run (left (ts x) listed 0) σ)→(∀ x,(left (ts x) listed 0).length=fuel)→Sim cx σ a w →
   (∀ x a' w',Sim cx (fin (left (ts x) listed 0) σ) a' w'→Q .normal a' w')→wpAny cx.P .any ops Q fuel listed a w:=by
 intro fuel
 induction fuel with
 |zero =>
  intro listed σ a w hsz hls hcl hrun hl hs hq
  have hnil:left (ts x0) listed 0=[]:=List.eq_nil_of_length_eq_zero (hl x0)
  have:=left_nil hnil s0 (by rw[hlen];exact(Array.getElem?_eq_some_iff.1 hos).1)
  rw[Nat.zero_add,hls]at this
  cases this
 |succ fuel ih =>
  intro listed σ a w hsz hls hcl hrun hl hs hq
  refine⟨fun hr=>?_,fun i hi=>?_⟩
  ·
   have hne:left (ts x0) listed 0≠[]:=by intro e;have:=hl x0;rw[e]at this;simp at this
   obtain⟨i,h1,h2,h3⟩:=left_ne hne
   rw[Nat.zero_add]at h2
   have hi:i < ops.size:=by have:=hlen x0;omega
   have hm:i∈Region.ready .any ops listed:=mem_ready.2 ⟨h2,ops[i],Array.getElem?_eq_getElem hi,fun j hj=>by
    have hj':=(hfit x0).down i ops[i] (by simp[hi]) j hj
    have:=h3 j hj'
    rw[Nat.zero_add]at this
    rw[← getD_tf (by omega)];exact this⟩
   rw[hr]at hm
   cases hm
  ·
   obtain⟨h1,o,ho,h2⟩:=mem_ready.1 hi
   have hi':i < ops.size:=(Array.getElem?_eq_some_iff.1 ho).1
   -- the listed places are closed still
   have hcl':Closed ops (listed.setIfInBounds i true):=fun i' o' ho' hi2 hli j hj=>by
    by_cases he:i'=i
    ·
     subst he
     rw[ho]at ho'
     cases ho'
     have hne:j≠i':=fun e=>by have:=(hfit x0).down i' o (by simpa using ho) j hj;omega
     simp only[Array.getD_eq_getD_getElem?,Array.getElem?_setIfInBounds,if_neg (show ¬ i'=j from fun e=>hne e.symm)]
     simpa only[Array.getD_eq_getD_getElem?] using h2 j hj
    ·
     have hli':listed.getD i' true=true:=by
      simpa only[Array.getD_eq_getD_getElem?,Array.getElem?_setIfInBounds,if_neg (show ¬ i=i' from fun e=>he e.symm)] using hli
     have hjl:=hcl i' o' ho' (by simpa using hi2) hli' j hj
     by_cases hji:i=j
     ·
      subst hji
      simp[Array.getD_eq_getD_getElem?,hsz,hi']
     ·
      simpa only[Array.getD_eq_getD_getElem?,Array.getElem?_setIfInBounds,if_neg hji] using hjl
   -- what stands ahead of it in the text,and is still to come,is apart from it
   have hapx:∀ (x:ι) (t:Tr) (pre:List Tr),(ts x)[i]? = some t→(∀ s∈pre,∃ j,j < i∧(ts x)[j]? = some s∧listed.getD (0+j) true=false)→∀ s∈pre,Apart s t:=by
    intro x t pre ht h5 s hsm
    obtain⟨j,h6,h7,h8⟩:=h5 s hsm
    rw[Nat.zero_add]at h8
    rcases(hfit x).apart i j s t h6 h7 ht with h9|h9
    ·
     exfalso
     have hanc2:∀ m,m∈edges o→Anc ops.toList j m→False:=fun m hm hma=>by
      have hml:listed.getD m false=true:=h2 m hm
      have hms:=(hfit x).down i o (by simpa using ho) m hm
      have:=hcl.anc hsz hma (by rw[getD_tf (by omega)];exact hml) (by omega)
      rw[← getD_tf (by omega)]at this
      rw[h8]at this;cases this
     cases h9 with
     |one ho' h =>
      rw[show ops.toList[i]? = some o by simpa using ho]at ho'
      cases ho'
      have:=h2 j h
      rw[← getD_tf (by omega)]at this
      rw[h8]at this;cases this
     |step ho' h hm =>
      rw[show ops.toList[i]? = some o by simpa using ho]at ho'
      cases ho'
      exact hanc2 _ h hm
    ·
     exact h9
   by_cases his:i=s0
   ·
    -- the special one
    subst his
    rw[hos]at ho
    cases ho
    unfold wpOp
    rw[hos]
    have hrs0:App σ rs:=by
     obtain⟨t,ht,htr⟩:=hrs x0
     obtain⟨pre,post,h3,h4,h5⟩:=left_split (k:=0) ht (by rw[Nat.zero_add];exact h1) (by omega)
     have hr0:=hrun x0
     rw[h3]at hr0
     have:=(Run.front (hapx x0 t pre ht h5) hr0).1.1
     rwa [htr]at this
    have hstep:=hsp σ a w (wpAny cx.P .any ops Q fuel (listed.setIfInBounds i true)) Q hs hrs0 fun x t a' w' ht hs'=>by
     obtain⟨pre,post,h3,h4,h5⟩:=left_split (k:=0) ht (by rw[Nat.zero_add];exact h1) (by omega)
     rw[Nat.zero_add]at h4
     have hr0:=hrun x
     have hl0:=hl x
     rw[h3]at hr0 hl0
     obtain⟨h6,h7⟩:=Run.front (hapx x t pre ht h5) hr0
     refine wpAny_but (s0:=i) (hA x) (hlen x) (hfit x) fuel _ _ a' w' (by simp[hsz]) (by simp[Array.getD_eq_getD_getElem?,hsz,hi']) hcl' (by rw[h4];exact h6.2) (by rw[h4];simp at hl0 ⊢;omega) hs' fun a2 w2 hs2=>hq x a2 w2 ?_
     rw[h4]at hs2
     rw[h3]
     exact hs2.eqv h7.symm
    dsimp only
    rw[if_pos (by simp[Region.wanted,hgs])]
    exact .inl hstep
   ·
    -- one ahead of it
    have hlt:i < s0:=by
     rcases Nat.lt_or_ge i s0 with h|h
     ·
      exact h
     ·
      exfalso
      have ha:=hanc i (by omega) hi'
      cases ha with
      |one ho' h =>
       rw[show ops.toList[i]? = some o by simpa using ho]at ho'
       cases ho'
       have:=h2 s0 h
       have hs0:s0 < ops.size:=(Array.getElem?_eq_some_iff.1 hos).1
       rw[← getD_tf (by omega),hls]at this;cases this
      |@step _ _ m _ ho' h hm =>
       rw[show ops.toList[i]? = some o by simpa using ho]at ho'
       cases ho'
       have hml:listed.getD m false=true:=h2 m h
       have hms:=(hfit x0).down i o (by simpa using ho) m h
       have:=hcl.anc hsz hm (by rw[getD_tf (by omega)];exact hml) (by omega)
       have hs0:s0 < ops.size:=(Array.getElem?_eq_some_iff.1 hos).1
       rw[← getD_tf (by omega),hls]at this;cases this
    obtain⟨t,ht,htr⟩:=hA x0 i o ho his
    have htx:∀ x,(ts x)[i]? = some t:=fun x=>(hpre x i hlt).trans ht
    have hspl:∀ x,App σ t.rd∧Run (left (ts x) (listed.setIfInBounds i true) 0) (t.wr++σ)∧(left (ts x) (listed.setIfInBounds i true) 0).length=fuel ∧
      Eqv (fin (left (ts x) listed 0) σ) (fin (left (ts x) (listed.setIfInBounds i true) 0) (t.wr++σ)):=by
     intro x
     obtain⟨pre,post,h3,h4,h5⟩:=left_split (k:=0) (htx x) (by rw[Nat.zero_add];exact h1) (by omega)
     rw[Nat.zero_add]at h4
     have hr0:=hrun x
     have hl0:=hl x
     rw[h3]at hr0 hl0
     obtain⟨h6,h7⟩:=Run.front (hapx x t pre (htx x) h5) hr0
     rw[h3,h4]
     exact⟨h6.1,h6.2,by simp at hl0 ⊢;omega,h7⟩
    unfold wpOp
    rw[ho]
    have hstep:=htr σ a w (wpAny cx.P .any ops Q fuel (listed.setIfInBounds i true)) Q hs (hspl x0).1 fun a' w' hs' =>
     ih _ _ a' w' (by simp[hsz]) (by simpa only[Array.getD_eq_getD_getElem?,Array.getElem?_setIfInBounds,if_neg his] using hls) hcl' (fun x=>(hspl x).2.1) (fun x=>(hspl x).2.2.1) hs' fun x a2 w2 hs2=>hq x a2 w2 (hs2.eqv (hspl x).2.2.2.symm)
    dsimp only
    split
    ·
     rename_i hw;rw[if_pos hw]at hstep;exact .inl hstep
    ·
     rename_i hw;rw[if_neg hw]at hstep;exact hstep
end Go.AX
namespace Go.AX
open Go.RowKit
variable {cx:Cx}{σ σ':St}{a a':Act}{w w':World}{ops:Array Oper}{Q:Exit→St→Prop}
variable {ty:TypeId}{pos:String}{af:Array Edge}{gd:Option (Nat×Bool)}{d nx:Nat}{g:Nat→Value}
theorem Run.append:∀ {t1 t2:List Tr}{σ:St},Run t1 σ→Run t2 (fin t1 σ)→Run (t1++t2) σ∧fin (t1++t2) σ=fin t2 (fin t1 σ)
 | [],t2,σ,_,h=>⟨h,rfl⟩
 |t::t1,t2,σ,h1,h2=>by
  obtain⟨h3,h4⟩:=Run.append h1.2 h2
  exact⟨⟨h1.1,h3⟩,h4⟩
def ancB (s0:Nat):Nat→List Oper→Bool
 |_,[]=>true
 |i,o::l=>(Nat.ble i s0 || (edges o).any fun j=>Nat.ble s0 j&&Nat.blt j i)&&ancB s0 (i+1) l
theorem ancB_at {s0:Nat}:∀ {l:List Oper}{k i:Nat}{o:Oper},ancB s0 k l=true→l[i]? = some o→s0 < k+i→∃ j∈edges o,s0≤j∧j < k+i
 | [],k,i,o,_,h,_=>by simp at h
 |o'::l,k,i,o,h,ho,hs=>by
  simp only[ancB,Bool.and_eq_true,Bool.or_eq_true]at h
  cases i with
  |zero =>
   obtain rfl:o'=o:=by simpa using ho
   rcases h.1 with h1|h1
   ·
    have:=Nat.le_of_ble_eq_true h1;omega
   ·
    obtain⟨j,hj,hb⟩:=List.any_eq_true.1 h1
    simp only[Bool.and_eq_true]at hb
    exact⟨j,hj,Nat.le_of_ble_eq_true hb.1,by have:=hb.2;simp[Nat.blt_eq]at this;omega⟩
  |succ i =>
   obtain⟨j,h1,h2,h3⟩:=ancB_at (k:=k+1) (i:=i) h.2 (by simpa using ho) (by omega)
   exact⟨j,h1,h2,by omega⟩
theorem anc_of {s0:Nat}{l:List Oper}(h:ancB s0 0 l=true):∀ (n i:Nat),i < n→s0 < i→i < l.length→Anc l s0 i
 |0,i,hn,_,_=>by omega
 |n+1,i,hn,hs,hl=>by
  obtain⟨j,h1,h2,h3⟩:=ancB_at (k:=0) (i:=i) h (List.getElem?_eq_getElem hl) (by omega)
  rcases Nat.lt_or_ge s0 j with h4|h4
  ·
   exact .step (List.getElem?_eq_getElem hl) h1 (anc_of h n j (by omega) h4 (by omega))
  ·
   obtain rfl:j=s0:=by omega
   exact .one (List.getElem?_eq_getElem hl) h1
theorem CW.drawF {ι:Type}(x0:ι) {id:Nat}{l l1 l2:List Oper}{os:Oper}{tS:ι→Tr}{rs:List (Key×Val)}(hl:l=l1++os::l2) (hgs:os.guard=none) (hrs:∀ x,(tS x).rd=rs)
  (hsp:∀ (σ:St) (a:Act) (w:World) (K:Act→World→Prop) (Q:Exit→Act→World→Prop),Sim cx σ a w→App σ rs→(∀ x a' w',Sim cx ((tS x).wr++σ) a' w'→K a' w')→os.wp cx.P a w K Q)
  (hanc:ancB l1.length 0 l=true)
  (h:RW cx l.toArray (fun ts1 σ1=>App σ1 rs∧∀ x,RW cx l.toArray (fun ts2 σ2=>chk [] [] l (ts1++tS x::ts2)=true∧Q .normal σ2) [] l2 ((tS x).wr++σ1)) [] l1 σ):CW cx (.region id l.toArray true) Q σ:=by
 obtain⟨ts1,σ1,h1,h2,h3⟩:=h
 rw[List.nil_append]at h3
 obtain⟨F,hF⟩:∃ F:ι→List Tr×St,∀ x,Steps' cx l.toArray l2 ((tS x).wr++σ1) (F x).1 (F x).2∧chk [] [] l (ts1++tS x::(F x).1)=true∧Q .normal (F x).2:=by
  refine⟨fun x=>(Classical.choose (h3 x),Classical.choose (Classical.choose_spec (h3 x))),fun x=>?_⟩
  have:=Classical.choose_spec (Classical.choose_spec (h3 x))
  exact⟨this.1,by simpa using this.2.1,this.2.2⟩
 have hlenA:∀ {ops:Array Oper} {l:List Oper} {ts:List Tr},All2 cx ops l ts→ts.length=l.length:=by
  intro ops l
  induction l with
  |nil=>intro ts h;cases ts with
   |nil=>rfl
   |cons t ts=>exact h.elim
  |cons o l ih=>intro ts h;cases ts with
   |nil=>exact h.elim
   |cons t ts=>simp[ih h.2]
 have hA1:=h1.trs
 have hl1:=hlenA hA1
 have hl2:∀ x,(F x).1.length=l2.length:=fun x=>hlenA (hF x).1.trs
 have hleft:∀ (ts:List Tr) (n k:Nat),k+ts.length≤n→left ts (Array.replicate n false) k=ts:=by
  intro ts
  induction ts with
  |nil=>intro n k _;rfl
  |cons t ts ih =>
   intro n k hk
   simp at hk
   have h0:(Array.replicate n false).getD k true=false:=by simp[Array.getD,show k < n by omega]
   simp only[left,h0]
   rw[if_neg (by simp),ih n (k+1) (by omega)]
 have hsz:l.toArray.size=l1.length+(l2.length+1):=by subst hl;simp
 have hl0:∀ x,left (ts1++tS x::(F x).1) (Array.replicate l.toArray.size false) 0=ts1++tS x::(F x).1:=fun x=>hleft _ _ _ (by have:=hl2 x;rw[hsz];simp;omega)
 have hrun:∀ x,Run (ts1++tS x::(F x).1) σ∧fin (ts1++tS x::(F x).1) σ=(F x).2:=fun x=>by
  obtain⟨r1,r2⟩:=h1.run
  obtain⟨r3,r4⟩:=(hF x).1.run
  obtain⟨r5,r6⟩:=Run.append (t2:=tS x::(F x).1) r1 (by rw[r2];exact⟨by rw[hrs];exact h2,r3⟩)
  exact⟨r5,by rw[r6,r2];exact r4⟩
 intro a w hs
 refine wp_region_any cx.mixed (wpAny_fam (ts:=fun x=>ts1++tS x::(F x).1) (s0:=l1.length) (os:=os) (rs:=rs) x0 (fun x i o ho hne=>?_) (fun x i hi=>?_) (fun x=>by have:=hl2 x;rw[hsz];simp;omega) (fun x=>fit_of_chk (hF x).2.1) (by subst hl;simp) hgs (fun x=>⟨tS x,by simp[← hl1],hrs x⟩)
  (fun σ a w K Q hs ha hK=>hsp σ a w K Q hs ha fun x a' w' hs'=>hK x (tS x) a' w' (by simp[← hl1]) hs') (fun i hi hil=>anc_of hanc (i+1) i (by omega) hi (by simpa using hil)) l.toArray.size _ σ a _ (by simp) ?_ (fun i o _ hi hli=>?_) (fun x=>by rw[hl0];exact(hrun x).1) (fun x=>by rw[hl0];have:=hl2 x;rw[hsz];simp;omega) hs.drawn fun x a' w' hs'=>⟨(F x).2,by rw[hl0,(hrun x).2]at hs';exact hs',(hF x).2.2⟩)
 ·
  have ho':l[i]? = some o:=by simpa using ho
  rw[hl]at ho'
  rcases Nat.lt_or_ge i l1.length with hi|hi
  ·
   rw[List.getElem?_append_left hi]at ho'
   obtain⟨t,h4,h5⟩:=hA1.at ho'
   exact⟨t,by rw[List.getElem?_append_left (by omega)];exact h4,h5⟩
  ·
   rw[List.getElem?_append_right hi]at ho'
   obtain⟨j,rfl⟩:∃ j,i=l1.length+(j+1):=⟨i - l1.length - 1,by omega⟩
   rw[show l1.length+(j+1) - l1.length=j+1 by omega,List.getElem?_cons_succ]at ho'
   obtain⟨t,h4,h5⟩:=(hF x).1.trs.at ho'
   exact⟨t,by rw[List.getElem?_append_right (by omega),hl1,show l1.length+(j+1) - l1.length=j+1 by omega,List.getElem?_cons_succ];exact h4,h5⟩
 ·
  show(ts1++tS x::(F x).1)[i]? = (ts1++tS x0::(F x0).1)[i]?
  rw[List.getElem?_append_left (by omega),List.getElem?_append_left (by omega)]
 ·
  simp[Array.getD,hsz]
 ·
  have h9:i < l.length:=by simpa using hi
  simp[Array.getD]at hli
  omega
theorem fam_newpin {f:FuncId}{xs:List Operand}{avs:List AV}{ys:List Arg}{l:List (Key×Val)}{e k:Nat}{rows:List (List D)}{ats:Array TypeId}(hd:Nat.blt d cx.n=true) (hc:FnNew cx.P f ys e k rows) (hsub:Subs xs avs ys l)
  (σ:St) (a:Act) (w:World) (K:Act→World→Prop) (Q:Exit→Act→World→Prop) (hs:Sim cx σ a w) (hr:App σ (l++[(.nx,.num nx)]))
  (hK:∀ (x:Option Addr×Nat×Nat) a' w',Sim cx ([(.s d,.av (.d (.v (.slice x.1 x.2.1 x.2.2)))),(.o nx,.ob (.pin e k rows (.slice x.1 x.2.1 x.2.2))),(.nx,.num (nx+1))]++σ) a' w'→K a' w') :
  Oper.wp cx.P ⟨some d,.call { callee := .value (.func f),args:=⟨xs⟩,argTypes:=ats },ty,pos,af,gd⟩ a w K Q:=by
 obtain⟨g,n',hs⟩:=hs
 have hnx:n'=nx:=by
  have h2:=hr.right.1
  rw[hs.hnx]at h2
  simpa using h2
 subst hnx
 have hcall:=hc.calls w (cx.own g σ) (xs.map a.eval) ⟨fun b hb=>own_lt hs hb,hs.gl⟩ (hsub.ok hs hr.left)
 unfold Oper.wp
 rw[call_run hc.run]
 refine hcall.mono fun r w' he=>?_
 obtain⟨v,rfl,hb,hres⟩:=he
 have hG:=SimG.join hs hb hres (.inr rfl)
 have hsl:∃ p n c,v = .slice p n c:=by
  obtain⟨xs,h1,_⟩:=hres
  rcases h1.2 with ⟨h,_⟩|⟨g,cap,cur,h,_⟩
  ·
   exact⟨_,_,_,h⟩
  ·
   exact⟨_,_,_,h⟩
 obtain⟨p,n,c,rfl⟩:=hsl
 exact hK (p,n,c) _ _ (Sim.put hG (lt_of_blt hd) (Below.refl _ _) (av := .d (.v (.slice p n c))) (Rd.v _) trivial)
theorem own2_ret {t e k e2 k2 id n id2:Nat}{rowsF:Value→List (List D)}{rows2:List (List D)}{x:Value}(h1:get σ (.s t) = .av (.own id n)) (h2:get σ (.o id) = .ob (.arr e k (rowsF x))) (h3:n=(rowsF x).length)
  (h4:get σ (.o id2) = .ob (.pin e2 k2 rows2 x)):own2Q t e k rowsF e2 k2 rows2 .ret σ:=⟨id,n,id2,x,h1,h2,h3,h4⟩
end Go.AX
namespace Go.AX
open Go.RowKit
variable {cx:Cx}{g:Nat→Value}{σ σ':St}{a:Act}{w w':World}{nx:Nat}{c:Code}{Q:Exit→St→Prop}
variable {ty:TypeId}{pos:String}{af:Array Edge}{gd:Option (Nat×Bool)}{d:Nat}
variable {ops:Array Oper}{rest:List Oper}{o:Oper}
theorem SW.s1 {rd wr:List (Key×Val)}(ha:autA cx σ o=some ⟨rd,wr⟩) (h:SW cx ops Q rest (wr++σ)):SW cx ops Q (o::rest) σ:=by
 obtain⟨dst,op,ty,pos,af,gd⟩:=o
 cases gd with
 |some p=>cases ha
 |none =>
  simp only[autA]at ha
  split at ha
  ·
   next hd =>
   obtain⟨h1,h2⟩:=trA_ok (cx:=cx) (ty:=ty) (pos:=pos) (af:=af) (gd:=none) hd ha
   exact SW.step rfl ⟨h1,h2⟩ h
  ·
   cases ha
theorem SW.s5 {rd wr:List (Key×Val)}(ho:OA cx σ o ⟨rd,wr⟩) (hg:o.guard=none) (h:SW cx ops Q rest (wr++σ)):SW cx ops Q (o::rest) σ:=SW.step hg ho h
theorem SW.nil (h:Q .normal σ):SW cx ops Q [] σ:=fun a w hs=>wpList_nil ⟨σ,hs,h⟩
theorem SW.stut {t:Tr}{l:List Oper}(hs:Stut cx t) (ha:App σ t.rd) (h:SW cx ops Q l (t.wr++σ)):SW cx ops Q l σ:=fun a w hsim=>h a w (hs σ a w hsim ha)
theorem CW.fact {p:Prop}(hf:∀ a w,Sim cx σ a w→p) (h:p→CW cx c Q σ):CW cx c Q σ:=fun a w hs=>h (hf a w hs) a w hs
theorem SW.fact {p:Prop}{l:List Oper}(hf:∀ a w,Sim cx σ a w→p) (h:p→SW cx ops Q l σ):SW cx ops Q l σ:=fun a w hs=>h (hf a w hs) a w hs
theorem pin_shape {id e k:Nat}{rows:List (List D)}{x:Value}(ho:get σ (.o id) = .ob (.pin e k rows x)) (h0:rows≠[]) (a:Act) (w:World) (hs:Sim cx σ a w):∃ b cp,x = .slice (some ⟨b,0,none⟩) rows.length cp:=by
 obtain⟨g,nx,hs⟩:=hs
 obtain⟨_,⟨hgx,xs,h1,_⟩,_⟩:=hs.objs id _ ho
 rcases h1.2 with ⟨_,hn⟩|⟨b,cap,cur,hv,_⟩
 ·
  exact absurd (List.eq_nil_of_length_eq_zero hn) h0
 ·
  exact⟨b,cap,by rw[← hgx];exact hv⟩
theorem pin_slice {id e k:Nat}{rows:List (List D)}{x:Value}(ho:get σ (.o id) = .ob (.pin e k rows x)) (a:Act) (w:World) (hs:Sim cx σ a w):∃ p cp,x = .slice p rows.length cp:=by
 obtain⟨g,nx,hs⟩:=hs
 obtain⟨_,⟨hgx,xs,h1,_⟩,_⟩:=hs.objs id _ ho
 rcases h1.2 with ⟨hv,hn⟩|⟨b,cap,cur,hv,_⟩
 ·
  exact⟨none,0,by rw[← hgx,hv,hn]⟩
 ·
  exact⟨_,cap,by rw[← hgx];exact hv⟩
theorem stut_unpin {i id e k:Nat}{rows:List (List D)}{x:Value} :
  Stut cx ⟨[(.s i,.av (.d (.v x))),(.o id,.ob (.pin e k rows x)),(.nx,.num nx)],[(.s i,.av (.own nx rows.length)),(.o nx,.ob (.arr e k rows)),(.nx,.num (nx+1)),(.o id,.none)]⟩:=by
 intro σ a w hs hr
 exact sim_unpin i id e k nx rows x hr.1 hr.2.1 hr.2.2.1 hs
theorem ok_iav {t:TypeId}{x y:Operand}{b n cp k i:Nat}{kd:IntKind}{ti:TI}(hd:d < cx.n) (hx:EvS x (.d (.v (.slice (some ⟨b,0,none⟩) n cp)))) (hy:EvS y (.d (.v (.int kd (i:Int))))) (ht:tget cx.T t=some ti) (hk:slK ti=some k) (hi:i < n) :
  OpOk cx ⟨some d,.indexAddr t x y,ty,pos,af,gd⟩ ⟨rdOf x (.d (.v (.slice (some ⟨b,0,none⟩) n cp)))++rdOf y (.d (.v (.int kd (i:Int)))),[(.s d,.av (.d (.v (.pointer (some ⟨b,i*k,none⟩)))))]⟩:=by
 refine ok_val rfl hd fun σ a w g nx hs hr=>?_
 obtain⟨_,ie,hu,hie,hks,_⟩:=slice_of (cx.hT t ti ht) hk
 have hv:=rep_v (hs.ev hx hr.left).1
 have hy':=rep_v (hs.ev hy hr.right).1
 refine⟨.pointer (some ⟨b,i*k,none⟩),w,?_,Below.refl _ _,Rd.v _,trivial⟩
 have:(⟨b,0,none⟩:Addr).add (i*k)=⟨b,i*k,none⟩:=by rw[add_lit,Nat.zero_add]
 simp[execOp,hy',hv,Instr.indexAt,asIntOf,run_underlying hu,sizeOf,typeInfo,hie,hks,this]
 omega
theorem ok_fav {t:TypeId}{x:Operand}{b q:Nat}{ti:TI}{fl off:Nat}(hd:d < cx.n) (hx:EvS x (.d (.v (.pointer (some ⟨b,q,none⟩))))) (ht:tget cx.T t=some ti) (hf:fldOff ti fl=some off) :
  OpOk cx ⟨some d,.fieldAddr t x fl,ty,pos,af,gd⟩ ⟨rdOf x (.d (.v (.pointer (some ⟨b,q,none⟩)))),[(.s d,.av (.d (.v (.pointer (some ⟨b,q+off,none⟩)))))]⟩:=by
 refine ok_val rfl hd fun σ a w g nx hs hr=>?_
 have hv:=rep_v (hs.ev hx hr).1
 refine⟨.pointer (some ⟨b,q+off,none⟩),w,?_,Below.refl _ _,Rd.v _,trivial⟩
 have h2:=fieldAt_of (cx.hT t ti ht) hf ⟨b,q,none⟩ w
 rw[add_lit]at h2
 simp[execOp,hv,h2]
theorem ok_load_pin {t:TypeId}{x:Operand}{id n i f e k b cp q:Nat}{rows:List (List D)}{r:List D}{ti:TI}{y:D}(hd:d < cx.n) (hx:EvS x (.d (.v (.pointer (some ⟨b,q,none⟩))))) (ht:tget cx.T t=some ti) (hq:q=i*k+f) (hr:rows[i]? = some r)
  (hl:ldD ti (r.drop f)=some y) :
  OpOk cx ⟨some d,.load t x,ty,pos,af,gd⟩ ⟨rdOf x (.d (.v (.pointer (some ⟨b,q,none⟩))))++[(.o id,.ob (.pin e k rows (.slice (some ⟨b,0,none⟩) n cp)))],[(.s d,.av (.d y))]⟩:=by
 refine ok_val rfl hd fun σ a w g nx hs hrd=>?_
 have ho:get σ (.o id) = .ob (.pin e k rows (.slice (some ⟨b,0,none⟩) n cp)):=hrd.right.1
 subst hq
 have hv:=rep_v (hs.ev hx hrd.left).1
 obtain⟨_,⟨hgx,xs,h1,h2,h3,h4⟩,_⟩:=hs.objs id _ ho
 have hb:blk (g id)=some b:=by rw[hgx];rfl
 have hil:=(List.getElem?_eq_some_iff.1 hr).1
 have hrk:=h3 r (List.mem_of_getElem? hr)
 have hc:RdCells w (cx.own g σ) ⟨b,i*k+f,none⟩ (r.drop f):=by
  intro j z hz
  rw[List.getElem?_drop]at hz
  have hj:f+j < k:=by rw[← hrk];exact(List.getElem?_eq_some_iff.1 hz).1
  have hlen:i*k+(f+j) < xs.length:=by
   rw[h1.1]
   have h5:(i+1)*k≤rows.length*k:=Nat.mul_le_mul_right _ hil
   rw[Nat.add_mul,Nat.one_mul]at h5
   omega
  refine⟨xs[i*k+(f+j)],?_,h2 _ (List.getElem_mem _),h4 i (f+j) r z _ hr hz (List.getElem?_eq_getElem hlen)⟩
  rw[add_lit,show i*k+f+j=i*k+(f+j) by omega]
  have:=h1.cells (g:=b) (by rw[← blk_own h1];exact hb) (i*k+(f+j)) _ (List.getElem?_eq_getElem hlen)
  rw[add_lit,Nat.zero_add]at this
  exact this
 obtain⟨v,h5,h6⟩:=run_load_cells (cx.hT t ti ht) hc hl
 have h5':(loadVar t ⟨b,i*k+f,none⟩).run cx.P w = .ok v w:=by simpa[Instr.loadAt,Instr.sureAddr] using h5
 exact⟨v,w,by simp[execOp,hv,Instr.loadAt,Instr.sureAddr,h5'],Below.refl _ _,h6,trivial⟩
theorem ok_store_pin {t:TypeId}{x y:Operand}{id n i f e k b cp q:Nat}{rows:List (List D)}{r new:List D}{av:AV}{ti:TI}(hx:EvS x (.d (.v (.pointer (some ⟨b,q,none⟩))))) (hy:EvS y av) (ht:tget cx.T t=some ti) (hc:dcells av=some new)
  (hq:q=i*k+f) (hr:rows[i]? = some r) (hnn:Nat.beq new.length ti.n=true) (hle:f+new.length≤r.length) :
  OpOk cx ⟨none,.store t x y,ty,pos,af,gd⟩ ⟨rdOf x (.d (.v (.pointer (some ⟨b,q,none⟩))))++(rdOf y av++[(.o id,.ob (.pin e k rows (.slice (some ⟨b,0,none⟩) n cp)))]),[(.o id,.ob (.pin e k (rows.set i (splice r f new)) (.slice (some ⟨b,0,none⟩) n cp)))]⟩:=by
 rintro σ a w K Q ⟨g,nx,hs⟩ hrd hK
 have ho:get σ (.o id) = .ob (.pin e k rows (.slice (some ⟨b,0,none⟩) n cp)):=hrd.right.right.1
 subst hq
 have hv:=rep_v (hs.ev hx hrd.left).1
 obtain⟨hav,hbd⟩:=hs.ev hy hrd.right.left
 obtain⟨hidn,⟨hgx,xs,h1,h2,h3,h4⟩,_⟩:=hs.objs id _ ho
 have hb:blk (g id)=some b:=by rw[hgx];rfl
 obtain⟨c1,c2,c3⟩:=dcells_ok hs hav hc
 have hF:=cx.hT t ti ht
 have hnn':new.length=ti.n:=by simpa using hnn
 have hil:=(List.getElem?_eq_some_iff.1 hr).1
 have hrk:=h3 r (List.mem_of_getElem? hr)
 have h5:(i+1)*k≤rows.length*k:=Nat.mul_le_mul_right _ hil
 rw[Nat.add_mul,Nat.one_mul]at h5
 rcases h1.2 with ⟨_,h6⟩|⟨b',cap,cur,hv',hge,hh,hle',hcm,hsz,htk⟩
 ·
  omega
 have hbb:b'=b:=by rw[hv']at hb;simpa[blk] using hb
 subst hbb
 generalize hX:a.eval y=X at hav c1 c2 c3
 have hlen:X.cells.toList.length=new.length:=c1
 have hcap:rows.length*k≤cap*k:=Nat.mul_le_mul_right _ hle'
 have hst:=run_storeCells_at (P:=cx.P) b' (i*k+f) e X.cells.toList 0 cur w hh (by rw[hlen];omega) c2
 simp only[Nat.add_zero]at hst
 have hX':X.cells.size=ti.n:=by rw[← hnn',← hlen];simp
 have hrun:(Instr.storeAt t (.pointer (some ⟨b',i*k+f,none⟩)) X).run cx.P w = .ok () (w.setRow b' (splice cur.toList (i*k+f) X.cells.toList).toArray):=by
  simp[Instr.storeAt,Instr.sureAddr,storeVar,sizeOf_of hF w,hX',hst,splice]
 generalize hcs':(splice cur.toList (i*k+f) X.cells.toList).toArray=cs' at hrun
 have hheap:(w.setRow b' cs').heap[b']? = some (.cells cs' e (0,0)):=setRow_heap w b' cur cs' e (0,0) hh
 have hle2:i*k+f+X.cells.toList.length≤cur.toList.length:=by rw[hlen];simp;omega
 have hrows:(rows.set i (splice r f new)).length=rows.length:=by simp
 have hOS:ObjStep cx σ g nx nx w (w.setRow b' cs') id (.pin e k (rows.set i (splice r f new)) (.slice (some ⟨b',0,none⟩) n cp)) (g id):=by
  refine⟨.inr ⟨rfl,.pin e k rows (.slice (some ⟨b',0,none⟩) n cp),ho,trivial⟩,⟨rfl,rfl,rfl,by simp,fun k hk=>setRow_other w b' k cs' (by omega)⟩,fun b hb hne=>setRow_other w b' b cs' (fun e=>hne _ ho (by rw[hv',e];rfl)),fun b hb => .inl ⟨_,ho,hb⟩⟩
 have hxs':cs'.toList.take (rows.length*k)=splice xs (i*k+f) X.cells.toList:=by
  subst hcs'
  apply List.ext_getElem?
  intro j
  have hxl:xs.length=rows.length*k:=h1.1
  rw[List.getElem?_take]
  show(if j < rows.length*k then (splice cur.toList (i*k+f) X.cells.toList)[j]? else none)=_
  rw[splice_get hle2,splice_get (l:=xs) (by rw[hxl,hlen];omega)]
  by_cases hj:j < rows.length*k
  ·
   rw[if_pos hj]
   split
   ·
    rfl
   ·
    rw[← htk,List.getElem?_take,if_pos hj]
  ·
   rw[if_neg hj,if_neg (by rw[hlen];omega),List.getElem?_eq_none (by omega)]
 have hG:=SimG.obj hs hOS (fun hlat=>?_) trivial
 ·
  unfold Oper.wp
  simp only[execOp,hv,hX,Sem.run_bind,hrun,Result.andThen_ok,Sem.run_pure,Oper.upon,Act.put]
  refine hK _ _ (Sim.eqv ⟨_,_,hG⟩ fun k=>?_)
  cases k with
  |s i=>rw[objSt_s];exact(get_cons_ne (by simp)).symm
  |o i =>
   by_cases hi:i=id
   ·
    subst hi;rw[get_cons_same];exact get_cons_same.symm
   ·
    rw[objSt_o hi];exact(get_cons_ne (by simpa using fun e=>hi e.symm)).symm
  |nx=>rw[objSt_nx];exact hs.hnx.symm.trans (get_cons_ne (by simp)).symm
 ·
  have hsl:(splice xs (i*k+f) X.cells.toList).length=xs.length:=splice_len (by rw[h1.1,hlen];omega)
  refine⟨(upd_same _ _ _).trans hgx,splice xs (i*k+f) X.cells.toList,⟨by rw[hsl,h1.1,hrows],.inr ⟨b',cap,cs',?_,hge,hheap,by rw[hrows];exact hle',hcm,?_,by rw[hrows];exact hxs'⟩⟩,fun x hx=>?_,fun r' hr'=>?_,fun i' j r' z x hi' hj hx=>?_⟩
  ·
   rw[upd_same,hv',hrows]
  ·
   subst hcs';rw[← hsz];simpa using splice_len hle2
  ·
   obtain⟨j,hj⟩:=List.getElem?_of_mem hx
   rw[splice_get (by rw[h1.1,hlen];omega)]at hj
   split at hj
   ·
    exact c2 x (List.mem_of_getElem? hj)
   ·
    exact h2 x (List.mem_of_getElem? hj)
  ·
   rcases List.mem_or_eq_of_mem_set hr' with h|h
   ·
    exact h3 r' h
   ·
    subst h;rw[splice_len hle,hrk]
  ·
   have hjk:j < k:=by
    have hm:r'∈rows.set i (splice r f new):=List.mem_of_getElem? hi'
    have:r'.length=k:=by
     rcases List.mem_or_eq_of_mem_set hm with h|h
     ·
      exact h3 r' h
     ·
      subst h;rw[splice_len hle,hrk]
    rw[← this];exact(List.getElem?_eq_some_iff.1 hj).1
   rw[splice_get (by rw[h1.1,hlen];omega)]at hx
   by_cases hii:i=i'
   ·
    subst hii
    rw[List.getElem?_set_self hil]at hi'
    cases hi'
    rw[splice_get hle]at hj
    by_cases hin:f≤j∧j < f+new.length
    ·
     rw[if_pos hin]at hj
     rw[if_pos (by rw[hlen];omega),show i*k+j - (i*k+f)=j - f by omega]at hx
     exact(c3 (j - f) x z hj hx).step hlat.ext hlat.own
    ·
     rw[if_neg hin]at hj
     rw[if_neg (by rw[hlen];omega)]at hx
     exact(h4 i j r z x hr hj hx).step hlat.ext hlat.own
   ·
    rw[List.getElem?_set_ne hii]at hi'
    have hout:¬ (i*k+f≤i'*k+j∧i'*k+j < i*k+f+X.cells.toList.length):=by
     rw[hlen]
     rcases Nat.lt_or_ge i' i with hlt|hge
     ·
      have:=Nat.mul_le_mul_right k hlt
      rw[Nat.succ_mul]at this
      omega
     ·
      have:=Nat.mul_le_mul_right k (show i+1≤i' by omega)
      rw[Nat.add_mul,Nat.one_mul]at this
      omega
    rw[if_neg hout]at hx
    exact(h4 i' j r' z x hi' hj hx).step hlat.ext hlat.own
theorem a_iav {t:TypeId}{x y:Operand}{b n cp k i:Nat}{kd:IntKind}{ti:TI}(hx:ev σ x=some (.d (.v (.slice (some ⟨b,0,none⟩) n cp)))) (hy:ev σ y=some (.d (.v (.int kd (i:Int))))) (ht:tget cx.T t=some ti) (hk:slK ti=some k) (hd:Nat.blt d cx.n=true) (hi:i < n) :
  OA cx σ ⟨some d,.indexAddr t x y,ty,pos,af,gd⟩ ⟨rdOf x (.d (.v (.slice (some ⟨b,0,none⟩) n cp)))++rdOf y (.d (.v (.int kd (i:Int)))),[(.s d,.av (.d (.v (.pointer (some ⟨b,i*k,none⟩)))))]⟩ :=
 ⟨ok_iav (lt_of_blt hd) (ev_out hx).1 (ev_out hy).1 ht hk hi,(ev_out hx).2.append (ev_out hy).2⟩
theorem a_fav {t:TypeId}{x:Operand}{b q:Nat}{ti:TI}{fl off:Nat}(hx:ev σ x=some (.d (.v (.pointer (some ⟨b,q,none⟩))))) (ht:tget cx.T t=some ti) (hf:fldOff ti fl=some off) (hd:Nat.blt d cx.n=true) :
  OA cx σ ⟨some d,.fieldAddr t x fl,ty,pos,af,gd⟩ ⟨rdOf x (.d (.v (.pointer (some ⟨b,q,none⟩)))),[(.s d,.av (.d (.v (.pointer (some ⟨b,q+off,none⟩)))))]⟩ :=
 ⟨ok_fav (lt_of_blt hd) (ev_out hx).1 ht hf,(ev_out hx).2⟩
theorem a_lpin {t:TypeId}{x:Operand}(id i f:Nat) {n e k b cp q:Nat}{rows:List (List D)}{r:List D}{ti:TI}{y:D}(hx:ev σ x=some (.d (.v (.pointer (some ⟨b,q,none⟩))))) (ho:get σ (.o id) = .ob (.pin e k rows (.slice (some ⟨b,0,none⟩) n cp))) (ht:tget cx.T t=some ti)
  (hd:Nat.blt d cx.n=true) (hr:rows[i]? = some r) (hl:ldD ti (r.drop f)=some y) (hq:q=i*k+f) :
  OA cx σ ⟨some d,.load t x,ty,pos,af,gd⟩ ⟨rdOf x (.d (.v (.pointer (some ⟨b,q,none⟩))))++[(.o id,.ob (.pin e k rows (.slice (some ⟨b,0,none⟩) n cp)))],[(.s d,.av (.d y))]⟩ :=
 ⟨ok_load_pin (lt_of_blt hd) (ev_out hx).1 ht hq hr hl,(ev_out hx).2.append ⟨ho,trivial⟩⟩
theorem a_spin {t:TypeId}{x y:Operand}(id i f:Nat) {n e k b cp q:Nat}{rows:List (List D)}{r new:List D}{av:AV}{ti:TI}(hx:ev σ x=some (.d (.v (.pointer (some ⟨b,q,none⟩))))) (ho:get σ (.o id) = .ob (.pin e k rows (.slice (some ⟨b,0,none⟩) n cp))) (hy:ev σ y=some av) (ht:tget cx.T t=some ti)
  (hc:dcells av=some new) (hnn:Nat.beq new.length ti.n=true) (hr:rows[i]? = some r) (hle:Nat.ble (f+new.length) r.length=true) (hq:q=i*k+f) :
  OA cx σ ⟨none,.store t x y,ty,pos,af,gd⟩ ⟨rdOf x (.d (.v (.pointer (some ⟨b,q,none⟩))))++(rdOf y av++[(.o id,.ob (.pin e k rows (.slice (some ⟨b,0,none⟩) n cp)))]),[(.o id,.ob (.pin e k (rows.set i (splice r f new)) (.slice (some ⟨b,0,none⟩) n cp)))]⟩ :=
 ⟨ok_store_pin (ev_out hx).1 (ev_out hy).1 ht hc hq hr hnn (by simpa using hle),(ev_out hx).2.append ((ev_out hy).2.append ⟨ho,trivial⟩)⟩
end Go.AX
namespace Go.AX
open Go.RowKit
variable {cx:Cx}{g:Nat→Value}{σ σ':St}{a:Act}{w w':World}{nx:Nat}{c:Code}{Q:Exit→St→Prop}
variable {ty:TypeId}{pos:String}{af:Array Edge}{gd:Option (Nat×Bool)}{d:Nat}
theorem ok_lenv {t tt:TypeId}{x:Operand}{p:Option Addr}{n cp k:Nat}{ti:TI}(hd:d < cx.n) (hx:EvS x (.d (.v (.slice p n cp)))) (ht:tget cx.T t=some ti) (hk:slK ti=some k) :
  OpOk cx ⟨some d,.call { callee := .builtin .len,args := #[x],argTypes := #[t] },tt,pos,af,gd⟩ ⟨rdOf x (.d (.v (.slice p n cp))),[(.s d,.av (.d (.v (.int .i64 n))))]⟩:=by
 refine ok_val rfl hd fun σ a w g nx hs hr=>?_
 obtain⟨_,ie,hu,_⟩:=slice_of (cx.hT t ti ht) hk
 have hv:=rep_v (hs.ev hx hr).1
 exact⟨.int .i64 n,w,by simp[execOp,resolve,invoke,builtin,hv,Builtin.len_,run_underlying hu,goInt],Below.refl _ _,Rd.v _,trivial⟩
theorem a_lenv {t tt:TypeId}{x:Operand}{p:Option Addr}{n cp k:Nat}{ti:TI}(hx:ev σ x=some (.d (.v (.slice p n cp)))) (ht:tget cx.T t=some ti) (hk:slK ti=some k) (hd:Nat.blt d cx.n=true) :
  OA cx σ ⟨some d,.call { callee := .builtin .len,args := #[x],argTypes := #[t] },tt,pos,af,gd⟩ ⟨rdOf x (.d (.v (.slice p n cp))),[(.s d,.av (.d (.v (.int .i64 n))))]⟩ :=
 ⟨ok_lenv (lt_of_blt hd) (ev_out hx).1 ht hk,(ev_out hx).2⟩
theorem SimG.drop (hG:SimG cx σ a w g nx) (id:Nat):SimG cx ((.o id,.none)::σ) a w g nx:=by
 have hl:=Less.drop ⟨g,nx,hG⟩ id
 have hlat:Later cx g g σ ((.o id,.none)::σ) w w nx:=by
  refine⟨Ext.refl _ _,Below.refl _ _,fun b hb=>?_,fun j o' _ h=>⟨o',hl.o _ _ h,?_⟩⟩
  ·
   rcases hb with hb|⟨j,o,h5,h6⟩
   ·
    exact .inl (.inl hb)
   ·
    exact .inl (.inr ⟨j,o,hl.o _ _ h5,h6⟩)
  ·
   cases o' <;> simp[ObLe]
 exact hG.next hlat ((get_cons_ne (by simp)).trans hG.hnx) (Nat.le_refl _) hG.size hG.defers (Below.refl _ _) (fun j av hj => .inl ⟨hl.s _ _ hj,rfl⟩) (fun j o hj => .inl ⟨hl.o _ _ hj,rfl,fun _ _=>rfl⟩)
  (fun j j' o o' b h1 h2=>hG.sep j j' o o' b (hl.o _ _ h1) (hl.o _ _ h2))
theorem stut_fold {id id2 i j e k e2 k2:Nat}{rows rows2:List (List D)}{r:List D}{x:Value}(hi:rows[i]? = some r) (hj:r[j]? = some (.v x)) :
  Stut cx ⟨[(.o id,.ob (.arr e k rows)),(.o id2,.ob (.pin e2 k2 rows2 x))],[(.o id,.ob (.arr e k (rows.set i (r.set j (.sl k2 rows2))))),(.o id2,.none)]⟩:=by
 rintro σ a w ⟨g,nx,hG⟩ hr
 have ho:get σ (.o id) = .ob (.arr e k rows):=hr.1
 have ho2:get σ (.o id2) = .ob (.pin e2 k2 rows2 x):=hr.2.1
 have hne:id2≠id:=fun he=>by subst he;rw[ho2]at ho;cases ho
 obtain⟨_,⟨hgx,hp⟩,_⟩:=hG.objs id2 _ ho2
 have hp':RowsAt w cx.w0.heap.size (cx.own g σ) e2 k2 (g id2) rows2:=hp
 have hG3:=hG.drop id2
 have ho':get ((.o id2,.none)::σ) (.o id) = .ob (.arr e k rows):=(get_cons_ne (by simpa using hne)).trans ho
 have hown:∀ b,cx.own g ((.o id2,.none)::σ) b→cx.own g σ b∧blk (g id2)≠some b:=by
  rintro b (h|⟨q,o,h1,h2⟩)
  ·
   refine⟨.inl h,fun hb=>?_⟩
   have h3:=obj_ge hG ho2 hb
   have h4:=hG.own0.1 b h
   omega
  ·
   have hq:q≠id2:=fun e=>by subst e;rw[get_cons_same]at h1;cases h1
   rw[get_cons_ne (by simpa using fun e=>hq e.symm)]at h1
   exact⟨.inr ⟨q,o,h1,h2⟩,fun hb=>hq (hG.sep q id2 o _ b h1 ho2 h2 hb)⟩
 have hrd:Rd w (cx.own g ((.o id2,.none)::σ)) x (.sl k2 rows2):=by rw[← hgx];exact hp'.rd hown
 have hR:=(objRows hG3 ho').at hi hj hrd
 exact⟨g,nx,hG3.reob ho' (o' := .arr e k (rows.set i (r.set j (.sl k2 rows2)))) ⟨rfl,rfl,by simp,fun _=>rfl⟩ hR trivial⟩
end Go.AX
namespace Go.AX
open Go.RowKit
section
variable {P:Program}{t:TypeId}
theorem bin_bneq {a b:Bool}(h:P.underlying t=some .bool):BinR P .neq t (.bool a) (.bool b) (.bool (!decide (a=b))):=by
 intro w x y
 rw[Sem.run_bind,eqGuard_at_bool,Sem.run_pure,Result.andThen_ok,run_neq_bool _ _ _ _ h]
 cases a <;> cases b <;> rfl
theorem bin_beql {a b:Bool}(h:P.underlying t=some .bool):BinR P .eql t (.bool a) (.bool b) (.bool (decide (a=b))):=by
 intro w x y
 simp only[Sem.run_bind,eqGuard_at_bool,Sem.run_pure,Result.andThen_ok,binOp,run_equal_bool _ _ _ _ h]
 cases a <;> cases b <;> rfl
end
variable {cx:Cx}{g:Nat→Value}{σ σ':St}{a:Act}{w w':World}{nx:Nat}
variable {ty:TypeId}{pos:String}{af:Array Edge}{gd:Option (Nat×Bool)}{d:Nat}
inductive AggV:AV→List Value→Prop
 |d {ds:List D} {us:List Value} (h:ds=us.map D.v):AggV (.d (.agg ds)) us
 |a {cs:List AV} {us:List Value} (h:cs=us.map fun u=>AV.d (.v u)):AggV (.agg cs) us
theorem rep_aggv {v:Value}{av:AV}{us:List Value}(h:AggV av us) (hr:Rep cx g σ w v av):v = .agg us.toArray:=by
 cases h with
 |d h=>subst h;exact rd_agg_v hr
 |a h =>
  subst h
  obtain⟨cs,rfl,hs,_,hr⟩:=hr
  congr 1
  apply Array.ext_getElem?
  intro j
  have hs':cs.size=us.length:=by simpa using hs
  rcases Nat.lt_or_ge j us.length with hj|hj
  ·
   have h1:=hr j cs[j] (.d (.v us[j])) (by simp[List.getElem?_map,List.getElem?_eq_getElem hj]) (Array.getElem?_eq_getElem (by omega))
   have h2:cs[j]=us[j]:=rd_v h1
   rw[Array.getElem?_eq_getElem (by omega)]
   simp[h2]
  ·
   rw[Array.getElem?_eq_none (by omega)]
   simp[hj]
end Go.AX
