/-
  Part 2 of what the claim leans on: AxMore AxBy Md Sh0 AxOpen AxLaw Pl Rf Rf2 Srt AxDec Tb Sh G2 R1 AxPin AxPin2 AxPin3 G1 Eq F2 F17 AxFam2 G11 AxIns G13 G14 AxPin4 R2 F1 F3 F19 F20 P1 P4 ShTrim R3 F4 AxBool L4 AxLaid.
-/
import Derived.Test.YtngnajknbeijjaaDoorK1
import Derived.Lib.SliceRun
import Derived.ProofKit
import Derived.Test.YtngnajknbeijjaaDoorRows
import Derived.Deep.Slices
import Derived.Carry
import Derived.JoinedCond
import Derived.OpenShut
import Derived.Test.YtngnajknbeijjaaDoorProg
import Derived.KernelRfl
import Derived.Shelf.Small.Strs
import Derived.Laws.StructEq
import Derived.Shelf.Spec.SlicesInsertGrow
import Derived.Maps.AppendAt
import Derived.Lib.SlTrimSet
import Derived.Shelf.Strings.SlTrimAscii
import Derived.Laws.Small
import Derived.Shelf.Vars
import Derived.FnData
set_option linter.all false

namespace Go.AX
open Go.RowKit
variable {cx:Cx}{g:Nat→Value}{σ:St}{a:Act}{w:World}{nx:Nat}{c:Code}{Q:Exit→St→Prop}
variable {ty:TypeId}{pos:String}{af:Array Edge}{gd:Option (Nat×Bool)}{d:Nat}
theorem CW.empty {k:Nat}(i:Nat) (hi:get σ (.s i) = .av (.d (.sl k []))) (h:∀ (p:Option Addr) (cp:Nat),CW cx c Q ((.s i,.av (.d (.v (.slice p 0 cp))))::σ)):CW cx c Q σ:=by
 intro a w hs
 have hs0:=hs
 obtain⟨g,nx,hG⟩:=hs0
 have hr:Rd w (cx.own g σ) (a.tmps.getD i undef) (.sl k []):=(hG.slots i _ hi).1
 have key:∃ p cp,a.tmps.getD i undef = .slice p 0 cp:=by
  generalize a.tmps.getD i undef=x at hr
  generalize hD:D.sl k []=D0 at hr
  cases hr with
  |v=>cases hD
  |x=>cases hD
  |agg=>cases hD
  |nil p cp=>exact⟨p,cp,rfl⟩
  |sl ad cp k' rows f hb hsz hcap hk hc h1 hr=>cases hD;exact⟨_,_,rfl⟩
 obtain⟨p,cp,hv⟩:=key
 exact h p cp a w (Sim.retell hG (by rw[hv];exact Rd.v _) trivial)
theorem stut_nilv {i k cp:Nat}{p:Option Addr}:Stut cx ⟨[(.s i,.av (.d (.v (.slice p 0 cp))))],[(.s i,.av (.d (.sl k [])))]⟩:=by
 rintro σ a w ⟨g,nx,hs⟩ hr
 exact Sim.retell hs (av := .d (.sl k [])) (DLe_nilv p cp k (hs.slots i _ hr.1).1) trivial
theorem bin_isnil {P:Program}{t e:TypeId}{p:Option Addr}{n cp:Nat}(h:P.underlying t=some (.slice e)):BinR P .eql t (.slice p n cp) (.slice none 0 0) (.bool p.isNone):=by
 intro w x y
 rw[eqGuard_at_slice]
 simp only[Sem.run_bind,Sem.run_pure,Result.andThen_ok]
 exact Go.Lib.run_eql_slice_nil w t e p n cp 0 0 h
theorem tbl_slice {t:TypeId}{ti:TI}{k:Nat}(ht:tget cx.T t=some ti) (hk:slK ti=some k):∃ e,cx.P.underlying t=some (.slice e):=by
 obtain⟨e,ie,hu,_⟩:=slice_of (cx.hT t ti ht) hk
 exact⟨e,hu⟩
theorem a_nilv {t t':TypeId}{x y:Operand}{p:Option Addr}{n cp k:Nat}{ti:TI}(hx:ev σ x=some (.d (.v (.slice p n cp)))) (hy:ev σ y=some (.d (.v (.slice none 0 0)))) (ht:tget cx.T t=some ti) (hk:slK ti=some k) (hd:Nat.blt d cx.n=true) :
  OA cx σ ⟨some d,.binOp .eql t x y t',ty,pos,af,gd⟩ ⟨rdOf x (.d (.v (.slice p n cp)))++rdOf y (.d (.v (.slice none 0 0))),[(.s d,.av (.d (.v (.bool p.isNone))))]⟩:=by
 obtain⟨e,hu⟩:=tbl_slice (cx:=cx) ht hk
 exact a_bin hx hy (bin_isnil hu) hd
theorem ok_nilsl {t t':TypeId}{x y:Operand}{k k':Nat}{r:List D}{rows:List (List D)}{ti:TI}(hn:d < cx.n) (hx:EvS x (.d (.sl k (r::rows)))) (hy:EvS y (.d (.v (.slice none 0 0)))) (ht:tget cx.T t=some ti) (hk:slK ti=some k') :
  OpOk cx ⟨some d,.binOp .eql t x y t',ty,pos,af,gd⟩ ⟨rdOf x (.d (.sl k (r::rows)))++rdOf y (.d (.v (.slice none 0 0))),[(.s d,.av (.d (.v (.bool false))))]⟩:=by
 refine ok_val rfl hn fun σ a w g nx hs hr=>⟨.bool false,w,?_,Below.refl _ _,Rd.v _,trivial⟩
 obtain⟨e,hu⟩:=tbl_slice (cx:=cx) ht hk
 have h1:Rd w (cx.own g σ) (a.eval x) (.sl k (r::rows)):=(hs.ev hx hr.left).1
 have h2:=rep_v (hs.ev hy hr.right).1
 have key:∃ ad n cp,a.eval x = .slice (some ad) n cp:=by
  generalize a.eval x=v at h1
  generalize hD:D.sl k (r::rows)=D0 at h1
  cases h1 with
  |v=>cases hD
  |x=>cases hD
  |agg=>cases hD
  |nil p cp=>cases hD
  |sl ad cp k' rows f hb hsz hcap hk hc h1 hr=>exact⟨_,_,_,rfl⟩
 obtain⟨ad,n,cp,hv⟩:=key
 have:=bin_isnil (P:=cx.P) (p:=some ad) (n:=n) (cp:=cp) hu w x y
 simp only[execOp,hv,h2,Sem.run_bind]at this ⊢
 rw[this]
 rfl
theorem a_nilsl {t t':TypeId}{x y:Operand}{k k':Nat}{r:List D}{rows:List (List D)}{ti:TI}(hx:ev σ x=some (.d (.sl k (r::rows)))) (hy:ev σ y=some (.d (.v (.slice none 0 0)))) (ht:tget cx.T t=some ti) (hk:slK ti=some k') (hd:Nat.blt d cx.n=true) :
  OA cx σ ⟨some d,.binOp .eql t x y t',ty,pos,af,gd⟩ ⟨rdOf x (.d (.sl k (r::rows)))++rdOf y (.d (.v (.slice none 0 0))),[(.s d,.av (.d (.v (.bool false))))]⟩ :=
 ⟨ok_nilsl (lt_of_blt hd) (ev_out hx).1 (ev_out hy).1 ht hk,(ev_out hx).2.append (ev_out hy).2⟩
theorem ok_callv {f:FuncId}{z:Operand}{xs:List Operand}{avs:List AV}{ys:List Arg}{l:List (Key×Val)}{r:Res}{ats:Array TypeId}(hn:d < cx.n) (hz:EvS z (.d (.v (.func (.func f) #[] #[])))) (hc:FnOk cx.P f ys r) (hsub:Subs xs avs ys l) :
  OpOk cx ⟨some d,.call { callee := .value z,args:=⟨xs⟩,argTypes:=ats },ty,pos,af,gd⟩ ⟨rdOf z (.d (.v (.func (.func f) #[] #[])))++l,[(.s d,.av r.av)]⟩:=by
 rintro σ a w K Q ⟨g,nx,hs⟩ hr hK
 have hv:=rep_v (hs.ev hz hr.left).1
 have hcall:=hc.calls w (cx.own g σ) (xs.map a.eval) ⟨fun b hb=>own_lt hs hb,hs.gl⟩ (hsub.ok hs hr.right)
 have hrun:(execOp a.eval ⟨some d,.call { callee := .value z,args:=⟨xs⟩,argTypes:=ats },ty,pos,af,gd⟩).run cx.P w = .ok (.enter f (xs.map a.eval).toArray) w:=by
  obtain⟨fn,h1,h2,h3⟩:=hc.run
  simp only[execOp,resolve,Deferred.ofValue,hv,invoke,callFunc,Sem.run_bind,Sem.run_pure,Result.andThen_ok,run_program,h1,h2,h3,Bool.false_eq_true,if_false]
  simp
 unfold Oper.wp
 rw[hrun]
 refine hcall.mono fun e w' he=>?_
 obtain⟨v,rfl,hb,hres⟩:=he
 obtain⟨h1,h2⟩:=Res.rep (nx:=nx) hres
 exact hK _ _ (Sim.put hs hn hb h1 h2)
theorem a_callv {f:FuncId}{z:Operand}{xs:List Operand}{avs:List AV}{ys:List Arg}{l:List (Key×Val)}{r:Res}{ats:Array TypeId}(hc:FnOk cx.P f ys r) (hz:ev σ z=some (.d (.v (.func (.func f) #[] #[])))) (hd:Nat.blt d cx.n=true) (hsub:SubsE σ xs avs ys l) :
  OA cx σ ⟨some d,.call { callee := .value z,args:=⟨xs⟩,argTypes:=ats },ty,pos,af,gd⟩ ⟨rdOf z (.d (.v (.func (.func f) #[] #[])))++l,[(.s d,.av r.av)]⟩ :=
 ⟨ok_callv (lt_of_blt hd) (ev_out hz).1 hc hsub.out.1,(ev_out hz).2.append hsub.out.2⟩
def inK (ti:TI):Option IntKind:=match ti.kind with
 |.int k=>some k
 |_=>none
theorem int_of {t:TypeId}{ti:TI}{k:IntKind}(ht:tget cx.T t=some ti) (hk:inK ti=some k):cx.P.underlying t=some (.int k):=by
 have h:=(cx.hT t ti ht).kind
 unfold inK at hk
 split at hk
 ·
  next k' hkk=>cases hk;rw[hkk]at h;exact h.1
 ·
  cases hk
theorem ok_conv {s t:TypeId}{x:Operand}{ks kt:IntKind}{n:Int}{si ti:TI}(hn:d < cx.n) (hx:EvS x (.d (.v (.int ks n)))) (hs':tget cx.T s=some si) (hks:inK si=some ks) (ht:tget cx.T t=some ti) (hkt:inK ti=some kt) (hw:kt.wrap n=n) :
  OpOk cx ⟨some d,.convert s t x,ty,pos,af,gd⟩ ⟨rdOf x (.d (.v (.int ks n))),[(.s d,.av (.d (.v (.int kt n))))]⟩:=by
 refine ok_val rfl hn fun σ a w g nx hs hr=>⟨.int kt n,w,?_,Below.refl _ _,Rd.v _,trivial⟩
 have hv:=rep_v (hs.ev hx hr).1
 have h1:=int_of (cx:=cx) hs' hks
 have h2:=int_of (cx:=cx) ht hkt
 have h3:cx.P.intKind t=kt:=by simp[Program.intKind,h2]
 have:=run_convert_int (P:=cx.P) w s t ks n (by simp[h1]) (by rw[h3];exact h2)
 rw[h3,hw]at this
 simp[execOp,hv,this]
theorem a_conv {s t:TypeId}{x:Operand}{ks kt:IntKind}{n:Int}{si ti:TI}(hx:ev σ x=some (.d (.v (.int ks n)))) (hs':tget cx.T s=some si) (hks:inK si=some ks) (ht:tget cx.T t=some ti) (hkt:inK ti=some kt) (hd:Nat.blt d cx.n=true) (hw:kt.wrap n=n) :
  OA cx σ ⟨some d,.convert s t x,ty,pos,af,gd⟩ ⟨rdOf x (.d (.v (.int ks n))),[(.s d,.av (.d (.v (.int kt n))))]⟩ :=
 ⟨ok_conv (lt_of_blt hd) (ev_out hx).1 hs' hks ht hkt hw,(ev_out hx).2⟩
theorem wrap_u64_in {n:Int}(h:0≤n∧n≤9223372036854775807):IntKind.u64.wrap n=n:=by
 rw[IntKind.wrap_u64];omega
theorem bin_half {P:Program}{t:TypeId}{n:Int}:BinR P .shr t (.int .u64 n) (.int .u64 1) (.int .u64 (n / 2)):=by
 intro w x y
 have:=shift_shr .u64 .u64 n 1 (by omega) (by decide)
 rw[eqGuard_shr,binOp_shr,this]
 rfl
end Go.AX
namespace Go.AX
theorem by_k {p:Prop}(h:p:=by((focus first|exact rfl|assumption|((first|apply decide_eq_true|apply decide_eq_false);omega)|(simp;done)|(simp;omega)|(simp;assumption)))):p:=h
theorem by_ks {p:Prop}(h:p:=by((focus first|assumption|((first|apply decide_eq_true|apply decide_eq_false);omega)|(simp;done)|(simp;omega)|(simp;assumption)|exact rfl))):p:=h
theorem by_g {p:Prop}(h:p:=by((first|exact .none rfl|(refine .yes rfl rfl (gt rfl ?_);(focus first|exact rfl|assumption|((first|apply decide_eq_true|apply decide_eq_false);omega)|(simp;done)|(simp;omega)|(simp;assumption)))))):p:=h
theorem by_less {p:Prop}(h:p:=by((refine less_of rfl rfl rfl ?_);(repeat(first|exact lessL_nil|refine lessL_nx ?_|refine lessL_cons (by first|exact rfl|exact get_int rfl (by(focus first|omega|(simp;done)|(simp;omega)))|exact get_own rfl (by first|rfl|(simp;done)|(simp;omega))|exact get_bool rfl (by(focus first|exact rfl|assumption|((first|apply decide_eq_true|apply decide_eq_false);omega)|(simp;done)|(simp;omega)|(simp;assumption)))|exact get_sl rfl (by first|rfl|assumption|(simp;done)|(simp only[List.map_append];rfl)|(simp only[List.map_append,List.append_assoc];rfl)|(simp;rfl))|exact get_arr rfl (by first|rfl|assumption|(simp;done)|(simp only[List.map_append];rfl)|(simp only[List.map_append,List.append_assoc];rfl)|(simp;rfl))|exact get_box rfl (by first|rfl|assumption|(simp;done)|(simp;rfl))) rfl ?_)))):p:=h
theorem by_oa {p:Prop}(h:p:=by
  first
  |((with_reducible apply a_ia);(iterate 5 exact rfl);apply idx_map;assumption)
  |((with_reducible apply a_bin);(iterate 2 exact rfl);(first|with_reducible apply bin_add|with_reducible apply bin_sub|apply bin_add|apply bin_sub);(focus first|omega|(simp;done)|(simp;omega));exact rfl)
  |((with_reducible apply a_pick_t);exact rfl;(focus first|exact rfl|assumption|((first|apply decide_eq_true|apply decide_eq_false);omega)|(simp;done)|(simp;omega)|(simp;assumption));(iterate 2 exact rfl))
  |((with_reducible apply a_pick_f);exact rfl;(focus first|exact rfl|assumption|((first|apply decide_eq_true|apply decide_eq_false);omega)|(simp;done)|(simp;omega)|(simp;assumption));(iterate 2 exact rfl))
  |((with_reducible apply a_app);(iterate 8 exact rfl);(focus first|exact rfl|(simp;done)|(simp;omega));(focus first|omega|(simp;done)|(simp;omega)))
  |((with_reducible apply a_store);(iterate 7 exact rfl);(first|exact⟨rfl,trivial⟩|(apply nw_own;exact rfl;(focus first|exact rfl|(simp;done)|(simp;omega)))))
  |((with_reducible apply a_ib);(iterate 6 exact rfl);(first|omega|decide))
  |((with_reducible apply a_is);(iterate 5 exact rfl);assumption)
  |((with_reducible apply a_from);(iterate 5 exact rfl);apply cut_from;(focus first|omega|(simp;omega)|(simp;done)))
  |((with_reducible apply a_to);(iterate 5 exact rfl);apply cut_to;(focus first|omega|(simp;omega)|(simp;done)))
  |((with_reducible apply a_leno);(iterate 5 exact rfl);(focus first|exact rfl|(simp;done)|(simp;omega)))
  |((with_reducible apply a_io);(iterate 6 exact rfl);(focus first|exact rfl|(simp;done)|(simp;omega));(focus first|omega|(simp;done)|(simp;omega)))
  |((with_reducible apply a_fpe);(iterate 5 exact rfl);(focus first|exact rfl|(simp;done)|(simp;omega)))
  |((with_reducible apply a_lpe);(iterate 4 exact rfl);(focus first|assumption|(apply map_at;assumption));exact rfl;(focus first|exact rfl|(simp;done)|(simp;omega)))
  |((with_reducible apply a_spe);(iterate 6 exact rfl);(focus first|assumption|(apply map_at;assumption));exact rfl;(focus first|exact rfl|(simp;done)|(simp;omega)))
  |((with_reducible apply a_nilv);(iterate 5 exact rfl))
  |((with_reducible apply a_nilsl);(iterate 5 exact rfl))
  |((with_reducible apply a_conv);(iterate 6 exact rfl);(apply wrap_u64_in;(focus first|omega|(simp;done)|(simp;omega))))
  |((with_reducible apply a_conv);(iterate 6 exact rfl);(apply wrap_in;(focus first|omega|(simp;done)|(simp;omega))))
  |((with_reducible apply a_box);(iterate 4 exact rfl);(first|exact⟨rfl,trivial⟩|(apply nw_own;exact rfl;(focus first|exact rfl|(simp;done)|(simp;omega)))))
  ):p:=h
theorem by_sub {p:Prop}(h:p:=by(repeat(first|exact SubsE.nil|(apply SubsE.cons;exact rfl;(first|exact .d (.refl _)|exact .d (.nil _)|exact .agg rfl (.refl _)|exact .pd|exact .ptr rfl);(first|exact trivial|exact⟨rfl,trivial⟩))))):p:=h
theorem by_ca {p:Prop}(h:p:=by exact a_call (by assumption) rfl by_sub):p:=h
structure Hold (q:Prop):Prop where
 get:q
structure StopA (n:Nat):Prop where
 t:n=n
structure StopX (n:Nat):Prop where
 t:n=n
structure StopR (n:Nat):Prop where
 t:n=n
variable {cx:Cx}{σ:St}{Q:Exit→St→Prop}
theorem stop_atA {x y:Code}{n:Nat}(_h:firstRegion x=some n) (_hn:StopA n) (hs:Stop (CW cx (.seq x y) Q σ)):CW cx (.seq x y) Q σ:=hs
theorem stop_atX {ops:Array Oper}{b:Bool}{n:Nat}(_hn:StopX n) (hs:Stop (CW cx (.region n ops b) Q σ)):CW cx (.region n ops b) Q σ:=hs
theorem stop_atR {ops:Array Oper}{b:Bool}{y:Code}{n:Nat}(_hn:StopR n) (hs:Stop (CW cx (.seq (.region n ops b) y) Q σ)):CW cx (.seq (.region n ops b) y) Q σ:=hs
theorem wk {p q:Prop}(h:q) (s:Hold q→p:=by
  intro hq
  (first|((with_reducible apply s1);exact rfl)|(with_reducible first|apply CW.seq|apply CW.block|apply CW.region|apply CW.draw|apply CW.skip|apply CW.exit|apply CW.ret|apply q_then|apply q_then_exit|apply q_then_ret|apply q_block|apply q_block_ret|apply q_block_hit|apply q_ret|apply q_end|apply q_loop_exit|apply q_loop_ret|apply q_loopT_exit|apply q_loopT_ret|apply RW.nil)|((with_reducible apply s3);exact rfl;exact by_k)|((with_reducible apply s2);exact rfl;exact by_k)|((with_reducible apply s4);exact rfl)|((with_reducible apply s5);(first|exact by_oa|exact by_ca);exact by_g)|((with_reducible apply CW.cond_t);exact rfl;exact by_ks)|((with_reducible apply CW.cond_f);exact rfl;exact by_ks)|((with_reducible apply q_block_miss);exact rfl)|(refine And.intro (show chk [] [] _ _=true by kernel_rfl) ?_))
  (repeat(first|((with_reducible apply s1);exact rfl)|(with_reducible first|apply CW.seq|apply CW.block|apply CW.region|apply CW.draw|apply CW.skip|apply CW.exit|apply CW.ret|apply q_then|apply q_then_exit|apply q_then_ret|apply q_block|apply q_block_ret|apply q_block_hit|apply q_ret|apply q_end|apply q_loop_exit|apply q_loop_ret|apply q_loopT_exit|apply q_loopT_ret|apply RW.nil)|((with_reducible apply s3);exact rfl;exact by_k)|((with_reducible apply s2);exact rfl;exact by_k)|((with_reducible apply s4);exact rfl)|((with_reducible apply s5);(first|exact by_oa|exact by_ca);exact by_g)|((with_reducible apply CW.cond_t);exact rfl;exact by_ks)|((with_reducible apply CW.cond_f);exact rfl;exact by_ks)|((with_reducible apply q_block_miss);exact rfl)|(refine And.intro (show chk [] [] _ _=true by kernel_rfl) ?_)))
  exact hq.get):p:=s ⟨h⟩
theorem wkS {p q:Prop}(h:q) (s:Hold q→p:=by
  intro hq
  (first|((with_reducible apply stop_atA);exact rfl;assumption)|((with_reducible apply stop_atX);assumption)|((with_reducible apply stop_atR);assumption)|((with_reducible apply s1);exact rfl)|(with_reducible first|apply CW.seq|apply CW.block|apply CW.region|apply CW.draw|apply CW.skip|apply CW.exit|apply CW.ret|apply q_then|apply q_then_exit|apply q_then_ret|apply q_block|apply q_block_ret|apply q_block_hit|apply q_ret|apply q_end|apply q_loop_exit|apply q_loop_ret|apply q_loopT_exit|apply q_loopT_ret|apply RW.nil)|((with_reducible apply s3);exact rfl;exact by_k)|((with_reducible apply s2);exact rfl;exact by_k)|((with_reducible apply s4);exact rfl)|((with_reducible apply s5);(first|exact by_oa|exact by_ca);exact by_g)|((with_reducible apply CW.cond_t);exact rfl;exact by_ks)|((with_reducible apply CW.cond_f);exact rfl;exact by_ks)|((with_reducible apply q_block_miss);exact rfl)|(refine And.intro (show chk [] [] _ _=true by kernel_rfl) ?_))
  (repeat(first|((with_reducible apply stop_atA);exact rfl;assumption)|((with_reducible apply stop_atX);assumption)|((with_reducible apply stop_atR);assumption)|((with_reducible apply s1);exact rfl)|(with_reducible first|apply CW.seq|apply CW.block|apply CW.region|apply CW.draw|apply CW.skip|apply CW.exit|apply CW.ret|apply q_then|apply q_then_exit|apply q_then_ret|apply q_block|apply q_block_ret|apply q_block_hit|apply q_ret|apply q_end|apply q_loop_exit|apply q_loop_ret|apply q_loopT_exit|apply q_loopT_ret|apply RW.nil)|((with_reducible apply s3);exact rfl;exact by_k)|((with_reducible apply s2);exact rfl;exact by_k)|((with_reducible apply s4);exact rfl)|((with_reducible apply s5);(first|exact by_oa|exact by_ca);exact by_g)|((with_reducible apply CW.cond_t);exact rfl;exact by_ks)|((with_reducible apply CW.cond_f);exact rfl;exact by_ks)|((with_reducible apply q_block_miss);exact rfl)|(refine And.intro (show chk [] [] _ _=true by kernel_rfl) ?_)))
  exact hq.get):p:=s ⟨h⟩
theorem wa {p q:Prop}(h:q) (s:Hold q→p:=by
  intro hq
  (first|((with_reducible apply s1);exact rfl)|(with_reducible first|apply CW.seq|apply CW.block|apply CW.region|apply CW.draw|apply CW.skip|apply CW.exit|apply CW.ret|apply q_then|apply q_then_exit|apply q_then_ret|apply q_block|apply q_block_ret|apply q_block_hit|apply q_ret|apply q_end|apply q_loop_exit|apply q_loop_ret|apply q_loopT_exit|apply q_loopT_ret|apply RW.nil)|((with_reducible apply s3);exact rfl;exact by_k)|((with_reducible apply s2);exact rfl;exact by_k)|((with_reducible apply s4);exact rfl))
  (repeat(first|((with_reducible apply s1);exact rfl)|(with_reducible first|apply CW.seq|apply CW.block|apply CW.region|apply CW.draw|apply CW.skip|apply CW.exit|apply CW.ret|apply q_then|apply q_then_exit|apply q_then_ret|apply q_block|apply q_block_ret|apply q_block_hit|apply q_ret|apply q_end|apply q_loop_exit|apply q_loop_ret|apply q_loopT_exit|apply q_loopT_ret|apply RW.nil)|((with_reducible apply s3);exact rfl;exact by_k)|((with_reducible apply s2);exact rfl;exact by_k)|((with_reducible apply s4);exact rfl)))
  exact hq.get):p:=s ⟨h⟩
theorem waS {p q:Prop}(h:q) (s:Hold q→p:=by
  intro hq
  (first|((with_reducible apply stop_atA);exact rfl;assumption)|((with_reducible apply stop_atX);assumption)|((with_reducible apply stop_atR);assumption)|((with_reducible apply s1);exact rfl)|(with_reducible first|apply CW.seq|apply CW.block|apply CW.region|apply CW.draw|apply CW.skip|apply CW.exit|apply CW.ret|apply q_then|apply q_then_exit|apply q_then_ret|apply q_block|apply q_block_ret|apply q_block_hit|apply q_ret|apply q_end|apply q_loop_exit|apply q_loop_ret|apply q_loopT_exit|apply q_loopT_ret|apply RW.nil)|((with_reducible apply s3);exact rfl;exact by_k)|((with_reducible apply s2);exact rfl;exact by_k)|((with_reducible apply s4);exact rfl))
  (repeat(first|((with_reducible apply stop_atA);exact rfl;assumption)|((with_reducible apply stop_atX);assumption)|((with_reducible apply stop_atR);assumption)|((with_reducible apply s1);exact rfl)|(with_reducible first|apply CW.seq|apply CW.block|apply CW.region|apply CW.draw|apply CW.skip|apply CW.exit|apply CW.ret|apply q_then|apply q_then_exit|apply q_then_ret|apply q_block|apply q_block_ret|apply q_block_hit|apply q_ret|apply q_end|apply q_loop_exit|apply q_loop_ret|apply q_loopT_exit|apply q_loopT_ret|apply RW.nil)|((with_reducible apply s3);exact rfl;exact by_k)|((with_reducible apply s2);exact rfl;exact by_k)|((with_reducible apply s4);exact rfl)))
  exact hq.get):p:=s ⟨h⟩
theorem wa1 {p q:Prop}(h:q) (s:Hold q→p:=by
  intro hq
  (first|((with_reducible apply s1);exact rfl)|(with_reducible first|apply CW.seq|apply CW.block|apply CW.region|apply CW.draw|apply CW.skip|apply CW.exit|apply CW.ret|apply q_then|apply q_then_exit|apply q_then_ret|apply q_block|apply q_block_ret|apply q_block_hit|apply q_ret|apply q_end|apply q_loop_exit|apply q_loop_ret|apply q_loopT_exit|apply q_loopT_ret|apply RW.nil)|((with_reducible apply s3);exact rfl;exact by_k)|((with_reducible apply s2);exact rfl;exact by_k)|((with_reducible apply s4);exact rfl))
  exact hq.get):p:=s ⟨h⟩
theorem wa1S {p q:Prop}(h:q) (s:Hold q→p:=by
  intro hq
  (first|((with_reducible apply stop_atA);exact rfl;assumption)|((with_reducible apply stop_atX);assumption)|((with_reducible apply stop_atR);assumption)|((with_reducible apply s1);exact rfl)|(with_reducible first|apply CW.seq|apply CW.block|apply CW.region|apply CW.draw|apply CW.skip|apply CW.exit|apply CW.ret|apply q_then|apply q_then_exit|apply q_then_ret|apply q_block|apply q_block_ret|apply q_block_hit|apply q_ret|apply q_end|apply q_loop_exit|apply q_loop_ret|apply q_loopT_exit|apply q_loopT_ret|apply RW.nil)|((with_reducible apply s3);exact rfl;exact by_k)|((with_reducible apply s2);exact rfl;exact by_k)|((with_reducible apply s4);exact rfl))
  exact hq.get):p:=s ⟨h⟩
theorem wb {p q:Prop}(h:q) (s:Hold q→p:=by
  intro hq
  (first|((with_reducible apply CW.cond_t);exact rfl;exact by_ks)|((with_reducible apply CW.cond_f);exact rfl;exact by_ks)|((with_reducible apply q_block_miss);exact rfl)|(refine And.intro (show chk [] [] _ _=true by kernel_rfl) ?_))
  exact hq.get):p:=s ⟨h⟩
end Go.AX
namespace Go.RF
open Go.AX
abbrev Str:=List UInt8
abbrev i64 (n:Int):Value := .int .i64 n
abbrev dint (n:Int):D := .v (.int .i64 n)
abbrev dbool (b:Bool):D := .v (.bool b)
abbrev dstr (s:Str):D := .v (str s)
structure Pair where
 key:Str
 n:Int
 deriving DecidableEq
structure Version where
 by_:Int
 made:Bool
 has:Bool
 n:Int
 deriving DecidableEq
structure Chain where
 key:Str
 vs:List Version
 deriving DecidableEq
structure Ins where
 kind:Int
 a:Int
 b:Int
 n:Int
 key:Str
 deriving DecidableEq
structure Deed where
 reads:List Str
 writes:List Str
 code:List Ins
 deriving DecidableEq
structure Done where
 failed:Bool
 r0:Int
 r1:Int
 r2:Int
 r3:Int
 deriving DecidableEq
structure Engine where
 chains:List Chain
 deeds:List Deed
 state:List Int
 ends:List Done
 base:Int
 deriving DecidableEq
def Pair.enc (p:Pair):List D:=[dstr p.key,dint p.n]
def Version.enc (v:Version):List D:=[dint v.by_,dbool v.made,dbool v.has,dint v.n]
def encVs (l:List Version):D := .sl 4 (l.map Version.enc)
def Chain.enc (c:Chain):List D:=[dstr c.key,encVs c.vs]
def Ins.enc (i:Ins):List D:=[dint i.kind,dint i.a,dint i.b,dint i.n,dstr i.key]
def encStr1 (s:Str):List D:=[dstr s]
def encInt1 (n:Int):List D:=[dint n]
def encStrs (l:List Str):D := .sl 1 (l.map encStr1)
def encInts (l:List Int):D := .sl 1 (l.map encInt1)
def encCode (l:List Ins):D := .sl 5 (l.map Ins.enc)
def Deed.enc (d:Deed):List D:=[encStrs d.reads,encStrs d.writes,encCode d.code]
def Done.enc (d:Done):List D:=[dbool d.failed,dint d.r0,dint d.r1,dint d.r2,dint d.r3]
def encRows (l:List Pair):D := .sl 2 (l.map Pair.enc)
def encChains (l:List Chain):D := .sl 2 (l.map Chain.enc)
def encDeeds (l:List Deed):D := .sl 3 (l.map Deed.enc)
def encEnds (l:List Done):D := .sl 5 (l.map Done.enc)
def Engine.enc (e:Engine):List D:=[encChains e.chains,encDeeds e.deeds,encInts e.state,encEnds e.ends,dint e.base]
theorem dle_int {n m:Int}(h:n=m):DLe (dint n) (dint m):=by rw[h];exact .refl _
theorem dle_bool {n m:Bool}(h:n=m):DLe (dbool n) (dbool m):=by rw[h];exact .refl _
theorem dle_eq {x y:D}(h:x=y):DLe x y:=by rw[h];exact .refl _
inductive DLes:List D→List D→Prop
 |nil:DLes [] []
 |cons {x y:D} {xs ys:List D} (h:DLe x y) (hr:DLes xs ys):DLes (x::xs) (y::ys)
theorem DLes.at {a b:List D}(h:DLes a b):a.length=b.length∧∀ (j:Nat) (x y:D),a[j]? = some x→b[j]? = some y→DLe x y:=by
 induction h with
 |nil=>exact⟨rfl,fun j x y h=>by simp at h⟩
 |cons h hr ih =>
  refine⟨by simp[ih.1],fun j x y hx hy=>?_⟩
  cases j with
  |zero=>simp at hx hy;subst hx hy;exact h
  |succ j=>exact ih.2 j x y (by simpa using hx) (by simpa using hy)
theorem DLes.agg {a b:List D}(h:DLes a b):DLe (.agg a) (.agg b) := .agg a b h.at.1 h.at.2
theorem idx_map {α:Type}{l:List α}{f:α→List D}{k:Nat}{x:α}(h:l[k]? = some x):idx (l.map f) (k:Int)=some (f x):=by
 simp[idx,List.getElem?_map,h]
end Go.RF
namespace Go.AX
open Go.RowKit Go.WideShapes Go.ChangeShapes
section
variable {H:Type}{enc:TypeId×Value→H}{P:Program}
theorem post_of_below {f:Func}{s:ChangeSpec}{apart fresh handsOn again:Bool}{W W':World}{args:Array Value}{v:Value}{ds gs:List (DataW H)}{before pa pv:List MemPlace}
  (hW:DataW.Whole enc P f.params.toList s.vars apart W args.toList ds gs before)
  (hres:∀ (b:Nat) (sp:Nat→Bool) (hd:Bool),DataW.TrodAll enc P W' b sp hd f.resultTypes.toList (v.resultList f.resultTypes.size) (s.fn H (ds++gs)).results [])
  (hargs:∀ sp:Nat→Bool,(∀ p∈before,sp p.block=true)→DataW.TrodAll enc P W' 0 sp true f.params.toList args.toList (s.fn H (ds++gs)).args pa)
  (hvars:∀ sp:Nat→Bool,(∀ p∈before,sp p.block=true)→DataW.TrodVars enc P W' sp s.vars (s.fn H (ds++gs)).vars pv)
  (hps:before=pa++pv) (hb:Below W.heap.size W W')
  (hok:∀ (j:Nat) (t:TypeId) (r:Value),f.resultTypes[j]? = some t→(v.resultList f.resultTypes.size)[j]? = some r→Value.okWide P W' .any 0 t r) :
  s.post enc P f apart fresh handsOn again W args v W':=by
 have hlt:∀ p∈before,p.block < W.heap.size:=fun p hp=>hW.lt p hp
 have hold:∀ p∈before,(fun b=>decide (b < W.heap.size)) p.block=true:=fun p hp=>by simpa using hlt p hp
 refine⟨ds,gs,before,[],pa,pv,hW,hres _ _ _,hargs _ hold,hvars _ hold,World.keptBut_mono (fun p hp=>⟨hp,?_⟩) (hb.frame (· ∈ before)),fun _=>?_⟩
 ·
  rw[hps,List.mem_append]at hp
  exact Or.inr hp
 ·
  obtain⟨_,_,_,_,_,hz,hn⟩:=hW
  refine⟨hok,_,_,([]++pa)++pv,⟨[]++pa,pv,trodAll_append (hargs _ (fun _ _=>rfl)) (hres _ _ _),hvars _ (fun _ _=>rfl),rfl,?_,?_⟩,?_⟩
  ·
   intro b off hp
   have hin:MemPlace.cell b off∈before:=by rw[hps];simpa using hp
   rw[hb.frozen (hlt _ hin)]
   exact hz b off hin
  ·
   intro ha
   have:=hn ha
   rw[hps]at this
   simpa using this
  ·
   intro p hp _
   rw[hps]
   simpa using hp
end
theorem FnOk.bool {P:Program}{f:FuncId}{args:List Arg}{b:Bool}(h:FnOk P f args (.one (.v (.bool b)))) {w:World}{vs:List Value}(hgl:Gl P w) (ha:ArgsOk w (fun _=>False) vs args) :
  Calls P f vs.toArray w fun e w'=>e = .returned (.bool b)∧Below w.heap.size w w' :=
 (h.calls w (fun _=>False) vs ⟨fun _ h=>h.elim,hgl⟩ ha).mono fun _ _ ⟨v,h1,h2,h3⟩=>⟨by rw[h1,rd_v h3],h2⟩
end Go.AX
namespace Go.Proofs.YtngnajknbeijjaaDoor
open Go.AX Go.RF Go.RowKit Go.ChangeShapes Go.WideShapes Go.Deep
inductive Sh where
 |num (k:IntKind)
 |str
 |bool
 |sl (fs:List Sh)
mutual
inductive Fits:Sh→Nat→D→Prop
 |num (k:IntKind) (n:Int) (m:Nat) (h:(Lit.int k n).wf=true):Fits (.num k) m (.v (.int k n))
 |str (s:Str) (m:Nat) (h:s.length≤m):Fits .str m (dstr s)
 |bool (b:Bool) (m:Nat):Fits .bool m (dbool b)
 |sl (fs:List Sh) (m:Nat) (rows:List (List D)) (h:FitsR fs m rows):Fits (.sl fs) m (.sl fs.length rows)
inductive FitsL:List Sh→Nat→List D→Prop
 |nil (m:Nat):FitsL [] m []
 |cons {s:Sh} {a b m:Nat} {d:D} {ss:List Sh} {ds:List D} (h:Fits s a d) (hr:FitsL ss b ds) (hm:a+b≤m):FitsL (s::ss) m (d::ds)
inductive FitsR:List Sh→Nat→List (List D)→Prop
 |nil (fs:List Sh) (m:Nat):FitsR fs m []
 |cons {fs:List Sh} {a b m:Nat} {r:List D} {rows:List (List D)} (h:FitsL fs a r) (hr:FitsR fs b rows) (hm:a+b+1≤m):FitsR fs m (r::rows)
end
mutual
inductive TySh (P:Program):TypeId→List Sh→Prop
 |num {t:TypeId} {k:IntKind} (h:P.underlying t=some (.int k)):TySh P t [.num k]
 |str {t:TypeId} (h:P.underlying t=some .string):TySh P t [.str]
 |bool {t:TypeId} (h:P.underlying t=some .bool):TySh P t [.bool]
 |sl {t e:TypeId} {fs:List Sh} (h:P.underlying t=some (.slice e)) (hk:P.cellsOf e=fs.length) (h0:0 < fs.length) (he:TySh P e fs):TySh P t [.sl fs]
 |arr {t e:TypeId} {n:Nat} {fs:List Sh} (h:P.underlying t=some (.array n e)) (hC:P.cellsOf t=n*fs.length) (hk:P.cellsOf e=fs.length) (he:TySh P e fs):TySh P t (List.replicate n fs).flatten
 |st {t:TypeId} {fs:Array Field} {ss:List Sh} (h:P.underlying t=some (.struct fs)) (hC:P.cellsOf t=ss.length) (hf:TyFs P fs.toList 0 ss):TySh P t ss
inductive TyFs (P:Program):List Field→Nat→List Sh→Prop
 |nil (o:Nat):TyFs P [] o []
 |cons {f:Field} {r:List Field} {o n:Nat} {s ss:List Sh} (ho:f.offset=o) (hc:P.cellsOf f.type=s.length) (hn:n=o+s.length) (ht:TySh P f.type s) (hr:TyFs P r n ss):TyFs P (f::r) o (s++ss)
end
theorem FitsL.mono {ss:List Sh}{m n:Nat}{ds:List D}(h:FitsL ss m ds) (hm:m≤n):FitsL ss n ds:=by
 cases h with
 |nil=>exact .nil _
 |cons h1 h2 h3=>exact .cons h1 h2 (by omega)
theorem FitsL.append:∀ {ss ts:List Sh}{a b m:Nat}{ds es:List D},FitsL ss a ds→FitsL ts b es→a+b≤m→FitsL (ss++ts) m (ds++es)
 | [],ts,a,b,m,ds,es,h,h',hm=>by cases h;exact h'.mono (by omega)
 |s::ss,ts,a,b,m,ds,es,h,h',hm=>by
  cases h with
  |cons h1 h2 h3=>exact .cons h1 (h2.append (m:=_) h' (Nat.le_refl _)) (by omega)
theorem FitsL.len:∀ {ss:List Sh}{m:Nat}{ds:List D},FitsL ss m ds→ds.length=ss.length
 | [],m,ds,h=>by cases h;rfl
 |s::ss,m,ds,h=>by
  cases h with
  |cons h1 h2 h3=>simp[h2.len]
theorem FitsR.row {fs:List Sh}:∀ {rows:List (List D)}{m:Nat},FitsR fs m rows→∀ r∈rows,r.length=fs.length
 | [],m,h,r,hr=>by simp at hr
 |x::rows,m,h,r,hr=>by
  cases h with
  |cons h1 h2 h3 =>
   rcases List.mem_cons.1 hr with rfl|hr
   ·
    exact h1.len
   ·
    exact h2.row r hr
theorem FitsR.mono {fs:List Sh}{m n:Nat}{rows:List (List D)}(h:FitsR fs m rows) (hm:m≤n):FitsR fs n rows:=by
 cases h with
 |nil=>exact .nil _ _
 |cons h1 h2 h3=>exact .cons h1 h2 (by omega)
section
variable {H:Type}{enc:TypeId×Value→H}{P:Program}{w:World}
theorem bulk_append (l r:List (DataW H)):Rows.uptoBulkAll (l++r)=Rows.uptoBulkAll l+Rows.uptoBulkAll r:=by
 induction l with
 |nil=>simp[Rows.uptoBulkAll]
 |cons x l ih=>simp only[List.cons_append,Rows.uptoBulkAll,ih];omega
theorem fitsR_of {fs:List Sh}{ι:Type}{D0:ι→DataW H}{f:ι→List D}:∀ {l:List ι},(∀ i∈l,FitsL fs (Rows.uptoBulk (D0 i) - 1) (f i)∧1≤Rows.uptoBulk (D0 i))→FitsR fs (Rows.uptoBulkAll (l.map D0)) (l.map f)
 | [],_ => .nil _ _
 |i::l,h=>by
  have h1:=h i (List.mem_cons_self ..)
  refine .cons h1.1 (fitsR_of fun j hj=>h j (List.mem_cons_of_mem _ hj)) ?_
  simp only[List.map_cons,Rows.uptoBulkAll]
  omega
theorem one_le (d:DataW H):1≤Rows.uptoBulk d:=by
 cases d with
 |lit l=>cases l <;> simp[Rows.uptoBulk]
 |nil=>simp[Rows.uptoBulk]
 |ptr d=>simp[Rows.uptoBulk]
 |slice elems spare=>simp[Rows.uptoBulk]
 |agg parts=>simp[Rows.uptoBulk]
 |iface t d=>simp[Rows.uptoBulk]
 |map entries=>simp[Rows.uptoBulk]
 |held h=>simp[Rows.uptoBulk]
def RdL (w:World) (own:Nat→Prop) (cs:List Value) (ds:List D):Prop :=
 cs.length=ds.length∧∀ (j:Nat) (c:Value) (d:D),cs[j]? = some c→ds[j]? = some d→c.oneCell'=true∧Rd w own c d
theorem RdL.one {own:Nat→Prop}{c:Value}{d:D}(h1:c.oneCell'=true) (h:Rd w own c d):RdL w own [c] [d]:=by
 refine⟨rfl,fun j c' d' hc hd=>?_⟩
 cases j with
 |zero=>simp at hc hd;subst hc hd;exact⟨h1,h⟩
 |succ j=>simp at hc
theorem RdL.append {own:Nat→Prop}{a b:List Value}{x y:List D}(h:RdL w own a x) (h':RdL w own b y):RdL w own (a++b) (x++y):=by
 refine⟨by simp[h.1,h'.1],fun j c d hc hd=>?_⟩
 rcases Nat.lt_or_ge j a.length with hj|hj
 ·
  rw[List.getElem?_append_left hj]at hc
  rw[List.getElem?_append_left (by rw[← h.1];exact hj)]at hd
  exact h.2 j c d hc hd
 ·
  rw[List.getElem?_append_right hj]at hc
  rw[List.getElem?_append_right (by rw[← h.1];exact hj),← h.1]at hd
  exact h'.2 _ c d hc hd
abbrev noOwn:Nat→Prop:=fun _=>False
theorem block_lt {a:Addr}{c:Value}(h:w.cell? (a.add 0)=some c):a.block < w.heap.size:=by
 rcases Nat.lt_or_ge a.block w.heap.size with hlt|hge
 ·
  exact hlt
 ·
  exfalso
  have:w.heap[a.block]? = none:=Array.getElem?_eq_none hge
  simp[World.cell?,add_zero,this]at h
theorem open_fields {n:Nat}(ih:∀ {t:TypeId}{ss:List Sh}{cs:List Value}{x:DataW H×List MemPlace},TySh P t ss→DataW.trod enc P w 0 (fun _=>true) true n t cs=some x →
   ∃ ds:List D,RdL w noOwn cs ds∧FitsL ss (Rows.uptoBulk x.1 - 1) ds):∀ {fs:List Field} {o:Nat} {ss:List Sh} {cs:List Value} {xs:List (DataW H×List MemPlace)},TyFs P fs o ss→xs.length=fs.length →
  (∀ (i:Nat) (f:Field),fs[i]? = some f→DataW.trod enc P w 0 (fun _=>true) true n f.type ((cs.drop f.offset).take (P.cellsOf f.type))=xs[i]?)→cs.length=o+ss.length →
  ∃ ds:List D,RdL w noOwn (cs.drop o) ds∧FitsL ss (Rows.uptoBulkAll (xs.map (·.1))) ds
 | [],o,ss,cs,xs,hT,hl,hat,hc=>by
  cases hT
  refine⟨[],⟨by simp;simp at hc;omega,fun j c d _ hd=>by simp at hd⟩,.nil _⟩
 |f::r,o,ss,cs,xs,hT,hl,hat,hc=>by
  cases hT with
  |@cons _ _ _ n' s ss' ho hcc hn ht hr =>
   cases xs with
   |nil=>simp at hl
   |cons x xs =>
    have h0:=hat 0 f rfl
    rw[List.getElem?_cons_zero,ho,hcc]at h0
    obtain⟨ds,h1,h2⟩:=ih ht h0
    rw[List.length_append]at hc
    obtain⟨es,h3,h4⟩:=open_fields ih (cs:=cs) hr (by simpa using hl) (fun i g hg=>by simpa using hat (i+1) g hg) (by omega)
    refine⟨ds++es,?_,h2.append h4 ?_⟩
    ·
     have:=h1.append h3
     rw[hn,← List.drop_drop,List.take_append_drop]at this
     exact this
    ·
     simp only[List.map_cons,Rows.uptoBulkAll];omega
theorem open_elems {n N:Nat}{e:TypeId}{fs:List Sh}(ih:∀ {cs:List Value}{x:DataW H×List MemPlace},DataW.trod enc P w 0 (fun _=>true) true n e cs=some x →
   ∃ ds:List D,RdL w noOwn cs ds∧FitsL fs (Rows.uptoBulk x.1 - 1) ds) {cs:List Value} {xs:List (DataW H×List MemPlace)} (hk:P.cellsOf e=fs.length) (hl:xs.length=N)
  (hat:∀ (i:Nat),i < N→DataW.trod enc P w 0 (fun _=>true) true n e ((cs.drop (i*P.cellsOf e)).take (P.cellsOf e))=xs[i]?):∀ (m:Nat),m≤N →
  ∃ ds:List D,RdL w noOwn (cs.take (m*fs.length)) ds∧FitsL (List.replicate m fs).flatten (Rows.uptoBulkAll ((xs.take m).map (·.1))) ds
 |0,_=>⟨[],⟨by simp,fun j c d _ hd=>by simp at hd⟩,.nil _⟩
 |m+1,hm=>by
  obtain⟨ds,h1,h2⟩:=open_elems ih hk hl hat m (by omega)
  have hx:xs[m]? = some (xs[m]'(by omega)):=List.getElem?_eq_getElem (by omega)
  have h0:=hat m (by omega)
  rw[hx,hk]at h0
  obtain⟨es,h3,h4⟩:=ih h0
  refine⟨ds++es,?_,?_⟩
  ·
   have:=h1.append h3
   rwa [← List.take_add,show m*fs.length+fs.length=(m+1)*fs.length by rw[Nat.add_mul,Nat.one_mul]]at this
  ·
   rw[List.replicate_succ',List.flatten_append,List.take_add_one,hx,List.map_append,bulk_append]
   have h5:=one_le (xs[m]'(by omega)).1
   have:=h2.append (m:=Rows.uptoBulkAll ((xs.take m).map (·.1))+Rows.uptoBulkAll [(xs[m]'(by omega)).1]) h4 (by simp only[Rows.uptoBulkAll];omega)
   simpa using this
theorem open_cells:∀ (n:Nat) {t:TypeId}{ss:List Sh}{cs:List Value}{x:DataW H×List MemPlace},TySh P t ss→DataW.trod enc P w 0 (fun _=>true) true n t cs=some x →
  ∃ ds:List D,RdL w noOwn cs ds∧FitsL ss (Rows.uptoBulk x.1 - 1) ds
 |0,t,ss,cs,x,_,h=>by simp[DataW.trod]at h
 |n+1,t,ss,cs,x,hT,h=>by
  cases hT with
  |num ht =>
   obtain⟨v,rfl,rfl,hw⟩:=DataW.trod_int ht h
   exact⟨[.v (.int _ v)],.one (by simp[Value.oneCell']) (.v _),.cons (a:=0) (b:=0) (.num _ v _ hw) (.nil _) (by omega)⟩
  |str ht =>
   obtain⟨s,rfl,rfl,hm⟩:=DataW.trod_string ht h
   refine⟨[dstr s.data.toList],.one (by simp[Value.oneCell']) (.v _),.cons (a:=s.data.toList.length) (b:=0) (.str _ _ (Nat.le_refl _)) (.nil _) ?_⟩
   simp[Rows.uptoBulk]
  |bool ht =>
   obtain⟨v,rfl,rfl⟩:=DataW.trod_bool ht h
   exact⟨[dbool v],.one (by simp[Value.oneCell']) (.v _),.cons (a:=0) (b:=0) (.bool v _) (.nil _) (by omega)⟩
  |@sl _ e fs ht hk h0 he =>
   rcases DataW.trod_slice ht h with ⟨rfl,rfl⟩|⟨a,len,cap,elems,rest,n',hn,rfl,rfl,hb,hl,hm,hlen,hel,_,_⟩
   ·
    exact⟨[.sl fs.length []],.one (by simp[Value.oneCell']) (.nil none 0 _),.cons (a:=0) (b:=0) (.sl fs 0 [] (.nil _ _)) (.nil _) (by omega)⟩
   ·
    obtain rfl:n=n':=by omega
    obtain⟨D0,hD0⟩:∃ D0:Nat→DataW H,D0=fun i=>(elems.getD i (.nil,[])).1:=⟨_,rfl⟩
    have hmap:elems.map (·.1)=(List.range len).map D0:=by rw[hD0,← hlen];exact map_by_index elems (.nil,[]) (·.1)
    rw[hmap]
    obtain⟨F,hF⟩:=choose_lt (α:=List Value×List D) (n:=len) (p:=fun i y=>w.cells? 0 (a.add (i*P.cellsOf e)) (P.cellsOf e)=some y.1∧RdL w noOwn y.1 y.2∧FitsL fs (Rows.uptoBulk (D0 i) - 1) y.2) fun i hil=>by
     have hei:elems[i]? = some (elems[i]'(by omega)):=List.getElem?_eq_getElem (by omega)
     have h0:=hel i hil
     rw[hei]at h0
     obtain⟨cs',h1,h2⟩:=Option.bind_eq_some_iff.1 h0
     obtain⟨ds,h3,h4⟩:=open_cells n he h2
     have hDi:D0 i=(elems[i]'(by omega)).1:=by rw[hD0];simp[List.getD,hei]
     rw[← hDi]at h4
     exact⟨(cs',ds),h1,h3,h4⟩
    have hx:∀ i,i < len→(F i).1.length=fs.length∧(F i).2.length=fs.length∧∀ j c,(F i).1[j]? = some c→w.cell? (a.add (i*fs.length+j))=some c:=fun i hil=>by
     obtain⟨h1,h2,h3⟩:=hF i hil
     obtain⟨_,hlen,hat⟩:=World.cells?_some h1
     rw[hk]at hlen hat
     refine⟨hlen,by rw[← h2.1,hlen],fun j c hj=>?_⟩
     rw[← AX.add_add,hat j (by rw[← hlen];exact(List.getElem?_eq_some_iff.1 hj).1)]
     exact hj
    have hrow:∀ i r,((List.range len).map fun i=>(F i).2)[i]? = some r→i < len∧r=(F i).2:=fun i r hir=>by
     obtain⟨hi1,hi2⟩:=List.getElem?_eq_some_iff.1 hir
     simp at hi1 hi2
     exact⟨hi1,hi2.symm⟩
    refine⟨[.sl fs.length ((List.range len).map fun i=>(F i).2)],.one (by simp[Value.oneCell']) ?_,.cons (a:=Rows.uptoBulkAll ((List.range len).map D0)) (b:=0) (.sl fs _ _ (fitsR_of fun i hir=>⟨(hF i (by simpa using hir)).2.2,one_le _⟩)) (.nil _) ?_⟩
    ·
     rcases Nat.eq_zero_or_pos len with rfl|hlen
     ·
      exact .nil _ _ _
     ·
      have hpos:=(hx 0 hlen)
      have hcell:∃ c,w.cell? (a.add 0)=some c:=by
       have h1:0 < (F 0).1.length:=by rw[hpos.1];exact h0
       exact⟨_,by simpa using hpos.2.2 0 _ (List.getElem?_eq_getElem h1)⟩
      have hsz:a.block < w.heap.size:=by
       obtain⟨c,hc⟩:=hcell
       exact block_lt hc
      have key:=Rd.sl (w:=w) (own:=noOwn) a cap fs.length ((List.range len).map fun i=>(F i).2) (fun i j=>((F i).1[j]?).getD undef) (fun h=>h) hsz (by simpa using hl)
       (fun r hr=>by
        obtain⟨i,hi2,rfl⟩:=List.mem_map.1 hr
        exact(hx i (by simpa using hi2)).2.1)
       (fun i j r d hr hd=>by
        obtain⟨hil,rfl⟩:=hrow i r hr
        obtain⟨h1,h2,h3⟩:=hx i hil
        have hj:j < (F i).1.length:=by rw[h1,← h2];exact(List.getElem?_eq_some_iff.1 hd).1
        rw[List.getElem?_eq_getElem hj]
        exact h3 j _ (List.getElem?_eq_getElem hj))
       (fun i j r d hr hd=>by
        obtain⟨hil,rfl⟩:=hrow i r hr
        obtain⟨h1,h2,h3⟩:=hx i hil
        have hj:j < (F i).1.length:=by rw[h1,← h2];exact(List.getElem?_eq_some_iff.1 hd).1
        rw[List.getElem?_eq_getElem hj]
        exact((hF i hil).2.1.2 j _ d (List.getElem?_eq_getElem hj) hd).1)
       (fun i j r d hr hd=>by
        obtain⟨hil,rfl⟩:=hrow i r hr
        obtain⟨h1,h2,h3⟩:=hx i hil
        have hj:j < (F i).1.length:=by rw[h1,← h2];exact(List.getElem?_eq_some_iff.1 hd).1
        rw[List.getElem?_eq_getElem hj]
        exact((hF i hil).2.1.2 j _ d (List.getElem?_eq_getElem hj) hd).2)
      simpa using key
    ·
     simp only[Rows.uptoBulk];omega
  |@arr _ e m fs ht hC hk he =>
   obtain⟨xs,n',hn,rfl,hcl,hxl,hat⟩:=DataW.trod_array ht h
   obtain rfl:n=n':=by omega
   obtain⟨ds,h1,h2⟩:=open_elems (N:=m) (fun {cs x} h=>open_cells n he h) hk hxl hat m (Nat.le_refl _)
   rw[List.take_of_length_le (by rw[hcl,hC];exact Nat.le_refl _)]at h1
   rw[List.take_of_length_le (by omega)]at h2
   exact⟨ds,h1,h2.mono (by simp only[Rows.uptoBulk];omega)⟩
  |@st _ fs _ ht hC hf =>
   obtain⟨xs,n',hn,rfl,hcl,hxl,hat⟩:=DataW.trod_struct ht h
   obtain rfl:n=n':=by omega
   obtain⟨ds,h1,h2⟩:=open_fields (fun {t ss cs x} hT h=>open_cells n hT h) hf (by simpa using hxl) (fun i f hi=>hat i f (by simpa using hi)) (by omega)
   exact⟨ds,by simpa using h1,h2.mono (by simp only[Rows.uptoBulk];omega)⟩
end
end Go.Proofs.YtngnajknbeijjaaDoor
namespace Go.Proofs.YtngnajknbeijjaaDoor
open Go.AX Go.RF Go.RowKit Go.ChangeShapes Go.WideShapes Go.Deep
inductive PS where
 |one (s:Sh)
 |st (ss:List Sh)
def isSt (P:Program) (t:TypeId):Bool:=match P.underlying t with
 |some (.struct _)=>true
 |_=>false
def isOne (P:Program) (t:TypeId):Bool:=match P.underlying t with
 |some (.int _)=>true
 |some .string=>true
 |some .bool=>true
 |some (.slice _)=>true
 |_=>false
inductive TyPs (P:Program):List TypeId→List PS→Prop
 |nil:TyPs P [] []
 |one {t:TypeId} {s:Sh} {ts:List TypeId} {ps:List PS} (h:TySh P t [s]) (hn:isOne P t=true) (hr:TyPs P ts ps):TyPs P (t::ts) (.one s::ps)
 |st {t:TypeId} {ss:List Sh} {ts:List TypeId} {ps:List PS} (h:TySh P t ss) (hn:isSt P t=true) (hr:TyPs P ts ps):TyPs P (t::ts) (.st ss::ps)
inductive FitsPs:List PS→Nat→List D→Prop
 |nil (m:Nat):FitsPs [] m []
 |one {s:Sh} {a b m:Nat} {d:D} {ps:List PS} {ds:List D} (h:Fits s a d) (hr:FitsPs ps b ds) (hm:a+b≤m):FitsPs (.one s::ps) m (d::ds)
 |st {ss:List Sh} {a b m:Nat} {es:List D} {ps:List PS} {ds:List D} (h:FitsL ss a es) (hr:FitsPs ps b ds) (hm:a+b≤m):FitsPs (.st ss::ps) m (.agg es::ds)
def fldsB (P:Program) (ty:TypeId→Option (List Sh)):List Field→Nat→Option (List Sh)
 | [],_=>some []
 |f::r,o=>match ty f.type with
  |some s=>match Nat.beq f.offset o&&Nat.beq (P.cellsOf f.type) s.length with
   |true=>match fldsB P ty r (o+s.length) with
    |some ss=>some (s++ss)
    |none=>none
   |false=>none
  |none=>none
def tyB (P:Program):Nat→TypeId→Option (List Sh)
 |0,_=>none
 |n+1,t=>match P.underlying t with
  |some (.int k)=>some [.num k]
  |some .string=>some [.str]
  |some .bool=>some [.bool]
  |some (.slice e)=>match tyB P n e with
   |some fs=>match Nat.beq (P.cellsOf e) fs.length&&Nat.blt 0 fs.length with
    |true=>some [.sl fs]
    |false=>none
   |none=>none
  |some (.struct fs)=>match fldsB P (tyB P n) fs.toList 0 with
   |some ss=>match Nat.beq (P.cellsOf t) ss.length with
    |true=>some ss
    |false=>none
   |none=>none
  |some (.array m e)=>match tyB P n e with
   |some fs=>match Nat.beq (P.cellsOf t) (m*fs.length)&&Nat.beq (P.cellsOf e) fs.length with
    |true=>some (List.replicate m fs).flatten
    |false=>none
   |none=>none
  |_=>none
def parB (P:Program):List TypeId→Option (List PS)
 | []=>some []
 |t::ts=>match tyB P 9 t with
  |some ss=>match parB P ts with
   |some ps=>match isSt P t with
    |true=>some (.st ss::ps)
    |false=>match isOne P t with
     |true=>(match ss with
      | [s]=>some (.one s::ps)
      |_=>none)
     |false=>none
   |none=>none
  |none=>none
theorem fldsB_ok {P:Program}{ty:TypeId→Option (List Sh)}(hty:∀ t ss,ty t=some ss→TySh P t ss):∀ {fs:List Field}{o:Nat}{ss:List Sh},fldsB P ty fs o=some ss→TyFs P fs o ss
 | [],o,ss,h=>by cases h;exact .nil _
 |f::r,o,ss,h=>by
  simp only[fldsB]at h
  split at h
  ·
   next s hs =>
   split at h
   ·
    next hb =>
    split at h
    ·
     next ss' hr =>
     cases h
     simp only[Bool.and_eq_true,Nat.beq_eq]at hb
     exact .cons hb.1 hb.2 rfl (hty _ _ hs) (fldsB_ok hty hr)
    ·
     cases h
   ·
    cases h
  ·
   cases h
theorem tyB_ok {P:Program}:∀ {n:Nat}{t:TypeId}{ss:List Sh},tyB P n t=some ss→TySh P t ss
 |0,t,ss,h=>by cases h
 |n+1,t,ss,h=>by
  simp only[tyB]at h
  split at h
  ·
   next k hu=>cases h;exact .num hu
  ·
   next hu=>cases h;exact .str hu
  ·
   next hu=>cases h;exact .bool hu
  ·
   next e hu =>
   split at h
   ·
    next fs hf =>
    split at h
    ·
     next hb =>
     cases h
     simp only[Bool.and_eq_true,Nat.beq_eq]at hb
     exact .sl hu hb.1 (by simpa[Nat.blt_eq] using hb.2) (tyB_ok hf)
    ·
     cases h
   ·
    cases h
  ·
   next fs hu =>
   split at h
   ·
    next ss' hf =>
    split at h
    ·
     next hb=>cases h;exact .st hu (by simpa using hb) (fldsB_ok (fun t ss h=>tyB_ok h) hf)
    ·
     cases h
   ·
    cases h
  ·
   next m e hu =>
   split at h
   ·
    next fs hf =>
    split at h
    ·
     next hb =>
     cases h
     simp only[Bool.and_eq_true,Nat.beq_eq]at hb
     exact .arr hu hb.1 hb.2 (tyB_ok hf)
    ·
     cases h
   ·
    cases h
  ·
   cases h
theorem parB_ok {P:Program}:∀ {ts:List TypeId}{ps:List PS},parB P ts=some ps→TyPs P ts ps
 | [],ps,h=>by cases h;exact .nil
 |t::ts,ps,h=>by
  simp only[parB]at h
  split at h
  ·
   next ss hs =>
   split at h
   ·
    next ps' hp =>
    split at h
    ·
     next hi=>cases h;exact .st (tyB_ok hs) hi (parB_ok hp)
    ·
     split at h
     ·
      next hi =>
      split at h
      ·
       next s=>cases h;exact .one (tyB_ok hs) hi (parB_ok hp)
      ·
       cases h
     ·
      cases h
   ·
    cases h
  ·
   cases h
theorem FitsPs.mono {ps:List PS}{m n:Nat}{xs:List D}(h:FitsPs ps m xs) (hm:m≤n):FitsPs ps n xs:=by
 cases h with
 |nil=>exact .nil _
 |one h1 h2 h3=>exact .one h1 h2 (by omega)
 |st h1 h2 h3=>exact .st h1 h2 (by omega)
theorem Fits.mono' {s:Sh}{m n:Nat}{d:D}(h:Fits s m d) (hm:m≤n):Fits s n d:=by
 cases h with
 |num k v m h=>exact .num k v n h
 |str s m h=>exact .str s n (by omega)
 |bool b m=>exact .bool b n
 |sl fs m rows h=>exact .sl fs n rows (h.mono hm)
theorem fits_one {s:Sh}{ps:List PS}{m:Nat}{xs:List D}(h:FitsPs (.one s::ps) m xs):∃ d r,xs=d::r∧Fits s m d∧FitsPs ps m r:=by
 cases h with
 |one h1 h2 h3=>exact⟨_,_,rfl,h1.mono' (by omega),h2.mono (by omega)⟩
theorem fits_nil {m:Nat}{xs:List D}(h:FitsPs [] m xs):xs=[]:=by
 cases h;rfl
section
variable {H:Type}{enc:TypeId×Value→H}{P:Program}{w:World}
theorem one_cell {t:TypeId}{s:Sh}{r:Reach}{b:Nat}{v:Value}(hT:TySh P t [s]) (hn:isOne P t=true) (hv:Value.okWide P w r b t v):v.cells.toList=[v]:=by
 generalize hs:[s]=ss at hT
 cases hT with
 |num h=>obtain⟨n,rfl⟩:=okWide_int h hv;rfl
 |str h=>obtain⟨n,rfl⟩:=okWide_string h hv;rfl
 |bool h=>obtain⟨n,rfl⟩:=okWide_bool h hv;rfl
 |sl h=>obtain⟨a,l,c,rfl⟩:=okWide_slice h hv;rfl
 |arr h=>simp[isOne,h]at hn
 |st h=>simp[isOne,h]at hn
theorem open_args {r:Reach}{b:Nat}:∀ {ts:List TypeId}{ps:List PS}{vs:List Value}{ds:List (DataW H)}{p:List MemPlace},TyPs P ts ps →
  (∀ (j:Nat) (t:TypeId) (v:Value),ts[j]? = some t→vs[j]? = some v→Value.okWide P w r b t v)→DataW.TrodAll enc P w 0 (fun _=>true) true ts vs ds p →
  ∃ xs:List D,ArgsOk w noOwn vs (xs.map Arg.d)∧FitsPs ps (Rows.uptoBulkAll ds) xs∧ds.length=ts.length
 | [],ps,vs,ds,p,hT,hv,h=>by
  cases hT
  obtain⟨rfl,rfl,rfl⟩:=trodAll_nil h
  exact⟨[],trivial,.nil _,rfl⟩
 |t::ts,ps,vs,ds,p,hT,hv,h=>by
  obtain⟨v,vs,d,ds,p,q,rfl,rfl,rfl,⟨n,h0⟩,hr⟩:=trodAll_cons h
  have hv0:=hv 0 t v rfl rfl
  have hvr:∀ (j:Nat) (t:TypeId) (v:Value),ts[j]? = some t→vs[j]? = some v→Value.okWide P w r b t v:=fun j t' v' h1 h2=>hv (j+1) t' v' (by simpa using h1) (by simpa using h2)
  have hb:=one_le d
  cases hT with
  |one hT hn hTr =>
   obtain⟨xs,h1,h2,h3⟩:=open_args hTr hvr hr
   rw[one_cell hT hn hv0]at h0
   obtain⟨es,⟨h4,h5⟩,h6⟩:=open_cells n hT h0
   cases h6 with
   |@cons _ a b _ e _ es h7 h8 h9 =>
    cases h8
    have h9':a+b≤Rows.uptoBulk d - 1:=h9
    exact⟨e::xs,⟨(h5 0 v e rfl rfl).2,h1⟩,.one h7 h2 (by simp only[Rows.uptoBulkAll];omega),by simp[h3]⟩
  |st hT hn hTr =>
   obtain⟨xs,h1,h2,h3⟩:=open_args hTr hvr hr
   obtain⟨es,h5,h6⟩:=open_cells n hT h0
   have h6':FitsL _ (Rows.uptoBulk d - 1) es:=h6
   have hs:∃ fs,P.underlying t=some (.struct fs):=by
    unfold isSt at hn
    split at hn
    ·
     exact⟨_,by assumption⟩
    ·
     cases hn
   obtain⟨fs,hs⟩:=hs
   obtain⟨cs,rfl,hsz⟩:=okWide_struct hs hv0
   refine⟨.agg es::xs,⟨.agg cs es ?_ (fun j c hj=>?_) fun j d c hd hc=>?_,h1⟩,.st h6' h2 (by simp only[Rows.uptoBulkAll];omega),by simp[h3]⟩
   ·
    simpa[Value.cells] using h5.1
   ·
    have hj':j < es.length:=by rw[← h5.1];simpa[Value.cells] using(Array.getElem?_eq_some_iff.1 hj).1
    exact(h5.2 j c _ (by simpa[Value.cells] using hj) (List.getElem?_eq_getElem hj')).1
   ·
    exact(h5.2 j c d (by simpa[Value.cells] using hc) hd).2
theorem again_args {W W':World}{sp:Nat→Bool}(hl:laidOutB P=true) (hb:Below W.heap.size W W'):∀ {ts:List TypeId}{vs:List Value}{ds:List (DataW H)}{p:List MemPlace},
  (∀ t∈ts,P.readableRec t=true∧t < P.types.size)→DataW.TrodAll enc P W 0 (fun _=>true) true ts vs ds p→(∀ x∈p,x.block < W.heap.size)→(∀ x∈p,sp x.block=true) →
  DataW.TrodAll enc P W' 0 sp true ts vs ds p
 | [],vs,ds,p,_,h,_,_=>by
  obtain⟨rfl,rfl,rfl⟩:=trodAll_nil h
  exact trodAll_mk0
 |t::ts,vs,ds,p,hr,h,hlt,hsp=>by
  obtain⟨v,vs,d,ds,p,q,rfl,rfl,rfl,h0,hq⟩:=trodAll_cons h
  have ht:=hr t (List.mem_cons_self ..)
  exact trodAll_cons_mk (WideElems.Trod_stays hl ht.1 ht.2 h0 (fun x hx=>hb.same (hlt x (List.mem_append_left _ hx))) fun x hx=>hsp x (List.mem_append_left _ hx))
   (again_args hl hb (fun t h=>hr t (List.mem_cons_of_mem _ h)) hq (fun x hx=>hlt x (List.mem_append_right _ hx)) fun x hx=>hsp x (List.mem_append_right _ hx))
end
theorem law_contract {H:Type}{enc:TypeId×Value→H}{P:Program}{f:FuncId}{fn:Func}{s:ChangeSpec}{tb:TypeId}{ps:List PS}
  (hT:TyPs P fn.params.toList ps) (hl:laidOutB P=true) (hread:fn.params.toList.all (fun t=>P.readableRec t&&decide (t < P.types.size))=true) (hvars:s.vars=[])
  (hres:fn.resultTypes = #[tb]) (htb:P.underlying tb=some .bool)
  (hfn:∀ ds:List (DataW H),ds.length=fn.params.toList.length→s.fn H ds={ results:=[.lit (.bool true)],args:=ds })
  (hlaw:∀ (xs:List D) (m:Nat),m≤1048576→FitsPs ps m xs→FnOk P f (xs.map Arg.d) (.one (dbool true)))
  (W:World) (base:Nat) (args:Array Value) (ds gs:List (DataW H)) (before:List MemPlace)
  (hval:∀ (j:Nat) t v,fn.params[j]? = some t→args[j]? = some v→Value.okWide P W .any base t v)
  (hW:DataW.Whole enc P fn.params.toList s.vars false W args.toList ds gs before) (hk:Rows.uptoSmall H (ds++gs)=true) (hgl:Gl P W) :
  Calls P f args W fun e W'=>∃ v,e = .returned v∧s.post enc P fn false true false false W args v W':=by
 have hW':=hW
 obtain⟨p,q,hA,hV,rfl,hfz,hnd⟩:=hW
 rw[hvars]at hV
 obtain⟨rfl,rfl⟩:=trodVars_none hV
 obtain⟨xs,h1,h2,h3⟩:=open_args hT (fun j t v ht hv=>hval j t v (by simpa using ht) (by simpa using hv)) hA
 rw[List.append_nil]at hk
 have hk':Rows.uptoBulkAll ds≤1048576:=of_decide_eq_true hk
 have hc:=hlaw xs _ hk' h2
 have key:=FnOk.bool hc (w:=W) (vs:=args.toList) hgl h1
 rw[Array.toArray_toList]at key
 refine key.mono fun e W' ⟨he,hg⟩=>?_
 subst he
 have hf:=hfn ds h3
 have hlt:∀ x∈p,x.block < W.heap.size:=fun x hx=>hW'.lt x (by simpa using hx)
 refine⟨_,rfl,Go.AX.post_of_below (pa:=p) (pv:=[]) hW' (fun _ _ _=>?_) (fun sp hsp=>?_) (fun _ _=>?_) rfl hg (ok_one hres rfl (okWide_bool_mk htb _))⟩
 ·
  rw[List.append_nil,hf,hres]
  exact trodAll_cons_mk (shut_bool htb _) trodAll_mk0
 ·
  rw[List.append_nil,hf]
  refine again_args hl hg (fun t ht=>?_) hA hlt fun x hx=>hsp x (by simpa using hx)
  have:=List.all_eq_true.1 hread t ht
  simpa using this
 ·
  rw[List.append_nil,hf,hvars]
  rfl
end Go.Proofs.YtngnajknbeijjaaDoor
namespace Go.RF
def agree {α β:Type}(f:α→β→Bool):List α→List β→Nat
 |a::l,b::r=>match f a b with
  |true=>agree f l r+1
  |false=>0
 |_,_=>0
theorem agree_le {α β:Type}{f:α→β→Bool}:∀ {l:List α}{r:List β},agree f l r≤l.length
 | [],_=>by simp[agree]
 |a::l,[]=>by simp[agree]
 |a::l,b::r=>by
  have:=agree_le (f:=f) (l:=l) (r:=r)
  simp only[agree]
  split <;> simp <;> omega
theorem agree_lt {α β:Type}{f:α→β→Bool}:∀ {l:List α}{r:List β}{k:Nat},k < agree f l r→∃ a b,l[k]? = some a∧r[k]? = some b∧f a b=true
 | [],_,k,h=>by simp[agree]at h
 |a::l,[],k,h=>by simp[agree]at h
 |a::l,b::r,k,h=>by
  simp only[agree]at h
  split at h
  ·
   next hf =>
   cases k with
   |zero=>exact⟨a,b,rfl,rfl,hf⟩
   |succ k=>simpa using agree_lt (l:=l) (r:=r) (k:=k) (by omega)
  ·
   omega
theorem agree_at {α β:Type}{f:α→β→Bool}:∀ {l:List α}{r:List β}{a:α}{b:β},l[agree f l r]? = some a→r[agree f l r]? = some b→f a b=false
 | [],_,a,b,h,_=>by simp at h
 |a::l,[],x,y,_,h=>by simp at h
 |a::l,b::r,x,y,h,h'=>by
  simp only[agree]at h h'
  split at h
  ·
   next hf =>
   simp only[hf]at h'
   exact agree_at (l:=l) (r:=r) (by simpa using h) (by simpa using h')
  ·
   next hf=>simp only[hf]at h';simp at h h';subst h h';exact hf
def allB {α β:Type}(f:α→β→Bool):List α→List β→Bool
 | [],[]=>true
 |a::l,b::r=>f a b&&allB f l r
 |_,_=>false
theorem allB_agree {α β:Type}{f:α→β→Bool}:∀ {l:List α}{r:List β},l.length=r.length→(allB f l r=true↔agree f l r=l.length)
 | [],[],_=>by simp[allB,agree]
 | [],b::r,h=>by simp at h
 |a::l,[],h=>by simp at h
 |a::l,b::r,h=>by
  have ih:=allB_agree (f:=f) (l:=l) (r:=r) (by simpa using h)
  simp only[allB,agree,Bool.and_eq_true]
  split
  ·
   next hf=>simp[hf,ih]
  ·
   next hf=>simp[hf]
theorem allB_len {α β:Type}{f:α→β→Bool}:∀ {l:List α}{r:List β},allB f l r=true→l.length=r.length
 | [],[],_=>rfl
 | [],b::r,h=>by simp[allB]at h
 |a::l,[],h=>by simp[allB]at h
 |a::l,b::r,h=>by simp only[allB,Bool.and_eq_true]at h;simp[allB_len h.2]
theorem agree_case {α β:Type}{f:α→β→Bool}{l:List α}{r:List β}(hl:l.length=r.length) {k:Nat}(hk:k≤agree f l r) :
  (k < agree f l r∧k < l.length∧∃ a b,l[k]? = some a∧r[k]? = some b∧f a b=true)∨(k=l.length∧allB f l r=true) ∨
   (k < l.length∧allB f l r=false∧∃ a b,l[k]? = some a∧r[k]? = some b∧f a b=false):=by
 rcases Nat.lt_or_ge k (agree f l r) with h|h
 ·
  exact .inl ⟨h,by have:=agree_le (f:=f) (l:=l) (r:=r);omega,agree_lt h⟩
 ·
  have he:k=agree f l r:=by omega
  have hle:=agree_le (f:=f) (l:=l) (r:=r)
  rcases Nat.lt_or_ge k l.length with h2|h2
  ·
   refine .inr (.inr ⟨h2,?_,l[k],r[k]'(by omega),List.getElem?_eq_getElem h2,List.getElem?_eq_getElem (by omega),?_⟩)
   ·
    cases hb:allB f l r
    ·
     rfl
    ·
     have:=(allB_agree hl).1 hb;omega
   ·
    exact agree_at (f:=f) (l:=l) (r:=r) (by rw[← he];exact List.getElem?_eq_getElem h2) (by rw[← he];exact List.getElem?_eq_getElem (by omega))
  ·
   exact .inr (.inl ⟨by omega,(allB_agree hl).2 (by omega)⟩)
end Go.RF
namespace Go.RF
open Go.AX
abbrev slt (a b:Str):Bool:=Go.Op.bytesLess a b
abbrev sle (a b:Str):Bool:=slt a b || decide (a=b)
def bad (c:UInt8):Bool:=decide ((c.toNat:Int) < 97) || decide ((122:Int) < (c.toNat:Int))
def keyGo (s:Str):Str→Bool
 | []=>decide (0 < s.length)&&decide (s.length < 7)
 |c::r=>if bad c then false else keyGo s r
def key (s:Str):Bool:=keyGo s s
def get (r:List Pair) (k:Str):Int×Bool:=match r with
 | []=>(0,false)
 |p::r=>if p.key=k then (p.n,true) else get r k
def isIn (l:List Str) (s:Str):Bool:=match l with
 | []=>false
 |x::l=>if x=s then true else isIn l s
def putGo (k:Str) (n:Int) (h:Bool):Bool→List Pair→List Pair→List Pair
 |done,out,[]=>if !done&&h then out++[⟨k,n⟩] else out
 |done,out,p::r =>
  let done':=done || !slt p.key k
  let out':=if !done && !slt p.key k&&h then out++[⟨k,n⟩] else out
  putGo k n h done' (if p.key=k then out' else out'++[p]) r
def put (r:List Pair) (k:Str) (n:Int) (h:Bool):List Pair:=putGo k n h false [] r
def round (n:Int):Int:=n - n.tdiv 1073741825*1073741825
def wrongRowsGo:Nat→Str→List Pair→Int
 |_,_,[]=>0
 |i,last,p::r=>if key p.key=false then 7 else if 0 < i∧sle p.key last=true then 2 else if 1073741824 < p.n∨p.n < -1073741824 then 3 else wrongRowsGo (i+1) p.key r
def wrongRows (r:List Pair):Int:=wrongRowsGo 0 [] r
def forms:List Str:=[[],[114,107],[114,110],[114,115],[114,115],[114,115],[114,107],[107],[114,110],[114]]
def form (k:Nat):Str:=forms.getD k []
def hasGo (c:UInt8):Str→Bool
 | []=>false
 |x::r=>if x=c then true else hasGo c r
def has (k:Nat) (c:UInt8):Bool:=hasGo c (form k)
def keysGo (l:List Str):Nat→List Str→Int
 |_,[]=>0
 |i,k::r=>if key k=false then 7 else if isIn (l.take i) k=true then 7 else keysGo l (i+1) r
def keysWrong (l:List Str):Int:=if 5 < l.length then 5 else keysGo l 0 l
def lsGo:List (List Str)→Int
 | []=>0
 |l::r=>if keysWrong l=0 then lsGo r else keysWrong l
def insA (k:Nat):Int:=if has k 114=true then 3 else 0
def insB (k:Nat):Int:=if has k 115=true then 3 else 0
def insLow (k:Nat):Int:=if k=2 then -1073741824 else if k=8 then 1 else 0
def insHigh (k:Nat) (m:Int):Int:=if k=2 then 1073741824 else if k=8 then m else 0
def insOut (k:Nat) (a b n m:Int):Bool:=decide (a < 0) || (decide (insA k < a) || (decide (b < 0) || (decide (insB k < b) || (decide (n < insLow k) || decide (insHigh k m < n)))))
def wrongIns (d:Deed) (m:Int) (i:Ins):Int :=
 if i.kind < 1∨9 < i.kind then 1
 else if insOut i.kind.toNat i.a i.b i.n m=true then 3
 else if has i.kind.toNat 107=false then (if i.key=[] then 0 else 2)
 else if isIn (if i.kind=1 then d.reads else d.writes) i.key=true then 0 else 9
def codeGo (d:Deed):Nat→List Ins→Int
 |_,[]=>0
 |k,i::r=>if wrongIns d ((d.code.length:Int) - 1 - k) i=0 then codeGo d (k+1) r else wrongIns d ((d.code.length:Int) - 1 - k) i
def wrongDeed (d:Deed):Int :=
 if lsGo [d.reads,d.writes]=0 then (if 12 < d.code.length then 5 else codeGo d 0 d.code) else lsGo [d.reads,d.writes]
structure Deed.Sm (d:Deed):Prop where
 r:d.reads.length≤268435456
 w:d.writes.length≤268435456
 c:d.code.length≤268435456
 rk:∀ s∈d.reads,s.length≤1073741824
 wk:∀ s∈d.writes,s.length≤1073741824
def right:List Deed→Bool
 | []=>true
 |d::r=>if wrongDeed d=0 then right r else false
def bvs (hit:Bool) (b:Int):Version→List Version→Version
 |out,[]=>out
 |out,v::r=>bvs hit b (if hit&&decide (v.by_ < b) then v else out) r
def beforeGo (k:Str) (b:Int):Version→List Chain→Version
 |out,[]=>out
 |out,c::r=>beforeGo k b (bvs (decide (c.key=k)) b out c.vs) r
def before (l:List Chain) (k:Str) (b:Int):Version:=beforeGo k b ⟨-1,true,false,0⟩ l
def later (b:Int):List Version→Bool
 | []=>false
 |w::_=>decide (w.by_ < b)
def old (b:Int) (r:List Version) (v:Version):Bool:=(later b r&&decide (v.by_ < b)) || (decide (v.by_ < b)&&(v.made && !v.has))
def clrV (b:Int):List Version→List Version
 | []=>[]
 |v::r=>if old b r v=true then clrV b r else v::clrV b r
def clear (b:Int):List Chain→List Chain
 | []=>[]
 |c::r=>if clrV b c.vs=[] then clear b r else ⟨c.key,clrV b c.vs⟩::clear b r
structure Chain.Sm (c:Chain):Prop where
 k:c.key.length≤1073741824
 v:c.vs.length≤268435456
def nOk (n:Int):Prop := -1073741824≤n∧n≤1073741824
structure Ins.Ok (i:Ins):Prop where
 k:1≤i.kind∧i.kind≤9
 a:0≤i.a∧i.a≤3
 b:0≤i.b∧i.b≤3
 c:i.kind=2→nOk i.n
 s:i.kind=8→0≤i.n∧i.n≤1073741824
structure Done.Ok (e:Done):Prop where
 a:nOk e.r0
 b:nOk e.r1
 c:nOk e.r2
 d:nOk e.r3
def rowsOk (r:List Pair):Prop:=∀ p∈r,nOk p.n
structure Engine.Sm (e:Engine):Prop where
 c:e.chains.length≤134217728
 v:∀ c∈e.chains,c.vs.length≤134217728
 d:e.deeds.length≤134217728
 s:e.state.length≤134217728
 n:e.ends.length≤134217728
 b:0≤e.base∧e.base≤134217728
 dd:∀ d∈e.deeds,d.Sm
def inI (n:Int):Prop := -9223372036854775808≤n∧n≤9223372036854775807
theorem bl_nil_cons (b:UInt8) (r:Str):slt [] (b::r)=true:=by simp[slt,Op.bytesLess]
theorem bl_nil (a:Str):slt a []=false:=by cases a <;> simp[slt,Op.bytesLess]
theorem bl_cons (a b:UInt8) (l r:Str):slt (a::l) (b::r)=if a < b then true else if b < a then false else slt l r:=by
 simp only[slt,Op.bytesLess]
 by_cases h1:a < b
 ·
  simp[h1]
 ·
  by_cases h2:b < a
  ·
   have h3:¬ a=b:=fun h=>by subst h;exact h1 h2
   simp[h1,h2,h3]
  ·
   have h3:a=b:=UInt8.le_antisymm (UInt8.not_lt.1 h2) (UInt8.not_lt.1 h1)
   subst h3
   simp[h1]
theorem slt_irrefl (a:Str):slt a a=false:=by
 induction a with
 |nil=>exact bl_nil []
 |cons x l ih=>rw[bl_cons];simp[ih]
theorem slt_trans:∀ {a b c:Str},slt a b=true→slt b c=true→slt a c=true
 | [],[],c,h,_=>by simp[bl_nil]at h
 |a::l,[],c,h,_=>by simp[bl_nil]at h
 |a,b::r,[],_,h=>by simp[bl_nil]at h
 | [],b::r,c::s,_,_=>bl_nil_cons _ _
 |a::l,b::r,c::s,h,h'=>by
  rw[bl_cons]at h h' ⊢
  by_cases h1:a < b
  ·
   by_cases h2:b < c
   ·
    simp[UInt8.lt_trans h1 h2]
   ·
    by_cases h3:c < b
    ·
     simp[h2,h3]at h'
    ·
     have h4:b=c:=UInt8.le_antisymm (UInt8.not_lt.1 h3) (UInt8.not_lt.1 h2)
     subst h4;simp[h1]
  ·
   by_cases h2:b < a
   ·
    simp[h1,h2]at h
   ·
    have h4:a=b:=UInt8.le_antisymm (UInt8.not_lt.1 h2) (UInt8.not_lt.1 h1)
    subst h4
    simp only[UInt8.lt_irrefl,if_false]at h
    by_cases h2:a < c
    ·
     simp[h2]
    ·
     by_cases h3:c < a
     ·
      simp[h2,h3]at h'
     ·
      simp only[h2,h3,if_false]at h' ⊢
      exact slt_trans h h'
theorem slt_tri:∀ (a b:Str),slt a b=true∨a=b∨slt b a=true
 | [],[] => .inr (.inl rfl)
 | [],b::r => .inl (bl_nil_cons _ _)
 |a::l,[] => .inr (.inr (bl_nil_cons _ _))
 |a::l,b::r=>by
  rw[bl_cons,bl_cons]
  by_cases h1:a < b
  ·
   simp[h1]
  ·
   by_cases h2:b < a
   ·
    simp[h2]
   ·
    have h4:a=b:=UInt8.le_antisymm (UInt8.not_lt.1 h2) (UInt8.not_lt.1 h1)
    subst h4
    rcases slt_tri l r with h|h|h
    ·
     simp[h]
    ·
     subst h;simp
    ·
     simp[h]
theorem slt_asymm {a b:Str}(h:slt a b=true):slt b a=false:=by
 cases hb:slt b a
 ·
  rfl
 ·
  have:=slt_trans h hb;rw[slt_irrefl]at this;cases this
theorem slt_ne {a b:Str}(h:slt a b=true):a≠b:=fun e=>by subst e;rw[slt_irrefl]at h;cases h
structure AtK {α:Type} (f:α→Str) (l:List α) (k:Str) (m:Nat):Prop where
 le:m≤l.length
 lt:∀ x c,l[x]? = some c→x < m→slt (f c) k=true
 ge:∀ x c,l[x]? = some c→m≤x→slt (f c) k=false
def isAtK {α:Type}(f:α→Str) (l:List α) (k:Str) (m:Nat):Bool:=match l[m]? with
 |some c=>decide (f c=k)
 |none=>false
def Srt {α:Type}(f:α→Str) (l:List α):Prop:=l.Pairwise fun a b=>slt (f a) (f b)=true
theorem Srt.at {α:Type}{f:α→Str}(k:Str):∀ {l:List α},Srt f l→∃ m,AtK f l k m
 | [],_=>⟨0,⟨by simp,by simp,by simp⟩⟩
 |c::l,h=>by
  have h':(∀ a∈l,slt (f c) (f a)=true)∧Srt f l:=List.pairwise_cons.1 h
  cases hc:slt (f c) k with
  |true =>
   obtain⟨m,hm⟩:=Srt.at k h'.2
   refine⟨m+1,⟨by have:=hm.le;simpa using this,fun x d hx hlt=>?_,fun x d hx hge=>?_⟩⟩
   ·
    cases x with
    |zero=>simp at hx;subst hx;exact hc
    |succ x=>exact hm.lt x d (by simpa using hx) (by omega)
   ·
    cases x with
    |zero=>omega
    |succ x=>exact hm.ge x d (by simpa using hx) (by omega)
  |false =>
   refine⟨0,⟨by simp,fun x d _ hlt=>by omega,fun x d hx _=>?_⟩⟩
   cases x with
   |zero=>simp at hx;subst hx;exact hc
   |succ x =>
    have h1:=h'.1 d (List.mem_of_getElem? (by simpa using hx))
    cases hd:slt (f d) k with
    |false=>rfl
    |true=>rw[slt_trans h1 hd]at hc;cases hc
theorem Srt.lt {α:Type}{f:α→Str}{l:List α}(h:Srt f l) {i j:Nat}{a b:α}(hi:l[i]? = some a) (hj:l[j]? = some b) (hlt:i < j):slt (f a) (f b)=true:=by
 obtain⟨h1,rfl⟩:=List.getElem?_eq_some_iff.1 hi
 obtain⟨h2,rfl⟩:=List.getElem?_eq_some_iff.1 hj
 exact List.pairwise_iff_getElem.1 h i j h1 h2 hlt
end Go.RF
namespace Go.Proofs.YtngnajknbeijjaaDoor
open Go.AX Go.RF
abbrev i64s:Sh := .num .i64
abbrev shPair:List Sh:=[.str,i64s]
theorem inI_of {n:Int}(h:(Lit.int .i64 n).wf=true):inI n:=by
 simpa[Lit.wf,IntKind.min,IntKind.max,IntKind.signed,IntKind.bits,inI] using h
theorem fitsR_map {α:Type}{enc:α→List D}{Q:α→Nat→Prop}{fs:List Sh}(h:∀ r m,FitsL fs m r→∃ x,r=enc x∧Q x m):∀ {rows:List (List D)}{m:Nat},FitsR fs m rows →
  ∃ l:List (α×Nat),rows=(l.map (·.1)).map enc∧(∀ y∈l,Q y.1 y.2)∧(l.map (·.2)).sum+l.length≤m
 | [],m,_=>⟨[],rfl,by simp,by simp⟩
 |r::rows,m,hR=>by
  cases hR with
  |@cons _ a b _ _ _ h1 h2 h3 =>
   obtain⟨x,rfl,hx⟩:=h r a h1
   obtain⟨l,rfl,hl,hs⟩:=fitsR_map h h2
   refine⟨(x,a)::l,rfl,fun y hy=>?_,by simp;omega⟩
   rcases List.mem_cons.1 hy with rfl|hy
   ·
    exact hx
   ·
    exact hl y hy
theorem sum_mem {l:List Nat}{n:Nat}(h:n∈l):n≤l.sum:=by
 induction l with
 |nil=>simp at h
 |cons x l ih =>
  rcases List.mem_cons.1 h with rfl|h
  ·
   simp
  ·
   have:=ih h;simp;omega
theorem fitsR_all {α:Type}{enc:α→List D}{Q:α→Nat→Prop}{fs:List Sh}(h:∀ r m,FitsL fs m r→∃ x,r=enc x∧Q x m) {rows:List (List D)}{m:Nat}(hR:FitsR fs m rows) :
  ∃ l:List α,rows=l.map enc∧(∀ x∈l,∃ k,k≤m∧Q x k)∧l.length≤m:=by
 obtain⟨l,h1,h2,h3⟩:=fitsR_map h hR
 refine⟨l.map (·.1),h1,fun x hx=>?_,by simp;omega⟩
 obtain⟨y,hy,rfl⟩:=List.mem_map.1 hx
 have:=sum_mem (List.mem_map.2 ⟨y,hy,rfl⟩:y.2∈l.map (·.2))
 exact⟨y.2,by omega,h2 y hy⟩
theorem dec_int {m:Nat}{d:D}(h:Fits i64s m d):∃ n,d=dint n∧inI n:=by
 cases h with
 |num k n m h=>exact⟨n,rfl,inI_of h⟩
theorem dec_str {m:Nat}{d:D}(h:Fits .str m d):∃ s,d=dstr s∧s.length≤m:=by
 cases h with
 |str s m h=>exact⟨s,rfl,h⟩
theorem dec_one {s:Sh}{m:Nat}{r:List D}(h:FitsL [s] m r):∃ d,r=[d]∧Fits s m d:=by
 cases h with
 |@cons _ a b _ d _ ds h1 h2 h3 =>
  cases h2
  exact⟨d,rfl,h1.mono' (by omega)⟩
theorem dec_two {s t:Sh}{m:Nat}{r:List D}(h:FitsL [s,t] m r):∃ d e,r=[d,e]∧Fits s m d∧Fits t m e:=by
 cases h with
 |@cons _ a b _ d _ ds h1 h2 h3 =>
  obtain⟨e,rfl,h4⟩:=dec_one h2
  exact⟨d,e,rfl,h1.mono' (by omega),h4.mono' (by omega)⟩
theorem dec_sl {fs:List Sh}{m:Nat}{d:D}(h:Fits (.sl fs) m d):∃ rows,d = .sl fs.length rows∧FitsR fs m rows:=by
 cases h with
 |sl fs m rows h=>exact⟨rows,rfl,h⟩
theorem dec_pair (r:List D) (m:Nat) (h:FitsL shPair m r):∃ p:Pair,r=p.enc∧(p.key.length≤m∧inI p.n):=by
 obtain⟨d,e,rfl,h1,h2⟩:=dec_two h
 obtain⟨s,rfl,hs⟩:=dec_str h1
 obtain⟨n,rfl,hn⟩:=dec_int h2
 exact⟨⟨s,n⟩,rfl,hs,hn⟩
structure Deed.In (d:Deed) (m:Nat):Prop where
 r:d.reads.length≤m
 w:d.writes.length≤m
 c:d.code.length≤m
 rk:∀ s∈d.reads,s.length≤m
 wk:∀ s∈d.writes,s.length≤m
 ck:∀ i∈d.code,i.key.length≤m
theorem Deed.In.mono {d:Deed}{m n:Nat}(h:Deed.In d m) (hm:m≤n):Deed.In d n :=
 ⟨by have:=h.r;omega,by have:=h.w;omega,by have:=h.c;omega,fun s hs=>by have:=h.rk s hs;omega,fun s hs=>by have:=h.wk s hs;omega,fun s hs=>by have:=h.ck s hs;omega⟩
theorem dec_rows {m:Nat}{d:D}(h:Fits (.sl shPair) m d):∃ l:List Pair,d=encRows l∧l.length≤m∧∀ p∈l,p.key.length≤m∧inI p.n:=by
 obtain⟨rows,rfl,hr⟩:=dec_sl h
 obtain⟨l,rfl,hl,hn⟩:=fitsR_all dec_pair hr
 exact⟨l,rfl,hn,fun p hp=>let ⟨_,h1,h2⟩:=hl p hp;⟨Nat.le_trans h2.1 h1,h2.2⟩⟩
end Go.Proofs.YtngnajknbeijjaaDoor
namespace Go.Proofs.YtngnajknbeijjaaDoor
open Go.AX
def tbl:Tbl:=[
 (1,⟨1,8,[.nilFunc],.one⟩),
 (2,⟨1,8,[.int .i64 0],.int .i64⟩),
 (3,⟨1,8,[.int .i64 0],.int .i64⟩),
 (4,⟨1,1,[.bool false],.bool⟩),
 (5,⟨1,1,[.int .u8 0],.int .u8⟩),
 (9,⟨1,16,[.string ⟨#[]⟩],.str⟩),
 (12,⟨1,8,[.int .u64 0],.int .u64⟩),
 (13,⟨2,24,[.string ⟨#[]⟩,.int .u64 0],.st [(0,1),(1,1)]⟩),
 (21,⟨1,4,[.int .i32 0],.int .i32⟩),
 (22,⟨1,24,[.slice none 0 0],.sl 40 2⟩),
 (23,⟨1,24,[.slice none 0 0],.sl 40 2⟩),
 (24,⟨1,8,[.nilFunc],.one⟩),
 (25,⟨1,8,[.int .i64 0],.int .i64⟩),
 (26,⟨1,8,[.nilFunc],.one⟩),
 (27,⟨1,8,[.nilFunc],.one⟩),
 (29,⟨1,8,[.nilFunc],.one⟩),
 (30,⟨1,8,[.nilFunc],.one⟩),
 (31,⟨1,8,[.nilFunc],.one⟩),
 (32,⟨1,8,[.nilFunc],.one⟩),
 (33,⟨1,8,[.nilFunc],.one⟩),
 (34,⟨1,8,[.nilFunc],.one⟩),
 (35,⟨1,8,[.nilFunc],.one⟩),
 (36,⟨1,8,[.nilFunc],.one⟩),
 (37,⟨1,8,[.nilFunc],.one⟩),
 (38,⟨1,8,[.nilFunc],.one⟩),
 (39,⟨2,24,[.string ⟨#[]⟩,.int .i64 0],.st [(0,1),(1,1)]⟩),
 (40,⟨2,24,[.string ⟨#[]⟩,.int .i64 0],.st [(0,1),(1,1)]⟩),
 (41,⟨1,8,[.nilFunc],.one⟩),
 (42,⟨1,8,[.nilFunc],.one⟩),
 (43,⟨1,8,[.nilFunc],.one⟩),
 (44,⟨1,8,[.nilFunc],.one⟩),
 (45,⟨256,256,[.bool false,.bool false,.bool false,.bool false,.bool false,.bool false,.bool false,.bool false,.bool false,.bool false,.bool false,.bool false,.bool false,.bool false,.bool false,.bool false,.bool false,.bool false,.bool false,.bool false,.bool false,.bool false,.bool false,.bool false,.bool false,.bool false,.bool false,.bool false,.bool false,.bool false,.bool false,.bool false,.bool false,.bool false,.bool false,.bool false,.bool false,.bool false,.bool false,.bool false,.bool false,.bool false,.bool false,.bool false,.bool false,.bool false,.bool false,.bool false,.bool false,.bool false,.bool false,.bool false,.bool false,.bool false,.bool false,.bool false,.bool false,.bool false,.bool false,.bool false,.bool false,.bool false,.bool false,.bool false,.bool false,.bool false,.bool false,.bool false,.bool false,.bool false,.bool false,.bool false,.bool false,.bool false,.bool false,.bool false,.bool false,.bool false,.bool false,.bool false,.bool false,.bool false,.bool false,.bool false,.bool false,.bool false,.bool false,.bool false,.bool false,.bool false,.bool false,.bool false,.bool false,.bool false,.bool false,.bool false,.bool false,.bool false,.bool false,.bool false,.bool false,.bool false,.bool false,.bool false,.bool false,.bool false,.bool false,.bool false,.bool false,.bool false,.bool false,.bool false,.bool false,.bool false,.bool false,.bool false,.bool false,.bool false,.bool false,.bool false,.bool false,.bool false,.bool false,.bool false,.bool false,.bool false,.bool false,.bool false,.bool false,.bool false,.bool false,.bool false,.bool false,.bool false,.bool false,.bool false,.bool false,.bool false,.bool false,.bool false,.bool false,.bool false,.bool false,.bool false,.bool false,.bool false,.bool false,.bool false,.bool false,.bool false,.bool false,.bool false,.bool false,.bool false,.bool false,.bool false,.bool false,.bool false,.bool false,.bool false,.bool false,.bool false,.bool false,.bool false,.bool false,.bool false,.bool false,.bool false,.bool false,.bool false,.bool false,.bool false,.bool false,.bool false,.bool false,.bool false,.bool false,.bool false,.bool false,.bool false,.bool false,.bool false,.bool false,.bool false,.bool false,.bool false,.bool false,.bool false,.bool false,.bool false,.bool false,.bool false,.bool false,.bool false,.bool false,.bool false,.bool false,.bool false,.bool false,.bool false,.bool false,.bool false,.bool false,.bool false,.bool false,.bool false,.bool false,.bool false,.bool false,.bool false,.bool false,.bool false,.bool false,.bool false,.bool false,.bool false,.bool false,.bool false,.bool false,.bool false,.bool false,.bool false,.bool false,.bool false,.bool false,.bool false,.bool false,.bool false,.bool false,.bool false,.bool false,.bool false,.bool false,.bool false,.bool false,.bool false,.bool false,.bool false,.bool false,.bool false,.bool false,.bool false,.bool false,.bool false,.bool false,.bool false,.bool false,.bool false,.bool false,.bool false,.bool false,.bool false,.bool false,.bool false,.bool false,.bool false],.arr 256 4 1⟩),
 (46,⟨256,256,[.bool false,.bool false,.bool false,.bool false,.bool false,.bool false,.bool false,.bool false,.bool false,.bool false,.bool false,.bool false,.bool false,.bool false,.bool false,.bool false,.bool false,.bool false,.bool false,.bool false,.bool false,.bool false,.bool false,.bool false,.bool false,.bool false,.bool false,.bool false,.bool false,.bool false,.bool false,.bool false,.bool false,.bool false,.bool false,.bool false,.bool false,.bool false,.bool false,.bool false,.bool false,.bool false,.bool false,.bool false,.bool false,.bool false,.bool false,.bool false,.bool false,.bool false,.bool false,.bool false,.bool false,.bool false,.bool false,.bool false,.bool false,.bool false,.bool false,.bool false,.bool false,.bool false,.bool false,.bool false,.bool false,.bool false,.bool false,.bool false,.bool false,.bool false,.bool false,.bool false,.bool false,.bool false,.bool false,.bool false,.bool false,.bool false,.bool false,.bool false,.bool false,.bool false,.bool false,.bool false,.bool false,.bool false,.bool false,.bool false,.bool false,.bool false,.bool false,.bool false,.bool false,.bool false,.bool false,.bool false,.bool false,.bool false,.bool false,.bool false,.bool false,.bool false,.bool false,.bool false,.bool false,.bool false,.bool false,.bool false,.bool false,.bool false,.bool false,.bool false,.bool false,.bool false,.bool false,.bool false,.bool false,.bool false,.bool false,.bool false,.bool false,.bool false,.bool false,.bool false,.bool false,.bool false,.bool false,.bool false,.bool false,.bool false,.bool false,.bool false,.bool false,.bool false,.bool false,.bool false,.bool false,.bool false,.bool false,.bool false,.bool false,.bool false,.bool false,.bool false,.bool false,.bool false,.bool false,.bool false,.bool false,.bool false,.bool false,.bool false,.bool false,.bool false,.bool false,.bool false,.bool false,.bool false,.bool false,.bool false,.bool false,.bool false,.bool false,.bool false,.bool false,.bool false,.bool false,.bool false,.bool false,.bool false,.bool false,.bool false,.bool false,.bool false,.bool false,.bool false,.bool false,.bool false,.bool false,.bool false,.bool false,.bool false,.bool false,.bool false,.bool false,.bool false,.bool false,.bool false,.bool false,.bool false,.bool false,.bool false,.bool false,.bool false,.bool false,.bool false,.bool false,.bool false,.bool false,.bool false,.bool false,.bool false,.bool false,.bool false,.bool false,.bool false,.bool false,.bool false,.bool false,.bool false,.bool false,.bool false,.bool false,.bool false,.bool false,.bool false,.bool false,.bool false,.bool false,.bool false,.bool false,.bool false,.bool false,.bool false,.bool false,.bool false,.bool false,.bool false,.bool false,.bool false,.bool false,.bool false,.bool false,.bool false,.bool false,.bool false,.bool false,.bool false,.bool false,.bool false,.bool false,.bool false,.bool false,.bool false,.bool false,.bool false,.bool false,.bool false,.bool false,.bool false,.bool false,.bool false,.bool false,.bool false,.bool false,.bool false],.arr 256 4 1⟩),
 (48,⟨1,8,[.nilFunc],.one⟩),
 (49,⟨1,8,[.nilFunc],.one⟩),
 (50,⟨1,8,[.pointer none],.one⟩),
 (51,⟨1,8,[.nilFunc],.one⟩),
 (52,⟨1,8,[.nilFunc],.one⟩),
 (53,⟨1,8,[.nilFunc],.one⟩),
 (54,⟨1,8,[.nilFunc],.one⟩),
 (55,⟨1,8,[.nilFunc],.one⟩),
 (56,⟨1,8,[.nilFunc],.one⟩),
 (58,⟨1,8,[.nilFunc],.one⟩),
 (59,⟨1,8,[.nilFunc],.one⟩),
 (60,⟨1,8,[.int .u64 0],.int .u64⟩),
 (61,⟨1,8,[.nilFunc],.one⟩),
 (62,⟨1,8,[.nilFunc],.one⟩),
 (63,⟨256,256,[.int .u8 0,.int .u8 0,.int .u8 0,.int .u8 0,.int .u8 0,.int .u8 0,.int .u8 0,.int .u8 0,.int .u8 0,.int .u8 0,.int .u8 0,.int .u8 0,.int .u8 0,.int .u8 0,.int .u8 0,.int .u8 0,.int .u8 0,.int .u8 0,.int .u8 0,.int .u8 0,.int .u8 0,.int .u8 0,.int .u8 0,.int .u8 0,.int .u8 0,.int .u8 0,.int .u8 0,.int .u8 0,.int .u8 0,.int .u8 0,.int .u8 0,.int .u8 0,.int .u8 0,.int .u8 0,.int .u8 0,.int .u8 0,.int .u8 0,.int .u8 0,.int .u8 0,.int .u8 0,.int .u8 0,.int .u8 0,.int .u8 0,.int .u8 0,.int .u8 0,.int .u8 0,.int .u8 0,.int .u8 0,.int .u8 0,.int .u8 0,.int .u8 0,.int .u8 0,.int .u8 0,.int .u8 0,.int .u8 0,.int .u8 0,.int .u8 0,.int .u8 0,.int .u8 0,.int .u8 0,.int .u8 0,.int .u8 0,.int .u8 0,.int .u8 0,.int .u8 0,.int .u8 0,.int .u8 0,.int .u8 0,.int .u8 0,.int .u8 0,.int .u8 0,.int .u8 0,.int .u8 0,.int .u8 0,.int .u8 0,.int .u8 0,.int .u8 0,.int .u8 0,.int .u8 0,.int .u8 0,.int .u8 0,.int .u8 0,.int .u8 0,.int .u8 0,.int .u8 0,.int .u8 0,.int .u8 0,.int .u8 0,.int .u8 0,.int .u8 0,.int .u8 0,.int .u8 0,.int .u8 0,.int .u8 0,.int .u8 0,.int .u8 0,.int .u8 0,.int .u8 0,.int .u8 0,.int .u8 0,.int .u8 0,.int .u8 0,.int .u8 0,.int .u8 0,.int .u8 0,.int .u8 0,.int .u8 0,.int .u8 0,.int .u8 0,.int .u8 0,.int .u8 0,.int .u8 0,.int .u8 0,.int .u8 0,.int .u8 0,.int .u8 0,.int .u8 0,.int .u8 0,.int .u8 0,.int .u8 0,.int .u8 0,.int .u8 0,.int .u8 0,.int .u8 0,.int .u8 0,.int .u8 0,.int .u8 0,.int .u8 0,.int .u8 0,.int .u8 0,.int .u8 0,.int .u8 0,.int .u8 0,.int .u8 0,.int .u8 0,.int .u8 0,.int .u8 0,.int .u8 0,.int .u8 0,.int .u8 0,.int .u8 0,.int .u8 0,.int .u8 0,.int .u8 0,.int .u8 0,.int .u8 0,.int .u8 0,.int .u8 0,.int .u8 0,.int .u8 0,.int .u8 0,.int .u8 0,.int .u8 0,.int .u8 0,.int .u8 0,.int .u8 0,.int .u8 0,.int .u8 0,.int .u8 0,.int .u8 0,.int .u8 0,.int .u8 0,.int .u8 0,.int .u8 0,.int .u8 0,.int .u8 0,.int .u8 0,.int .u8 0,.int .u8 0,.int .u8 0,.int .u8 0,.int .u8 0,.int .u8 0,.int .u8 0,.int .u8 0,.int .u8 0,.int .u8 0,.int .u8 0,.int .u8 0,.int .u8 0,.int .u8 0,.int .u8 0,.int .u8 0,.int .u8 0,.int .u8 0,.int .u8 0,.int .u8 0,.int .u8 0,.int .u8 0,.int .u8 0,.int .u8 0,.int .u8 0,.int .u8 0,.int .u8 0,.int .u8 0,.int .u8 0,.int .u8 0,.int .u8 0,.int .u8 0,.int .u8 0,.int .u8 0,.int .u8 0,.int .u8 0,.int .u8 0,.int .u8 0,.int .u8 0,.int .u8 0,.int .u8 0,.int .u8 0,.int .u8 0,.int .u8 0,.int .u8 0,.int .u8 0,.int .u8 0,.int .u8 0,.int .u8 0,.int .u8 0,.int .u8 0,.int .u8 0,.int .u8 0,.int .u8 0,.int .u8 0,.int .u8 0,.int .u8 0,.int .u8 0,.int .u8 0,.int .u8 0,.int .u8 0,.int .u8 0,.int .u8 0,.int .u8 0,.int .u8 0,.int .u8 0,.int .u8 0,.int .u8 0,.int .u8 0,.int .u8 0,.int .u8 0,.int .u8 0,.int .u8 0,.int .u8 0,.int .u8 0,.int .u8 0,.int .u8 0,.int .u8 0,.int .u8 0,.int .u8 0,.int .u8 0,.int .u8 0,.int .u8 0,.int .u8 0,.int .u8 0,.int .u8 0,.int .u8 0,.int .u8 0,.int .u8 0],.arr 256 5 1⟩),
 (64,⟨2,2,[.int .u8 0,.int .u8 0],.st [(0,1),(1,1)]⟩),
 (65,⟨2,2,[.int .u8 0,.int .u8 0],.st [(0,1),(1,1)]⟩),
 (66,⟨32,32,[.int .u8 0,.int .u8 0,.int .u8 0,.int .u8 0,.int .u8 0,.int .u8 0,.int .u8 0,.int .u8 0,.int .u8 0,.int .u8 0,.int .u8 0,.int .u8 0,.int .u8 0,.int .u8 0,.int .u8 0,.int .u8 0,.int .u8 0,.int .u8 0,.int .u8 0,.int .u8 0,.int .u8 0,.int .u8 0,.int .u8 0,.int .u8 0,.int .u8 0,.int .u8 0,.int .u8 0,.int .u8 0,.int .u8 0,.int .u8 0,.int .u8 0,.int .u8 0],.arr 16 65 2⟩),
 (67,⟨1,8,[.nilFunc],.one⟩),
 (68,⟨1,8,[.nilFunc],.one⟩),
 (69,⟨1,8,[.nilFunc],.one⟩),
 (75,⟨1,8,[.nilFunc],.one⟩),
 (76,⟨1,4,[.int .u32 0],.int .u32⟩),
 (79,⟨1,8,[.nilFunc],.one⟩),
 (80,⟨1,8,[.pointer none],.one⟩)]
theorem tbl_b:tblB Go.Proofs.Tryd.prog tbl=true:=by kernel_rfl
theorem tbl_ok:TOk Go.Proofs.Tryd.prog tbl:=tok_of tbl_b
theorem mixed_ok:Go.Proofs.Tryd.prog.follows .mixedOrders=true:=by kernel_rfl
end Go.Proofs.YtngnajknbeijjaaDoor
namespace Go.Proofs
open Go.Shelf Go.RowKit
def Tryd.lays106_ren:Go.Shelf.Ren:=⟨fun|106=>33|213=>40|265=>45|n=>n,fun|9=>9|3=>3|n=>n,fun|n=>n⟩
theorem Tryd.lays106:Go.Proofs.Lays.n106 Tryd.prog Tryd.lays106_ren:={
 mixed:=by kernel_rfl
 f106:=Tryd.func33.trans (congrArg some (by kernel_rfl))
 f213:=Tryd.func40.trans (congrArg some (by kernel_rfl))
 f265:=Tryd.func45.trans (congrArg some (by kernel_rfl))
 t3:=Tryd.underlying3
 a3:=Tryd.isAgg3
 z3:=Tryd.sizeOf3
 v3:=Tryd.zeroValue3
 t9:=Tryd.underlying9
 a9:=Tryd.isAgg9
 z9:=Tryd.sizeOf9
 v9:=Tryd.zeroValue9 }
theorem Tryd.strings_Compare (a b:ByteArray) (w:World) :
  Calls Tryd.prog 33 #[.string a,.string b] w fun e w'=>e = .returned (.int .i64 (Lib.compareBytes a.data.toList b.data.toList))∧w'=w:=Any.strings_Compare Tryd.lays106 a b w
end Go.Proofs
namespace Go.Proofs.YtngnajknbeijjaaDoor
open Go.AX Go.RF Go.RowKit
set_option maxRecDepth 100000
set_option maxHeartbeats 4000000
def cmpT (a b:Str):Int:=if slt a b=true then -1 else if a=b then 0 else 1
theorem compare_eq:∀ (a b:Str),Lib.compareBytes a b=cmpT a b
 | [],[]=>by simp[Lib.compareBytes,cmpT,bl_nil]
 | [],b::r=>by simp[Lib.compareBytes,cmpT,bl_nil_cons]
 |a::l,[]=>by simp[Lib.compareBytes,cmpT,bl_nil]
 |a::l,b::r=>by
  simp only[Lib.compareBytes,cmpT,bl_cons]
  by_cases h1:a < b
  ·
   simp[h1]
  ·
   by_cases h2:b < a
   ·
    have h3:¬ a=b:=fun h=>by subst h;exact h1 h2
    simp[h1,h2,h3]
   ·
    have h3:a=b:=UInt8.le_antisymm (UInt8.not_lt.1 h2) (UInt8.not_lt.1 h1)
    subst h3
    rw[compare_eq l r]
    simp[h1,cmpT]
theorem cmpT_lt {a b:Str}:cmpT a b < 0↔slt a b=true:=by
 unfold cmpT
 split
 ·
  next h=>simp[h]
 ·
  next h=>split <;> simp[h]
theorem cmpT_zero {a b:Str}:cmpT a b=0↔a=b:=by
 unfold cmpT
 split
 ·
  next h =>
  constructor
  ·
   intro h0;simp at h0
  ·
   intro h0;subst h0;rw[slt_irrefl]at h;cases h
 ·
  split <;> simp_all
theorem ok_compare (a b:Str):FnOk Tryd.prog 33 [.d (dstr a),.d (dstr b)] (.one (dint (cmpT a b))):=by
 refine⟨⟨_,Tryd.func33,rfl,rfl⟩,fun w own vs hown ha=>?_⟩
 match vs,ha with
 | [x,y],⟨h1,h2,_⟩ =>
  obtain rfl:x=str a:=rd_v h1
  obtain rfl:y=str b:=rd_v h2
  refine(Tryd.strings_Compare ⟨a.toArray⟩ ⟨b.toArray⟩ w).mono fun e w' he=>?_
  obtain⟨rfl,rfl⟩:=he
  exact⟨_,rfl,Below.refl _ _,by rw[← compare_eq];exact Rd.v _⟩
theorem ok_rfind1 (c:Pair) (k:Str):FnOk Tryd.prog 32 [.d (.agg c.enc),.d (dstr k)] (.one (dint (cmpT c.key k))):=by
 refine fnOk_of tbl_ok mixed_ok Tryd.func32 rfl (by kernel_rfl) rfl rfl fun w0 own0=>?_
 have hc:=ok_compare c.key k
 try refine wk ?_
 exact .one (.tmp rfl (.one (.d (.refl _))))
abbrev AtR (l:List Pair) (k:Str) (m:Nat):Prop:=AtK Pair.key l k m
abbrev isAtR (l:List Pair) (k:Str) (m:Nat):Bool:=isAtK Pair.key l k m
theorem ok_rbsearch (l:List Pair) (k:Str) (m:Nat) (hl:l.length≤268435456) (hm:AtR l k m) :
  FnOk Tryd.prog 31 [.d (encRows l),.d (dstr k),.d (.v (.func (.func 32) #[] #[]))] (.tup [dint m,dbool (isAtR l k m)]):=by
 refine fnOk_of tbl_ok mixed_ok Tryd.func31 rfl (by kernel_rfl) rfl rfl fun w0 own0=>?_
 have hml:=hm.le
 try refine wk ?_
 refine CW.loopT (fun t:Nat×Nat=>[sd 0 (encRows l),sd 1 (dstr k),sd 2 (.v (.func (.func 32) #[] #[])),sd 8 (dint l.length),sd 9 (dint t.1),sd 10 (dint t.2),nxt 0])
  (fun t=>t.1≤m∧m≤t.2∧t.2≤l.length) (fun t=>t.2 - t.1) (0,l.length) ⟨by omega,hm.le,by omega⟩ ?_ ?_
 ·
  exact by_less
 ·
  rintro ⟨i,j⟩ ⟨h1,h2,h3⟩
  dsimp only at h1 h2 h3 ⊢
  by_cases h4:i < j
  ·
   obtain⟨c,hc⟩:∃ c,l[(i+j) / 2]? = some c:=⟨l[(i+j) / 2]'(by omega),List.getElem?_eq_getElem (by omega)⟩
   have hcall:=ok_rfind1 c k
   have hst0:StopR 4:=⟨rfl⟩
   try refine wkS ?_
   clear hst0
   refine Stop.cutk [sd 11 (dint ((i+j) / 2:Nat))] [.s 0,.s 1,.s 2,.s 8,.s 9,.s 10,.nx] ?_ ?_
   ·
    repeat(first|refine wa ?_|((with_reducible apply s5);(first|((with_reducible apply a_bin);(iterate 2 exact rfl);exact bin_half;exact rfl)|exact by_oa|exact by_ca);exact by_g)|refine wb ?_)
    refine q_cut ?_
    exact by_less
   have hcz:=@cmpT_lt c.key k
   by_cases h5:cmpT c.key k < 0
   ·
    have h6:(i+j) / 2 < m:=by
     rcases Nat.lt_or_ge ((i+j) / 2) m with h|h
     ·
      exact h
     ·
      have:=hm.ge _ c hc h
      rw[hcz.1 h5]at this;cases this
    repeat(first|refine wa ?_|((with_reducible apply s5);(first|exact a_callv hcall rfl rfl by_sub|exact by_oa|exact by_ca);exact by_g)|refine wb ?_)
    refine q_loopT ((i+j) / 2+1,j) ⟨by dsimp only;omega,h2,h3⟩ (by dsimp only;omega) ?_
    exact by_less
   ·
    have h6:m≤(i+j) / 2:=by
     rcases Nat.lt_or_ge ((i+j) / 2) m with h|h
     ·
      exact absurd (hcz.2 (hm.lt _ c hc h)) h5
     ·
      exact h
    repeat(first|refine wa ?_|((with_reducible apply s5);(first|exact a_callv hcall rfl rfl by_sub|exact by_oa|exact by_ca);exact by_g)|refine wb ?_)
    refine q_loopT (i,(i+j) / 2) ⟨h1,h6,by dsimp only;omega⟩ (by dsimp only;omega) ?_
    exact by_less
  ·
   obtain rfl:i=m:=by omega
   cases hc:l[i]? with
   |none =>
    have h5:l.length≤i:=by
     rcases Nat.lt_or_ge i l.length with h|h
     ·
      rw[List.getElem?_eq_getElem h]at hc;cases hc
     ·
      exact h
    try refine wk ?_
    exact .two (.tmp rfl (.one (.d (.refl _)))) (.tmp rfl (.one (.d (dle_bool (by simp[isAtK,hc])))))
   |some c =>
    have h5:i < l.length:=(List.getElem?_eq_some_iff.1 hc).1
    have hcall:=ok_rfind1 c k
    repeat(first|refine wa ?_|((with_reducible apply s5);(first|exact a_callv hcall rfl rfl by_sub|exact by_oa|exact by_ca);exact by_g)|refine wb ?_)
    refine .two (.tmp rfl (.one (.d (.refl _)))) (.tmp rfl (.one (.d (dle_bool ?_))))
    rw[show isAtR l k i=decide (c.key=k) by simp[isAtR,isAtK,hc]]
    show decide (cmpT c.key k=0)=decide (c.key=k)
    rw[decide_eq_decide]
    exact cmpT_zero
theorem ok_rfind (l:List Pair) (k:Str) (m:Nat) (hl:l.length≤268435456) (hm:AtR l k m):FnOk Tryd.prog 20 [.d (encRows l),.d (dstr k)] (.tup [dint m,dbool (isAtR l k m)]):=by
 refine fnOk_of tbl_ok mixed_ok Tryd.func20 rfl (by kernel_rfl) rfl rfl fun w0 own0=>?_
 have hc:=ok_rbsearch l k m hl hm
 try refine wk ?_
 exact .two (.tmp rfl (.one (.d (.refl _)))) (.tmp rfl (.one (.d (.refl _))))
end Go.Proofs.YtngnajknbeijjaaDoor
namespace Go.AX
open Go.RowKit
variable {cx:Cx}{g:Nat→Value}{σ σ':St}{a:Act}{w w':World}{nx:Nat}{c:Code}{Q:Exit→St→Prop}
variable {ty:TypeId}{pos:String}{af:Array Edge}{gd:Option (Nat×Bool)}{d:Nat}
def RowsAt (w:World) (base:Nat) (own:Nat→Prop) (e k:Nat) (v:Value) (rows:List (List D)):Prop :=
 ∃ xs:List Value,w.ownsRow base e k v rows.length xs∧(∀ x∈xs,Value.oneCell' x=true)∧(∀ r∈rows,r.length=k) ∧
  ∀ (i j:Nat) (r:List D) (d:D) (x:Value),rows[i]? = some r→r[j]? = some d→xs[i*k+j]? = some x→Rd w own x d
def with1 (own:Nat→Prop) (v:Value):Nat→Prop:=fun b=>own b∨blk v=some b
theorem ownsRow_base {base base':Nat}{e k:Nat}{v:Value}{n:Nat}{xs:List Value}(h:w.ownsRow base e k v n xs) (hb:∀ b,blk v=some b→base'≤b):w.ownsRow base' e k v n xs:=by
 refine⟨h.1,?_⟩
 rcases h.2 with h1|⟨g,cap,cur,hv,h1,h2⟩
 ·
  exact .inl h1
 ·
  exact .inr ⟨g,cap,cur,hv,hb g (by rw[hv];rfl),h2⟩
theorem RowsAt.lt {base e k:Nat}{own:Nat→Prop}{v:Value}{rows:List (List D)}(h:RowsAt w base own e k v rows) {b:Nat}(hb:blk v=some b):base≤b∧b < w.heap.size:=by
 obtain⟨xs,h1,_⟩:=h
 exact h1.lt b (by rw[← blk_own h1];exact hb)
theorem RowsAt.re {base base' e k:Nat}{own own':Nat→Prop}{v:Value}{rows:List (List D)}(h:RowsAt w base own e k v rows) (hb:∀ b,blk v=some b→base'≤b) (ho:∀ b,own' b→own b):RowsAt w base' own' e k v rows:=by
 obtain⟨xs,h1,h2,h3,h4⟩:=h
 exact⟨xs,ownsRow_base h1 hb,h2,h3,fun i j r d x hi hj hx=>(h4 i j r d x hi hj hx).less ho⟩
theorem RowsAt.rd {base e k:Nat}{own own':Nat→Prop}{v:Value}{rows:List (List D)}(h:RowsAt w base own e k v rows) (ho:∀ b,own' b→own b∧blk v≠some b):Rd w own' v (.sl k rows):=by
 obtain⟨xs,h1,h2,h3,h4⟩:=h
 rcases h1.2 with ⟨hv,hn⟩|⟨b,cap,cur,hv,hb,hh,hle,hcm,hsz,htk⟩
 ·
  obtain rfl:rows=[]:=List.eq_nil_of_length_eq_zero hn
  rw[hv];exact .nil none 0 k
 ·
  have hlt:b < w.heap.size:=by
   rcases Nat.lt_or_ge b w.heap.size with h|h
   ·
    exact h
   ·
    rw[Array.getElem?_eq_none h]at hh;cases hh
  have hx:∀ i j r d,rows[i]? = some r→r[j]? = some d→∃ x,xs[i*k+j]? = some x∧w.cell? ((⟨b,0,none⟩:Addr).add (i*k+j))=some x:=by
   intro i j r d hi hj
   have hil:=(List.getElem?_eq_some_iff.1 hi).1
   have hjl:j < k:=by rw[← h3 r (List.mem_of_getElem? hi)];exact(List.getElem?_eq_some_iff.1 hj).1
   have hlen:i*k+j < xs.length:=by
    rw[h1.1]
    have h5:(i+1)*k≤rows.length*k:=Nat.mul_le_mul_right _ hil
    rw[Nat.add_mul,Nat.one_mul]at h5
    omega
   exact⟨xs[i*k+j],List.getElem?_eq_getElem hlen,h1.cells (g:=b) (by rw[hv];rfl) _ _ (List.getElem?_eq_getElem hlen)⟩
  have hblk:blk v=some b:=by rw[hv];rfl
  rw[hv]
  refine .sl ⟨b,0,none⟩ cap k rows (fun i j=>xs.getD (i*k+j) undef) (fun h0=>(ho b h0).2 hblk) hlt hle h3 (fun i j r d hi hj=>?_) (fun i j r d hi hj=>?_) fun i j r d hi hj=>?_
  ·
   obtain⟨x,h5,h6⟩:=hx i j r d hi hj
   rw[h6];simp[List.getD,h5]
  ·
   obtain⟨x,h5,h6⟩:=hx i j r d hi hj
   simp only[List.getD,h5,Option.getD_some]
   exact h2 x (List.mem_of_getElem? h5)
  ·
   obtain⟨x,h5,h6⟩:=hx i j r d hi hj
   simp only[List.getD,h5,Option.getD_some]
   exact(h4 i j r d x hi hj h5).less fun b hb=>(ho b hb).1
theorem RowsAt.at {base e k:Nat}{own:Nat→Prop}{v:Value}{rows:List (List D)}(h:RowsAt w base own e k v rows) {i j:Nat}{r:List D}{x0:Value}{d':D}(hi:rows[i]? = some r) (hj:r[j]? = some (.v x0)) (hd:Rd w own x0 d') :
  RowsAt w base own e k v (rows.set i (r.set j d')):=by
 obtain⟨xs,h1,h2,h3,h4⟩:=h
 have hil:=(List.getElem?_eq_some_iff.1 hi).1
 have hjl:=(List.getElem?_eq_some_iff.1 hj).1
 refine⟨xs,by simpa using h1,h2,fun r' hr'=>?_,fun i' j' r' z x hi' hj' hx=>?_⟩
 ·
  rcases List.mem_or_eq_of_mem_set hr' with h|h
  ·
   exact h3 r' h
  ·
   subst h;simp;exact h3 r (List.mem_of_getElem? hi)
 ·
  by_cases he:i=i'
  ·
   subst he
   rw[List.getElem?_set_self hil]at hi'
   cases hi'
   by_cases hf:j=j'
   ·
    subst hf
    rw[List.getElem?_set_self hjl]at hj'
    cases hj'
    have:=h4 i j r (.v x0) x hi hj hx
    rw[rd_v this];exact hd
   ·
    rw[List.getElem?_set_ne hf]at hj'
    exact h4 i j' r z x hi hj' hx
  ·
   rw[List.getElem?_set_ne he]at hi'
   exact h4 i' j' r' z x hi' hj' hx
structure FnNew (P:Program) (f:FuncId) (args:List Arg) (e k:Nat) (rows:List (List D)):Prop where
 run : ∃ fn, P.funcs[f]? = some fn ∧ (fn.name == "runtime.NumGoroutine") = false ∧ fn.body.isNone = false
 calls:∀ (w:World) (own:Nat→Prop) (vs:List Value),((∀ b,own b→b < w.heap.size)∧Gl P w)→ArgsOk w own vs args →
  Calls P f vs.toArray w fun r w'=>∃ v,r = .returned v∧Below w.heap.size w w'∧RowsAt w' w.heap.size (with1 own v) e k v rows
inductive RetNew (σ:St) (t e k:Nat) (rows:List (List D)):Prop
 |own {id n:Nat} (h:get σ (.s t) = .av (.own id n)) (ho:get σ (.o id) = .ob (.arr e k rows)) (hn:n=rows.length)
 |nil (h:get σ (.s t) = .av (.d (.v nilS))) (hr:rows=[])
def newQ (t e k:Nat) (rows:List (List D)):Exit→St→Prop
 |.normal,σ=>RetNew σ t e k rows
 |.ret,σ=>RetNew σ t e k rows
 |_,_=>False
theorem objRows (hs:SimG cx σ a w g nx) {id e k:Nat}{rows:List (List D)}(ho:get σ (.o id) = .ob (.arr e k rows)):RowsAt w cx.w0.heap.size (cx.own g σ) e k (g id) rows:=(hs.objs id _ ho).2.1
theorem RetNew.ok (hs:SimG cx σ a w g nx) {t e k:Nat}{rows:List (List D)}(h:RetNew σ t e k rows):RowsAt w cx.w0.heap.size (with1 cx.own0 (a.tmps.getD t undef)) e k (a.tmps.getD t undef) rows:=by
 cases h with
 |@own id n h ho hn =>
  have hv:a.tmps.getD t undef=g id:=((hs.slots t _ h).1.2 e k rows ho).2 hn
  rw[hv]
  refine(objRows hs ho).re (fun b hb=>obj_ge hs ho hb) fun b hb=>?_
  rcases hb with hb|hb
  ·
   exact .inl hb
  ·
   exact .inr ⟨id,_,ho,hb⟩
 |nil h hr =>
  subst hr
  rw[rd_v (hs.slots t _ h).1]
  exact⟨[],World.ownsRow_nil _ _ _ _,by simp,by simp,by simp⟩
theorem fnNew_of {P:Program}{T:Tbl}(hT:TOk P T) (hm:P.follows .mixedOrders=true) {f:FuncId}{fn:Func}{c:Code}{t e k:Nat}{args:List Arg}{rows:List (List D)}
  (hf : P.funcs[f]? = some fn) (hb : fn.body = some c) (hname : (fn.name == "runtime.NumGoroutine") = false) (hr : fn.results = #[.tmp t]) (hn : Nat.ble args.length fn.ntmps = true)
  (h:∀ w0 own0,CW ⟨P,T,hT,hm,fn.ntmps,w0,own0,0,[]⟩ c (newQ t e k rows) (argSt 0 args)):FnNew P f args e k rows:=by
 refine⟨⟨fn,hf,hname,by rw[hb];rfl⟩,fun w own vs hown ha=>?_⟩
 have hsim:=entry_sim (P:=P) (T:=T) (hT:=hT) (hm:=hm) (n:=fn.ntmps) hown ha (by simpa using hn)
 refine calls_of_wp hf hb (wp_mono (h w own _ _ hsim) fun x a' w' he=>?_)
 obtain⟨σ',⟨g,nx,hg⟩,hq⟩:=he
 have fin:∀ hq:RetNew σ' t e k rows,a'.defers=[]∧∃ v,(results fn a'.tmps).run P w' = .ok v w'∧∃ v',Ending.returned v = .returned v'∧Below w.heap.size w w'∧RowsAt w' w.heap.size (with1 own v') e k v' rows:=by
  intro hq
  exact⟨hg.defers,_,by rw[results_one hr];simp[rvRun],_,rfl,hg.below,hq.ok hg⟩
 cases x with
 |normal=>exact fin hq
 |ret=>exact fin hq
 |exit j=>exact hq.elim
 |goto j=>exact hq.elim
 |panic c=>exact hq.elim
 |outgrown=>exact hq.elim
theorem FnNew.ok {P:Program}{f:FuncId}{args:List Arg}{e k:Nat}{rows:List (List D)}(h:FnNew P f args e k rows):FnOk P f args (.one (.sl k rows)):=by
 refine⟨h.run,fun w own vs hown ha=>(h.calls w own vs hown ha).mono fun r w' hr=>?_⟩
 obtain⟨v,rfl,h1,h2⟩:=hr
 exact⟨v,rfl,h1,h2.rd fun b hb=>⟨.inl hb,fun he=>by have:=(h2.lt he).1;have:=hown.1 b hb;omega⟩⟩
theorem SimG.join (hs:SimG cx σ a w g nx) (hb:Below w.heap.size w w') {v:Value}{o:Ob}{e k:Nat}{rows:List (List D)}(hr:RowsAt w' w.heap.size (with1 (cx.own g σ) v) e k v rows)
  (ho:o = .arr e k rows∨o = .pin e k rows v):SimG cx (objSt σ (nx+1) nx o) a w' (upd g nx v) (nx+1):=by
 have hge:=hs.below.size
 refine SimG.obj hs ⟨.inl ⟨rfl,rfl⟩,hb.mono hge,fun b hb' _=>hb.block b hb',fun b hb' => .inr (hr.lt hb').1⟩ (fun hl=>?_) (by rcases ho with rfl|rfl <;> trivial)
 have hre:RowsAt w' cx.w0.heap.size (cx.own (upd g nx v) (objSt σ (nx+1) nx o)) e k (upd g nx v nx) rows:=by
  rw[upd_same]
  refine hr.re (fun b hb'=>by have:=(hr.lt hb').1;omega) fun b hb'=>?_
  rcases hb' with h|⟨id,o',h1,h2⟩
  ·
   exact .inl (.inl h)
  ·
   by_cases hid:id=nx
   ·
    subst hid;rw[upd_same]at h2;exact .inr h2
   ·
    rw[objSt_o hid]at h1
    rw[upd_ne hid]at h2
    exact .inl (.inr ⟨id,o',h1,h2⟩)
 rcases ho with rfl|rfl
 ·
  exact hre
 ·
  exact⟨upd_same _ _ _,hre⟩
theorem call_run {P : Program} {f : FuncId} {xs : List Operand} {ats : Array TypeId} (hr : ∃ fn, P.funcs[f]? = some fn ∧ (fn.name == "runtime.NumGoroutine") = false ∧ fn.body.isNone = false) :
  (execOp a.eval ⟨some d,.call { callee := .value (.func f),args:=⟨xs⟩,argTypes:=ats },ty,pos,af,gd⟩).run P w = .ok (.enter f (xs.map a.eval).toArray) w:=by
 obtain⟨fn,h1,h2,h3⟩:=hr
 simp only[execOp,resolve,Deferred.ofValue,Act.eval,invoke,callFunc,Sem.run_bind,Sem.run_pure,Result.andThen_ok,run_program,h1,h2,h3,Bool.false_eq_true,if_false]
 simp
theorem ok_callnew {f:FuncId}{xs:List Operand}{avs:List AV}{ys:List Arg}{l:List (Key×Val)}{e k:Nat}{rows:List (List D)}{ats:Array TypeId}(hn:d < cx.n) (hc:FnNew cx.P f ys e k rows) (hsub:Subs xs avs ys l) :
  OpOk cx ⟨some d,.call { callee := .value (.func f),args:=⟨xs⟩,argTypes:=ats },ty,pos,af,gd⟩ ⟨l++[(.nx,.num nx)],[(.s d,.av (.own nx rows.length)),(.o nx,.ob (.arr e k rows)),(.nx,.num (nx+1))]⟩:=by
 rintro σ a w K Q ⟨g,n',hs⟩ hr hK
 have hnx:n'=nx:=by
  have h2:=hr.right.1
  rw[hs.hnx]at h2
  simpa using h2
 subst hnx
 have hcall:=hc.calls w (cx.own g σ) (xs.map a.eval) ⟨fun b hb=>own_lt hs hb,hs.gl⟩ (hsub.ok hs hr.left)
 unfold Oper.wp
 rw[call_run hc.run]
 refine hcall.mono fun r w' he=>?_
 obtain⟨v,rfl,hb,hres⟩:=he
 have hG:=SimG.join hs hb hres (.inl rfl)
 refine hK _ _ (Sim.put hG hn (Below.refl _ _) ?_ (Nat.lt_succ_self _))
 refine⟨.of get_cons_same,fun e' k' rows' hg=>?_⟩
 rw[get_cons_same]at hg
 cases hg
 exact⟨Nat.le_refl _,fun _=>by rw[upd_same]⟩
theorem a_callnew {f:FuncId}{xs:List Operand}{avs:List AV}{ys:List Arg}{l:List (Key×Val)}{e k:Nat}{rows:List (List D)}{ats:Array TypeId}(hc:FnNew cx.P f ys e k rows) (hn:get σ .nx = .num nx) (hd:Nat.blt d cx.n=true) (hsub:SubsE σ xs avs ys l) :
  OA cx σ ⟨some d,.call { callee := .value (.func f),args:=⟨xs⟩,argTypes:=ats },ty,pos,af,gd⟩ ⟨l++[(.nx,.num nx)],[(.s d,.av (.own nx rows.length)),(.o nx,.ob (.arr e k rows)),(.nx,.num (nx+1))]⟩ :=
 ⟨ok_callnew (lt_of_blt hd) hc hsub.out.1,hsub.out.2.append ⟨hn,trivial⟩⟩
end Go.AX
namespace Go.AX
open Go.RowKit
variable {cx:Cx}{g:Nat→Value}{σ σ':St}{a:Act}{w w':World}{nx:Nat}{c:Code}{Q:Exit→St→Prop}
variable {ty:TypeId}{pos:String}{af:Array Edge}{gd:Option (Nat×Bool)}{d:Nat}
def SW (cx:Cx) (ops:Array Oper) (Q:Exit→St→Prop) (l:List Oper) (σ:St):Prop :=
 ∀ a w,Sim cx σ a w→wpList cx.P ops (fun e a' w'=>∃ σ',Sim cx σ' a' w'∧Q e σ') l a w
variable {ops:Array Oper}{rest:List Oper}{o:Oper}
theorem SW.rw(h:RW cx ops (fun _ σ'=>Q .normal σ') [] rest σ):SW cx ops Q rest σ:=by
 obtain⟨ts,σ',h1,h2⟩:=h
 exact fun a w hs=>wpList_of_steps h1 hs fun a' w' hs'=>⟨σ',hs',h2⟩
theorem SW.step {t:Tr}(hg:o.guard=none) (ho:OA cx σ o t) (h:SW cx ops Q rest (t.wr++σ)):SW cx ops Q (o::rest) σ:=fun a w hs =>
 wpList_plain hg fun K hK=>ho.1 σ a w K _ hs ho.2 fun a' w' hs'=>hK a' w' (h a' w' hs')
theorem ArgsOk.less {own own':Nat→Prop}(ho:∀ b,own' b→own b):∀ {vs:List Value}{xs:List Arg},ArgsOk w own vs xs→ArgsOk w own' vs xs
 | [],[],_=>trivial
 |v::vs,x::xs,h=>by
  refine⟨?_,ArgsOk.less ho h.2⟩
  cases x with
  |d y=>exact Rd.less ho h.1
  |pd cells =>
   obtain⟨ad,h1,h2,h3⟩:=h.1
   exact⟨ad,h1,h2,fun j z hz=>by obtain⟨u,h4,h5,h6⟩:=h3 j z hz;exact⟨u,h4,h5,h6.less ho⟩⟩
end Go.AX
namespace Go.AX
open Go.RowKit
variable {cx:Cx}{g:Nat→Value}{σ σ':St}{a:Act}{w w':World}{nx:Nat}{c:Code}{Q:Exit→St→Prop}
variable {ty:TypeId}{pos:String}{af:Array Edge}{gd:Option (Nat×Bool)}{d:Nat}
structure BelowBut (v:Value) (w w':World):Prop where
 os:w'.os=w.os
 tape:w'.tape=w.tape
 output:w'.output=w.output
 size:w.heap.size≤w'.heap.size
 block:∀ b,b < w.heap.size→blk v≠some b→w'.heap[b]? = w.heap[b]?
structure FnUpd (P:Program) (f:FuncId) (e k:Nat) (rows:List (List D)) (args:List Arg) (rows':List (List D)):Prop where
 run : ∃ fn, P.funcs[f]? = some fn ∧ (fn.name == "runtime.NumGoroutine") = false ∧ fn.body.isNone = false
 calls:∀ (w:World) (own:Nat→Prop) (v:Value) (vs:List Value),((∀ b,own b→b < w.heap.size)∧Gl P w)→RowsAt w 0 (with1 own v) e k v rows→(∀ b,own b→blk v≠some b)→ArgsOk w (with1 own v) vs args →
  Calls P f (v::vs).toArray w fun r w'=>∃ v',r = .returned v'∧BelowBut v w w'∧(∀ b,blk v'=some b→blk v=some b∨w.heap.size≤b)∧RowsAt w' 0 (with1 own v') e k v' rows'
theorem ok_upd {f:FuncId}{x:Operand}{xs:List Operand}{avs:List AV}{ys:List Arg}{l:List (Key×Val)}{e k id n:Nat}{rows rows':List (List D)}{ats:Array TypeId}
  (hd:d < cx.n) (hc:FnUpd cx.P f e k rows ys rows') (hx:EvS x (.own id n)) (hn:n=rows.length) (hsub:Subs xs avs ys l) :
  OpOk cx ⟨some d,.call { callee := .value (.func f),args:=⟨x::xs⟩,argTypes:=ats },ty,pos,af,gd⟩ ⟨rdOf x (.own id n)++(l++[(.o id,.ob (.arr e k rows)),(.nx,.num nx)]),[(.s d,.av (.own nx rows'.length)),(.o nx,.ob (.arr e k rows')),(.nx,.num (nx+1)),(.o id,.none)]⟩:=by
 rintro σ a w K Q ⟨g,n',hs⟩ hr hK
 have hnx:n'=nx:=by
  have h2:=hr.right.right.2.1
  rw[hs.hnx]at h2
  simpa using h2
 subst hnx
 have ho:get σ (.o id) = .ob (.arr e k rows):=hr.right.right.1
 have hidlt:=(hs.objs id _ ho).1
 have hval:a.eval x=g id:=((hs.ev hx hr.left).1.2 e k rows ho).2 hn
 have hR:=objRows hs ho
 -- what is kept,but for that slice
 have hown1:∀ b,cx.own g ((.o id,.none)::σ) b→cx.own g σ b∧blk (g id)≠some b:=by
  rintro b (h|⟨j,o,h1,h2⟩)
  ·
   refine⟨.inl h,fun hb=>?_⟩
   have h3:=obj_ge hs ho hb
   have h4:=hs.own0.1 b h
   omega
  ·
   by_cases hj:id=j
   ·
    subst hj;rw[get_cons_same]at h1;cases h1
   ·
    rw[get_cons_ne (by simpa using hj)]at h1
    exact⟨.inr ⟨j,o,h1,h2⟩,fun hb=>hj (hs.sep id j _ o b ho h1 hb h2)⟩
 have hw1:∀ b,with1 (cx.own g ((.o id,.none)::σ)) (g id) b→cx.own g σ b:=by
  rintro b (h|h)
  ·
   exact(hown1 b h).1
  ·
   exact .inr ⟨id,_,ho,h⟩
 have hcall:=hc.calls w (cx.own g ((.o id,.none)::σ)) (g id) (xs.map a.eval) ⟨fun b hb=>own_lt hs (hown1 b hb).1,hs.gl⟩ (hR.re (fun b _=>Nat.zero_le _) hw1) (fun b hb=>(hown1 b hb).2) ((hsub.ok hs hr.right.left).less hw1)
 unfold Oper.wp
 rw[call_run hc.run,List.map_cons,hval]
 refine hcall.mono fun r w' he=>?_
 obtain⟨v',rfl,hbb,hpl,hR'⟩:=he
 have hge:=hs.below.size
 have hbel:Below cx.w0.heap.size w w':=⟨hbb.os,hbb.tape,hbb.output,hbb.size,fun b hb=>hbb.block b (by omega) fun he=>by have:=obj_ge hs ho he;omega⟩
 have hext:Ext (cx.own g σ) w w':=⟨hbb.size,fun b hb hn=>hbb.block b hb fun he=>hn (.inr ⟨id,_,ho,he⟩)⟩
 have hback:∀ j o,j≠n'→get ((.o n',.ob (.arr e k rows'))::(.nx,.num (n'+1))::(.o id,.none)::σ) (.o j) = .ob o→j≠id∧get σ (.o j) = .ob o:=by
  intro j o1 hj h1
  rw[get_cons_ne (by simpa using fun e=>hj e.symm),get_cons_ne (by simp)]at h1
  by_cases he:id=j
  ·
   subst he;rw[get_cons_same]at h1;cases h1
  ·
   rw[get_cons_ne (by simpa using he)]at h1
   exact⟨fun e=>he e.symm,h1⟩
 have hownin:∀ b,cx.own (upd g n' v') ((.o n',.ob (.arr e k rows'))::(.nx,.num (n'+1))::(.o id,.none)::σ) b→with1 (cx.own g ((.o id,.none)::σ)) v' b:=by
  rintro b (h|⟨j,o,h1,h2⟩)
  ·
   exact .inl (.inl h)
  ·
   by_cases hj:j=n'
   ·
    subst hj;rw[upd_same]at h2;exact .inr h2
   ·
    rw[upd_ne hj]at h2
    obtain⟨h3,h4⟩:=hback j o hj h1
    exact .inl (.inr ⟨j,o,(get_cons_ne (by simpa using fun e=>h3 e.symm)).trans h4,h2⟩)
 have hl:Later cx g (upd g n' v') σ ((.o n',.ob (.arr e k rows'))::(.nx,.num (n'+1))::(.o id,.none)::σ) w w' n':=by
  refine⟨hext,hbel,fun b hb=>?_,fun j o1 hj h1=>?_⟩
  ·
   rcases hownin b hb with h|h
   ·
    exact .inl (hown1 b h).1
   ·
    rcases hpl b h with h|h
    ·
     exact .inl (.inr ⟨id,_,ho,h⟩)
    ·
     exact .inr h
  ·
   have hjn:j≠n':=by omega
   refine⟨o1,(hback j o1 hjn h1).2,?_⟩
   cases o1 <;> simp[ObLe,upd_ne hjn]
 have hG:SimG cx ((.o n',.ob (.arr e k rows'))::(.nx,.num (n'+1))::(.o id,.none)::σ) a w' (upd g n' v') (n'+1):=by
  refine hs.next hl (by rw[get_cons_ne (by simp),get_cons_same]) (Nat.le_succ _) hs.size hs.defers hbel (fun j av hj => .inl ⟨?_,rfl⟩) (fun j o1 hj=>?_) (fun j j' o1 o2 b h1 h2 h3 h4=>?_)
  ·
   rw[get_cons_ne (by simp),get_cons_ne (by simp),get_cons_ne (by simp)]at hj;exact hj
  ·
   by_cases hjn:j=n'
   ·
    subst hjn
    rw[get_cons_same]at hj
    cases hj
    refine .inr ⟨Nat.lt_succ_self _,?_,trivial⟩
    show RowsAt w' cx.w0.heap.size _ e k (upd g j v' j) rows'
    rw[upd_same]
    refine hR'.re (fun b hb=>?_) hownin
    rcases hpl b hb with h|h
    ·
     exact(hR.lt h).1
    ·
     omega
   ·
    obtain⟨h5,h6⟩:=hback j o1 hjn hj
    exact .inl ⟨h6,upd_ne hjn,fun b hb=>hbb.block b (own_lt hs (.inr ⟨j,o1,h6,hb⟩)) fun he=>h5 (hs.sep j id o1 _ b h6 ho hb he)⟩
  ·
   have hone:∀ j o1,j≠n'→get ((.o n',.ob (.arr e k rows'))::(.nx,.num (n'+1))::(.o id,.none)::σ) (.o j) = .ob o1→blk (upd g n' v' j)=some b→blk v'=some b→False:=by
    intro j o1 hj hj1 hjb hvb
    rw[upd_ne hj]at hjb
    obtain⟨h5,h6⟩:=hback j o1 hj hj1
    rcases hpl b hvb with h|h
    ·
     exact h5 (hs.sep j id o1 _ b h6 ho hjb h)
    ·
     have:=own_lt hs (.inr ⟨j,o1,h6,hjb⟩);omega
   by_cases he:j=n'
   ·
    by_cases he':j'=n'
    ·
     rw[he,he']
    ·
     subst he;rw[upd_same]at h3;exact(hone j' o2 he' h2 h4 h3).elim
   ·
    by_cases he':j'=n'
    ·
     subst he';rw[upd_same]at h4;exact(hone j o1 he h1 h3 h4).elim
    ·
     obtain⟨_,h6⟩:=hback j o1 he h1
     obtain⟨_,h8⟩:=hback j' o2 he' h2
     rw[upd_ne he]at h3
     rw[upd_ne he']at h4
     exact hs.sep j j' o1 o2 b h6 h8 h3 h4
 refine hK _ _ (Sim.put hG hd (Below.refl _ _) ?_ (Nat.lt_succ_self _))
 refine⟨.of get_cons_same,fun e' k' rows'' hg=>?_⟩
 rw[get_cons_same]at hg
 cases hg
 exact⟨Nat.le_refl _,fun _=>by rw[upd_same]⟩
theorem a_upd {f:FuncId}{x:Operand}{xs:List Operand}{avs:List AV}{ys:List Arg}{l:List (Key×Val)}{e k id n:Nat}{rows rows':List (List D)}{ats:Array TypeId}
  (hc:FnUpd cx.P f e k rows ys rows') (hx:ev σ x=some (.own id n)) (ho:get σ (.o id) = .ob (.arr e k rows)) (hnx:get σ .nx = .num nx) (hn:n=rows.length) (hd:Nat.blt d cx.n=true) (hsub:SubsE σ xs avs ys l) :
  OA cx σ ⟨some d,.call { callee := .value (.func f),args:=⟨x::xs⟩,argTypes:=ats },ty,pos,af,gd⟩ ⟨rdOf x (.own id n)++(l++[(.o id,.ob (.arr e k rows)),(.nx,.num nx)]),[(.s d,.av (.own nx rows'.length)),(.o nx,.ob (.arr e k rows')),(.nx,.num (nx+1)),(.o id,.none)]⟩ :=
 ⟨ok_upd (lt_of_blt hd) hc (ev_out hx).1 hn hsub.out.1,(ev_out hx).2.append (hsub.out.2.append ⟨ho,hnx,trivial⟩)⟩
end Go.AX
namespace Go.Proofs.YtngnajknbeijjaaDoor
open Go.AX Go.RF
set_option maxRecDepth 100000
set_option maxHeartbeats 4000000
theorem new_clone_pair (rows:List (List D)) (hl:rows.length≤536870912):FnNew Tryd.prog 21 [.d (.sl 2 rows)] 40 2 rows:=by
 refine fnNew_of tbl_ok mixed_ok Tryd.func21 rfl (by kernel_rfl) rfl rfl fun w0 own0=>?_
 cases rows with
 |nil =>
  refine CW.empty 0 rfl fun p cp=>?_
  cases p with
  |none =>
   try refine wk ?_
   exact RetNew.nil rfl rfl
  |some ad =>
   have hst0:StopR 3:=⟨rfl⟩
   try refine wkS ?_
   clear hst0
   refine Stop.go (CW.stut (stut_nilv (i:=0) (k:=2)) ⟨rfl,trivial⟩ ?_)
   try refine wk ?_
   exact RetNew.own rfl rfl rfl
 |cons r rows =>
  have hl2:rows.length≤536870911:=by simp at hl;omega
  try refine wk ?_
  exact RetNew.own rfl rfl (by simp)
theorem eq_pair (a b:Pair) (w:World):(Op.equalIn 10000 40 (.agg #[str a.key,i64 a.n]) (.agg #[str b.key,i64 b.n])).run Tryd.prog w = .ok (decide (a=b)) w:=by
 rw[run_equalIn_agg (P:=Tryd.prog) w 9999 40 _ _ (by kernel_rfl) (by kernel_rfl)]
 obtain⟨k1,n1⟩:=a
 obtain⟨k2,n2⟩:=b
 simp only[Program.fieldsOf,Tryd.underlying40,Op.eqFields]
 simp[part,Tryd.isAgg9,Tryd.isAgg3,str,run_equalIn_string,run_equalIn_int,Tryd.underlying9,Tryd.underlying3]
 by_cases h1:k1=k2 <;> by_cases h2:n1=n2 <;> simp[h1,h2]
theorem neq_pair (a b:Pair):BinR Tryd.prog .neq 40 (.agg #[str a.key,i64 a.n]) (.agg #[str b.key,i64 b.n]) (.bool (!decide (a=b))):=by
 intro w x y
 rw[Sem.run_bind,run_eqGuard_agg _ _ _ _ _ _ _ (by kernel_rfl),Result.andThen_ok,run_neq_struct,eq_pair]
 rfl
theorem ok_get (l:List Pair) (k:Str) (hl:l.length≤1073741824):FnOk Tryd.prog 13 [.d (encRows l),.d (dstr k)] (.tup [dint (RF.get l k).1,dbool (RF.get l k).2]):=by
 refine fnOk_of tbl_ok mixed_ok Tryd.func13 rfl (by kernel_rfl) rfl rfl fun w0 own0=>?_
 try refine wk ?_
 refine CW.loopT (fun i:Nat=>[(.s 1,.av (.d (dstr k))),(.s 8,.av (.d (encRows l))),(.s 9,.av (.d (dint l.length))),(.s 10,.av (.d (dint i))),(.nx,.num 0)]) (fun i=>i≤l.length∧RF.get (l.drop i) k=RF.get l k) (fun i=>l.length - i) 0 ⟨by omega,rfl⟩ ?_ fun i hI=>?_
 ·
  exact by_less
 ·
  obtain⟨hi,hI⟩:=hI
  rcases drop_case hi with ⟨h1,h2⟩|⟨p,h1,h2,h3⟩
  ·
   try refine wk ?_
   rw[h1]at hI
   rw[← hI]
   exact .two (.tmp rfl (.one (.d (.refl _)))) (.tmp rfl (.one (.d (.refl _))))
  ·
   rw[h1]at hI
   simp only[RF.get]at hI
   by_cases h4:p.key=k
   ·
    try refine wk ?_
    rw[if_pos h4]at hI
    rw[← hI]
    exact .two (.tmp rfl (.one (.d (.refl _)))) (.tmp rfl (.one (.d (.refl _))))
   ·
    try refine wk ?_
    rw[if_neg h4]at hI
    refine q_loopT (i+1) ⟨by omega,hI⟩ (by omega) ?_
    exact by_less
theorem ok_key (s:Str) (hl:s.length≤1073741824):FnOk Tryd.prog 7 [.d (dstr s)] (.one (dbool (key s))):=by
 refine fnOk_of tbl_ok mixed_ok Tryd.func7 rfl (by kernel_rfl) rfl rfl fun w0 own0=>?_
 try refine wk ?_
 refine CW.loopT (fun i:Nat=>[(.s 0,.av (.d (dstr s))),(.s 5,.av (.d (dint s.length))),(.s 6,.av (.d (dint i))),(.nx,.num 0)]) (fun i=>i≤s.length∧keyGo s (s.drop i)=key s) (fun i=>s.length - i) 0 ⟨by omega,rfl⟩ ?_ fun i hI=>?_
 ·
  exact by_less
 ·
  obtain⟨hi,hI⟩:=hI
  rcases drop_case hi with ⟨h1,h2⟩|⟨c,h1,h2,h3⟩
  ·
   rw[h1]at hI
   simp only[keyGo]at hI
   by_cases h4:0 < s.length
   ·
    try refine wk ?_
    exact .one (.tmp rfl (.one (.d (dle_bool (by rw[← hI];simp[h4];omega)))))
   ·
    try refine wk ?_
    exact .one (.tmp rfl (.one (.d (dle_bool (by rw[← hI];simp[h4])))))
  ·
   rw[h1]at hI
   simp only[keyGo]at hI
   by_cases h4:(c.toNat:Int) < 97
   ·
    try refine wk ?_
    rw[if_pos (by simp only[bad,h4];rfl)]at hI
    exact .one (.tmp rfl (.one (.d (dle_bool hI))))
   ·
    by_cases h5:(122:Int) < (c.toNat:Int)
    ·
     try refine wk ?_
     rw[if_pos (by simp[bad,h5])]at hI
     exact .one (.tmp rfl (.one (.d (dle_bool hI))))
    ·
     try refine wk ?_
     rw[if_neg (by simp[bad];omega)]at hI
     refine q_loopT (i+1) ⟨by omega,hI⟩ (by omega) ?_
     exact by_less
set_option maxHeartbeats 8000000
structure Engine.Sz (e:Engine) (N:Nat):Prop where
 c:e.chains.length≤N
 v:∀ c∈e.chains,c.vs.length≤N
 d:e.deeds.length≤N
 s:e.state.length=e.deeds.length
 n:e.ends.length=e.deeds.length
 b:0≤e.base∧e.base+e.deeds.length≤N
 dd:∀ d∈e.deeds,d.Sm
end Go.Proofs.YtngnajknbeijjaaDoor
namespace Go.AX
open Go.RowKit
variable {cx:Cx}{σ σ':St}{a a':Act}{w w':World}{ops:Array Oper}{Q:Exit→St→Prop}
variable {ty:TypeId}{pos:String}{af:Array Edge}{gd:Option (Nat×Bool)}{d nx:Nat}{g:Nat→Value}
theorem Run.append:∀ {t1 t2:List Tr}{σ:St},Run t1 σ→Run t2 (fin t1 σ)→Run (t1++t2) σ∧fin (t1++t2) σ=fin t2 (fin t1 σ)
 | [],t2,σ,_,h=>⟨h,rfl⟩
 |t::t1,t2,σ,h1,h2=>by
  obtain⟨h3,h4⟩:=Run.append h1.2 h2
  exact⟨⟨h1.1,h3⟩,h4⟩
end Go.AX
namespace Go.Proofs.YtngnajknbeijjaaDoor
open Go.AX Go.RF Go.RowKit Go.Shelf Go.Lib
theorem run_copy_k {P:Program}(w:World) (dT sT ty elem:TypeId) (k g o dLen dCap:Nat) (a:Addr) (sLen sCap q:Nat) (cur:Array Value) (t:TypeId) (cs:List Value)
  (hu:P.underlying dT=some (.slice elem)) (hs:(P.info? elem).map (·.size)=some k)
  (hg:w.heap[g]? = some (.cells cur t (0,0))) (hq:Nat.min sLen dLen=q) (hn:cs.length=q*k)
  (hsrc:∀ j v,cs[j]? = some v→w.cell? (a.add j)=some v) (hfit:o+cs.length≤cur.size) (h1:∀ v∈cs,v.oneCell'=true) :
  (Builtin.copy_ #[dT,sT] ty #[.slice (some ⟨g,o,none⟩) dLen dCap,.slice (some a) sLen sCap]).run P w =
   .ok (goInt q) (w.setRow g (cur.toList.take o++cs++cur.toList.drop (o+cs.length)).toArray):=by
 have hl:=run_loadCells_list (P:=P) w a cs hsrc
 have hst:=run_storeCells_at P g o t cs 0 cur w hg (by simpa using hfit) h1
 cases hq':P.info? elem with
 |none=>simp[hq']at hs
 |some i =>
  have hi:i.size=k:=by simpa[hq'] using hs
  simp[Builtin.copy_,run_underlying hu,Builtin.lenOf,Builtin.firstCells,sizeOf,typeInfo,hq',hi,hq,← hn,hl,hst]
theorem overlaps_arm {motive:Array Value→Type}{a b:Option Addr}{la ca lb cb:Nat}{h1:∀ (a:Option Addr) (la c:Nat) (b:Option Addr) (lb d:Nat),motive #[.slice a la c,.slice b lb d]}{h2:∀ x,motive x} :
  Extern.SlicesOverlaps.overlaps.match_4 motive #[.slice a la ca,.slice b lb cb] h1 h2=h1 a la ca b lb cb:=rfl
theorem run_overlaps_b {P:Program}(w:World) (tS tR e:TypeId) (ht:P.underlying tS=some (.slice e)) (size:Nat) (hz:∀ w,(Go.sizeOf e).run P w = .ok size w)
  (a b:Addr) (la ca lb cb:Nat) (hne:a.block≠b.block) (tA tB:TypeId) (kA kB:Nat)
  (hsa:w.shape? a.block=some (tA,kA+1)) (hsb:w.shape? b.block=some (tB,kB+1)) (hfb:w.frozen? b=false) (hfe:w.frozen? { block:=b.block,off:=kB+1 }=false) :
  (Extern.SlicesOverlaps.overlaps #[tS,tS] #[tR] #[.slice (some a) la ca,.slice (some b) lb cb]).run P w = .ok (.bool false) w:=by
 have hnb:(a.block != b.block)=true:=by simpa using hne
 have hnb':(a.block==b.block)=false:=by simpa using hne
 delta Extern.SlicesOverlaps.overlaps
 dsimp only
 rw[overlaps_arm]
 by_cases h0:la=0∨lb=0∨size=0
 ·
  simp[run_underlying ht,hz,h0]
 ·
  cases hfa:w.frozen? a <;> cases hfa2:w.frozen? { block:=a.block,off:=kA+1 } <;>
   simp[run_underlying ht,hz,h0,hnb,hnb',frozen,noView,viewAt,mayBeOne,stringish,shape,Sem.run,hsa,hsb,hfb,hfe,hfa,hfa2]
theorem alloc_new_at (w:World) (o:Obj):(w.alloc o).heap[w.heap.size]? = some o:=heap_alloc_new w o
theorem append_ty {P:Program}(ts:Array TypeId) (ty:TypeId) (args:Array Value) (w:World):(Builtin.append_ ts ty args).run P w=(Builtin.append_ ts 0 args).run P w:=rfl
theorem append_types {P:Program}{t u e e':TypeId}(ht:P.underlying t=some (.slice e)) (hu:P.underlying u=some (.slice e')) (ty:TypeId) (args:Array Value) (w:World) :
  (Builtin.append_ #[t,u] ty args).run P w=(Builtin.append_ #[t,t] ty args).run P w:=by
 cases h0:args[0]? with
 |none=>simp[Builtin.append_,h0]
 |some s =>
  cases h1:args[1]? with
  |none=>simp[Builtin.append_,h0,h1]
  |some x=>cases s <;> simp[Builtin.append_,h0,h1,run_underlying ht,run_underlying hu]
theorem room_cells {cur:List Value}{n i:Nat}{c0 c1:Value}(hi:i < n) (hl:(n+1)*2≤cur.length) :
  let mid:=cur.take ((i+1)*2)++(cur.drop (i*2)).take ((n - i)*2)++cur.drop ((i+1)*2+(n - i)*2)
  (mid.take (i*2)++[c0,c1]++mid.drop (i*2+2)).take ((n+1)*2)=(cur.take (n*2)).take (i*2)++[c0,c1]++(cur.take (n*2)).drop (i*2):=by
 intro mid
 have hm:mid=cur.take ((i+1)*2)++(cur.drop (i*2)).take ((n - i)*2)++cur.drop ((i+1)*2+(n - i)*2):=rfl
 have hml:mid.length=cur.length:=by rw[hm];simp;omega
 have h1:(cur.take ((i+1)*2)).length=(i+1)*2:=by simp;omega
 have h2:((cur.drop (i*2)).take ((n - i)*2)).length=(n - i)*2:=by simp;omega
 have e1:mid.take (i*2)=cur.take (i*2):=by
  rw[hm,List.append_assoc,List.take_append_of_le_length (by rw[h1];omega),List.take_take,Nat.min_eq_left (by omega)]
 have e2:mid.drop (i*2+2)=(cur.drop (i*2)).take ((n - i)*2)++cur.drop ((i+1)*2+(n - i)*2):=by
  rw[hm,List.append_assoc,List.drop_append_of_le_length (by rw[h1];omega),List.drop_eq_nil_of_le (by rw[h1];omega),List.nil_append]
 rw[e1,e2,List.take_take,Nat.min_eq_left (show i*2≤n*2 by omega),List.drop_take]
 have h3:(cur.take (i*2)).length=i*2:=by simp;omega
 rw[List.take_append,List.take_of_length_le (by simp;omega)]
 congr 1
 rw[List.take_append_of_le_length (by simp;omega),List.take_of_length_le (by simp;omega)]
 congr 1
 omega
theorem shape_of {w:World}{ad:Addr}{c:Value}(h:w.cell? (ad.add 0)=some c):∃ t k,w.shape? ad.block=some (t,k+1):=by
 rw[AX.add_zero]at h
 unfold World.cell? at h
 unfold World.shape?
 split at h
 ·
  next cs e fr hh =>
  split at h
  ·
   cases h
  ·
   have:=(Array.getElem?_eq_some_iff.1 h).1
   exact⟨e,cs.size - 1,by simp;omega⟩
 ·
  cases h
theorem grow_cells {xs zs:List Value}{n i:Nat}{c0 c1:Value}(hi:i < n) (hl:xs.length=n*2) (hz:(n+1 - i)*2≤zs.length) :
  let row:=xs.take (i*2)++zs
  let mid:=row.take (i*2)++[c0,c1]++row.drop (i*2+2)
  (mid.take ((i+1)*2)++xs.drop (i*2)++mid.drop ((i+1)*2+(n - i)*2)).take ((n+1)*2)=xs.take (i*2)++[c0,c1]++xs.drop (i*2):=by
 intro row mid
 have h3:(xs.take (i*2)).length=i*2:=by simp;omega
 have hr:row.take (i*2)=xs.take (i*2):=by
  show(xs.take (i*2)++zs).take (i*2)=_
  rw[List.take_append_of_le_length (by omega),List.take_of_length_le (by omega)]
 have hm:mid.take ((i+1)*2)=xs.take (i*2)++[c0,c1]:=by
  show(row.take (i*2)++[c0,c1]++row.drop (i*2+2)).take ((i+1)*2)=_
  rw[hr,List.take_append_of_le_length (by simp;omega),List.take_of_length_le (by simp;omega)]
 rw[hm,List.take_append_of_le_length (by simp;omega),List.take_of_length_le (by simp;omega)]
end Go.Proofs.YtngnajknbeijjaaDoor
namespace Go.AX
open Go.RowKit
theorem getElem?_ins {α:Type}{l:List α}{m:Nat}{x:α}(hm:m≤l.length) (i:Nat) :
  (l.take m++x::l.drop m)[i]? = if i < m then l[i]? else if i=m then some x else l[i - 1]? := by
 have hl:(l.take m).length=m:=by simp;omega
 by_cases h1:i < m
 ·
  rw[if_pos h1,List.getElem?_append_left (by omega),List.getElem?_take,if_pos h1]
 ·
  rw[if_neg h1,List.getElem?_append_right (by omega),hl]
  by_cases h2:i=m
  ·
   subst h2;simp
  ·
   rw[if_neg h2]
   obtain⟨j,rfl⟩:∃ j,i=m+(j+1):=⟨i - m - 1,by omega⟩
   rw[show m+(j+1) - m=j+1 by omega,List.getElem?_cons_succ,List.getElem?_drop]
   congr 1
theorem getElem?_ins2 {α:Type}{l:List α}{m n:Nat}{a b:α}(hl:l.length=n*2) (hm:m≤n) (i j:Nat) (hj:j < 2) :
  (l.take (m*2)++[a,b]++l.drop (m*2))[i*2+j]? = if i < m then l[i*2+j]? else if i=m then [a,b][j]? else l[(i - 1)*2+j]? := by
 have hm2:m*2≤n*2:=Nat.mul_le_mul_right 2 hm
 have h1:(l.take (m*2)).length=m*2:=by simp;omega
 rw[List.append_assoc]
 by_cases hi:i < m
 ·
  have:(i+1)*2≤m*2:=Nat.mul_le_mul_right 2 hi
  rw[if_pos hi,List.getElem?_append_left (by omega),List.getElem?_take,if_pos (by omega)]
 ·
  rw[if_neg hi,List.getElem?_append_right (by omega),h1]
  by_cases he:i=m
  ·
   subst he
   rw[if_pos rfl,show i*2+j - i*2=j by omega,List.getElem?_append_left (by simpa using hj)]
  ·
   rw[if_neg he]
   have:(m+1)*2≤i*2:=Nat.mul_le_mul_right 2 (by omega)
   rw[List.getElem?_append_right (by simp;omega),List.getElem?_drop]
   congr 1
   simp;omega
theorem rows_ins {w w':World}{own:Nat→Prop}{v v':Value}{e m:Nat}{rows:List (List D)}{xs:List Value}{c0 c1:Value}{d0 d1:D}
  (hm:m≤rows.length) (hb:BelowBut v w w') (hp:∀ b,blk v'=some b→blk v=some b∨w.heap.size≤b)
  (hlen:xs.length=rows.length*2) (hone:∀ x∈xs,Value.oneCell' x=true) (hrl:∀ r∈rows,r.length=2)
  (hrd:∀ (i j:Nat) (r:List D) (d:D) (x:Value),rows[i]? = some r→r[j]? = some d→xs[i*2+j]? = some x→Rd w (with1 own v) x d)
  (h0:Rd w (with1 own v) c0 d0) (h1:Rd w (with1 own v) c1 d1) (o0:c0.oneCell'=true) (o1:c1.oneCell'=true)
  (hown:w'.ownsRow 0 e 2 v' (rows.length+1) (xs.take (m*2)++[c0,c1]++xs.drop (m*2))) :
  RowsAt w' 0 (with1 own v') e 2 v' (rows.take m++[d0,d1]::rows.drop m):=by
 have hext:Ext (with1 own v) w w':=⟨hb.size,fun b h1 h2=>hb.block b h1 fun h=>h2 (.inr h)⟩
 have ho:∀ b,with1 own v' b→with1 own v b∨w.heap.size≤b:=by
  rintro b (h|h)
  ·
   exact .inl (.inl h)
  ·
   rcases hp b h with h|h
   ·
    exact .inl (.inr h)
   ·
    exact .inr h
 refine⟨xs.take (m*2)++[c0,c1]++xs.drop (m*2),?_,fun x hx=>?_,fun r hr=>?_,fun i j r d x hi hj hx=>?_⟩
 ·
  have:(rows.take m++[d0,d1]::rows.drop m).length=rows.length+1:=by simp;omega
  rw[this];exact hown
 ·
  rcases List.mem_append.1 hx with hx|hx
  ·
   rcases List.mem_append.1 hx with hx|hx
   ·
    exact hone x (List.mem_of_mem_take hx)
   ·
    simp at hx;rcases hx with rfl|rfl
    ·
     exact o0
    ·
     exact o1
  ·
   exact hone x (List.mem_of_mem_drop hx)
 ·
  rcases List.mem_append.1 hr with h|h
  ·
   exact hrl r (List.mem_of_mem_take h)
  ·
   rcases List.mem_cons.1 h with rfl|h
   ·
    rfl
   ·
    exact hrl r (List.mem_of_mem_drop h)
 ·
  refine Rd.step hext ho ?_
  rw[getElem?_ins hm]at hi
  have hj2:j < 2:=by
   have hjl:=(List.getElem?_eq_some_iff.1 hj).1
   split at hi
   ·
    rw[hrl r (List.mem_of_getElem? hi)]at hjl;exact hjl
   ·
    split at hi
    ·
     cases hi;simpa using hjl
    ·
     rw[hrl r (List.mem_of_getElem? hi)]at hjl;exact hjl
  rw[getElem?_ins2 hlen hm i j hj2]at hx
  split at hi
  ·
   next h=>rw[if_pos h]at hx;exact hrd i j r d x hi hj hx
  ·
   next h =>
   rw[if_neg h]at hx
   split at hi
   ·
    next h' =>
    rw[if_pos h']at hx
    cases hi
    match j,hj2,hj,hx with
    |0,_,hj,hx=>simp at hj hx;subst hj;subst hx;exact h0
    |1,_,hj,hx=>simp at hj hx;subst hj;subst hx;exact h1
   ·
    next h'=>rw[if_neg h']at hx;exact hrd (i - 1) j r d x hi hj hx
theorem getElem?_del {α:Type}{l:List α}{m:Nat}(hm:m < l.length) (i:Nat):(l.take m++l.drop (m+1))[i]? = if i < m then l[i]? else l[i+1]? := by
 have hl:(l.take m).length=m:=by simp;omega
 by_cases h1:i < m
 ·
  rw[if_pos h1,List.getElem?_append_left (by omega),List.getElem?_take,if_pos h1]
 ·
  rw[if_neg h1,List.getElem?_append_right (by omega),hl,List.getElem?_drop]
  congr 1;omega
theorem getElem?_del2 {α:Type}{l:List α}{m n:Nat}(hl:l.length=n*2) (hm:m < n) (i j:Nat) (hj:j < 2) :
  (l.take (m*2)++l.drop ((m+1)*2))[i*2+j]? = if i < m then l[i*2+j]? else l[(i+1)*2+j]? := by
 have hm2:m*2≤n*2:=Nat.mul_le_mul_right 2 (by omega)
 have h1:(l.take (m*2)).length=m*2:=by simp;omega
 by_cases hi:i < m
 ·
  have:(i+1)*2≤m*2:=Nat.mul_le_mul_right 2 hi
  rw[if_pos hi,List.getElem?_append_left (by omega),List.getElem?_take,if_pos (by omega)]
 ·
  rw[if_neg hi,List.getElem?_append_right (by omega),h1,List.getElem?_drop]
  congr 1;omega
theorem rows_del {w w':World}{own:Nat→Prop}{v v':Value}{e m:Nat}{rows:List (List D)}{xs:List Value}
  (hm:m < rows.length) (hb:BelowBut v w w') (hp:∀ b,blk v'=some b→blk v=some b∨w.heap.size≤b)
  (hlen:xs.length=rows.length*2) (hone:∀ x∈xs,Value.oneCell' x=true) (hrl:∀ r∈rows,r.length=2)
  (hrd:∀ (i j:Nat) (r:List D) (d:D) (x:Value),rows[i]? = some r→r[j]? = some d→xs[i*2+j]? = some x→Rd w (with1 own v) x d)
  (hown:w'.ownsRow 0 e 2 v' (rows.length - 1) (xs.take (m*2)++xs.drop ((m+1)*2))) :
  RowsAt w' 0 (with1 own v') e 2 v' (rows.take m++rows.drop (m+1)):=by
 have hext:Ext (with1 own v) w w':=⟨hb.size,fun b h1 h2=>hb.block b h1 fun h=>h2 (.inr h)⟩
 have ho:∀ b,with1 own v' b→with1 own v b∨w.heap.size≤b:=by
  rintro b (h|h)
  ·
   exact .inl (.inl h)
  ·
   rcases hp b h with h|h
   ·
    exact .inl (.inr h)
   ·
    exact .inr h
 refine⟨xs.take (m*2)++xs.drop ((m+1)*2),?_,fun x hx=>?_,fun r hr=>?_,fun i j r d x hi hj hx=>?_⟩
 ·
  have:(rows.take m++rows.drop (m+1)).length=rows.length - 1:=by simp;omega
  rw[this];exact hown
 ·
  rcases List.mem_append.1 hx with hx|hx
  ·
   exact hone x (List.mem_of_mem_take hx)
  ·
   exact hone x (List.mem_of_mem_drop hx)
 ·
  rcases List.mem_append.1 hr with h|h
  ·
   exact hrl r (List.mem_of_mem_take h)
  ·
   exact hrl r (List.mem_of_mem_drop h)
 ·
  refine Rd.step hext ho ?_
  rw[getElem?_del hm]at hi
  have hj2:j < 2:=by
   have hjl:=(List.getElem?_eq_some_iff.1 hj).1
   split at hi <;> (rw[hrl r (List.mem_of_getElem? hi)]at hjl;exact hjl)
  rw[getElem?_del2 hlen hm i j hj2]at hx
  split at hi
  ·
   next h=>rw[if_pos h]at hx;exact hrd i j r d x hi hj hx
  ·
   next h=>rw[if_neg h]at hx;exact hrd (i+1) j r d x hi hj hx
theorem rd_pair {w:World}{own:Nat→Prop}{v:Value}{d0 d1:D}(h:Rd w own v (.sl 2 [[d0,d1]])) :
  ∃ ad cp c0 c1,v = .slice (some ad) 1 cp∧¬ own ad.block∧ad.block < w.heap.size∧w.cell? (ad.add 0)=some c0∧w.cell? (ad.add 1)=some c1 ∧
   c0.oneCell'=true∧c1.oneCell'=true∧Rd w own c0 d0∧Rd w own c1 d1:=by
 cases h with
 |sl ad cap k rows f hb hs hcap hk hc h1 hr =>
  exact⟨ad,cap,f 0 0,f 0 1,rfl,hb,hs,by simpa using hc 0 0 _ d0 rfl rfl,by simpa using hc 0 1 _ d1 rfl rfl,h1 0 0 _ d0 rfl rfl,h1 0 1 _ d1 rfl rfl,hr 0 0 _ d0 rfl rfl,hr 0 1 _ d1 rfl rfl⟩
end Go.AX
namespace Go.Proofs.YtngnajknbeijjaaDoor
open Go.AX Go.RF Go.RowKit Go.Shelf Go.Lib
set_option maxHeartbeats 4000000 in
set_option maxRecDepth 100000 in
theorem insert_roomP (g n cap i:Nat) (ad:Addr) (cp:Nat) (w:World) (cur:Array Value) (c0 c1:Value) (hg:w.heap[g]? = some (.cells cur 40 (0,0))) (hsz:cur.size=cap*2) (hi:i < n) (hn:n≤268435456) (hc:n+1≤cap) (hcm:cap≤maxLen)
  (had:ad.block≠g) (h0:w.cell? (ad.add 0)=some c0) (h1:w.cell? (ad.add 1)=some c1) (hone:∀ v∈cur.toList.take (n*2),v.oneCell'=true) (hc0:c0.oneCell'=true) (hc1:c1.oneCell'=true) :
  Calls Tryd.prog 22 #[.slice (some ⟨g,0,none⟩) n cap,.int .i64 (i:Int),.slice (some ad) 1 cp] w fun e w' =>
   e = .returned (.slice (some ⟨g,0,none⟩) (n+1) cap)∧∃ m1 cs',w'=(w.drew.setRow g m1).setRow g cs'∧cs'.size=cap*2∧cs'.toList.take ((n+1)*2)=(cur.toList.take (n*2)).take (i*2)++[c0,c1]++(cur.toList.take (n*2)).drop (i*2):=by
 have mixed:=mixed_ok
 have hz1:¬ ((1:Int)=0):=by omega
 have hz2:¬ ((i:Int)=(n:Int)):=by omega
 have hz3:¬ ((cap:Int) < (n:Int)+1):=by omega
 have hb2:¬ (cap=i+1):=by omega
 have hb4:¬ (cap=i):=by omega
 have hin:i≤n:=by omega
 have hw1:IntKind.i64.wrap ((i:Int)+1)=(i:Int)+1:=by rw[IntKind.wrap_i64];omega
 have hb1:(0:Int)≤(i:Int)+1:=by omega
 have htn:((i:Int)+1).toNat=i+1:=by omega
 have hb3:(i:Int)≤(n:Int)+1:=by omega
 have hov:∀ lb cb,(callFunc 34 #[.slice (some ad) 1 cp,.slice (some ⟨g,(i+1)*2,none⟩) lb cb]).run Tryd.prog w = .ok (.value (.bool false)) w:=fun lb cb=>by
  obtain⟨tA,kA,hsa⟩:=shape_of h0
  have hsb:w.shape? g=some (40,(cap*2 - 1)+1):=by
   simp[World.shape?,hg,hsz];omega
  rw[run_callFunc_extern Tryd.func34 (by kernel_rfl) (by kernel_rfl) (by kernel_rfl) (e:=Extern.SlicesOverlaps.overlaps #[22,22] #[4]) (by kernel_rfl),
   run_overlaps_b w 22 4 40 Tryd.underlying22 2 Tryd.sizeOf40 ad ⟨g,(i+1)*2,none⟩ 1 cp lb cb had tA 40 kA (cap*2 - 1) hsa hsb (by simp[World.frozen?,hg]) (by simp[World.frozen?,hg])]
  rfl
 have hin2:(Tryd.prog.info? 40).map (·.size)=some 2:=by kernel_rfl
 have hT:Tryd.prog.underlying 23=some (.slice 40):=Tryd.underlying23
 have hcl:(n+1)*2≤cur.size:=by rw[hsz];exact Nat.mul_le_mul_right 2 hc
 have hgd:w.drew.heap[g]? = some (.cells cur 40 (0,0)):=hg
 have htl:((cur.toList.drop (i*2)).take ((n - i)*2)).length=(n - i)*2:=by simp;omega
 have hcp1:∀ ty dc sc,(Builtin.copy_ #[23,23] ty #[.slice (some ⟨g,(i+1)*2,none⟩) (n - i) dc,.slice (some ⟨g,i*2,none⟩) (n+1 - i) sc]).run Tryd.prog w.drew =
   .ok (goInt (n - i:Nat)) (w.drew.setRow g (cur.toList.take ((i+1)*2)++(cur.toList.drop (i*2)).take ((n - i)*2)++cur.toList.drop ((i+1)*2+(n - i)*2)).toArray):=fun ty dc sc=>by
  have h:=run_copy_k (P:=Tryd.prog) w.drew 23 23 ty 40 2 g ((i+1)*2) (n - i) dc ⟨g,i*2,none⟩ (n+1 - i) sc (n - i) cur 40 ((cur.toList.drop (i*2)).take ((n - i)*2)) hT hin2 hgd
   (Nat.min_eq_right (by omega)) htl (fun j v hj=>by
    rw[List.getElem?_take]at hj
    split at hj
    ·
     rw[List.getElem?_drop]at hj
     rw[Addr.add_lit]
     simp[World.cell?,hgd]
     simpa using hj
    ·
     cases hj) (by rw[htl];omega) (fun v hv=>?_)
  ·
   rw[htl]at h
   exact h
  ·
   obtain⟨j,hj⟩:=List.getElem?_of_mem hv
   rw[List.getElem?_take]at hj
   split at hj
   ·
    rw[List.getElem?_drop]at hj
    refine hone v (List.mem_of_getElem? (i:=i*2+j) ?_)
    rw[List.getElem?_take,if_pos (by omega)];exact hj
   ·
    cases hj
 generalize hmid:cur.toList.take ((i+1)*2)++(cur.toList.drop (i*2)).take ((n - i)*2)++cur.toList.drop ((i+1)*2+(n - i)*2)=mid at hcp1
 have hml:mid.length=cur.size:=by rw[← hmid];simp;omega
 have hg1:(w.drew.setRow g mid.toArray).heap[g]? = some (.cells mid.toArray 40 (0,0)):=setRow_heap _ _ _ _ _ _ hgd
 have hadc:∀ j v,[c0,c1][j]? = some v→(w.drew.setRow g mid.toArray).cell? (ad.add j)=some v:=fun j v hj=>by
  have hk:∀ q,(w.drew.setRow g mid.toArray).cell? (ad.add q)=w.cell? (ad.add q):=fun q=>by
   have hb:(ad.add q).block=ad.block:=add_block ad q
   simp only[World.cell?,hb]
   rw[setRow_other _ _ _ _ had]
   rfl
  match j,hj with
  |0,hj=>simp at hj;subst hj;rw[hk];exact h0
  |1,hj=>simp at hj;subst hj;rw[hk];exact h1
 have hcp2:∀ ty dc,(Builtin.copy_ #[23,22] ty #[.slice (some ⟨g,i*2,none⟩) (n+1 - i) dc,.slice (some ad) 1 cp]).run Tryd.prog (w.drew.setRow g mid.toArray) =
   .ok (goInt (1:Nat)) ((w.drew.setRow g mid.toArray).setRow g (mid.take (i*2)++[c0,c1]++mid.drop (i*2+2)).toArray):=fun ty dc=>by
  have h:=run_copy_k (P:=Tryd.prog) (w.drew.setRow g mid.toArray) 23 22 ty 40 2 g (i*2) (n+1 - i) dc ad 1 cp 1 mid.toArray 40 [c0,c1] hT hin2 hg1
   (Nat.min_eq_left (by omega)) rfl hadc (by simp;omega) (by simp[hc0,hc1])
  simpa using h
 go_enter Tryd.func22,Tryd.ntmps22
 go_wp2_with (simp only[hov])
 go_region_law_o (refine step_copy_runI rfl _ _ 23 23 rfl _ _ (by simp[Act.eval,Act.put]) (by simp[Act.eval,Act.put]) (hcp1 _ _ _) ?_)
 go_wp2_with (at_builtin;refine wpList_copy_runI _ rfl _ _ 23 22 rfl _ _ rfl rfl (hcp2 _ _) ?_)
 go_ret
 refine⟨rfl,_,_,rfl,by simp;omega,?_⟩
 have:=room_cells (cur:=cur.toList) (n:=n) (i:=i) (c0:=c0) (c1:=c1) hi (by simpa using hcl)
 rw[hmid]at this
 simpa using this
set_option maxHeartbeats 4000000 in
set_option maxRecDepth 100000 in
theorem insert_growP (g n cap i:Nat) (ad:Addr) (cp:Nat) (w:World) (cur:Array Value) (c0 c1:Value) (hg:w.heap[g]? = some (.cells cur 40 (0,0))) (hsz:cur.size=cap*2) (hi:i < n) (hn:n≤268435456) (hnc:n≤cap) (hc:cap < n+1) (hcm:cap≤maxLen)
  (hadw:ad.block < w.heap.size) (h0:w.cell? (ad.add 0)=some c0) (h1:w.cell? (ad.add 1)=some c1) (hone:∀ v∈cur.toList.take (n*2),v.oneCell'=true) (hc0:c0.oneCell'=true) (hc1:c1.oneCell'=true) :
  Calls Tryd.prog 22 #[.slice (some ⟨g,0,none⟩) n cap,.int .i64 (i:Int),.slice (some ad) 1 cp] w fun e w' =>
   ∃ G,e = .returned (.slice (some ⟨w.heap.size,0,none⟩) (n+1) G)∧n+1≤G∧G≤maxLen∧Below w.heap.size w w'∧∃ cs',w'.heap[w.heap.size]? = some (.cells cs' 40 (0,0))∧cs'.size=G*2 ∧
    cs'.toList.take ((n+1)*2)=(cur.toList.take (n*2)).take (i*2)++[c0,c1]++(cur.toList.take (n*2)).drop (i*2):=by
 have mixed:=mixed_ok
 have hz1:¬ ((1:Int)=0):=by omega
 have hz2:¬ ((i:Int)=(n:Int)):=by omega
 have hz3:(cap:Int) < (n:Int)+1:=by omega
 have hin:i≤n:=by omega
 have hw1:IntKind.i64.wrap ((i:Int)+1)=(i:Int)+1:=by rw[IntKind.wrap_i64];omega
 have hb1:(0:Int)≤(i:Int)+1:=by omega
 have htn:((i:Int)+1).toNat=i+1:=by omega
 have hb3:(i:Int)≤(n:Int):=by omega
 have hci:¬ (cap=i):=by omega
 have hin2:(Tryd.prog.info? 40).map (·.size)=some 2:=by kernel_rfl
 have hT:Tryd.prog.underlying 23=some (.slice 40):=Tryd.underlying23
 have hcl:n*2≤cur.size:=by rw[hsz];exact Nat.mul_le_mul_right 2 hnc
 have hgw:g < w.heap.size:=by
  rcases Nat.lt_or_ge g w.heap.size with h|h
  ·
   exact h
  ·
   rw[Array.getElem?_eq_none h]at hg;cases hg
 generalize hxs:cur.toList.take (n*2)=xs at hone
 have hxl:xs.length=n*2:=by rw[← hxs];simp;omega
 have hcell:∀ (W:World),W.heap[g]? = w.heap[g]? → ∀ j v,xs[j]? = some v→W.cell? ⟨g,j,none⟩=some v:=fun W hW j v hj=>by
  rw[← hxs,List.getElem?_take]at hj
  split at hj
  ·
   simp[World.cell?,hW,hg]
   simpa using hj
  ·
   cases hj
 have htb:∃ ti,tget tbl 40=some ti∧ti.n=2∧ti.bytes=24∧ti.zero=[.string ⟨#[]⟩,.int .i64 0]:=⟨_,rfl,rfl,rfl,rfl⟩
 obtain⟨ti,ht1,ht2,ht3,ht4⟩:=htb
 obtain⟨i0,hi0,hzs,hzb,z,hz0,hzc⟩:=(tbl_ok _ _ ht1).info
 rw[ht2]at hzs
 rw[ht3]at hzb
 rw[ht4]at hzc
 have hzz:z.cells.size=2:=by rw[← Array.length_toList,hzc];rfl
 have hold:(Builtin.firstCells i0.size i (.slice (some ⟨g,0,none⟩) i cap)).run Tryd.prog w.drew = .ok (xs.take (i*2)).toArray w.drew:=by
  rw[hzs]
  exact run_firstCells_some w.drew 2 i ⟨g,0,none⟩ i cap (xs.take (i*2)) (by rw[List.length_take];omega) (fun j v hj=>by
   rw[Addr.add_lit,Nat.zero_add]
   rw[List.getElem?_take]at hj
   split at hj
   ·
    exact hcell w.drew rfl j v hj
   ·
    cases hj)
 obtain⟨G,hG⟩:∃ G,G=grownCap w (n+1) cap 40:=⟨_,rfl⟩
 have hGn:n+1≤G:=by rw[hG];exact grownCap_ge w _ _ _
 have hGm:G≤maxLen:=by rw[hG];exact grownCap_le_maxLen w (n+1) cap 40 (by unfold maxLen;omega)
 have hG63:G≤9223372036854775807:=by unfold maxLen at hGm;omega
 obtain⟨zs,hzs2⟩:∃ zs:Array Value,zs=Builtin.zeroCells z.cells (n+1 - i)++Builtin.zeroCells z.cells (G - (n+1)):=⟨_,rfl⟩
 have hzl:zs.size=(G - i)*2:=by rw[hzs2];simp[size_zeroCells,hzz];omega
 obtain⟨ROW,hROW⟩:∃ ROW:Array Value,ROW=(xs.take (i*2)).toArray++zs:=⟨_,rfl⟩
 have hRl:ROW.size=G*2:=by rw[hROW];simp[hzl];omega
 have hrz:∀ ty,(Builtin.append_ #[23,3] ty #[.slice (some ⟨g,0,none⟩) i cap,.int .i64 ((n:Int)+1 - (i:Int))]).run Tryd.prog w =
   .ok (.slice (some ⟨w.heap.size,0,none⟩) (n+1) G) (w.drew.alloc (.cells ROW 40)):=fun ty=>by
  have h:=Lib.run_append_grow_zeros (P:=Tryd.prog) w 23 3 ty 40 i0 z .i64 .i64 hT Tryd.underlying3 hi0 hz0 (some ⟨g,0,none⟩) i cap (xs.take (i*2)) hold (n+1 - i) (by omega) (by omega) (by omega) (by omega) (by rw[hzb];omega)
   (by rw[hzb,show i+(n+1 - i)=n+1 by omega];exact growslice_fits hc (by omega))
  rw[show i+(n+1 - i)=n+1 by omega,← hG,Array.append_assoc,← hzs2,← hROW]at h
  rw[show(n:Int)+1 - (i:Int)=((n+1 - i:Nat):Int) by omega]
  exact h
 have hGi:¬ (G=i):=by omega
 have hGim:¬ (G=i+1):=by omega
 have hgs:¬ w.heap.size=g:=by omega
 obtain⟨mid,hmid⟩:∃ mid:List Value,mid=ROW.toList.take (i*2)++[c0,c1]++ROW.toList.drop (i*2+2):=⟨_,rfl⟩
 have hml:mid.length=G*2:=by rw[hmid];simp;omega
 obtain⟨fin,hfin⟩:∃ fin:List Value,fin=mid.take ((i+1)*2)++xs.drop (i*2)++mid.drop ((i+1)*2+(n - i)*2):=⟨_,rfl⟩
 have hfl:fin.length=G*2:=by rw[hfin];simp;omega
 have hN:(w.alloc (.cells ROW 40)).heap[w.heap.size]? = some (.cells ROW 40 (0,0)):=alloc_new_at w _
 have hadc:∀ (W:World),W.heap=(w.alloc (.cells ROW 40)).heap→∀ j v,[c0,c1][j]? = some v→W.cell? (ad.add j)=some v:=fun W hW j v hj=>by
  have hk:∀ q,W.cell? (ad.add q)=w.cell? (ad.add q):=fun q=>by
   have hb:(ad.add q).block=ad.block:=add_block ad q
   simp only[World.cell?,hb,hW]
   rw[Below.heap_alloc w _ _ hadw]
  match j,hj with
  |0,hj=>simp at hj;subst hj;rw[hk];exact h0
  |1,hj=>simp at hj;subst hj;rw[hk];exact h1
 have hcpA:∀ (W:World),W.heap=(w.alloc (.cells ROW 40)).heap→∀ ty dc,(Builtin.copy_ #[23,22] ty #[.slice (some ⟨w.heap.size,i*2,none⟩) (n+1 - i) dc,.slice (some ad) 1 cp]).run Tryd.prog W =
   .ok (goInt (1:Nat)) (W.setRow w.heap.size mid.toArray):=fun W hW ty dc=>by
  have h:=run_copy_k (P:=Tryd.prog) W 23 22 ty 40 2 w.heap.size (i*2) (n+1 - i) dc ad 1 cp 1 ROW 40 [c0,c1] hT hin2 (by rw[hW];exact hN)
   (Nat.min_eq_left (by omega)) rfl (hadc W hW) (by simp;omega) (by simp[hc0,hc1])
  rw[hmid]
  simpa using h
 have hdl:(xs.drop (i*2)).length=(n - i)*2:=by rw[List.length_drop,hxl];omega
 have hcpB:∀ (W:World),W.heap[w.heap.size]? = some (.cells mid.toArray 40 (0,0))→W.heap[g]? = w.heap[g]? → ∀ ty dc sc,(Builtin.copy_ #[23,23] ty #[.slice (some ⟨w.heap.size,(i+1)*2,none⟩) (n - i) dc,.slice (some ⟨g,i*2,none⟩) (n - i) sc]).run Tryd.prog W =
   .ok (goInt (n - i:Nat)) (W.setRow w.heap.size fin.toArray):=fun W hW hWg ty dc sc=>by
  have h:=run_copy_k (P:=Tryd.prog) W 23 23 ty 40 2 w.heap.size ((i+1)*2) (n - i) dc ⟨g,i*2,none⟩ (n - i) sc (n - i) mid.toArray 40 (xs.drop (i*2)) hT hin2 hW
   (Nat.min_self _) hdl (fun j v hj=>by
    rw[Addr.add_lit]
    rw[List.getElem?_drop]at hj
    exact hcell W hWg _ v hj) (by rw[hdl];simp;omega) (fun v hv=>hone v (List.mem_of_mem_drop hv))
  rw[hdl]at h
  rw[hfin]
  simpa using h
 have hE:((w.alloc (.cells ROW 40)).drew).heap=(w.alloc (.cells ROW 40)).heap:=rfl
 have hB1:∀ (W:World),W.heap=(w.alloc (.cells ROW 40)).heap→(W.setRow w.heap.size mid.toArray).drew.heap[w.heap.size]? = some (.cells mid.toArray 40 (0,0)):=fun W hW=>setRow_heap W _ _ _ _ _ (by rw[hW];exact hN)
 have hB2:∀ (W:World),W.heap=(w.alloc (.cells ROW 40)).heap→(W.setRow w.heap.size mid.toArray).drew.heap[g]? = w.heap[g]? := fun W hW=>by
  show(W.setRow w.heap.size mid.toArray).heap[g]? = _
  rw[setRow_other _ _ _ _ (by omega),hW]
  exact Below.heap_alloc w _ _ hgw
 have hlast:fin.take ((n+1)*2)=xs.take (i*2)++[c0,c1]++xs.drop (i*2):=by
  have h:=grow_cells (xs:=xs) (zs:=zs.toList) (n:=n) (i:=i) (c0:=c0) (c1:=c1) hi hxl (by rw[Array.length_toList,hzl];exact Nat.mul_le_mul_right 2 (by omega))
  rw[hfin,hmid,hROW]
  simpa using h
 clear hzs2 hROW hmid hfin hG
 go_enter Tryd.func22,Tryd.ntmps22
 go_wp2_with (first
  |(at_builtin;refine Lib.wpList_append_run _ rfl _ _ _ _ rfl _ _ rfl rfl _ _ (hrz _) ?_)
  |(at_builtin;refine wpList_copy_runI _ rfl _ _ 23 22 rfl _ _ rfl rfl (hcpA _ rfl _ _) ?_))
 go_region_law_o (refine step_copy_runI rfl _ _ 23 23 rfl (.slice (some ⟨w.heap.size,(i+1)*2,none⟩) (n - i) (G - (i+1))) (.slice (some ⟨g,i*2,none⟩) (n - i) (cap - i)) (by simp[Act.eval,Act.put]) (by simp[Act.eval,Act.put]) (hcpB ((w.alloc (.cells ROW 40)).drew.setRow w.heap.size mid.toArray).drew (hB1 _ hE) (hB2 _ hE) _ _ _) ?_)
 go_wp2
 go_ret
 refine⟨G,rfl,hGn,hGm,⟨rfl,rfl,rfl,by simp[setRow_size],fun k hk=>?_⟩,fin.toArray,setRow_heap _ _ _ _ _ _ (hB1 _ hE),by simp[hfl],by simpa using hlast⟩
 rw[setRow_other _ _ _ _ (by omega)]
 show((w.alloc (.cells ROW 40)).drew.setRow w.heap.size mid.toArray).heap[k]? = _
 rw[setRow_other _ _ _ _ (by omega)]
 exact Below.heap_alloc w _ _ hk
set_option maxHeartbeats 4000000 in
set_option maxRecDepth 100000 in
theorem insert_endP (v:Value) (n:Nat) (xs:List Value) (ad:Addr) (cp:Nat) (w:World) (c0 c1:Value) (hown:w.ownsRow 0 40 2 v n xs) (hn:n≤268435456)
  (h0:w.cell? (ad.add 0)=some c0) (h1:w.cell? (ad.add 1)=some c1) (hc0:c0.oneCell'=true) (hc1:c1.oneCell'=true) :
  Calls Tryd.prog 22 #[v,.int .i64 (n:Int),.slice (some ad) 1 cp] w fun e w' =>
   ∃ v',e = .returned v'∧w'.ownsRow 0 40 2 v' (n+1) (xs++[c0,c1])∧w.grownBy w' v.ownBlock∧(v'.ownBlock=v.ownBlock∨v'.ownBlock=some w.heap.size):=by
 have mixed:=mixed_ok
 have hz1:¬ ((1:Int)=0):=by omega
 have hT:Tryd.prog.underlying 23=some (.slice 40):=Tryd.underlying23
 have htb:∃ ti,tget tbl 40=some ti∧ti.n=2∧ti.bytes=24∧ti.zero=[.string ⟨#[]⟩,.int .i64 0]:=⟨_,rfl,rfl,rfl,rfl⟩
 obtain⟨ti,ht1,ht2,ht3,ht4⟩:=htb
 obtain⟨i0,hi0,hzs,hzb,z,hz0,hzc⟩:=(tbl_ok _ _ ht1).info
 rw[ht2]at hzs
 rw[ht3]at hzb
 rw[ht4]at hzc
 have hzz:z.cells.size=2:=by rw[← Array.length_toList,hzc];rfl
 have hnews:∀ j u,[c0,c1][j]? = some u→w.cell? (ad.add j)=some u:=fun j u hj=>by
  match j,hj with
  |0,hj=>simp at hj;subst hj;exact h0
  |1,hj=>simp at hj;subst hj;exact h1
 have hone:∀ u∈[c0,c1],u.oneCell'=true:=by simp[hc0,hc1]
 obtain⟨R,hR⟩:∃ R:Value→World→Prop,R=fun v' w'=>w'.ownsRow 0 40 2 v' (n+1) (xs++[c0,c1])∧w.grownBy w' v.ownBlock∧(v'.ownBlock=v.ownBlock∨v'.ownBlock=some w.heap.size):=⟨_,rfl⟩
 have hmk:∀ v' w',w'.ownsRow 0 40 2 v' (n+1) (xs++[c0,c1])→w.grownBy w' v.ownBlock→(v'.ownBlock=v.ownBlock∨v'.ownBlock=some w.heap.size)→R v' w':=fun v' w' a b c=>by rw[hR];exact⟨a,b,c⟩
 suffices h:Calls Tryd.prog 22 #[v,.int .i64 (n:Int),.slice (some ad) 1 cp] w fun e w'=>∃ v',e = .returned v'∧R v' w' by
  refine h.mono fun e w'=>?_
  rintro ⟨v',a,b⟩
  rw[hR]at b
  exact⟨v',a,b⟩
 clear hR
 have hb:n+1≤maxLen:=by unfold maxLen;omega
 have hv:(v = .slice none 0 0∧n=0)∨∃ g cap,v = .slice (some ⟨g,0,none⟩) n cap∧n≤cap:=by
  rcases hown.2 with h|⟨g,cap,cur,e,_,_,h,_⟩
  ·
   exact .inl h
  ·
   exact .inr ⟨g,cap,e,h⟩
 obtain⟨v',w',hr,q1,q2,_,q4⟩:=run_append_own_at (P:=Tryd.prog) w 0 23 0 40 i0 z 2 24 hT hi0 hz0 hzs hzb hzz (by decide) v n xs hown ad 1 cp [c0,c1] rfl hnews hone hb (by omega) (Nat.zero_le _)
 have hR:=hmk v' w' q1 q2 q4
 have hap:∀ ty,(Builtin.append_ #[23,22] ty #[v,.slice (some ad) 1 cp]).run Tryd.prog w = .ok v' w':=fun ty=>(append_types hT Tryd.underlying22 ty _ w).trans ((append_ty _ _ _ w).trans hr)
 clear hmk q1 q2 q4 hr hown hnews
 rcases hv with ⟨rfl,rfl⟩|⟨g,cap,rfl,hnc⟩
 ·
  go_enter Tryd.func22,Tryd.ntmps22
  go_wp2_with (at_builtin;refine Lib.wpList_append_run _ rfl _ _ 23 22 rfl _ _ rfl rfl _ _ (hap _) ?_)
  go_ret
  exact⟨_,rfl,hR⟩
 ·
  go_enter Tryd.func22,Tryd.ntmps22
  go_wp2_with (at_builtin;refine Lib.wpList_append_run _ rfl _ _ 23 22 rfl _ _ rfl rfl _ _ (hap _) ?_)
  all_goals
   go_ret
   exact⟨_,rfl,hR⟩
theorem upd_insertP (rows:List (List D)) (m:Nat) (d0 d1:D) (hm:m≤rows.length) (hl:rows.length≤268435456) :
  FnUpd Tryd.prog 22 40 2 rows [.d (dint m),.d (.sl 2 [[d0,d1]])] (rows.take m++[d0,d1]::rows.drop m):=by
 refine⟨⟨_,Tryd.func22,by kernel_rfl,by kernel_rfl⟩,fun w own v vs hown hR hsep ha=>?_⟩
 match vs,ha with
 | [v1,v2],⟨h1,h2,_⟩ =>
  have e1:=rd_v h1
  subst e1
  obtain⟨ad,cp,c0,c1,rfl,hnb,hadw,hc0,hc1,o0,o1,r0,r1⟩:=rd_pair h2
  obtain⟨xs,hrow,hone,hrl,hrd⟩:=hR
  have hbv:blk v=v.ownBlock:=blk_own hrow
  have hxl:=hrow.1
  by_cases hmn:m=rows.length
  ·
   subst hmn
   refine(insert_endP v rows.length xs ad cp w c0 c1 hrow hl hc0 hc1 o0 o1).mono fun e w'=>?_
   rintro ⟨v',rfl,q1,q2,q3⟩
   have hp:∀ b,blk v'=some b→blk v=some b∨w.heap.size≤b:=fun b hb=>by
    rw[blk_own q1]at hb
    rw[hbv]
    rcases q3 with h|h
    ·
     rw[h]at hb;exact .inl hb
    ·
     rw[h]at hb;cases hb;exact .inr (Nat.le_refl _)
   have hbb:BelowBut v w w':=⟨q2.os,q2.tape,q2.output,q2.size,fun b hb hn=>q2.block b hb fun h=>hn (by rw[hbv,h])⟩
   refine⟨v',rfl,hbb,hp,rows_ins (Nat.le_refl _) hbb hp hxl hone hrl hrd r0 r1 o0 o1 ?_⟩
   rw[List.take_of_length_le (by omega),List.drop_eq_nil_of_le (by omega),List.append_nil]
   exact q1
  ·
   rcases hrow.2 with ⟨_,h0⟩|⟨g,cap,cur,rfl,_,hg,hnc,hcm,hsz,htk⟩
   ·
    omega
   ·
    have hadg:ad.block≠g:=fun h=>hnb (.inr (by rw[h];rfl))
    by_cases hroom:rows.length+1≤cap
    ·
     refine(insert_roomP g rows.length cap m ad cp w cur c0 c1 hg hsz (by omega) hl hroom hcm hadg hc0 hc1 (by rw[htk];exact hone) o0 o1).mono fun e w'=>?_
     rintro ⟨rfl,m1,cs',rfl,q1,q2⟩
     have hp:∀ b,blk (.slice (some ⟨g,0,none⟩) (rows.length+1) cap)=some b→blk (.slice (some ⟨g,0,none⟩) rows.length cap)=some b∨w.heap.size≤b:=fun b hb => .inl hb
     have hbb:BelowBut (.slice (some ⟨g,0,none⟩) rows.length cap) w ((w.drew.setRow g m1).setRow g cs'):=⟨rfl,rfl,rfl,by simp[setRow_size],fun b hb hn=>by
      have hbg:b≠g:=fun h=>hn (by rw[h];rfl)
      rw[setRow_other _ _ _ _ hbg,setRow_other _ _ _ _ hbg];rfl⟩
     refine⟨_,rfl,hbb,hp,rows_ins hm hbb hp hxl hone hrl hrd r0 r1 o0 o1 ⟨by simp;omega,.inr ⟨g,cap,cs',rfl,Nat.zero_le _,setRow_heap _ _ _ _ _ _ (setRow_heap _ _ _ _ _ _ hg),hroom,hcm,q1,?_⟩⟩⟩
     rw[q2,htk]
    ·
     refine(insert_growP g rows.length cap m ad cp w cur c0 c1 hg hsz (by omega) hl hnc (by omega) hcm hadw hc0 hc1 (by rw[htk];exact hone) o0 o1).mono fun e w'=>?_
     rintro ⟨G,rfl,q1,q2,hB,cs',q3,q4,q5⟩
     have hp:∀ b,blk (.slice (some ⟨w.heap.size,0,none⟩) (rows.length+1) G)=some b→blk (.slice (some ⟨g,0,none⟩) rows.length cap)=some b∨w.heap.size≤b:=fun b hb => .inr (by cases hb;exact Nat.le_refl _)
     have hbb:BelowBut (.slice (some ⟨g,0,none⟩) rows.length cap) w w':=⟨hB.os,hB.tape,hB.output,hB.size,fun b hb _=>hB.block b hb⟩
     refine⟨_,rfl,hbb,hp,rows_ins hm hbb hp hxl hone hrl hrd r0 r1 o0 o1 ⟨by simp;omega,.inr ⟨_,G,cs',rfl,Nat.zero_le _,q3,q1,q2,q4,?_⟩⟩⟩
     rw[q5,htk]
theorem step_append_runI {P:Program}{ops:Array Oper}{o:Oper}{a:Act}{w:World}{K:Act→World→Prop}{Q:Exit→Act→World→Prop}{E:Prop}
  (hg:o.guard=none) (d x:Operand) (dT sT:TypeId) (hop:o.op=Op.call { callee:=Callee.builtin Builtin.append,args := #[d,x],argTypes := #[dT,sT] })
  (v u:Value) (hd:a.eval d=v) (hx:a.eval x=u) {v':Value} {w':World} (hr:(Builtin.append_ #[dT,sT] o.type #[v,u]).run P w = .ok v' w') (hK:K (a.put o.dst v') w') :
  if Region.wanted o (yielded ops a.tmps)=true then Oper.wp P o a w K Q else E:=by
 have hw:Region.wanted o (yielded ops a.tmps)=true:=by simp[Region.wanted,hg]
 rw[if_pos hw]
 unfold Oper.wp
 simp[execOp,hop,resolve,invoke,builtin,hd,hx,hr,Result.andThen]
 exact hK
theorem wpList_clear_runI {P:Program}{ops:Array Oper}{rest:List Oper}{o:Oper}{a:Act}{w:World}{Q:Exit→Act→World→Prop}(hgd:o.guard=none) (x:Operand) (t:TypeId)
  (ho:o.op = .call { callee := .builtin .clear,args := #[x],argTypes := #[t] }) (u:Value) (hx:a.eval x=u) {v':Value} {w':World}
  (hr:(Builtin.clear_ #[t] o.type #[u]).run P w = .ok v' w') (h:wpList P ops Q rest (a.put o.dst v') w'):wpList P ops Q (o::rest) a w:=by
 refine wpList_plain hgd fun K hK=>?_
 unfold Oper.wp
 simp[execOp,ho,resolve,invoke,builtin,hx,hr,Result.andThen]
 exact hK _ _ h
theorem del_cells {cur zs:List Value}{n m:Nat}(hm:m < n) (hl:n*2≤cur.length) :
  let news:=(cur.drop ((m+1)*2)).take ((n - (m+1))*2)
  let m1:=cur.take (m*2)++news++cur.drop (m*2+news.length)
  (m1.take ((m+(n - (m+1)))*2)++zs++m1.drop ((m+(n - (m+1)))*2+zs.length)).take ((n - 1)*2)=(cur.take (n*2)).take (m*2)++(cur.take (n*2)).drop ((m+1)*2):=by
 intro news m1
 have h1:(cur.take (m*2)).length=m*2:=by simp;omega
 have h2:news.length=(n - (m+1))*2:=by simp[news];omega
 have hk:(m+(n - (m+1)))*2=(n - 1)*2:=by congr 1;omega
 have h3:m1.take ((n - 1)*2)=cur.take (m*2)++news:=by
  show(cur.take (m*2)++news++cur.drop (m*2+news.length)).take ((n - 1)*2)=_
  rw[List.take_append_of_le_length (by rw[List.length_append,h1,h2];omega),List.take_of_length_le (by rw[List.length_append,h1,h2];omega)]
 rw[hk,h3,List.append_assoc,List.take_append_of_le_length (by rw[List.length_append,h1,h2];omega),List.take_of_length_le (by rw[List.length_append,h1,h2];omega)]
 rw[List.take_take,Nat.min_eq_left (by omega),List.drop_take,show n*2 - (m+1)*2=(n - (m+1))*2 by omega]
set_option maxHeartbeats 4000000 in
set_option maxRecDepth 100000 in
theorem delete_walk (g n cap m:Nat) (w:World) (cur:Array Value) (hg:w.heap[g]? = some (.cells cur 40 (0,0))) (hsz:cur.size=cap*2) (hm:m < n) (hn:n≤268435456) (hnc:n≤cap) (hcm:cap≤maxLen) (hone:∀ v∈cur.toList.take (n*2),v.oneCell'=true) :
  Calls Tryd.prog 23 #[.slice (some ⟨g,0,none⟩) n cap,.int .i64 (m:Int),.int .i64 ((m:Int)+1)] w fun e w' =>
   e = .returned (.slice (some ⟨g,0,none⟩) (n - 1) cap)∧∃ m1 cs',w'=(w.drew.setRow g m1).setRow g cs'∧cs'.size=cap*2∧cs'.toList.take ((n - 1)*2)=(cur.toList.take (n*2)).take (m*2)++(cur.toList.take (n*2)).drop ((m+1)*2):=by
 have mixed:=mixed_ok
 have hnm:¬ ((m:Int)=(m:Int)+1):=by omega
 have hT:Tryd.prog.underlying 23=some (.slice 40):=Tryd.underlying23
 have htb:∃ ti,tget tbl 40=some ti∧ti.n=2∧ti.zero=[.string ⟨#[]⟩,.int .i64 0]:=⟨_,rfl,rfl,rfl⟩
 obtain⟨ti,ht1,ht2,ht4⟩:=htb
 obtain⟨i0,hi0,hzs,_,z,hz0,hzc⟩:=(tbl_ok _ _ ht1).info
 rw[ht2]at hzs
 rw[ht4]at hzc
 have hcl:n*2≤cur.size:=by rw[hsz];exact Nat.mul_le_mul_right 2 hnc
 obtain⟨news,hnews⟩:∃ news,news=(cur.toList.drop ((m+1)*2)).take ((n - (m+1))*2):=⟨_,rfl⟩
 have hnl:news.length=(n - (m+1))*2:=by rw[hnews];simp;omega
 obtain⟨m1,hm1⟩:∃ m1:List Value,m1=cur.toList.take (m*2)++news++cur.toList.drop (m*2+news.length):=⟨_,rfl⟩
 have hm1l:m1.length=cur.size:=by rw[hm1];simp;omega
 obtain⟨zs,hzs2⟩:∃ zs:List Value,zs=[.string ⟨#[]⟩,.int .i64 0]:=⟨_,rfl⟩
 obtain⟨m2,hm2⟩:∃ m2:List Value,m2=m1.take ((m+(n - (m+1)))*2)++zs++m1.drop ((m+(n - (m+1)))*2+zs.length):=⟨_,rfl⟩
 have hm2l:m2.length=cur.size:=by rw[hm2,hzs2];simp;omega
 have hlast:m2.take ((n - 1)*2)=(cur.toList.take (n*2)).take (m*2)++(cur.toList.take (n*2)).drop ((m+1)*2):=by
  have h:=del_cells (cur:=cur.toList) (zs:=zs) hm (by simpa using hcl)
  rw[hm2,hm1,hnews]
  exact h
 have hap:∀ (A:Addr),(cap=m+1∨A=⟨g,(m+1)*2,none⟩)→∀ ty,(Builtin.append_ #[23,23] ty #[.slice (some ⟨g,0,none⟩) m cap,.slice (some A) (n - (m+1)) (cap - (m+1))]).run Tryd.prog w.drew =
   .ok (.slice (some ⟨g,0,none⟩) (m+(n - (m+1))) cap) (w.drew.setRow g m1.toArray):=fun A hA ty=>by
  have hnw:∀ j u,news[j]? = some u→w.drew.cell? (A.add j)=some u:=fun j u hj=>by
   rcases hA with hA|rfl
   ·
    have:news=[]:=List.eq_nil_of_length_eq_zero (by rw[hnl];omega)
    rw[this]at hj;simp at hj
   ·
    rw[hnews,List.getElem?_take]at hj
    split at hj
    ·
     rw[List.getElem?_drop]at hj
     rw[Addr.add_lit]
     have hgd:w.drew.heap[g]? = some (.cells cur 40 (0,0)):=hg
     simp[World.cell?,hgd]
     simpa using hj
    ·
     cases hj
  have ho1:∀ u∈news,u.oneCell'=true:=fun u hu=>by
   obtain⟨j,hj⟩:=List.getElem?_of_mem hu
   rw[hnews,List.getElem?_take]at hj
   split at hj
   ·
    rw[List.getElem?_drop]at hj
    refine hone u (List.mem_of_getElem? (i:=(m+1)*2+j) ?_)
    rw[List.getElem?_take,if_pos (by omega)];exact hj
   ·
    cases hj
  have h:=run_append_room (P:=Tryd.prog) (w:=w.drew) (ty:=ty) 23 40 i0 hT hi0 g m cap cur hg A (n - (m+1)) (cap - (m+1)) news (by rw[hzs];exact hnl) hnw ho1 (by omega) (by rw[hzs,hnl];omega)
  rw[hzs]at h
  rw[hm1]
  exact h
 have hg1:(w.drew.setRow g m1.toArray).heap[g]? = some (.cells m1.toArray 40 (0,0)):=setRow_heap _ _ _ _ _ _ hg
 have hclr:∀ ty,(Builtin.clear_ #[23] ty #[.slice (some ⟨g,(m+(n - (m+1)))*2,none⟩) (n - (m+(n - (m+1)))) (cap - (m+(n - (m+1))))]).run Tryd.prog (w.drew.setRow g m1.toArray) =
   .ok (.tuple #[]) ((w.drew.setRow g m1.toArray).setRow g m2.toArray):=fun ty=>by
  have e1:n - (m+(n - (m+1)))=1:=by omega
  have hst:=run_storeCells_at Tryd.prog g ((m+(n - (m+1)))*2) 40 zs 0 m1.toArray (w.drew.setRow g m1.toArray) hg1 (by rw[hzs2];simp;omega) (by rw[hzs2];simp[Value.oneCell'])
  have hzz:(Builtin.zeroCells z.cells 1).toList=zs:=by
   rw[hzs2,← hzc]
   have h2:z.cells.size=2:=by rw[← Array.length_toList,hzc];rfl
   apply List.ext_getElem
   ·
    simp[Builtin.zeroCells,h2]
   ·
    intro i h3 h4
    have h5:i < 2:=by simpa[h2] using h4
    simp[Builtin.zeroCells,Nat.mod_eq_of_lt h5,h2]
    exact getElem!_pos z.cells i (by omega)
  have hzv:(zeroValue 40).run Tryd.prog (w.drew.setRow g m1.toArray) = .ok z (w.drew.setRow g m1.toArray):=by simp[zeroValue,typeInfo,hi0,hz0]
  rw[e1]
  simp only[Nat.add_zero]at hst
  simp[Builtin.clear_,run_underlying hT,hzv,hzz,hst,hm2]
 have hi1:m≤cap:=by omega
 have hi2:m+1≤cap:=by omega
 have hi3:m+1≤n:=by omega
 clear hm1 hm2 hnews hzs2
 have hj1:(0:Int)≤(m:Int)+1:=by omega
 have hj2:(m:Int)+1≤(n:Int):=by omega
 have hj3:(m:Int)≤(m:Int)+1:=by omega
 have htn:((m:Int)+1).toNat=m+1:=by omega
 by_cases hcj:cap=m+1
 ·
  have hap1:=hap ⟨g,0,none⟩ (.inl hcj)
  obtain rfl:n=m+1:=by omega
  subst hcj
  have hap2:∀ ty,(Builtin.append_ #[23,23] ty #[.slice (some ⟨g,0,none⟩) m (m+1),.slice (some ⟨g,0,none⟩) 0 0]).run Tryd.prog w.drew = .ok (.slice (some ⟨g,0,none⟩) m (m+1)) (w.drew.setRow g m1.toArray):=fun ty=>by simpa using hap1 ty
  have hclr2:∀ ty,(Builtin.clear_ #[23] ty #[.slice (some ⟨g,m*2,none⟩) 1 1]).run Tryd.prog (w.drew.setRow g m1.toArray) = .ok (.tuple #[]) ((w.drew.setRow g m1.toArray).setRow g m2.toArray):=fun ty=>by
   have h:=hclr ty
   rw[show m+1 - (m+1)=0 by omega,show m+0=m by omega,show m+1 - m=1 by omega]at h
   exact h
  clear hap hap1 hclr
  go_enter Tryd.func23,Tryd.ntmps23
  go_wp2_with fail
  go_region_law_o (refine step_append_runI rfl _ _ 23 23 rfl (.slice (some ⟨g,0,none⟩) m (m+1)) (.slice (some ⟨g,0,none⟩) 0 0) (by simp[Act.eval,Act.put]) (by simp[Act.eval,Act.put]) (hap2 _) ?_)
  go_wp2_with (at_builtin;refine wpList_clear_runI rfl _ 23 rfl _ rfl (hclr2 _) ?_)
  go_ret
  exact⟨by rw[show m+1 - 1=m by omega];rfl,_,_,rfl,by simp[hm2l,hsz],by simpa using hlast⟩
 ·
  have hap1:=hap ⟨g,(m+1)*2,none⟩ (.inr rfl)
  clear hap
  go_enter Tryd.func23,Tryd.ntmps23
  go_wp2_with fail
  go_region_law_o (refine step_append_runI rfl _ _ 23 23 rfl (.slice (some ⟨g,0,none⟩) m cap) (.slice (some ⟨g,(m+1)*2,none⟩) (n - (m+1)) (cap - (m+1))) (by simp[Act.eval,Act.put]) (by simp[Act.eval,Act.put]) (hap1 _) ?_)
  go_wp2_with (at_builtin;refine wpList_clear_runI rfl _ 23 rfl _ rfl (hclr _) ?_)
  go_ret
  exact⟨by rw[show n - 1=m+(n - (m+1)) by omega];rfl,_,_,rfl,by simp[hm2l,hsz],by simpa using hlast⟩
theorem upd_delete (rows:List (List D)) (m:Nat) (hm:m < rows.length) (hl:rows.length≤268435456) :
  FnUpd Tryd.prog 23 40 2 rows [.d (dint m),.d (dint ((m:Int)+1))] (rows.take m++rows.drop (m+1)):=by
 refine⟨⟨_,Tryd.func23,by kernel_rfl,by kernel_rfl⟩,fun w own v vs hown hR hsep ha=>?_⟩
 match vs,ha with
 | [v1,v2],⟨h1,h2,_⟩ =>
  have e1:=rd_v h1
  have e2:=rd_v h2
  subst e1 e2
  obtain⟨xs,hrow,hone,hrl,hrd⟩:=hR
  have hxl:=hrow.1
  rcases hrow.2 with ⟨_,h0⟩|⟨g,cap,cur,rfl,_,hg,hnc,hcm,hsz,htk⟩
  ·
   omega
  ·
   refine(delete_walk g rows.length cap m w cur hg hsz hm hl hnc hcm (by rw[htk];exact hone)).mono fun e w'=>?_
   rintro ⟨rfl,m1,cs',rfl,q1,q2⟩
   have hp:∀ b,blk (.slice (some ⟨g,0,none⟩) (rows.length - 1) cap)=some b→blk (.slice (some ⟨g,0,none⟩) rows.length cap)=some b∨w.heap.size≤b:=fun b hb => .inl hb
   have hbb:BelowBut (.slice (some ⟨g,0,none⟩) rows.length cap) w ((w.drew.setRow g m1).setRow g cs'):=⟨rfl,rfl,rfl,by simp[setRow_size],fun b hb hn=>by
    have hbg:b≠g:=fun h=>hn (by rw[h];rfl)
    rw[setRow_other _ _ _ _ hbg,setRow_other _ _ _ _ hbg];rfl⟩
   refine⟨_,rfl,hbb,hp,rows_del hm hbb hp hxl hone hrl hrd ⟨by simp;omega,.inr ⟨g,cap,cs',rfl,Nat.zero_le _,setRow_heap _ _ _ _ _ _ (setRow_heap _ _ _ _ _ _ hg),by omega,hcm,q1,?_⟩⟩⟩
   rw[q2,htk]
end Go.Proofs.YtngnajknbeijjaaDoor
namespace Go.AX
open Go.RowKit
variable {cx:Cx}{g:Nat→Value}{σ σ':St}{a:Act}{w w':World}{nx:Nat}{c:Code}{Q:Exit→St→Prop}
variable {ty:TypeId}{pos:String}{af:Array Edge}{gd:Option (Nat×Bool)}{d:Nat}
variable {ops:Array Oper}{rest:List Oper}{o:Oper}
theorem SW.s1 {rd wr:List (Key×Val)}(ha:autA cx σ o=some ⟨rd,wr⟩) (h:SW cx ops Q rest (wr++σ)):SW cx ops Q (o::rest) σ:=by
 obtain⟨dst,op,ty,pos,af,gd⟩:=o
 cases gd with
 |some p=>cases ha
 |none =>
  simp only[autA]at ha
  split at ha
  ·
   next hd =>
   obtain⟨h1,h2⟩:=trA_ok (cx:=cx) (ty:=ty) (pos:=pos) (af:=af) (gd:=none) hd ha
   exact SW.step rfl ⟨h1,h2⟩ h
  ·
   cases ha
theorem SW.s5 {rd wr:List (Key×Val)}(ho:OA cx σ o ⟨rd,wr⟩) (hg:o.guard=none) (h:SW cx ops Q rest (wr++σ)):SW cx ops Q (o::rest) σ:=SW.step hg ho h
theorem SW.nil (h:Q .normal σ):SW cx ops Q [] σ:=fun a w hs=>wpList_nil ⟨σ,hs,h⟩
theorem SW.stut {t:Tr}{l:List Oper}(hs:Stut cx t) (ha:App σ t.rd) (h:SW cx ops Q l (t.wr++σ)):SW cx ops Q l σ:=fun a w hsim=>h a w (hs σ a w hsim ha)
end Go.AX
namespace Go.Proofs.YtngnajknbeijjaaDoor
open Go.AX Go.RF Go.RowKit
set_option maxRecDepth 100000
set_option maxHeartbeats 8000000
def putS (k:Str) (n:Int):List Pair→List Pair
 | []=>[⟨k,n⟩]
 |p::r=>if p.key=k then ⟨k,n⟩::r else if slt p.key k=true then p::putS k n r else ⟨k,n⟩::p::r
def dropS (k:Str):List Pair→List Pair
 | []=>[]
 |p::r=>if p.key=k then r else p::dropS k r
theorem atr_some {l:List Pair}{k:Str}{m:Nat}(h:isAtR l k m=true):∃ c,l[m]? = some c∧c.key=k:=by
 unfold isAtR isAtK at h
 split at h
 ·
  next c hc=>exact⟨c,hc,by simpa using h⟩
 ·
  cases h
theorem atk_tail {d:Pair}{l:List Pair}{k:Str}{m:Nat}(hm:AtK Pair.key (d::l) k (m+1)):AtK Pair.key l k m :=
 ⟨by have:=hm.le;simpa using this,fun x c hx hlt=>hm.lt (x+1) c (by simpa using hx) (by omega),fun x c hx hge=>hm.ge (x+1) c (by simpa using hx) (by omega)⟩
theorem get_some {k:Str}:∀ {l:List Pair}{m:Nat}{c:Pair},AtK Pair.key l k m→l[m]? = some c→c.key=k→RF.get l k=(c.n,true)
 | [],m,c,_,h,_=>by simp at h
 |d::l,0,c,_,h,hk=>by simp at h;subst h;simp[RF.get,hk]
 |d::l,m+1,c,hm,h,hk=>by
  have h1:=hm.lt 0 d rfl (by omega)
  simp only[RF.get]
  rw[if_neg (slt_ne h1),get_some (atk_tail hm) (by simpa using h) hk]
theorem get_none {k:Str}:∀ {l:List Pair}{m:Nat},AtK Pair.key l k m→isAtR l k m=false→Srt Pair.key l→RF.get l k=(0,false)
 | [],m,_,_,_=>rfl
 |d::l,0,hm,hn,hs=>by
  have h1:d.key≠k:=by simpa[isAtR,isAtK] using hn
  have h2:=hm.ge 0 d rfl (Nat.le_refl _)
  have h0:∀ p∈l,p.key≠k:=fun p hp e=>by
   have h3:=(List.pairwise_cons.1 hs).1 p hp
   rw[e]at h3
   rw[h3]at h2;cases h2
  simp only[RF.get]
  rw[if_neg h1]
  clear hm hn hs h1 h2
  induction l with
  |nil=>rfl
  |cons p l ih =>
   simp only[RF.get]
   rw[if_neg (h0 p (List.mem_cons_self ..))]
   exact ih fun q hq=>h0 q (List.mem_cons_of_mem _ hq)
 |d::l,m+1,hm,hn,hs=>by
  have h1:=hm.lt 0 d rfl (by omega)
  simp only[RF.get]
  rw[if_neg (slt_ne h1)]
  exact get_none (atk_tail hm) (by simpa[isAtR,isAtK] using hn) (List.pairwise_cons.1 hs).2
theorem putS_found {k:Str}{n:Int}:∀ {l:List Pair}{m:Nat}{c:Pair},AtK Pair.key l k m→l[m]? = some c→c.key=k→putS k n l=l.set m ⟨c.key,n⟩
 | [],m,c,_,h,_=>by simp at h
 |d::l,0,c,_,h,hk=>by
  simp at h;subst h
  simp only[putS]
  rw[if_pos hk,List.set_cons_zero,hk]
 |d::l,m+1,c,hm,h,hk=>by
  have h1:=hm.lt 0 d rfl (by omega)
  simp only[putS]
  rw[if_neg (slt_ne h1),if_pos h1,putS_found (atk_tail hm) (by simpa using h) hk,List.set_cons_succ]
theorem putS_new {k:Str}{n:Int}:∀ {l:List Pair}{m:Nat},AtK Pair.key l k m→isAtR l k m=false→putS k n l=l.take m++⟨k,n⟩::l.drop m
 | [],m,hm,_=>by
  obtain rfl:m=0:=by simpa using hm.le
  rfl
 |d::l,0,hm,hn=>by
  have h1:d.key≠k:=by simpa[isAtR,isAtK] using hn
  have h2:=hm.ge 0 d rfl (Nat.le_refl _)
  simp only[putS]
  rw[if_neg h1,if_neg (by rw[h2];simp)]
  rfl
 |d::l,m+1,hm,hn=>by
  have h1:=hm.lt 0 d rfl (by omega)
  simp only[putS]
  rw[if_neg (slt_ne h1),if_pos h1,putS_new (atk_tail hm) (by simpa[isAtR,isAtK] using hn)]
  rfl
theorem dropS_found {k:Str}:∀ {l:List Pair}{m:Nat}{c:Pair},AtK Pair.key l k m→l[m]? = some c→c.key=k→dropS k l=l.take m++l.drop (m+1)
 | [],m,c,_,h,_=>by simp at h
 |d::l,0,c,_,h,hk=>by
  simp at h;subst h
  simp[dropS,hk]
 |d::l,m+1,c,hm,h,hk=>by
  have h1:=hm.lt 0 d rfl (by omega)
  simp only[dropS]
  rw[if_neg (slt_ne h1),dropS_found (atk_tail hm) (by simpa using h) hk]
  rfl
theorem dropS_none {k:Str}:∀ {l:List Pair},(∀ p∈l,p.key≠k)→dropS k l=l
 | [],_=>rfl
 |d::l,h=>by
  simp only[dropS]
  rw[if_neg (h d (List.mem_cons_self ..)),dropS_none fun p hp=>h p (List.mem_cons_of_mem _ hp)]
theorem not_at {l:List Pair}{k:Str}{m:Nat}(hm:AtK Pair.key l k m) (hn:isAtR l k m=false) (hs:Srt Pair.key l):∀ p∈l,p.key≠k:=by
 intro p hp e
 obtain⟨i,hi⟩:=List.getElem?_of_mem hp
 rcases Nat.lt_trichotomy i m with h|h|h
 ·
  have:=hm.lt i p hi h;rw[e,slt_irrefl]at this;cases this
 ·
  subst h
  unfold isAtR isAtK at hn
  rw[hi]at hn
  simp[e]at hn
 ·
  have hil:=(List.getElem?_eq_some_iff.1 hi).1
  have h1:=hm.ge m (l[m]'(by omega)) (List.getElem?_eq_getElem (by omega)) (Nat.le_refl _)
  have h2:=hs.lt (List.getElem?_eq_getElem (show m < l.length by omega)) hi h
  rw[e]at h2
  rw[h2]at h1;cases h1
theorem dropS_at {l:List Pair}{k:Str}{m:Nat}(hm:AtK Pair.key l k m) (hn:isAtR l k m=false) (hs:Srt Pair.key l):dropS k l=l:=dropS_none (not_at hm hn hs)
theorem putGo_done {k:Str}{n:Int}{h:Bool}:∀ {l out:List Pair},(∀ p∈l,p.key≠k)→putGo k n h true out l=out++l
 | [],out,_=>by simp[putGo]
 |p::l,out,hl=>by
  simp only[putGo]
  rw[if_neg (hl p (List.mem_cons_self ..))]
  simp only[Bool.true_or,Bool.not_true,Bool.false_and,Bool.false_eq_true,if_false]
  rw[putGo_done fun q hq=>hl q (List.mem_cons_of_mem _ hq)]
  simp
theorem putGo_srt {k:Str}{n:Int}{h:Bool}:∀ {l out:List Pair},Srt Pair.key l→putGo k n h false out l=out++(if h=true then putS k n l else dropS k l)
 | [],out,_=>by cases h <;> simp[putGo,putS,dropS]
 |p::l,out,hs=>by
  obtain⟨h1,h2⟩:=List.pairwise_cons.1 hs
  cases hl:slt p.key k with
  |true =>
   have hk:p.key≠k:=slt_ne hl
   simp only[putGo,hl]
   rw[if_neg hk]
   simp only[Bool.not_true,Bool.or_false,Bool.not_false,Bool.and_false,Bool.false_and,Bool.false_eq_true,if_false]
   rw[putGo_srt h2]
   cases h <;> simp[putS,dropS,hk,hl]
  |false =>
   have hne:∀ q∈l,q.key≠k:=fun q hq e=>by
    have h3:=h1 q hq
    rw[e]at h3
    rw[h3]at hl;cases hl
   simp only[putGo,hl]
   simp only[Bool.not_false,Bool.or_true,Bool.true_and,Bool.and_true]
   rw[putGo_done hne]
   by_cases hk:p.key=k
   ·
    cases h <;> simp[putS,dropS,hk]
   ·
    cases h <;> simp[putS,dropS,hk,hl,dropS_none hne]
theorem put_true {l:List Pair}(hs:Srt Pair.key l) (k:Str) (n:Int):put l k n true=putS k n l:=by
 unfold put;rw[putGo_srt hs];rfl
theorem put_false {l:List Pair}(hs:Srt Pair.key l) (k:Str) (n:Int):put l k n false=dropS k l:=by
 unfold put;rw[putGo_srt hs];rfl
theorem putS_mem {k:Str}{n:Int}:∀ {l:List Pair}{p:Pair},p∈putS k n l→p∈l∨p=⟨k,n⟩
 | [],p,h=>by simp[putS]at h;exact .inr h
 |q::l,p,h=>by
  simp only[putS]at h
  split at h
  ·
   rcases List.mem_cons.1 h with h|h
   ·
    exact .inr h
   ·
    exact .inl (List.mem_cons_of_mem _ h)
  ·
   split at h
   ·
    rcases List.mem_cons.1 h with h|h
    ·
     exact .inl (h▸List.mem_cons_self ..)
    ·
     rcases putS_mem h with h|h
     ·
      exact .inl (List.mem_cons_of_mem _ h)
     ·
      exact .inr h
   ·
    rcases List.mem_cons.1 h with h|h
    ·
     exact .inr h
    ·
     exact .inl h
theorem dropS_sub {k:Str}:∀ l:List Pair,(dropS k l).Sublist l
 | []=>List.Sublist.slnil
 |p::l=>by
  simp only[dropS]
  split
  ·
   exact List.sublist_cons_self ..
  ·
   exact(dropS_sub l).cons_cons _
theorem putS_srt {k:Str}{n:Int}:∀ {l:List Pair},Srt Pair.key l→Srt Pair.key (putS k n l)
 | [],_=>List.pairwise_singleton ..
 |c::l,hs=>by
  obtain⟨h1,h2⟩:=List.pairwise_cons.1 hs
  simp only[putS]
  by_cases hk:c.key=k
  ·
   rw[if_pos hk]
   exact List.pairwise_cons.2 ⟨fun d hd=>by show slt k d.key=true;rw[← hk];exact h1 d hd,h2⟩
  ·
   rw[if_neg hk]
   split
   ·
    next h3 =>
    refine List.pairwise_cons.2 ⟨fun d hd=>?_,putS_srt h2⟩
    rcases putS_mem hd with h|rfl
    ·
     exact h1 d h
    ·
     exact h3
   ·
    next h3 =>
    have h4:slt k c.key=true:=by
     rcases slt_tri c.key k with h|h|h
     ·
      exact absurd h h3
     ·
      exact absurd h hk
     ·
      exact h
    refine List.pairwise_cons.2 ⟨fun d hd=>?_,hs⟩
    rcases List.mem_cons.1 hd with rfl|hd
    ·
     exact h4
    ·
     exact slt_trans h4 (h1 d hd)
theorem dropS_srt {k:Str}{l:List Pair}(hs:Srt Pair.key l):Srt Pair.key (dropS k l):=hs.sublist (dropS_sub l)
theorem putS_len {k:Str}{n:Int}:∀ l:List Pair,(putS k n l).length≤l.length+1
 | []=>by simp[putS]
 |p::l=>by
  have:=putS_len (k:=k) (n:=n) l
  simp only[putS]
  split
  ·
   simp
  ·
   split <;> simp <;> omega
theorem dropS_len {k:Str}(l:List Pair):(dropS k l).length≤l.length:=(dropS_sub l).length_le
theorem ok_pround (n:Int) (hn:inI n):FnOk Tryd.prog 10 [.d (dint n)] (.one (dint (round n))):=by
 refine fnOk_of tbl_ok mixed_ok Tryd.func10 rfl (by kernel_rfl) rfl rfl fun w0 own0=>?_
 repeat(first|refine wa ?_|((with_reducible apply s5);(first|((with_reducible apply a_bin);(iterate 2 exact rfl);exact bin_rem (by omega);exact rfl)|exact by_oa|exact by_ca);exact by_g)|refine wb ?_)
 refine .one (.tmp rfl (.one (.d (dle_eq ?_))))
 have h1:n.tdiv 1073741825*1073741825+n.tmod 1073741825=n:=Int.tdiv_mul_add_tmod n 1073741825
 show dint _=dint _
 congr 1
 unfold round
 omega
theorem ok_pget (l:List Pair) (k:Str) (hl:l.length≤268435456) (hs:Srt Pair.key l):FnOk Tryd.prog 12 [.d (encRows l),.d (dstr k)] (.tup [dint (RF.get l k).1,dbool (RF.get l k).2]):=by
 refine fnOk_of tbl_ok mixed_ok Tryd.func12 rfl (by kernel_rfl) rfl rfl fun w0 own0=>?_
 obtain⟨m,hm⟩:=hs.at k
 have hf:=ok_rfind l k m hl hm
 cases hb:isAtR l k m with
 |true =>
  obtain⟨c,hc,hck⟩:=atr_some hb
  rw[hb]at hf
  rw[get_some hm hc hck]
  try refine wk ?_
  exact .two (.tmp rfl (.one (.d (.refl _)))) (.tmp rfl (.one (.d (.refl _))))
 |false =>
  rw[hb]at hf
  rw[get_none hm hb hs]
  try refine wk ?_
  exact .two (.tmp rfl (.one (.d (.refl _)))) (.tmp rfl (.one (.d (.refl _))))
theorem ok_pput (l:List Pair) (k:Str) (n:Int) (hl:l.length≤268435456) (hs:Srt Pair.key l):FnOk Tryd.prog 15 [.d (encRows l),.d (dstr k),.d (dint n)] (.one (encRows (putS k n l))):=by
 refine fnOk_of tbl_ok mixed_ok Tryd.func15 rfl (by kernel_rfl) rfl rfl fun w0 own0=>?_
 obtain⟨m,hm⟩:=hs.at k
 have hml:=hm.le
 have hf:=ok_rfind l k m hl hm
 have hn:=new_clone_pair (l.map Pair.enc) (by simp;omega)
 cases hb:isAtR l k m with
 |true =>
  obtain⟨c,hc,hck⟩:=atr_some hb
  have hmlt:=(List.getElem?_eq_some_iff.1 hc).1
  rw[hb]at hf
  rw[putS_found hm hc hck]
  repeat(first|refine wa ?_|((with_reducible apply s5);(first|exact a_callnew hn rfl rfl by_sub|exact by_oa|exact by_ca);exact by_g)|refine wb ?_)
  refine .one (.tmp rfl (.one (.own rfl (by simp) (dle_eq ?_))))
  show D.sl 2 _=D.sl 2 _
  congr 1
  rw[List.map_set]
  congr 1
 |false =>
  rw[hb]at hf
  rw[putS_new hm hb]
  have hi:=upd_insertP (l.map Pair.enc) m (dstr k) (dint n) (by simp;omega) (by simp;omega)
  repeat(first|refine wa ?_|((with_reducible apply s5);(first|exact a_callnew hn rfl rfl by_sub|(focus ((with_reducible apply a_upd);exact hi;(iterate 3 exact rfl);(focus first|exact rfl|(simp;done)|(simp;omega));exact rfl;exact by_sub))|exact by_oa|exact by_ca);exact by_g)|refine wb ?_)
  refine .one (.tmp rfl (.one (.own rfl (by simp) (dle_eq ?_))))
  show D.sl 2 _=D.sl 2 _
  congr 1
  simp[Pair.enc]
theorem ok_pdrop (l:List Pair) (k:Str) (hl:l.length≤268435456) (hs:Srt Pair.key l):FnOk Tryd.prog 17 [.d (encRows l),.d (dstr k)] (.one (encRows (dropS k l))):=by
 refine fnOk_of tbl_ok mixed_ok Tryd.func17 rfl (by kernel_rfl) rfl rfl fun w0 own0=>?_
 obtain⟨m,hm⟩:=hs.at k
 have hml:=hm.le
 have hf:=ok_rfind l k m hl hm
 have hn:=new_clone_pair (l.map Pair.enc) (by simp;omega)
 cases hb:isAtR l k m with
 |true =>
  obtain⟨c,hc,hck⟩:=atr_some hb
  have hmlt:=(List.getElem?_eq_some_iff.1 hc).1
  rw[hb]at hf
  rw[dropS_found hm hc hck]
  have hd:=upd_delete (l.map Pair.enc) m (by simpa using hmlt) (by simp;omega)
  repeat(first|refine wa ?_|((with_reducible apply s5);(first|exact a_callnew hn rfl rfl by_sub|(focus ((with_reducible apply a_upd);exact hd;(iterate 3 exact rfl);(focus first|exact rfl|(simp;done)|(simp;omega));exact rfl;exact by_sub))|exact by_oa|exact by_ca);exact by_g)|refine wb ?_)
  refine .one (.tmp rfl (.one (.own rfl (by simp) (dle_eq ?_))))
  show D.sl 2 _=D.sl 2 _
  congr 1
  simp
 |false =>
  rw[hb]at hf
  rw[dropS_at hm hb hs]
  repeat(first|refine wa ?_|((with_reducible apply s5);(first|exact a_callnew hn rfl rfl by_sub|exact by_oa|exact by_ca);exact by_g)|refine wb ?_)
  exact .one (.tmp rfl (.one (.own rfl (by simp) (.refl _))))
end Go.Proofs.YtngnajknbeijjaaDoor
namespace Go.Proofs.YtngnajknbeijjaaDoor
open Go.AX Go.RF
set_option maxRecDepth 100000
theorem ok_SameRows (l r:List Pair) (hl:l.length≤1073741824):FnOk Tryd.prog 14 [.d (encRows l),.d (encRows r)] (.one (dbool (allB (fun a b=>decide (a=b)) l r))):=by
 refine fnOk_of tbl_ok mixed_ok Tryd.func14 rfl (by kernel_rfl) rfl rfl fun w0 own0=>?_
 by_cases hlen:l.length=r.length
 ·
  try refine wk ?_
  refine CW.loop (fun k=>[(.s 0,.av (.d (encRows l))),(.s 1,.av (.d (encRows r))),(.s 11,.av (.d (encRows l))),(.s 12,.av (.d (dint l.length))),(.s 13,.av (.d (dint k))),(.nx,.num 0)]) (agree (fun a b=>decide (a=b)) l r) ?_ fun k hk=>?_
  ·
   exact by_less
  ·
   rcases agree_case hlen hk with ⟨h1,h1',a,b,h2,h3,h4⟩|⟨h1,h2⟩|⟨h1,h2,a,b,h3,h4,h5⟩
   ·
    replace h4:a=b:=by simpa using h4
    repeat(first|refine wa ?_|((with_reducible apply s5);(first|((with_reducible apply a_agg);exact neq_pair a b;(iterate 5 exact rfl))|exact by_oa|exact by_ca);exact by_g)|refine wb ?_)
    refine q_loop h1 ?_
    exact by_less
   ·
    try refine wk ?_
    exact .one (.tmp rfl (.one (.d (dle_bool h2.symm))))
   ·
    replace h5:¬ a=b:=by simpa using h5
    repeat(first|refine wa ?_|((with_reducible apply s5);(first|((with_reducible apply a_agg);exact neq_pair a b;(iterate 5 exact rfl))|exact by_oa|exact by_ca);exact by_g)|refine wb ?_)
    exact .one (.tmp rfl (.one (.d (dle_bool h2.symm))))
 ·
  try refine wk ?_
  refine .one (.tmp rfl (.one (.d (dle_bool ?_))))
  cases hb:allB (fun a b=>decide (a=b)) l r
  ·
   rfl
  ·
   exact absurd (allB_len hb) hlen
set_option maxHeartbeats 4000000
theorem ok_put (l:List Pair) (k:Str) (n:Int) (hs:Bool) (hl:l.length≤268435456):FnOk Tryd.prog 16 [.d (encRows l),.d (dstr k),.d (dint n),.d (dbool hs)] (.one (encRows (put l k n hs))):=by
 refine fnOk_of tbl_ok mixed_ok Tryd.func16 rfl (by kernel_rfl) rfl rfl fun w0 own0=>?_
 try refine wk ?_
 refine CW.stut (stut_promote (i:=9) 40 2) ⟨rfl,rfl,trivial⟩ ?_
 refine CW.loopT (fun t:Nat×Bool×List Pair=>[(.s 1,.av (.d (dstr k))),(.s 2,.av (.d (dint n))),(.s 3,.av (.d (dbool hs))),(.s 9,.av (.own 0 t.2.2.length)),(.s 10,.av (.d (dbool t.2.1))),(.s 13,.av (.d (encRows l))),(.s 14,.av (.d (dint l.length))),(.s 15,.av (.d (dint t.1))),(.o 0,.ob (.arr 40 2 (t.2.2.map Pair.enc))),(.nx,.num 1)])
  (fun t=>t.1≤l.length∧t.2.2.length≤2*t.1∧putGo k n hs t.2.1 t.2.2 (l.drop t.1)=put l k n hs) (fun t=>l.length - t.1) (0,false,[]) ⟨by omega,by simp,rfl⟩ ?_ ?_
 ·
  exact by_less
 ·
  rintro ⟨i,done,out⟩ ⟨hi,ho,hI⟩
  dsimp only at hi ho hI ⊢
  rcases drop_case hi with ⟨h1,h2⟩|⟨p,h1,h2,h3⟩
  ·
   rw[h1]at hI
   simp only[putGo]at hI
   cases done
   ·
    cases hs
    ·
     try refine wk ?_
     exact .one (.tmp rfl (.one (.own rfl (by simp) (dle_eq (by rw[← hI];rfl)))))
    ·
     try refine wk ?_
     exact .one (.tmp rfl (.one (.own rfl (by simp) (dle_eq (by rw[← hI];simp[encRows];rfl)))))
   ·
    try refine wk ?_
    exact .one (.tmp rfl (.one (.own rfl (by simp) (dle_eq (by rw[← hI];rfl)))))
  ·
   rw[h1]at hI
   simp only[putGo]at hI
   cases done <;> cases h5:slt p.key k <;> cases hs <;> simp[h5]at hI <;> by_cases h4:p.key=k <;> (first|rw[if_pos h4]at hI|rw[if_neg h4]at hI)
   all_goals
    try refine wk ?_
    refine q_loopT (i+1,_,_) ⟨by omega,?_,hI⟩ (by dsimp only;omega) ?_
    ·
     dsimp only;(first|omega|(simp;omega))
    ·
     exact by_less
set_option maxHeartbeats 8000000
structure Deed.Ok (d:Deed):Prop where
 i:∀ i∈d.code,i.Ok
 r:d.reads.length≤5
 w:d.writes.length≤5
 c:d.code.length≤12
def chOk (l:List Chain):Prop:=∀ c∈l,∀ v∈c.vs,nOk v.n
structure EInv (e:Engine) (N:Nat):Prop where
 z:Engine.Sz e N
 o:∀ d∈e.deeds,Deed.Ok d
 c:chOk e.chains
theorem EInv.mono {e:Engine}{N M:Nat}(h:EInv e N) (hm:N≤M):EInv e M:=by
 obtain⟨hz,ho,hc⟩:=h
 refine⟨⟨by have:=hz.c;omega,fun c hc=>by have:=hz.v c hc;omega,by have:=hz.d;omega,hz.s,hz.n,by have:=hz.b;omega,hz.dd⟩,ho,hc⟩
def VSrt (l:List Version):Prop:=l.Pairwise fun a b=>a.by_ < b.by_
theorem VSrt.cons {v:Version}{l:List Version}:VSrt (v::l)↔(∀ w∈l,v.by_ < w.by_)∧VSrt l:=List.pairwise_cons
theorem allB_refl {α:Type}{f:α→α→Bool}(hf:∀ a,f a a=true):∀ l:List α,allB f l l=true
 | []=>rfl
 |a::l=>by simp[allB,hf,allB_refl hf l]
theorem wrongRowsGo_srt:∀ {l:List Pair}{i:Nat}{last:Str},wrongRowsGo (i+1) last l=0→(∀ p∈l,slt last p.key=true∧key p.key=true∧nOk p.n)∧Srt Pair.key l
 | [],i,last,_=>⟨by simp,List.Pairwise.nil⟩
 |p::l,i,last,h=>by
  simp only[wrongRowsGo]at h
  by_cases h1:key p.key=false
  ·
   rw[if_pos h1]at h;simp at h
  rw[if_neg h1]at h
  by_cases h2:0 < i+1∧sle p.key last=true
  ·
   rw[if_pos h2]at h;simp at h
  rw[if_neg h2]at h
  by_cases h3:1073741824 < p.n∨p.n < -1073741824
  ·
   rw[if_pos h3]at h;simp at h
  rw[if_neg h3]at h
  obtain⟨h4,h5⟩:=wrongRowsGo_srt h
  have h6:slt last p.key=true:=by
   have h7:¬ sle p.key last=true:=fun e=>h2 ⟨by omega,e⟩
   simp only[sle,Bool.or_eq_true,decide_eq_true_eq,not_or]at h7
   rcases slt_tri last p.key with h|h|h
   ·
    exact h
   ·
    exact absurd h.symm h7.2
   ·
    exact absurd h h7.1
  refine⟨fun q hq=>?_,List.pairwise_cons.2 ⟨fun q hq=>(h4 q hq).1,h5⟩⟩
  rcases List.mem_cons.1 hq with rfl|hq
  ·
   exact⟨h6,by simpa using h1,by unfold nOk;omega⟩
  ·
   exact⟨slt_trans h6 (h4 q hq).1,(h4 q hq).2⟩
theorem wrongRows_srt {l:List Pair}(h:wrongRows l=0):Srt Pair.key l∧(∀ p∈l,key p.key=true)∧rowsOk l:=by
 cases l with
 |nil=>exact⟨List.Pairwise.nil,by simp,by simp[rowsOk]⟩
 |cons p l =>
  simp only[wrongRows,wrongRowsGo]at h
  by_cases h1:key p.key=false
  ·
   rw[if_pos h1]at h;simp at h
  rw[if_neg h1,if_neg (by simp)]at h
  by_cases h3:1073741824 < p.n∨p.n < -1073741824
  ·
   rw[if_pos h3]at h;simp at h
  rw[if_neg h3]at h
  obtain⟨h4,h5⟩:=wrongRowsGo_srt h
  refine⟨List.pairwise_cons.2 ⟨fun q hq=>(h4 q hq).1,h5⟩,fun q hq=>?_,fun q hq=>?_⟩
  ·
   rcases List.mem_cons.1 hq with rfl|hq
   ·
    simpa using h1
   ·
    exact(h4 q hq).2.1
  ·
   rcases List.mem_cons.1 hq with rfl|hq
   ·
    unfold nOk;omega
   ·
    exact(h4 q hq).2.2
theorem get_put {k k':Str}{n:Int}:∀ {l:List Pair},RF.get (putS k n l) k'=if k=k' then (n,true) else RF.get l k'
 | []=>by simp[putS,RF.get]
 |p::l=>by
  simp only[putS]
  by_cases hk:p.key=k
  ·
   rw[if_pos hk]
   simp only[RF.get]
   by_cases h:k=k'
   ·
    simp[h]
   ·
    rw[if_neg h,if_neg h,if_neg (by rw[hk];exact h)]
  ·
   rw[if_neg hk]
   split
   ·
    simp only[RF.get]
    rw[get_put]
    by_cases h:p.key=k'
    ·
     rw[if_pos h,if_neg (fun e=>hk (by rw[h,e])),if_pos h]
    ·
     rw[if_neg h,if_neg h]
   ·
    simp only[RF.get]
theorem get_absent {k:Str}:∀ {l:List Pair},(∀ p∈l,p.key≠k)→RF.get l k=(0,false)
 | [],_=>rfl
 |p::l,h=>by
  simp only[RF.get]
  rw[if_neg (h p (List.mem_cons_self ..)),get_absent fun q hq=>h q (List.mem_cons_of_mem _ hq)]
theorem srt_absent {p:Pair}{l:List Pair}(hs:Srt Pair.key (p::l)):∀ q∈l,q.key≠p.key:=fun q hq e=>by
 have:=(List.pairwise_cons.1 hs).1 q hq
 rw[e,slt_irrefl]at this;cases this
theorem get_drop {k k':Str}:∀ {l:List Pair},Srt Pair.key l→RF.get (dropS k l) k'=if k=k' then (0,false) else RF.get l k'
 | [],_=>by simp[dropS,RF.get]
 |p::l,hs=>by
  simp only[dropS]
  by_cases hk:p.key=k
  ·
   rw[if_pos hk]
   by_cases h:k=k'
   ·
    rw[if_pos h]
    exact get_absent fun q hq=>by rw[← h,← hk];exact srt_absent hs q hq
   ·
    rw[if_neg h]
    simp only[RF.get]
    rw[if_neg (by rw[hk];exact h)]
  ·
   rw[if_neg hk]
   simp only[RF.get]
   rw[get_drop (List.pairwise_cons.1 hs).2]
   by_cases h:p.key=k'
   ·
    rw[if_pos h,if_neg (fun e=>hk (by rw[h,e])),if_pos h]
   ·
    rw[if_neg h,if_neg h]
theorem srt_ext:∀ {l r:List Pair},Srt Pair.key l→Srt Pair.key r→(∀ p,p∈l↔p∈r)→l=r
 | [],[],_,_,_=>rfl
 | [],q::r,_,_,h=>by have:=(h q).2 (List.mem_cons_self ..);simp at this
 |p::l,[],_,_,h=>by have:=(h p).1 (List.mem_cons_self ..);simp at this
 |p::l,q::r,hl,hr,h=>by
  obtain⟨l1,l2⟩:=List.pairwise_cons.1 hl
  obtain⟨r1,r2⟩:=List.pairwise_cons.1 hr
  have hpq:p=q:=by
   rcases List.mem_cons.1 ((h p).1 (List.mem_cons_self ..)) with e|e
   ·
    exact e
   ·
    rcases List.mem_cons.1 ((h q).2 (List.mem_cons_self ..)) with e'|e'
    ·
     exact e'.symm
    ·
     have:=slt_trans (l1 q e') (r1 p e)
     rw[slt_irrefl]at this;cases this
  subst hpq
  congr 1
  refine srt_ext l2 r2 fun x=>⟨fun hx=>?_,fun hx=>?_⟩
  ·
   rcases List.mem_cons.1 ((h x).1 (List.mem_cons_of_mem _ hx)) with e|e
   ·
    subst e;have:=l1 x hx;rw[slt_irrefl]at this;cases this
   ·
    exact e
  ·
   rcases List.mem_cons.1 ((h x).2 (List.mem_cons_of_mem _ hx)) with e|e
   ·
    subst e;have:=r1 x hx;rw[slt_irrefl]at this;cases this
   ·
    exact e
theorem mem_drop {k:Str}{p:Pair}:∀ {l:List Pair},Srt Pair.key l→(p∈dropS k l↔p∈l∧p.key≠k)
 | [],_=>by simp[dropS]
 |q::l,hs=>by
  simp only[dropS]
  by_cases hk:q.key=k
  ·
   rw[if_pos hk]
   constructor
   ·
    exact fun h=>⟨List.mem_cons_of_mem _ h,by rw[← hk];exact srt_absent hs p h⟩
   ·
    rintro ⟨h,hn⟩
    rcases List.mem_cons.1 h with rfl|h
    ·
     exact absurd hk hn
    ·
     exact h
  ·
   rw[if_neg hk,List.mem_cons,List.mem_cons,mem_drop (List.pairwise_cons.1 hs).2]
   constructor
   ·
    rintro (rfl|h)
    ·
     exact⟨.inl rfl,hk⟩
    ·
     exact⟨.inr h.1,h.2⟩
   ·
    rintro ⟨rfl|h,hn⟩
    ·
     exact .inl rfl
    ·
     exact .inr ⟨h,hn⟩
theorem mem_put {k:Str}{n:Int}{p:Pair}:∀ {l:List Pair},Srt Pair.key l→(p∈putS k n l↔p=⟨k,n⟩∨(p∈l∧p.key≠k))
 | [],_=>by simp[putS]
 |q::l,hs=>by
  obtain⟨h1,h2⟩:=List.pairwise_cons.1 hs
  simp only[putS]
  by_cases hk:q.key=k
  ·
   rw[if_pos hk,List.mem_cons,List.mem_cons]
   constructor
   ·
    rintro (h|h)
    ·
     exact .inl h
    ·
     exact .inr ⟨.inr h,by rw[← hk];exact srt_absent hs p h⟩
   ·
    rintro (h|⟨rfl|h,hn⟩)
    ·
     exact .inl h
    ·
     exact absurd hk hn
    ·
     exact .inr h
  ·
   rw[if_neg hk]
   split
   ·
    rw[List.mem_cons,List.mem_cons,mem_put h2]
    constructor
    ·
     rintro (rfl|h|h)
     ·
      exact .inr ⟨.inl rfl,hk⟩
     ·
      exact .inl h
     ·
      exact .inr ⟨.inr h.1,h.2⟩
    ·
     rintro (h|⟨rfl|h,hn⟩)
     ·
      exact .inr (.inl h)
     ·
      exact .inl rfl
     ·
      exact .inr (.inr ⟨h,hn⟩)
   ·
    next hlt =>
    have hkq:slt k q.key=true:=by
     rcases slt_tri q.key k with h|h|h
     ·
      exact absurd h hlt
     ·
      exact absurd h hk
     ·
      exact h
    rw[List.mem_cons]
    constructor
    ·
     rintro (h|h)
     ·
      exact .inl h
     ·
      refine .inr ⟨h,?_⟩
      rcases List.mem_cons.1 h with rfl|h
      ·
       exact hk
      ·
       exact fun e=>by have:=slt_trans hkq (h1 p h);rw[e,slt_irrefl]at this;cases this
    ·
     rintro (h|h)
     ·
      exact .inl h
     ·
      exact .inr h.1
theorem put_put {a b:Str}{n m:Int}{l:List Pair}(hs:Srt Pair.key l) (hab:a≠b):putS b m (putS a n l)=putS a n (putS b m l):=by
 refine srt_ext (putS_srt (putS_srt hs)) (putS_srt (putS_srt hs)) fun p=>?_
 rw[mem_put (putS_srt hs),mem_put hs,mem_put (putS_srt hs),mem_put hs]
 constructor
 ·
  rintro (h|⟨h|⟨h,h1⟩,h2⟩)
  ·
   exact .inr ⟨.inl h,by rw[h];exact fun e=>hab e.symm⟩
  ·
   exact .inl h
  ·
   exact .inr ⟨.inr ⟨h,h2⟩,h1⟩
 ·
  rintro (h|⟨h|⟨h,h1⟩,h2⟩)
  ·
   exact .inr ⟨.inl h,by rw[h];exact hab⟩
  ·
   exact .inl h
  ·
   exact .inr ⟨.inr ⟨h,h2⟩,h1⟩
theorem drop_put {a b:Str}{n:Int}{l:List Pair}(hs:Srt Pair.key l) (hab:a≠b):dropS b (putS a n l)=putS a n (dropS b l):=by
 refine srt_ext (dropS_srt (putS_srt hs)) (putS_srt (dropS_srt hs)) fun p=>?_
 rw[mem_drop (putS_srt hs),mem_put hs,mem_put (dropS_srt hs),mem_drop hs]
 constructor
 ·
  rintro ⟨h|⟨h,h1⟩,h2⟩
  ·
   exact .inl h
  ·
   exact .inr ⟨⟨h,h2⟩,h1⟩
 ·
  rintro (h|⟨⟨h,h1⟩,h2⟩)
  ·
   exact⟨.inl h,by rw[h];exact hab⟩
  ·
   exact⟨.inr ⟨h,h2⟩,h1⟩
theorem wrongRowsGo_of:∀ {l:List Pair}{i:Nat}{last:Str},Srt Pair.key l→(∀ p∈l,key p.key=true)→rowsOk l→(0 < i→∀ p∈l,slt last p.key=true)→wrongRowsGo i last l=0
 | [],i,last,_,_,_,_=>rfl
 |p::l,i,last,hs,hk,hn,hp=>by
  obtain⟨h1,h2⟩:=List.pairwise_cons.1 hs
  have h3:=hn p (List.mem_cons_self ..)
  simp only[wrongRowsGo]
  rw[if_neg (by rw[hk p (List.mem_cons_self ..)];simp),if_neg,if_neg (by unfold nOk at h3;omega)]
  ·
   exact wrongRowsGo_of h2 (fun q hq=>hk q (List.mem_cons_of_mem _ hq)) (fun q hq=>hn q (List.mem_cons_of_mem _ hq)) fun _=>h1
  ·
   rintro ⟨h4,h5⟩
   have h6:=hp h4 p (List.mem_cons_self ..)
   simp only[sle,Bool.or_eq_true,decide_eq_true_eq]at h5
   rcases h5 with h5|h5
   ·
    rw[slt_asymm h6]at h5;cases h5
   ·
    rw[h5,slt_irrefl]at h6;cases h6
theorem wrongRows_of {l:List Pair}(hs:Srt Pair.key l) (hk:∀ p∈l,key p.key=true) (hn:rowsOk l):wrongRows l=0:=wrongRowsGo_of hs hk hn (by omega)
theorem wrong_put {l:List Pair}{k:Str}{n:Int}(h:wrongRows l=0) (hk:key k=true) (hn:nOk n):wrongRows (putS k n l)=0:=by
 obtain⟨h1,h2,h3⟩:=wrongRows_srt h
 refine wrongRows_of (putS_srt h1) (fun p hp=>?_) fun p hp=>?_
 ·
  rcases putS_mem hp with hp|rfl
  ·
   exact h2 p hp
  ·
   exact hk
 ·
  rcases putS_mem hp with hp|rfl
  ·
   exact h3 p hp
  ·
   exact hn
theorem wrong_drop {l:List Pair}{k:Str}(h:wrongRows l=0):wrongRows (dropS k l)=0:=by
 obtain⟨h1,h2,h3⟩:=wrongRows_srt h
 exact wrongRows_of (dropS_srt h1) (fun p hp=>h2 p ((dropS_sub l).subset hp)) fun p hp=>h3 p ((dropS_sub l).subset hp)
def alpha:List UInt8:=[97,98,99,100,101,102,103,104,105,106,107,108,109,110,111,112,113,114,115,116,117,118,119,120,121,122]
theorem alpha_bad (c:UInt8):alpha.contains c = !bad c:=by
 have h:∀ n:Fin 256,alpha.contains (UInt8.ofFin n) = !bad (UInt8.ofFin n):=by decide +kernel
 have:=h c.toFin
 rwa [UInt8.ofFin_toFin]at this
theorem dropWhile_nil {p:UInt8→Bool}:∀ {l:List UInt8},l.dropWhile p=[]↔∀ x∈l,p x=true
 | []=>by simp
 |x::l=>by
  cases h:p x with
  |true=>rw[List.dropWhile_cons_of_pos h,dropWhile_nil];simp[h]
  |false=>rw[List.dropWhile_cons_of_neg (by simp[h])];simp[h]
theorem dropWhile_head {p:UInt8→Bool}:∀ {l r:List UInt8}{x:UInt8},l.dropWhile p=x::r→p x=false
 | [],r,x,h=>by simp at h
 |y::l,r,x,h=>by
  cases hy:p y with
  |true=>rw[List.dropWhile_cons_of_pos hy]at h;exact dropWhile_head h
  |false=>rw[List.dropWhile_cons_of_neg (by simp[hy])]at h;cases h;exact hy
theorem trim_nil {l cs:List UInt8}:Lib.trimS l cs=[]↔∀ x∈l,cs.contains x=true:=by
 unfold Lib.trimS Lib.trimLeftS Lib.trimRightS
 rw[dropWhile_nil]
 constructor
 ·
  intro h
  have h1:l.reverse.dropWhile (cs.contains ·)=[]:=by
   cases h2:l.reverse.dropWhile (cs.contains ·) with
   |nil=>rfl
   |cons x r =>
    have h3:=dropWhile_head h2
    have h4:=h x (by rw[h2];simp)
    rw[h3]at h4;cases h4
  intro x hx
  exact dropWhile_nil.1 h1 x (by simpa using hx)
 ·
  intro h x hx
  have h1:l.reverse.dropWhile (cs.contains ·)=[]:=dropWhile_nil.2 fun x hx=>h x (by simpa using hx)
  rw[h1]at hx;simp at hx
theorem keyGo_eq {s:Str}:∀ {r:Str},keyGo s r=((r.all fun c => !bad c)&&(decide (0 < s.length)&&decide (s.length < 7)))
 | []=>by simp[keyGo]
 |c::r=>by
  simp only[keyGo,List.all_cons]
  rw[keyGo_eq]
  cases bad c <;> simp
theorem key_trim (s:Str):key s=(decide (1≤s.length)&&(decide (s.length≤6)&&decide (Lib.trimS s alpha=[]))):=by
 unfold key
 rw[keyGo_eq]
 have h1:(s.all fun c => !bad c)=decide (Lib.trimS s alpha=[]):=by
  rw[Bool.eq_iff_iff,decide_eq_true_eq,trim_nil,List.all_eq_true]
  simp only[alpha_bad]
 rw[h1]
 have h2:decide (0 < s.length)=decide (1≤s.length):=by congr 1
 have h3:decide (s.length < 7)=decide (s.length≤6):=by congr 1;exact propext ⟨fun h=>by omega,fun h=>by omega⟩
 rw[h2,h3]
 cases decide (Lib.trimS s alpha=[]) <;> cases decide (1≤s.length) <;> cases decide (s.length≤6) <;> rfl
theorem sle_not (a b:Str):sle a b = !slt b a:=by
 rcases slt_tri a b with h|h|h
 ·
  simp[sle,h,slt_asymm h]
 ·
  subst h;simp[sle,slt_irrefl]
 ·
  have h1:=slt_asymm h
  have h2:a≠b:=fun e=>by subst e;rw[slt_irrefl]at h;cases h
  simp[sle,h,h1,h2]
end Go.Proofs.YtngnajknbeijjaaDoor
namespace Go.Proofs
open Go.Shelf Go.RowKit
set_option maxRecDepth 100000
noncomputable def Tryd.lays160_ren : Go.Shelf.Ren := ⟨fun | 119 => 48 | 120 => 44 | 137 => 47 | 151 => 38 | 152 => 43 | 160 => 19 | 197 => 37 | 217 => 51 | 224 => 49 | 225 => 50 | 227 => 26 | 228 => 36 | 231 => 24 | 232 => 25 | 233 => 27 | 234 => 28 | 235 => 29 | 236 => 30 | 260 => 42 | 266 => 52 | 271 => 39 | n => n, fun | 0 => 0 | 3 => 3 | 4 => 4 | 5 => 5 | 9 => 9 | 21 => 21 | 46 => 60 | 105 => 57 | 116 => 46 | 117 => 47 | 119 => 63 | 124 => 50 | 138 => 65 | 139 => 66 | n => n, fun | 3 => (Tryd.prog.globals.findIdx? (·.name == "unicode/utf8.first")).getD 0 | 4 => (Tryd.prog.globals.findIdx? (·.name == "unicode/utf8.acceptRanges")).getD 0 | n => n⟩
theorem Tryd.lays160:Go.Proofs.Lays.n160 Tryd.prog Tryd.lays160_ren:={
 mixed:=by kernel_rfl
 f119:=Tryd.func48.trans (congrArg some (by kernel_rfl))
 f120:=Tryd.func44.trans (congrArg some (by kernel_rfl))
 f137:=Tryd.func47.trans (congrArg some (by kernel_rfl))
 f151:=Tryd.func38.trans (congrArg some (by kernel_rfl))
 f152:=Tryd.func43.trans (congrArg some (by kernel_rfl))
 f160:=Tryd.func19.trans (congrArg some (by kernel_rfl))
 f197:=Tryd.func37.trans (congrArg some (by kernel_rfl))
 f217:=Tryd.func51.trans (congrArg some (by kernel_rfl))
 f224:=Tryd.func49.trans (congrArg some (by kernel_rfl))
 f225:=Tryd.func50.trans (congrArg some (by kernel_rfl))
 f227:=Tryd.func26.trans (congrArg some (by kernel_rfl))
 f228:=Tryd.func36.trans (congrArg some (by kernel_rfl))
 f231:=Tryd.func24.trans (congrArg some (by kernel_rfl))
 f232:=Tryd.func25.trans (congrArg some (by kernel_rfl))
 f233:=Tryd.func27.trans (congrArg some (by kernel_rfl))
 f234:=Tryd.func28.trans (congrArg some (by kernel_rfl))
 f235:=Tryd.func29.trans (congrArg some (by kernel_rfl))
 f236:=Tryd.func30.trans (congrArg some (by kernel_rfl))
 f260:=Tryd.func42.trans (congrArg some (by kernel_rfl))
 f266:=Tryd.func52.trans (congrArg some (by kernel_rfl))
 f271:=Tryd.func39.trans (congrArg some (by kernel_rfl))
 t0:=Tryd.underlying0
 a0:=Tryd.isAgg0
 z0:=Tryd.sizeOf0
 v0:=Tryd.zeroValue0
 t3:=Tryd.underlying3
 a3:=Tryd.isAgg3
 z3:=Tryd.sizeOf3
 v3:=Tryd.zeroValue3
 t4:=Tryd.underlying4
 a4:=Tryd.isAgg4
 z4:=Tryd.sizeOf4
 v4:=Tryd.zeroValue4
 t5:=Tryd.underlying5
 a5:=Tryd.isAgg5
 z5:=Tryd.sizeOf5
 v5:=Tryd.zeroValue5
 t9:=Tryd.underlying9
 a9:=Tryd.isAgg9
 z9:=Tryd.sizeOf9
 v9:=Tryd.zeroValue9
 t21:=Tryd.underlying21
 a21:=Tryd.isAgg21
 z21:=Tryd.sizeOf21
 v21:=Tryd.zeroValue21
 t46:=Tryd.underlying60
 a46:=Tryd.isAgg60
 z46:=Tryd.sizeOf60
 v46:=Tryd.zeroValue60
 t105:=Tryd.underlying57
 a105:=Tryd.isAgg57
 z105:=Tryd.sizeOf57
 v105:=Tryd.zeroValue57
 t116:=Tryd.underlying46
 a116:=Tryd.isAgg46
 z116:=Tryd.sizeOf46
 t117:=Tryd.underlying47
 a117:=Tryd.isAgg47
 z117:=Tryd.sizeOf47
 v117:=Tryd.zeroValue47
 t119:=Tryd.underlying63
 a119:=Tryd.isAgg63
 z119:=Tryd.sizeOf63
 t124:=Tryd.underlying50
 a124:=Tryd.isAgg50
 z124:=Tryd.sizeOf50
 v124:=Tryd.zeroValue50
 t138:=Tryd.underlying65
 a138:=Tryd.isAgg65
 z138:=Tryd.sizeOf65
 v138:=Tryd.zeroValue65
 t139:=Tryd.underlying66
 a139:=Tryd.isAgg66
 z139:=Tryd.sizeOf66
 v139:=Tryd.zeroValue66
 g3:=by kernel_rfl
 g4:=by kernel_rfl
 }
end Go.Proofs
namespace Go.Proofs.YtngnajknbeijjaaDoor
open Go.AX Go.RF Go.RowKit
set_option maxRecDepth 100000
set_option maxHeartbeats 8000000
theorem ok_round2 (n:Int) (hn:inI n):FnOk Tryd.prog 11 [.d (dint n)] (.one (dint (round n))):=by
 refine fnOk_of tbl_ok mixed_ok Tryd.func11 rfl (by kernel_rfl) rfl rfl fun w0 own0=>?_
 have h1:n.tdiv 1073741825*1073741825+n.tmod 1073741825=n:=Int.tdiv_mul_add_tmod n 1073741825
 have h2:n.tmod 1073741825 < 1073741825:=Int.tmod_lt_of_pos n (by omega)
 have h3 : -1073741825 < n.tmod 1073741825:=by
  have h4:=Int.tmod_lt_of_pos (-n) (show(0:Int) < 1073741825 by omega)
  rw[Int.neg_tmod]at h4
  omega
 have h5:n.tmod 1073741825=0∨(0 < n∧0≤n.tmod 1073741825)∨(n < 0∧n.tmod 1073741825≤0):=by
  rcases Int.lt_trichotomy n 0 with h|h|h
  ·
   have h4:=Int.tmod_nonneg (a := -n) 1073741825 (by omega)
   rw[Int.neg_tmod]at h4
   exact .inr (.inr ⟨h,by omega⟩)
  ·
   subst h;exact .inl rfl
  ·
   exact .inr (.inl ⟨h,Int.tmod_nonneg 1073741825 (by omega)⟩)
 obtain⟨hn1,hn2⟩:=hn
 repeat(first|((with_reducible apply st_bin);exact rfl;exact rfl;(first|(apply bin_quo;omega;omega)|(apply bin_mul;omega)|(apply bin_sub;omega));exact .none rfl;exact rfl)|refine wa1 ?_|((with_reducible apply s5);(first|exact by_oa|exact by_ca);exact by_g)|refine wb ?_)
 exact .one (.tmp rfl (.one (.d (.refl _))))
theorem ok_trim (s:Str) (hs:s.length≤1073741824):FnOk Tryd.prog 19 [.d (dstr s),.d (dstr alpha)] (.one (dstr (Lib.trimS s alpha))):=by
 refine⟨⟨_,Tryd.func19,by kernel_rfl,by kernel_rfl⟩,fun w own vs hown ha=>?_⟩
 match vs,ha with
 | [x,y],⟨h1,h2,_⟩ =>
  obtain rfl:x=str s:=rd_v h1
  obtain rfl:y=str alpha:=rd_v h2
  refine(Any.strings_Trim_laid Tryd.lays160 (by kernel_rfl) ⟨s.toArray⟩ ⟨alpha.toArray⟩ w (by show s.toArray.size≤_;simp;omega) (by decide) (ascii_of_all (by decide))).mono fun e w' he=>?_
  obtain⟨rfl,hb⟩:=he
  exact⟨_,rfl,hb,Rd.v _⟩
theorem ok_pkey (s:Str) (hs:s.length≤1073741824):FnOk Tryd.prog 6 [.d (dstr s)] (.one (dbool (key s))):=by
 refine fnOk_of tbl_ok mixed_ok Tryd.func6 rfl (by kernel_rfl) rfl rfl fun w0 own0=>?_
 have ht:=ok_trim s hs
 rw[key_trim]
 by_cases h1:1≤s.length
 ·
  by_cases h2:s.length≤6
  ·
   try refine wk ?_
   exact .one (.tmp rfl (.one (.d (dle_bool (by simp[h1,h2])))))
  ·
   try refine wk ?_
   exact .one (.tmp rfl (.one (.d (dle_bool (by simp[h2])))))
 ·
  try refine wk ?_
  exact .one (.tmp rfl (.one (.d (dle_bool (by simp[h1])))))
def prevR (l:List Pair):Nat→Str
 |0=>[]
 |j+1=>match l[j]? with
  |some p=>p.key
  |none=>[]
theorem ok_pwrongRows (l:List Pair) (hl:l.length≤268435456) (hk:∀ p∈l,p.key.length≤1073741824):FnOk Tryd.prog 8 [.d (encRows l)] (.one (dint (wrongRows l))):=by
 refine fnOk_of tbl_ok mixed_ok Tryd.func8 rfl (by kernel_rfl) rfl rfl fun w0 own0=>?_
 try refine wk ?_
 refine CW.loopT (fun i:Nat=>[sd 0 (encRows l),sd 5 (encRows l),sd 6 (dint l.length),sd 7 (dint i),nxt 0])
  (fun i=>i≤l.length∧wrongRowsGo i (prevR l i) (l.drop i)=wrongRows l) (fun i=>l.length - i) 0 ⟨by omega,rfl⟩ ?_ ?_
 ·
  exact by_less
 ·
  rintro i ⟨hi,hI⟩
  rcases drop_case hi with ⟨h1,h2⟩|⟨p,h1,h2,h3⟩
  ·
   rw[h1]at hI
   simp only[wrongRowsGo]at hI
   try refine wk ?_
   exact .one (.tmp rfl (.one (.d (dle_int hI))))
  ·
   rw[h1]at hI
   simp only[wrongRowsGo]at hI
   have hc:=ok_pkey p.key (hk p (List.mem_of_getElem? h2))
   have hnx:prevR l (i+1)=p.key:=by simp[prevR,h2]
   cases h4:key p.key
   ·
    rw[if_pos h4]at hI
    rw[h4]at hc
    try refine wk ?_
    exact .one (.tmp rfl (.one (.d (dle_int hI))))
   ·
    rw[if_neg (by simp[h4])]at hI
    rw[h4]at hc
    have tail:(0 < i→slt (prevR l i) p.key=true)→(if 1073741824 < p.n∨p.n < -1073741824 then (3:Int) else wrongRowsGo (i+1) p.key (l.drop (i+1)))=wrongRows l:=fun h=>by
     rw[if_neg (fun h5=>by
      have h6:=h h5.1
      have h7:=h5.2
      rw[sle_not,h6]at h7;cases h7)]at hI
     exact hI
    cases i with
    |zero =>
     have hI':=tail (by omega)
     by_cases h7:p.n < -1073741824
     ·
      rw[if_pos (.inr h7)]at hI'
      try refine wk ?_
      exact .one (.tmp rfl (.one (.d (dle_int hI'))))
     ·
      by_cases h8:1073741824 < p.n
      ·
       rw[if_pos (.inl h8)]at hI'
       try refine wk ?_
       exact .one (.tmp rfl (.one (.d (dle_int hI'))))
      ·
       rw[if_neg (by omega)]at hI'
       try refine wk ?_
       refine q_loopT (0+1) ⟨by omega,by rw[hnx];exact hI'⟩ (by omega) ?_
       exact by_less
    |succ j =>
     obtain⟨q,hq⟩:∃ q,l[j]? = some q:=⟨l[j]'(by omega),List.getElem?_eq_getElem (by omega)⟩
     have hpv:prevR l (j+1)=q.key:=by simp[prevR,hq]
     have hcast:(((j+1:Nat):Int) - 1)=((j:Nat):Int):=by omega
     cases h6:slt q.key p.key with
     |false =>
      have h6':Go.Op.bytesLess q.key p.key=false:=h6
      rw[if_pos ⟨by omega,by rw[hpv,sle_not,h6];rfl⟩]at hI
      repeat(first|refine wa ?_|((with_reducible apply s5);(first|((with_reducible apply a_ia);(iterate 5 exact rfl);rw[hcast];apply idx_map;assumption)|exact by_oa|exact by_ca);exact by_g)|refine wb ?_)
      exact .one (.tmp rfl (.one (.d (dle_int hI))))
     |true =>
      have h6':Go.Op.bytesLess q.key p.key=true:=h6
      have hI':=tail fun _=>by rw[hpv];exact h6
      by_cases h7:p.n < -1073741824
      ·
       rw[if_pos (.inr h7)]at hI'
       repeat(first|refine wa ?_|((with_reducible apply s5);(first|((with_reducible apply a_ia);(iterate 5 exact rfl);rw[hcast];apply idx_map;assumption)|exact by_oa|exact by_ca);exact by_g)|refine wb ?_)
       exact .one (.tmp rfl (.one (.d (dle_int hI'))))
      ·
       by_cases h8:1073741824 < p.n
       ·
        rw[if_pos (.inl h8)]at hI'
        repeat(first|refine wa ?_|((with_reducible apply s5);(first|((with_reducible apply a_ia);(iterate 5 exact rfl);rw[hcast];apply idx_map;assumption)|exact by_oa|exact by_ca);exact by_g)|refine wb ?_)
        exact .one (.tmp rfl (.one (.d (dle_int hI'))))
       ·
        rw[if_neg (by omega)]at hI'
        repeat(first|refine wa ?_|((with_reducible apply s5);(first|((with_reducible apply a_ia);(iterate 5 exact rfl);rw[hcast];apply idx_map;assumption)|exact by_oa|exact by_ca);exact by_g)|refine wb ?_)
        refine q_loopT (j+1+1) ⟨by omega,by rw[hnx];exact hI'⟩ (by omega) ?_
        exact by_less
end Go.Proofs.YtngnajknbeijjaaDoor
namespace Go.Proofs.YtngnajknbeijjaaDoor
open Go.AX Go.RF
set_option maxRecDepth 100000
set_option maxHeartbeats 4000000
theorem ok_wrongRows (l:List Pair) (hl:l.length≤268435456) (hk:∀ p∈l,p.key.length≤1073741824):FnOk Tryd.prog 9 [.d (encRows l)] (.one (dint (wrongRows l))):=by
 refine fnOk_of tbl_ok mixed_ok Tryd.func9 rfl (by kernel_rfl) rfl rfl fun w0 own0=>?_
 try refine wk ?_
 refine CW.loopT (fun t:Nat×Str=>[(.s 3,.av (.d (dstr t.2))),(.s 6,.av (.d (encRows l))),(.s 7,.av (.d (dint l.length))),(.s 8,.av (.d (dint t.1))),(.nx,.num 0)])
  (fun t=>t.1≤l.length∧wrongRowsGo t.1 t.2 (l.drop t.1)=wrongRows l) (fun t=>l.length - t.1) (0,[]) ⟨by omega,rfl⟩ ?_ ?_
 ·
  exact by_less
 ·
  rintro ⟨i,last⟩ ⟨hi,hI⟩
  dsimp only at hi hI ⊢
  rcases drop_case hi with ⟨h1,h2⟩|⟨p,h1,h2,h3⟩
  ·
   rw[h1]at hI
   simp only[wrongRowsGo]at hI
   try refine wk ?_
   exact .one (.tmp rfl (.one (.d (dle_int hI))))
  ·
   rw[h1]at hI
   simp only[wrongRowsGo]at hI
   have hc:=ok_key p.key (hk p (List.mem_of_getElem? h2))
   cases h4:key p.key
   ·
    rw[if_pos h4]at hI
    try refine wk ?_
    exact .one (.tmp rfl (.one (.d (dle_int hI))))
   ·
    rw[if_neg (by simp[h4])]at hI
    by_cases h5:0 < i
    ·
     cases h6:sle p.key last
     ·
      rw[if_neg (by simp[h6])]at hI
      have h6':(Go.Op.bytesLess p.key last || decide (p.key=last))=false:=h6
      by_cases h7:1073741824 < p.n
      ·
       rw[if_pos (.inl h7)]at hI
       try refine wk ?_
       exact .one (.tmp rfl (.one (.d (dle_int hI))))
      ·
       by_cases h8:p.n < -1073741824
       ·
        rw[if_pos (.inr h8)]at hI
        try refine wk ?_
        exact .one (.tmp rfl (.one (.d (dle_int hI))))
       ·
        rw[if_neg (by omega)]at hI
        try refine wk ?_
        refine q_loopT (i+1,_) ⟨by omega,hI⟩ (by dsimp only;omega) ?_
        exact by_less
     ·
      rw[if_pos ⟨h5,h6⟩]at hI
      have h6':(Go.Op.bytesLess p.key last || decide (p.key=last))=true:=h6
      try refine wk ?_
      exact .one (.tmp rfl (.one (.d (dle_int hI))))
    ·
     rw[if_neg (by simp;omega)]at hI
     by_cases h7:1073741824 < p.n
     ·
      rw[if_pos (.inl h7)]at hI
      try refine wk ?_
      exact .one (.tmp rfl (.one (.d (dle_int hI))))
     ·
      by_cases h8:p.n < -1073741824
      ·
       rw[if_pos (.inr h8)]at hI
       try refine wk ?_
       exact .one (.tmp rfl (.one (.d (dle_int hI))))
      ·
       rw[if_neg (by omega)]at hI
       try refine wk ?_
       refine q_loopT (i+1,_) ⟨by omega,hI⟩ (by dsimp only;omega) ?_
       exact by_less
end Go.Proofs.YtngnajknbeijjaaDoor
namespace Go.AX
open Go.RowKit
section
variable {P:Program}{t:TypeId}
theorem bin_bneq {a b:Bool}(h:P.underlying t=some .bool):BinR P .neq t (.bool a) (.bool b) (.bool (!decide (a=b))):=by
 intro w x y
 rw[Sem.run_bind,eqGuard_at_bool,Sem.run_pure,Result.andThen_ok,run_neq_bool _ _ _ _ h]
 cases a <;> cases b <;> rfl
theorem bin_beql {a b:Bool}(h:P.underlying t=some .bool):BinR P .eql t (.bool a) (.bool b) (.bool (decide (a=b))):=by
 intro w x y
 simp only[Sem.run_bind,eqGuard_at_bool,Sem.run_pure,Result.andThen_ok,binOp,run_equal_bool _ _ _ _ h]
 cases a <;> cases b <;> rfl
end
variable {cx:Cx}{g:Nat→Value}{σ σ':St}{a:Act}{w w':World}{nx:Nat}
variable {ty:TypeId}{pos:String}{af:Array Edge}{gd:Option (Nat×Bool)}{d:Nat}
end Go.AX
namespace Go.Proofs.YtngnajknbeijjaaDoor
open Go.AX Go.RF
set_option maxRecDepth 100000
set_option maxHeartbeats 8000000
theorem ok_RowsTells (l:List Pair) (k:Str) (n:Int) (hl:l.length≤1048576) (hlk:∀ q∈l,q.key.length≤1048576) (hk:k.length≤1048576) (hn:inI n) :
  FnOk Tryd.prog 3 [.d (encRows l),.d (dstr k),.d (dint n)] (.one (dbool true)):=by
 refine fnOk_of tbl_ok mixed_ok Tryd.func3 rfl (by kernel_rfl) rfl rfl fun w0 own0=>?_
 have c1:=ok_pkey k (by omega)
 have c2:=ok_key k (by omega)
 have c3:=ok_pwrongRows l (by omega) (fun q hq=>by have:=hlk q hq;omega)
 have c4:=ok_wrongRows l (by omega) (fun q hq=>by have:=hlk q hq;omega)
 have c5:=ok_pround n hn
 have c6:=ok_round2 n hn
 by_cases hw:wrongRows l=0
 ·
  cases hkk:key k with
  |false =>
   rw[hkk]at c1 c2
   repeat(first|refine wa ?_|((with_reducible apply s5);(first|((with_reducible apply a_bin);(iterate 2 exact rfl);(first|exact bin_bneq (by kernel_rfl)|exact bin_beql (by kernel_rfl));exact rfl)|exact by_oa|exact by_ca);exact by_g)|refine wb ?_)
   exact .one (.tmp rfl (.one (.d (.refl _))))
  |true =>
   rw[hkk]at c1 c2
   have hs:=(wrongRows_srt hw).1
   have c7:=ok_pget l k (by omega) hs
   have c8:=ok_get l k (by omega)
   have c9:=ok_pput l k n (by omega) hs
   have c10:=ok_put l k n true (by omega)
   rw[put_true hs]at c10
   have c11:=ok_SameRows (putS k n l) (putS k n l) (by have:=putS_len (k:=k) (n:=n) l;omega)
   rw[allB_refl (by simp)]at c11
   have c12:=ok_pdrop l k (by omega) hs
   have c13:=ok_put l k 0 false (by omega)
   rw[put_false hs]at c13
   have c14:=ok_SameRows (dropS k l) (dropS k l) (by have:=dropS_len (k:=k) l;omega)
   rw[allB_refl (by simp)]at c14
   repeat(first|refine wa ?_|((with_reducible apply s5);(first|(focus ((with_reducible apply(a_call c10));exact rfl;(repeat(first|exact SubsE.nil|(apply SubsE.cons;exact rfl;(first|exact .d (.refl _)|exact .d (.nil _)|exact .agg rfl (.refl _)|exact .pd|exact .ptr rfl);(first|exact trivial|exact⟨rfl,trivial⟩))));done))|(focus ((with_reducible apply(a_call c11));exact rfl;(repeat(first|exact SubsE.nil|(apply SubsE.cons;exact rfl;(first|exact .d (.refl _)|exact .d (.nil _)|exact .agg rfl (.refl _)|exact .pd|exact .ptr rfl);(first|exact trivial|exact⟨rfl,trivial⟩))));done))|(focus ((with_reducible apply(a_call c13));exact rfl;(repeat(first|exact SubsE.nil|(apply SubsE.cons;exact rfl;(first|exact .d (.refl _)|exact .d (.nil _)|exact .agg rfl (.refl _)|exact .pd|exact .ptr rfl);(first|exact trivial|exact⟨rfl,trivial⟩))));done))|(focus ((with_reducible apply(a_call c14));exact rfl;(repeat(first|exact SubsE.nil|(apply SubsE.cons;exact rfl;(first|exact .d (.refl _)|exact .d (.nil _)|exact .agg rfl (.refl _)|exact .pd|exact .ptr rfl);(first|exact trivial|exact⟨rfl,trivial⟩))));done))|((with_reducible apply a_bin);(iterate 2 exact rfl);(first|exact bin_bneq (by kernel_rfl)|exact bin_beql (by kernel_rfl));exact rfl)|exact by_oa|exact by_ca);exact by_g)|refine wb ?_)
   exact .one (.tmp rfl (.one (.d (.refl _))))
 ·
  repeat(first|refine wa ?_|((with_reducible apply s5);(first|((with_reducible apply a_bin);(iterate 2 exact rfl);(first|exact bin_bneq (by kernel_rfl)|exact bin_beql (by kernel_rfl));exact rfl)|exact by_oa|exact by_ca);exact by_g)|refine wb ?_)
  exact .one (.tmp rfl (.one (.d (.refl _))))
theorem ok_rowsAlive:FnOk Tryd.prog 18 [] (.one (dbool true)):=by
 refine fnOk_of tbl_ok mixed_ok Tryd.func18 rfl (by kernel_rfl) rfl rfl fun w0 own0=>?_
 have c1:FnOk Tryd.prog 15 [.d (encRows []),.d (dstr [98]),.d (dint 2)] (.one (encRows [⟨[98],2⟩])):=ok_pput [] [98] 2 (by decide) List.Pairwise.nil
 have hs1:Srt Pair.key [⟨[98],2⟩]:=List.pairwise_singleton ..
 have c2:FnOk Tryd.prog 15 [.d (encRows [⟨[98],2⟩]),.d (dstr [97]),.d (dint 1)] (.one (encRows [⟨[97],1⟩,⟨[98],2⟩])):=ok_pput [⟨[98],2⟩] [97] 1 (by decide) hs1
 have hs2:Srt Pair.key [⟨[97],1⟩,⟨[98],2⟩]:=List.pairwise_cons.2 ⟨by decide,hs1⟩
 have c3:FnOk Tryd.prog 12 [.d (encRows [⟨[97],1⟩,⟨[98],2⟩]),.d (dstr [98])] (.tup [dint 2,dbool true]):=ok_pget _ [98] (by decide) hs2
 have c4:FnOk Tryd.prog 17 [.d (encRows [⟨[97],1⟩,⟨[98],2⟩]),.d (dstr [97])] (.one (encRows [⟨[98],2⟩])):=ok_pdrop _ [97] (by decide) hs2
 have c5:FnOk Tryd.prog 8 [.d (encRows [⟨[97],1⟩,⟨[98],2⟩])] (.one (dint 0)):=ok_pwrongRows [⟨[97],1⟩,⟨[98],2⟩] (by decide) (by decide)
 have c6:FnOk Tryd.prog 6 [.d (dstr [97,98,99])] (.one (dbool true)):=ok_pkey [97,98,99] (by decide)
 have c7:FnOk Tryd.prog 10 [.d (dint 1073741826)] (.one (dint 1)):=ok_pround 1073741826 ⟨by decide,by decide⟩
 repeat(first|refine wa ?_|((with_reducible apply s5);(first|(focus ((with_reducible apply(a_call c1));exact rfl;(repeat(first|exact SubsE.nil|(apply SubsE.cons;exact rfl;(first|exact .d (.refl _)|exact .d (.nil _)|exact .agg rfl (.refl _)|exact .pd|exact .ptr rfl);(first|exact trivial|exact⟨rfl,trivial⟩))));done))|(focus ((with_reducible apply(a_call c2));exact rfl;(repeat(first|exact SubsE.nil|(apply SubsE.cons;exact rfl;(first|exact .d (.refl _)|exact .d (.nil _)|exact .agg rfl (.refl _)|exact .pd|exact .ptr rfl);(first|exact trivial|exact⟨rfl,trivial⟩))));done))|(focus ((with_reducible apply(a_call c3));exact rfl;(repeat(first|exact SubsE.nil|(apply SubsE.cons;exact rfl;(first|exact .d (.refl _)|exact .d (.nil _)|exact .agg rfl (.refl _)|exact .pd|exact .ptr rfl);(first|exact trivial|exact⟨rfl,trivial⟩))));done))|(focus ((with_reducible apply(a_call c4));exact rfl;(repeat(first|exact SubsE.nil|(apply SubsE.cons;exact rfl;(first|exact .d (.refl _)|exact .d (.nil _)|exact .agg rfl (.refl _)|exact .pd|exact .ptr rfl);(first|exact trivial|exact⟨rfl,trivial⟩))));done))|(focus ((with_reducible apply(a_call c5));exact rfl;(repeat(first|exact SubsE.nil|(apply SubsE.cons;exact rfl;(first|exact .d (.refl _)|exact .d (.nil _)|exact .agg rfl (.refl _)|exact .pd|exact .ptr rfl);(first|exact trivial|exact⟨rfl,trivial⟩))));done))|(focus ((with_reducible apply(a_call c6));exact rfl;(repeat(first|exact SubsE.nil|(apply SubsE.cons;exact rfl;(first|exact .d (.refl _)|exact .d (.nil _)|exact .agg rfl (.refl _)|exact .pd|exact .ptr rfl);(first|exact trivial|exact⟨rfl,trivial⟩))));done))|(focus ((with_reducible apply(a_call c7));exact rfl;(repeat(first|exact SubsE.nil|(apply SubsE.cons;exact rfl;(first|exact .d (.refl _)|exact .d (.nil _)|exact .agg rfl (.refl _)|exact .pd|exact .ptr rfl);(first|exact trivial|exact⟨rfl,trivial⟩))));done))|((with_reducible apply a_ia);(iterate 6 exact rfl))|exact by_oa|exact by_ca);exact by_g)|refine wb ?_)
 exact .one (.tmp rfl (.one (.d (.refl _))))
theorem ok_RowsApart (l:List Pair) (a b:Str) (n m:Int) (hl:l.length≤1048576) (hlk:∀ q∈l,q.key.length≤1048576) (ha:a.length≤1048576) (hb:b.length≤1048576) :
  FnOk Tryd.prog 4 [.d (encRows l),.d (dstr a),.d (dstr b),.d (dint n),.d (dint m)] (.one (dbool true)):=by
 refine fnOk_of tbl_ok mixed_ok Tryd.func4 rfl (by kernel_rfl) rfl rfl fun w0 own0=>?_
 have ca:=ok_rowsAlive
 have c1:=ok_pwrongRows l (by omega) (fun q hq=>by have:=hlk q hq;omega)
 have c2:=ok_pkey a (by omega)
 have c3:=ok_pkey b (by omega)
 by_cases hw:wrongRows l=0
 ·
  cases hka:key a with
  |false =>
   rw[hka]at c2
   repeat(first|refine wa ?_|((with_reducible apply s5);(first|(focus ((with_reducible apply(a_call c2));exact rfl;(repeat(first|exact SubsE.nil|(apply SubsE.cons;exact rfl;(first|exact .d (.refl _)|exact .d (.nil _)|exact .agg rfl (.refl _)|exact .pd|exact .ptr rfl);(first|exact trivial|exact⟨rfl,trivial⟩))));done))|(focus ((with_reducible apply(a_call c3));exact rfl;(repeat(first|exact SubsE.nil|(apply SubsE.cons;exact rfl;(first|exact .d (.refl _)|exact .d (.nil _)|exact .agg rfl (.refl _)|exact .pd|exact .ptr rfl);(first|exact trivial|exact⟨rfl,trivial⟩))));done))|exact by_oa|exact by_ca);exact by_g)|refine wb ?_)
   exact .one (.tmp rfl (.one (.d (.refl _))))
  |true =>
  rw[hka]at c2
  cases hkb:key b with
  |false =>
   rw[hkb]at c3
   repeat(first|refine wa ?_|((with_reducible apply s5);(first|(focus ((with_reducible apply(a_call c2));exact rfl;(repeat(first|exact SubsE.nil|(apply SubsE.cons;exact rfl;(first|exact .d (.refl _)|exact .d (.nil _)|exact .agg rfl (.refl _)|exact .pd|exact .ptr rfl);(first|exact trivial|exact⟨rfl,trivial⟩))));done))|(focus ((with_reducible apply(a_call c3));exact rfl;(repeat(first|exact SubsE.nil|(apply SubsE.cons;exact rfl;(first|exact .d (.refl _)|exact .d (.nil _)|exact .agg rfl (.refl _)|exact .pd|exact .ptr rfl);(first|exact trivial|exact⟨rfl,trivial⟩))));done))|exact by_oa|exact by_ca);exact by_g)|refine wb ?_)
   exact .one (.tmp rfl (.one (.d (.refl _))))
  |true =>
  rw[hkb]at c3
  by_cases hab:a=b
  ·
   repeat(first|refine wa ?_|((with_reducible apply s5);(first|(focus ((with_reducible apply(a_call c2));exact rfl;(repeat(first|exact SubsE.nil|(apply SubsE.cons;exact rfl;(first|exact .d (.refl _)|exact .d (.nil _)|exact .agg rfl (.refl _)|exact .pd|exact .ptr rfl);(first|exact trivial|exact⟨rfl,trivial⟩))));done))|(focus ((with_reducible apply(a_call c3));exact rfl;(repeat(first|exact SubsE.nil|(apply SubsE.cons;exact rfl;(first|exact .d (.refl _)|exact .d (.nil _)|exact .agg rfl (.refl _)|exact .pd|exact .ptr rfl);(first|exact trivial|exact⟨rfl,trivial⟩))));done))|exact by_oa|exact by_ca);exact by_g)|refine wb ?_)
   exact .one (.tmp rfl (.one (.d (.refl _))))
  have hs:=(wrongRows_srt hw).1
  have la:=putS_len (k:=a) (n:=n) l
  have lb:=putS_len (k:=b) (n:=m) l
  have ld:=dropS_len (k:=b) l
  have d1:=ok_pput l a n (by omega) hs
  have d2:=ok_pput (putS a n l) b m (by omega) (putS_srt hs)
  have d3:=ok_pput l b m (by omega) hs
  have d4:=ok_pput (putS b m l) a n (by omega) (putS_srt hs)
  have d5:=ok_pdrop (putS a n l) b (by omega) (putS_srt hs)
  have d6:=ok_pdrop l b (by omega) hs
  have d7:=ok_pput (dropS b l) a n (by omega) (dropS_srt hs)
  rw[put_put hs hab]at d2
  rw[drop_put hs hab]at d5
  have l1:=putS_len (k:=a) (n:=n) (putS b m l)
  have l2:=putS_len (k:=a) (n:=n) (dropS b l)
  have d8:=ok_SameRows (putS a n (putS b m l)) (putS a n (putS b m l)) (by omega)
  have d9:=ok_SameRows (putS a n (dropS b l)) (putS a n (dropS b l)) (by omega)
  rw[allB_refl (by simp)]at d8 d9
  repeat(first|refine wa ?_|((with_reducible apply s5);(first|(focus ((with_reducible apply(a_call c2));exact rfl;(repeat(first|exact SubsE.nil|(apply SubsE.cons;exact rfl;(first|exact .d (.refl _)|exact .d (.nil _)|exact .agg rfl (.refl _)|exact .pd|exact .ptr rfl);(first|exact trivial|exact⟨rfl,trivial⟩))));done))|(focus ((with_reducible apply(a_call c3));exact rfl;(repeat(first|exact SubsE.nil|(apply SubsE.cons;exact rfl;(first|exact .d (.refl _)|exact .d (.nil _)|exact .agg rfl (.refl _)|exact .pd|exact .ptr rfl);(first|exact trivial|exact⟨rfl,trivial⟩))));done))|(focus ((with_reducible apply(a_call d1));exact rfl;(repeat(first|exact SubsE.nil|(apply SubsE.cons;exact rfl;(first|exact .d (.refl _)|exact .d (.nil _)|exact .agg rfl (.refl _)|exact .pd|exact .ptr rfl);(first|exact trivial|exact⟨rfl,trivial⟩))));done))|(focus ((with_reducible apply(a_call d2));exact rfl;(repeat(first|exact SubsE.nil|(apply SubsE.cons;exact rfl;(first|exact .d (.refl _)|exact .d (.nil _)|exact .agg rfl (.refl _)|exact .pd|exact .ptr rfl);(first|exact trivial|exact⟨rfl,trivial⟩))));done))|(focus ((with_reducible apply(a_call d3));exact rfl;(repeat(first|exact SubsE.nil|(apply SubsE.cons;exact rfl;(first|exact .d (.refl _)|exact .d (.nil _)|exact .agg rfl (.refl _)|exact .pd|exact .ptr rfl);(first|exact trivial|exact⟨rfl,trivial⟩))));done))|(focus ((with_reducible apply(a_call d4));exact rfl;(repeat(first|exact SubsE.nil|(apply SubsE.cons;exact rfl;(first|exact .d (.refl _)|exact .d (.nil _)|exact .agg rfl (.refl _)|exact .pd|exact .ptr rfl);(first|exact trivial|exact⟨rfl,trivial⟩))));done))|(focus ((with_reducible apply(a_call d5));exact rfl;(repeat(first|exact SubsE.nil|(apply SubsE.cons;exact rfl;(first|exact .d (.refl _)|exact .d (.nil _)|exact .agg rfl (.refl _)|exact .pd|exact .ptr rfl);(first|exact trivial|exact⟨rfl,trivial⟩))));done))|(focus ((with_reducible apply(a_call d6));exact rfl;(repeat(first|exact SubsE.nil|(apply SubsE.cons;exact rfl;(first|exact .d (.refl _)|exact .d (.nil _)|exact .agg rfl (.refl _)|exact .pd|exact .ptr rfl);(first|exact trivial|exact⟨rfl,trivial⟩))));done))|(focus ((with_reducible apply(a_call d7));exact rfl;(repeat(first|exact SubsE.nil|(apply SubsE.cons;exact rfl;(first|exact .d (.refl _)|exact .d (.nil _)|exact .agg rfl (.refl _)|exact .pd|exact .ptr rfl);(first|exact trivial|exact⟨rfl,trivial⟩))));done))|(focus ((with_reducible apply(a_call d8));exact rfl;(repeat(first|exact SubsE.nil|(apply SubsE.cons;exact rfl;(first|exact .d (.refl _)|exact .d (.nil _)|exact .agg rfl (.refl _)|exact .pd|exact .ptr rfl);(first|exact trivial|exact⟨rfl,trivial⟩))));done))|(focus ((with_reducible apply(a_call d9));exact rfl;(repeat(first|exact SubsE.nil|(apply SubsE.cons;exact rfl;(first|exact .d (.refl _)|exact .d (.nil _)|exact .agg rfl (.refl _)|exact .pd|exact .ptr rfl);(first|exact trivial|exact⟨rfl,trivial⟩))));done))|exact by_oa|exact by_ca);exact by_g)|refine wb ?_)
  exact .one (.tmp rfl (.one (.d (.refl _))))
 ·
  repeat(first|refine wa ?_|((with_reducible apply s5);(first|(focus ((with_reducible apply(a_call c2));exact rfl;(repeat(first|exact SubsE.nil|(apply SubsE.cons;exact rfl;(first|exact .d (.refl _)|exact .d (.nil _)|exact .agg rfl (.refl _)|exact .pd|exact .ptr rfl);(first|exact trivial|exact⟨rfl,trivial⟩))));done))|(focus ((with_reducible apply(a_call c3));exact rfl;(repeat(first|exact SubsE.nil|(apply SubsE.cons;exact rfl;(first|exact .d (.refl _)|exact .d (.nil _)|exact .agg rfl (.refl _)|exact .pd|exact .ptr rfl);(first|exact trivial|exact⟨rfl,trivial⟩))));done))|exact by_oa|exact by_ca);exact by_g)|refine wb ?_)
  exact .one (.tmp rfl (.one (.d (.refl _))))
theorem ok_RowsPut (l:List Pair) (k:Str) (n:Int) (o:Str) (hl:l.length≤1048576) (hlk:∀ q∈l,q.key.length≤1048576) (hk:k.length≤1048576) (ho:o.length≤1048576) :
  FnOk Tryd.prog 5 [.d (encRows l),.d (dstr k),.d (dint n),.d (dstr o)] (.one (dbool true)):=by
 refine fnOk_of tbl_ok mixed_ok Tryd.func5 rfl (by kernel_rfl) rfl rfl fun w0 own0=>?_
 have ca:=ok_rowsAlive
 have c1:=ok_pwrongRows l (by omega) (fun q hq=>by have:=hlk q hq;omega)
 have c2:=ok_pkey k (by omega)
 have c3:=ok_pkey o (by omega)
 by_cases hw:wrongRows l=0
 ·
  cases hkk:key k with
  |false =>
   rw[hkk]at c2
   repeat(first|refine wa ?_|((with_reducible apply s5);(first|(focus ((with_reducible apply(a_call c2));exact rfl;(repeat(first|exact SubsE.nil|(apply SubsE.cons;exact rfl;(first|exact .d (.refl _)|exact .d (.nil _)|exact .agg rfl (.refl _)|exact .pd|exact .ptr rfl);(first|exact trivial|exact⟨rfl,trivial⟩))));done))|exact by_oa|exact by_ca);exact by_g)|refine wb ?_)
   exact .one (.tmp rfl (.one (.d (.refl _))))
  |true =>
  rw[hkk]at c2
  by_cases h1:n < -1073741824
  ·
   repeat(first|refine wa ?_|((with_reducible apply s5);(first|(focus ((with_reducible apply(a_call c2));exact rfl;(repeat(first|exact SubsE.nil|(apply SubsE.cons;exact rfl;(first|exact .d (.refl _)|exact .d (.nil _)|exact .agg rfl (.refl _)|exact .pd|exact .ptr rfl);(first|exact trivial|exact⟨rfl,trivial⟩))));done))|exact by_oa|exact by_ca);exact by_g)|refine wb ?_)
   exact .one (.tmp rfl (.one (.d (.refl _))))
  by_cases h2:1073741824 < n
  ·
   repeat(first|refine wa ?_|((with_reducible apply s5);(first|(focus ((with_reducible apply(a_call c2));exact rfl;(repeat(first|exact SubsE.nil|(apply SubsE.cons;exact rfl;(first|exact .d (.refl _)|exact .d (.nil _)|exact .agg rfl (.refl _)|exact .pd|exact .ptr rfl);(first|exact trivial|exact⟨rfl,trivial⟩))));done))|exact by_oa|exact by_ca);exact by_g)|refine wb ?_)
   exact .one (.tmp rfl (.one (.d (.refl _))))
  have hs:=(wrongRows_srt hw).1
  have lp:=putS_len (k:=k) (n:=n) l
  have ld:=dropS_len (k:=k) l
  have hkp:∀ q∈putS k n l,q.key.length≤1073741824:=fun q hq=>by
   rcases putS_mem hq with h|rfl
   ·
    have:=hlk q h;omega
   ·
    show k.length≤_;omega
  have hkd:∀ q∈dropS k l,q.key.length≤1073741824:=fun q hq=>by have:=hlk q ((dropS_sub l).subset hq);omega
  have hno:nOk n:=⟨by omega,by omega⟩
  have d1:=ok_pput l k n (by omega) hs
  have d2:=ok_pdrop l k (by omega) hs
  have d3:=ok_pget (putS k n l) k (by omega) (putS_srt hs)
  have d4:=ok_pget (dropS k l) k (by omega) (dropS_srt hs)
  have d5:=ok_pwrongRows (putS k n l) (by omega) hkp
  have d6:=ok_pwrongRows (dropS k l) (by omega) hkd
  have d7:=ok_pget l o (by omega) hs
  have d8:=ok_pget (putS k n l) o (by omega) (putS_srt hs)
  have d9:=ok_pget (dropS k l) o (by omega) (dropS_srt hs)
  rw[get_put,if_pos rfl]at d3
  rw[get_drop hs,if_pos rfl]at d4
  rw[wrong_put hw hkk hno]at d5
  rw[wrong_drop hw]at d6
  by_cases hok:o=k
  ·
   repeat(first|refine wa ?_|((with_reducible apply s5);(first|(focus ((with_reducible apply(a_call c1));exact rfl;(repeat(first|exact SubsE.nil|(apply SubsE.cons;exact rfl;(first|exact .d (.refl _)|exact .d (.nil _)|exact .agg rfl (.refl _)|exact .pd|exact .ptr rfl);(first|exact trivial|exact⟨rfl,trivial⟩))));done))|(focus ((with_reducible apply(a_call c2));exact rfl;(repeat(first|exact SubsE.nil|(apply SubsE.cons;exact rfl;(first|exact .d (.refl _)|exact .d (.nil _)|exact .agg rfl (.refl _)|exact .pd|exact .ptr rfl);(first|exact trivial|exact⟨rfl,trivial⟩))));done))|(focus ((with_reducible apply(a_call d3));exact rfl;(repeat(first|exact SubsE.nil|(apply SubsE.cons;exact rfl;(first|exact .d (.refl _)|exact .d (.nil _)|exact .agg rfl (.refl _)|exact .pd|exact .ptr rfl);(first|exact trivial|exact⟨rfl,trivial⟩))));done))|(focus ((with_reducible apply(a_call d4));exact rfl;(repeat(first|exact SubsE.nil|(apply SubsE.cons;exact rfl;(first|exact .d (.refl _)|exact .d (.nil _)|exact .agg rfl (.refl _)|exact .pd|exact .ptr rfl);(first|exact trivial|exact⟨rfl,trivial⟩))));done))|(focus ((with_reducible apply(a_call d5));exact rfl;(repeat(first|exact SubsE.nil|(apply SubsE.cons;exact rfl;(first|exact .d (.refl _)|exact .d (.nil _)|exact .agg rfl (.refl _)|exact .pd|exact .ptr rfl);(first|exact trivial|exact⟨rfl,trivial⟩))));done))|(focus ((with_reducible apply(a_call d6));exact rfl;(repeat(first|exact SubsE.nil|(apply SubsE.cons;exact rfl;(first|exact .d (.refl _)|exact .d (.nil _)|exact .agg rfl (.refl _)|exact .pd|exact .ptr rfl);(first|exact trivial|exact⟨rfl,trivial⟩))));done))|exact by_oa|exact by_ca);exact by_g)|refine wb ?_)
   exact .one (.tmp rfl (.one (.d (.refl _))))
  rw[get_put,if_neg (fun e=>hok e.symm)]at d8
  rw[get_drop hs,if_neg (fun e=>hok e.symm)]at d9
  cases hko:key o with
  |false =>
   rw[hko]at c3
   repeat(first|refine wa ?_|((with_reducible apply s5);(first|(focus ((with_reducible apply(a_call c1));exact rfl;(repeat(first|exact SubsE.nil|(apply SubsE.cons;exact rfl;(first|exact .d (.refl _)|exact .d (.nil _)|exact .agg rfl (.refl _)|exact .pd|exact .ptr rfl);(first|exact trivial|exact⟨rfl,trivial⟩))));done))|(focus ((with_reducible apply(a_call c2));exact rfl;(repeat(first|exact SubsE.nil|(apply SubsE.cons;exact rfl;(first|exact .d (.refl _)|exact .d (.nil _)|exact .agg rfl (.refl _)|exact .pd|exact .ptr rfl);(first|exact trivial|exact⟨rfl,trivial⟩))));done))|(focus ((with_reducible apply(a_call c3));exact rfl;(repeat(first|exact SubsE.nil|(apply SubsE.cons;exact rfl;(first|exact .d (.refl _)|exact .d (.nil _)|exact .agg rfl (.refl _)|exact .pd|exact .ptr rfl);(first|exact trivial|exact⟨rfl,trivial⟩))));done))|(focus ((with_reducible apply(a_call d3));exact rfl;(repeat(first|exact SubsE.nil|(apply SubsE.cons;exact rfl;(first|exact .d (.refl _)|exact .d (.nil _)|exact .agg rfl (.refl _)|exact .pd|exact .ptr rfl);(first|exact trivial|exact⟨rfl,trivial⟩))));done))|(focus ((with_reducible apply(a_call d4));exact rfl;(repeat(first|exact SubsE.nil|(apply SubsE.cons;exact rfl;(first|exact .d (.refl _)|exact .d (.nil _)|exact .agg rfl (.refl _)|exact .pd|exact .ptr rfl);(first|exact trivial|exact⟨rfl,trivial⟩))));done))|(focus ((with_reducible apply(a_call d5));exact rfl;(repeat(first|exact SubsE.nil|(apply SubsE.cons;exact rfl;(first|exact .d (.refl _)|exact .d (.nil _)|exact .agg rfl (.refl _)|exact .pd|exact .ptr rfl);(first|exact trivial|exact⟨rfl,trivial⟩))));done))|(focus ((with_reducible apply(a_call d6));exact rfl;(repeat(first|exact SubsE.nil|(apply SubsE.cons;exact rfl;(first|exact .d (.refl _)|exact .d (.nil _)|exact .agg rfl (.refl _)|exact .pd|exact .ptr rfl);(first|exact trivial|exact⟨rfl,trivial⟩))));done))|exact by_oa|exact by_ca);exact by_g)|refine wb ?_)
   exact .one (.tmp rfl (.one (.d (.refl _))))
  |true =>
   rw[hko]at c3
   repeat(first|refine wa ?_|((with_reducible apply s5);(first|(focus ((with_reducible apply(a_call c1));exact rfl;(repeat(first|exact SubsE.nil|(apply SubsE.cons;exact rfl;(first|exact .d (.refl _)|exact .d (.nil _)|exact .agg rfl (.refl _)|exact .pd|exact .ptr rfl);(first|exact trivial|exact⟨rfl,trivial⟩))));done))|(focus ((with_reducible apply(a_call c2));exact rfl;(repeat(first|exact SubsE.nil|(apply SubsE.cons;exact rfl;(first|exact .d (.refl _)|exact .d (.nil _)|exact .agg rfl (.refl _)|exact .pd|exact .ptr rfl);(first|exact trivial|exact⟨rfl,trivial⟩))));done))|(focus ((with_reducible apply(a_call c3));exact rfl;(repeat(first|exact SubsE.nil|(apply SubsE.cons;exact rfl;(first|exact .d (.refl _)|exact .d (.nil _)|exact .agg rfl (.refl _)|exact .pd|exact .ptr rfl);(first|exact trivial|exact⟨rfl,trivial⟩))));done))|(focus ((with_reducible apply(a_call d3));exact rfl;(repeat(first|exact SubsE.nil|(apply SubsE.cons;exact rfl;(first|exact .d (.refl _)|exact .d (.nil _)|exact .agg rfl (.refl _)|exact .pd|exact .ptr rfl);(first|exact trivial|exact⟨rfl,trivial⟩))));done))|(focus ((with_reducible apply(a_call d4));exact rfl;(repeat(first|exact SubsE.nil|(apply SubsE.cons;exact rfl;(first|exact .d (.refl _)|exact .d (.nil _)|exact .agg rfl (.refl _)|exact .pd|exact .ptr rfl);(first|exact trivial|exact⟨rfl,trivial⟩))));done))|(focus ((with_reducible apply(a_call d5));exact rfl;(repeat(first|exact SubsE.nil|(apply SubsE.cons;exact rfl;(first|exact .d (.refl _)|exact .d (.nil _)|exact .agg rfl (.refl _)|exact .pd|exact .ptr rfl);(first|exact trivial|exact⟨rfl,trivial⟩))));done))|(focus ((with_reducible apply(a_call d6));exact rfl;(repeat(first|exact SubsE.nil|(apply SubsE.cons;exact rfl;(first|exact .d (.refl _)|exact .d (.nil _)|exact .agg rfl (.refl _)|exact .pd|exact .ptr rfl);(first|exact trivial|exact⟨rfl,trivial⟩))));done))|(focus ((with_reducible apply(a_call d7));exact rfl;(repeat(first|exact SubsE.nil|(apply SubsE.cons;exact rfl;(first|exact .d (.refl _)|exact .d (.nil _)|exact .agg rfl (.refl _)|exact .pd|exact .ptr rfl);(first|exact trivial|exact⟨rfl,trivial⟩))));done))|(focus ((with_reducible apply(a_call d8));exact rfl;(repeat(first|exact SubsE.nil|(apply SubsE.cons;exact rfl;(first|exact .d (.refl _)|exact .d (.nil _)|exact .agg rfl (.refl _)|exact .pd|exact .ptr rfl);(first|exact trivial|exact⟨rfl,trivial⟩))));done))|(focus ((with_reducible apply(a_call d9));exact rfl;(repeat(first|exact SubsE.nil|(apply SubsE.cons;exact rfl;(first|exact .d (.refl _)|exact .d (.nil _)|exact .agg rfl (.refl _)|exact .pd|exact .ptr rfl);(first|exact trivial|exact⟨rfl,trivial⟩))));done))|((with_reducible apply a_bin);(iterate 2 exact rfl);(first|exact bin_bneq (by kernel_rfl)|exact bin_beql (by kernel_rfl));exact rfl)|exact by_oa|exact by_ca);exact by_g)|refine wb ?_)
   exact .one (.tmp rfl (.one (.d (dle_bool (by simp)))))
 ·
  repeat(first|refine wa ?_|((with_reducible apply s5);(first|(focus ((with_reducible apply(a_call c1));exact rfl;(repeat(first|exact SubsE.nil|(apply SubsE.cons;exact rfl;(first|exact .d (.refl _)|exact .d (.nil _)|exact .agg rfl (.refl _)|exact .pd|exact .ptr rfl);(first|exact trivial|exact⟨rfl,trivial⟩))));done))|(focus ((with_reducible apply(a_call c2));exact rfl;(repeat(first|exact SubsE.nil|(apply SubsE.cons;exact rfl;(first|exact .d (.refl _)|exact .d (.nil _)|exact .agg rfl (.refl _)|exact .pd|exact .ptr rfl);(first|exact trivial|exact⟨rfl,trivial⟩))));done))|exact by_oa|exact by_ca);exact by_g)|refine wb ?_)
  exact .one (.tmp rfl (.one (.d (.refl _))))
end Go.Proofs.YtngnajknbeijjaaDoor
namespace Go.AX
open Go.RowKit
theorem gl_none {P:Program}{w:World}{n:String}{p:Array Value→Prop}(h:P.globalNamed n=none):GlAt P w n p:=fun g hg=>by rw[h]at hg;cases hg
theorem gl_int {P:Program}{w:World}{n:String}{g:Nat}{m:Int}(hg:P.globalNamed n=some g) (h:w.cell? ⟨g,0,none⟩=some (.int .i64 m)):GlAt P w n fun cs=>∃ m,cs[0]? = some (.int .i64 m):=by
 intro g' hg'
 have hx:∃ cs,w.var? P n=some cs∧cs[0]? = some (.int .i64 m):=by
  unfold World.var?
  rw[hg]
  simp only[Option.bind_some]
  unfold World.cell? at h
  simp only at h
  split at h
  ·
   next cs _ _ hh=>rw[hh];exact⟨cs,rfl,h⟩
  ·
   cases h
 obtain⟨cs,h1,h2⟩:=hx
 exact⟨cs,h1,m,h2⟩
end Go.AX
