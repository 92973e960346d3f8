/-
  Part 1 of what the claim leans on: AxData AxGl AxSim AxUpd AxObj AxRegion AxDraw AxFit AxOps AxOps2 AxOps3 AxCall AxCode AxFn AxStep AxOps4 AxOps5 AxOps6 AxOps7 AxStep2 AxTbl AxLoop AxArr AxBox AxA.
-/
import Derived.WalkKit
import Derived.Orders
import Derived.Below
import Derived.Laws.AppendOwn
import Derived.Laws.Sem
import Derived.Laws.Cells
import Derived.Lib.LaidTab
import Derived.Lib.ItoaNum
import Derived.FnData
import Derived.LoopN
import Derived.Laws.CopyRow
import Derived.Sort.Walk0
import Derived.Laws.Strings
import Derived.Laws.Tables
import Derived.Great.BuildSlice
import Derived.Maps.AppendAt
set_option linter.all false

namespace Go.AX
open Go.RowKit
inductive D where
 |v (x:Value)
 |sl (k:Nat) (rows:List (List D))
 |agg (cells:List D)
 |x (p:World→(Nat→Prop)→Value→Prop)
structure Ext (own:Nat→Prop) (w w':World):Prop where
 size:w.heap.size≤w'.heap.size
 block:∀ b,b < w.heap.size→¬ own b→w'.heap[b]? = w.heap[b]?
def Stable (p:World→(Nat→Prop)→Value→Prop):Prop:=∀ (own own':Nat→Prop) (w w':World) (v:Value),Ext own w w'→(∀ b,own' b→own b∨w.heap.size≤b)→p w own v→p w' own' v
inductive Rd (w:World) (own:Nat→Prop):Value→D→Prop
 |v (x:Value):Rd w own x (.v x)
 |nil (a:Option Addr) (cap k:Nat):Rd w own (.slice a 0 cap) (.sl k [])
 |sl (ad:Addr) (cap k:Nat) (rows:List (List D)) (f:Nat→Nat→Value)
   (hb:¬ own ad.block) (hs:ad.block < w.heap.size) (hcap:rows.length≤cap)
   (hk:∀ r∈rows,r.length=k)
   (hc:∀ i j r d,rows[i]? = some r→r[j]? = some d→w.cell? (ad.add (i*k+j))=some (f i j))
   (h1:∀ i j r d,rows[i]? = some r→r[j]? = some d→(f i j).oneCell'=true)
   (hr:∀ i j r d,rows[i]? = some r→r[j]? = some d→Rd w own (f i j) d) :
   Rd w own (.slice (some ad) rows.length cap) (.sl k rows)
 |agg (cs:Array Value) (ds:List D) (hl:cs.size=ds.length)
   (h1:∀ (j:Nat) (c:Value),cs[j]? = some c→c.oneCell'=true)
   (h:∀ (j:Nat) (d:D) (c:Value),ds[j]? = some d→cs[j]? = some c→Rd w own c d):Rd w own (.agg cs) (.agg ds)
 |x (p:World→(Nat→Prop)→Value→Prop) (v:Value) (h1:v.oneCell'=true) (hst:Stable p) (h:p w own v):Rd w own v (.x p)
theorem add_block (a:Addr) (n:Nat):(a.add n).block=a.block:=by
 unfold Addr.add;split <;> rfl
theorem add_add (a:Addr) (i j:Nat):(a.add i).add j=a.add (i+j):=by
 unfold Addr.add
 by_cases hi:i=0 <;> by_cases hj:j=0 <;> simp[hi,hj,Nat.add_assoc]
theorem add_zero (a:Addr):a.add 0=a:=rfl
theorem add_lit (b i j:Nat):(⟨b,i,none⟩:Addr).add j=⟨b,i+j,none⟩:=by
 unfold Addr.add
 split
 ·
  next h=>subst h;rfl
 ·
  rfl
theorem Ext.refl (own:Nat→Prop) (w:World):Ext own w w:=⟨Nat.le_refl _,fun _ _ _=>rfl⟩
theorem Ext.cell {own:Nat→Prop}{w w':World}(h:Ext own w w') {a:Addr}(hb:a.block < w.heap.size) (ho:¬ own a.block) :
  w'.cell? a=w.cell? a:=World.cell?_of_block (w:=w) (h.block _ hb ho)
theorem Ext.of_below {own:Nat→Prop}{w w':World}(h:Below w.heap.size w w'):Ext own w w':=⟨h.size,fun b hb _=>h.block b hb⟩
theorem Rd.step {own own':Nat→Prop}{w w':World}(h:Ext own w w') (ho:∀ b,own' b→own b∨w.heap.size≤b)
  {x:Value} {d:D} (hr:Rd w own x d):Rd w' own' x d:=by
 induction hr with
 |v x=>exact .v x
 |nil a cap k=>exact .nil a cap k
 |sl ad cap k rows f hb hs hcap hk hc h1 hr ih =>
  refine .sl ad cap k rows f (fun hx=>?_) (Nat.lt_of_lt_of_le hs h.size) hcap hk (fun i j r d hi hj=>?_) h1 ih
  ·
   rcases ho _ hx with h'|h'
   ·
    exact hb h'
   ·
    omega
  ·
   rw[h.cell (by rw[add_block];exact hs) (by rw[add_block];exact hb)]
   exact hc i j r d hi hj
 |agg cs ds hl h1 h' ih=>exact .agg cs ds hl h1 ih
 |x p v h1 hst hp=>exact .x p v h1 hst (hst own own' w w' v h ho hp)
theorem Rd.less {own own':Nat→Prop}{w:World}(ho:∀ b,own' b→own b) {x:Value}{d:D}(hr:Rd w own x d):Rd w own' x d :=
 hr.step (Ext.refl own w) fun b hb => .inl (ho b hb)
def MapIs (es:Array MapEntry) (M:List (List UInt8×Value)):Prop:=es.toList.map (fun e=>(e.key,e.val))=M.map fun p=>(Value.string ⟨p.1.toArray⟩,p.2)
def MapIsI (es:Array MapEntry) (M:List (Int×Value)):Prop:=es.toList.map (fun e=>(e.key,e.val))=M.map fun p=>(Value.int .i64 p.1,p.2)
abbrev nilS:Value := .slice none 0 0
theorem Rd.nilS_sl {own:Nat→Prop}{w:World}{x:Value}(k:Nat) (h:Rd w own x (.v nilS)):Rd w own x (.sl k []):=by
 cases h with
 |v=>exact .nil none 0 k
def GlAt (P:Program) (w:World) (n:String) (p:Array Value→Prop):Prop:=∀ g,P.globalNamed n=some g→∃ cs,w.var? P n=some cs∧p cs
structure Gl (P:Program) (w:World):Prop where
 pow : GlAt P w "internal/strconv.uint64pow10" fun cs => cs = (Lib.pow10Tab.map fun z => Value.int .u64 z).toArray
 es : GlAt P w "strconv.ErrSyntax" fun cs => ∃ tp p, cs = #[.iface tp p]
 er : GlAt P w "strconv.ErrRange" fun cs => ∃ tp p, cs = #[.iface tp p]
 mx : GlAt P w "internal/bytealg.MaxLen" fun cs => ∃ m, cs[0]? = some (.int .i64 m)
theorem var_below {P:Program}{w w':World}{n:String}{cs:Array Value}(h:w.var? P n=some cs) (hb:Below w.heap.size w w'):w'.var? P n=some cs:=by
 unfold World.var? at h ⊢
 cases hg:P.globalNamed n with
 |none=>simp[hg]at h
 |some g =>
  simp only[hg,Option.bind_some]at h ⊢
  have hlt:g < w.heap.size:=by
   rcases Nat.lt_or_ge g w.heap.size with h'|h'
   ·
    exact h'
   ·
    simp[Array.getElem?_eq_none h']at h
  rw[hb.block g hlt]
  exact h
theorem GlAt.below {P:Program}{w w':World}{n:String}{p:Array Value→Prop}(h:GlAt P w n p) (hb:Below w.heap.size w w'):GlAt P w' n p:=fun g hg =>
 let ⟨cs,h1,h2⟩:=h g hg
 ⟨cs,var_below h1 hb,h2⟩
theorem Gl.below {P:Program}{w w':World}(h:Gl P w) (hb:Below w.heap.size w w'):Gl P w' :=
 ⟨h.pow.below hb,h.es.below hb,h.er.below hb,h.mx.below hb⟩
end Go.AX
namespace Go.AX
open Go.RowKit
inductive AV where
 |d (x:D)
 |pd (cells:List D)
 |ptr (id off:Nat)
 |own (id n:Nat)
 |pe (id n i f:Nat)
 |agg (cells:List AV)
 |tup (vs:List AV)
 |h (id:Nat)
 |any
inductive Ob where
 |box (cells:List AV)
 |arr (e k:Nat) (rows:List (List D))
 |pin (e k:Nat) (rows:List (List D)) (x:Value)
 |mp (M:List (List UInt8×Value)) (x:Value)
 |mi (M:List (Int×Value)) (x:Value)
 |gen (p:Value→Obj→Prop)
 |lit (kk:IntKind) (V:List (Int×Value)) (ids:List Nat)
 |tok (o:Nat) (b:Bool)
 |res
inductive Key where
 |s (n:Nat)
 |o (n:Nat)
 |nx
def Key.beq:Key→Key→Bool
 |.s a,.s b=>Nat.beq a b
 |.o a,.o b=>Nat.beq a b
 |.nx,.nx=>true
 |_,_=>false
theorem Key.beq_iff {a b:Key}:a.beq b=true↔a=b:=by
 cases a <;> cases b <;> simp[Key.beq,Nat.beq_eq]
inductive Val where
 |av (x:AV)
 |ob (x:Ob)
 |num (n:Nat)
 |none
abbrev St:=List (Key×Val)
def get:St→Key→Val
 | [],_ => .none
 |(k,v)::r,q=>match k.beq q with
  |true=>v
  |false=>get r q
theorem get_cons_same {k:Key}{v:Val}{σ:St}:get ((k,v)::σ) k=v:=by
 simp[get,Key.beq_iff.2 rfl]
theorem get_cons_ne {k q:Key}{v:Val}{σ:St}(h:k≠q):get ((k,v)::σ) q=get σ q:=by
 have:k.beq q=false:=by
  cases hb:k.beq q
  ·
   rfl
  ·
   exact absurd (Key.beq_iff.1 hb) h
 simp[get,this]
def blk:Value→Option Nat
 |.pointer (some a)=>some a.block
 |.slice (some a) _ _=>some a.block
 |.map (some b)=>some b
 |_=>none
def ownOf (g:Nat→Value) (σ:St) (b:Nat):Prop:=∃ id o,get σ (.o id) = .ob o∧blk (g id)=some b
inductive TK where
 |one
 |int (k:IntKind)
 |bool
 |str
 |sl (e k:Nat)
 |st (fs:List (Nat×Nat))
 |arr (len e k:Nat)
structure TI where
 n:Nat
 bytes:Nat
 zero:List Value
 kind:TK
abbrev Tbl:=List (Nat×TI)
def tget:Tbl→Nat→Option TI
 | [],_=>none
 |(t,i)::r,q=>match Nat.beq t q with
  |true=>some i
  |false=>tget r q
structure TF (P:Program) (t:Nat) (ti:TI):Prop where
 info:∃ i,P.info? t=some i∧i.size=ti.n∧i.bytes=ti.bytes∧∃ z,i.zero=some z∧z.cells.toList=ti.zero
 len:ti.zero.length=ti.n
 kind:match ti.kind with
  |.one=>∃ d,P.underlying t=some d∧(∀ fs,d ≠ .struct fs)∧(∀ n e,d ≠ .array n e)∧ti.n=1
  |.int k=>P.underlying t=some (.int k)∧ti.n=1
  |.bool=>P.underlying t=some .bool∧ti.n=1
  |.str=>P.underlying t=some .string∧ti.n=1
  |.sl e k=>P.underlying t=some (.slice e)∧(∃ i,P.info? e=some i∧i.size=k)∧0 < k∧ti.n=1
  |.st fs=>∃ a,P.underlying t=some (.struct a)∧a.size=fs.length∧∀ (j:Nat) (p:Nat×Nat),fs[j]? = some p→∃ (f:Field) (i:TypeInfo),a[j]? = some f∧f.offset=p.1∧P.info? f.type=some i∧i.size=p.2∧0 < p.2 ∧
    (p.2=1→∃ dd,P.underlying f.type=some dd∧(∀ fs,dd ≠ .struct fs)∧∀ n e,dd ≠ .array n e)
  |.arr n e k=>P.underlying t=some (.array n e)∧(∃ i,P.info? e=some i∧i.size=k)
def TOk (P:Program) (T:Tbl):Prop:=∀ t ti,tget T t=some ti→TF P t ti
structure Cx where
 P:Program
 T:Tbl
 hT:TOk P T
 mixed:P.follows .mixedOrders=true
 n:Nat
 w0:World
 own0:Nat→Prop
 gn:Nat
 gh:List (Value×AV)
def Cx.own (cx:Cx) (g:Nat→Value) (σ:St) (b:Nat):Prop:=cx.own0 b∨ownOf g σ b
def RdCells (w:World) (own:Nat→Prop) (ad:Addr) (ds:List D):Prop :=
 ∀ j d,ds[j]? = some d→∃ u:Value,w.cell? (ad.add j)=some u∧u.oneCell'=true∧Rd w own u d
def NR (σ:St) (id:Nat):Prop:=get σ (.o id) ≠ .ob .res
def hobj:Ob→Bool
 |.gen _=>true
 |.lit _ _ _=>true
 |_=>false
def Rep1 (cx:Cx) (g:Nat→Value) (σ:St) (w:World) (x:Value):AV→Prop
 |.d y=>Rd w (cx.own g σ) x y
 |.pd ds=>∃ ad:Addr,x = .pointer (some ad)∧(ad.block < cx.w0.heap.size∨¬ cx.own g σ ad.block)∧ad.block < w.heap.size∧RdCells w (cx.own g σ) ad ds
 |.ptr id off=>NR σ id∧∀ cells,get σ (.o id) = .ob (.box cells)→∃ b,g id = .pointer (some ⟨b,0,none⟩)∧x = .pointer (some ⟨b,off,none⟩)
 |.own id n=>NR σ id∧∀ e k rows,get σ (.o id) = .ob (.arr e k rows)→n≤rows.length∧(n=rows.length→x=g id)
 |.pe id n i f=>NR σ id∧∀ e k rows,get σ (.o id) = .ob (.arr e k rows)→n≤rows.length∧(n=rows.length→∃ b,blk (g id)=some b∧x = .pointer (some ⟨b,i*k+f,none⟩))
 |.h id=>NR σ id∧∀ o,get σ (.o id) = .ob o→hobj o=true→x=g id
 |.any=>True
 |.agg _=>False
 |.tup _=>False
def Rep2 (cx:Cx) (g:Nat→Value) (σ:St) (w:World) (x:Value):AV→Prop
 |.agg cells=>∃ cs:Array Value,x = .agg cs∧cs.size=cells.length∧(∀ (j:Nat) (c:Value),cs[j]? = some c→c.oneCell'=true) ∧
   ∀ (j:Nat) (c:Value) (av:AV),cells[j]? = some av→cs[j]? = some c→Rep1 cx g σ w c av
 |av=>Rep1 cx g σ w x av
def Rep (cx:Cx) (g:Nat→Value) (σ:St) (w:World) (x:Value):AV→Prop
 |.tup avs=>∃ vs:Array Value,x = .tuple vs∧vs.size=avs.length∧∀ (j:Nat) (c:Value) (av:AV),avs[j]? = some av→vs[j]? = some c→Rep2 cx g σ w c av
 |av=>Rep2 cx g σ w x av
def AV.bd1 (nx:Nat):AV→Prop
 |.ptr id _=>id < nx
 |.own id _=>id < nx
 |.pe id _ _ _=>id < nx
 |.h id=>id < nx
 |_=>True
def AV.bd (nx:Nat):AV→Prop
 |.agg cells=>∀ av∈cells,av.bd1 nx
 |.tup avs=>∀ av∈avs,match av with
  |.agg cells=>∀ a∈cells,a.bd1 nx
  |a=>a.bd1 nx
 |av=>av.bd1 nx
def Ob.bd (nx:Nat):Ob→Prop
 |.box cells=>∀ av∈cells,av.bd1 nx
 |.arr _ _ _=>True
 |.pin _ _ _ _=>True
 |.mp _ _=>True
 |.mi _ _=>True
 |.gen _=>True
 |.lit _ _ ids=>∀ i∈ids,i < nx
 |.tok _ _=>True
 |.res=>True
def ObOk (cx:Cx) (g:Nat→Value) (σ:St) (w:World) (id:Nat):Ob→Prop
 |.box cells=>∃ b cs t,g id = .pointer (some ⟨b,0,none⟩)∧cx.w0.heap.size≤b∧w.heap[b]? = some (.cells cs t (0,0))∧cs.size=cells.length ∧
   (∀ (j:Nat) (c:Value),cs[j]? = some c→c.oneCell'=true)∧∀ (j:Nat) (c:Value) (av:AV),cells[j]? = some av→cs[j]? = some c→Rep1 cx g σ w c av
 |.arr e k rows=>∃ xs:List Value,w.ownsRow cx.w0.heap.size e k (g id) rows.length xs∧(∀ x∈xs,Value.oneCell' x=true)∧(∀ r∈rows,r.length=k) ∧
   ∀ (i j:Nat) (r:List D) (d:D) (x:Value),rows[i]? = some r→r[j]? = some d→xs[i*k+j]? = some x→Rd w (cx.own g σ) x d
 |.pin e k rows x0=>g id=x0∧∃ xs:List Value,w.ownsRow cx.w0.heap.size e k (g id) rows.length xs∧(∀ x∈xs,Value.oneCell' x=true)∧(∀ r∈rows,r.length=k) ∧
   ∀ (i j:Nat) (r:List D) (d:D) (x:Value),rows[i]? = some r→r[j]? = some d→xs[i*k+j]? = some x→Rd w (cx.own g σ) x d
 |.mp M x0=>g id=x0∧∃ b es clock,x0 = .map (some b)∧cx.w0.heap.size≤b∧w.heap[b]? = some (.map es clock)∧MapIs es M
 |.mi M x0=>g id=x0∧∃ b es clock,x0 = .map (some b)∧cx.w0.heap.size≤b∧w.heap[b]? = some (.map es clock)∧MapIsI es M
 |.gen p=>∃ b o,blk (g id)=some b∧cx.w0.heap.size≤b∧w.heap[b]? = some o∧p (g id) o
 |.lit kk V ids=>∃ b es clock,g id = .map (some b)∧cx.w0.heap.size≤b∧w.heap[b]? = some (.map es clock)∧(∀ e∈es.toList,∃ p∈V,e.key = .int kk p.1∧e.val=p.2) ∧
   ∀ (j i:Nat) (p:Int×Value),ids[j]? = some i→V[j]? = some p→get σ (.o i) = .ob (.tok id true)→∃ e∈es.toList,e.key = .int kk p.1
 |.tok _ _=>g id=nilS
 |.res=>g id=nilS
structure SimG (cx:Cx) (σ:St) (a:Act) (w:World) (g:Nat→Value) (nx:Nat):Prop where
 hnx:get σ .nx = .num nx
 size:a.tmps.size=cx.n
 defers:a.defers=[]
 below:Below cx.w0.heap.size cx.w0 w
 own0:(∀ b,cx.own0 b→b < cx.w0.heap.size)∧Gl cx.P cx.w0
 slots:∀ i av,get σ (.s i) = .av av→Rep cx g σ w (a.tmps.getD i undef) av∧av.bd nx
 objs:∀ id o,get σ (.o id) = .ob o→id < nx∧ObOk cx g σ w id o∧o.bd nx
 sep:∀ id id' o o' b,get σ (.o id) = .ob o→get σ (.o id') = .ob o'→blk (g id)=some b→blk (g id')=some b→id=id'
 gh:cx.gn≤nx∧∀ p∈cx.gh,Rep cx g σ w p.1 p.2∧p.2.bd cx.gn
theorem SimG.gl {cx:Cx}{σ:St}{a:Act}{w:World}{g:Nat→Value}{nx:Nat}(h:SimG cx σ a w g nx):Gl cx.P w:=h.own0.2.below h.below
def Sim (cx:Cx) (σ:St) (a:Act) (w:World):Prop:=∃ g nx,SimG cx σ a w g nx
def ObLe (g g':Nat→Value) (id:Nat):Ob→Ob→Prop
 |.res,.tok _ _=>False
 |.res,_=>True
 |.box _,.box _=>g' id=g id
 |.gen _,.gen _=>g' id=g id
 |.lit _ _ _,.lit _ _ _=>g' id=g id
 |.tok o a,.tok p b=>o=p∧a=b
 |_,.pin _ _ _ _=>True
 |_,.mp _ _=>True
 |_,.mi _ _=>True
 |.arr e k rows,.arr e' k' rows'=>e'=e∧k'=k∧rows.length≤rows'.length∧(rows'.length=rows.length→g' id=g id)
 |_,_=>False
structure Later (cx:Cx) (g g':Nat→Value) (σ σ':St) (w w':World) (nx:Nat):Prop where
 ext:Ext (cx.own g σ) w w'
 below:Below cx.w0.heap.size w w'
 own:∀ b,cx.own g' σ' b→cx.own g σ b∨w.heap.size≤b
 obs:∀ id o',id < nx→get σ' (.o id) = .ob o'→∃ o,get σ (.o id) = .ob o∧ObLe g g' id o o'
variable {cx:Cx}{g g':Nat→Value}{σ σ':St}{w w':World}{nx:Nat}
theorem RdCells.step {own own':Nat→Prop}{ad:Addr}{ds:List D}(h:Ext own w w') (ho:∀ b,own' b→own b∨w.heap.size≤b)
  (hc:∀ j,w'.cell? (ad.add j)=w.cell? (ad.add j)) (hr:RdCells w own ad ds):RdCells w' own' ad ds:=by
 intro j d hj
 obtain⟨u,hu,h1,hr⟩:=hr j d hj
 exact⟨u,by rw[hc];exact hu,h1,hr.step h ho⟩
theorem NR.step (hl:Later cx g g' σ σ' w w' nx) {id:Nat}(hb:id < nx) (h:NR σ id):NR σ' id:=fun hg=>by
 obtain⟨o,ho,hle⟩:=hl.obs id _ hb hg
 cases o with
 |res=>exact h ho
 |box c=>exact hle
 |arr e k rows=>exact hle
 |pin e k rows x=>exact hle
 |mp M x=>exact hle
 |mi M x=>exact hle
 |gen p=>exact hle
 |lit a b c=>exact hle
 |tok o b=>exact hle
theorem NR.of {σ:St}{id:Nat}{o:Ob}(ho:get σ (.o id) = .ob o) (h:o ≠ .res:=by simp):NR σ id:=fun hg=>by
 rw[ho]at hg
 exact h (by simpa using hg)
theorem Rep1.step (hl:Later cx g g' σ σ' w w' nx) {x:Value}{av:AV}(hb:av.bd1 nx) (h:Rep1 cx g σ w x av):Rep1 cx g' σ' w' x av:=by
 cases av with
 |d y=>exact Rd.step hl.ext hl.own h
 |pd ds =>
  obtain⟨ad,hx,hw,hs,hc⟩:=h
  refine⟨ad,hx,?_,Nat.lt_of_lt_of_le hs hl.ext.size,hc.step hl.ext hl.own fun j=>?_⟩
  ·
   rcases hw with hw|hw
   ·
    exact .inl hw
   ·
    refine .inr fun hx=>?_
    rcases hl.own _ hx with h'|h'
    ·
     exact hw h'
    ·
     omega
  ·
   rcases hw with hw|hw
   ·
    exact World.cell?_of_block (w:=w) (hl.below.block _ (by rw[add_block];exact hw))
   ·
    exact hl.ext.cell (by rw[add_block];exact hs) (by rw[add_block];exact hw)
 |ptr id off =>
  refine⟨h.1.step hl hb,fun cells hg=>?_⟩
  obtain⟨o,ho,hle⟩:=hl.obs id _ hb hg
  cases o with
  |res=>exact(h.1 ho).elim
  |box c0 =>
   obtain⟨b,h1,h2⟩:=h.2 c0 ho
   exact⟨b,by rw[show g' id=g id from hle];exact h1,h2⟩
  |arr e k rows=>exact hle.elim
  |pin e k rows x=>exact hle.elim
  |mp M x=>exact hle.elim
  |mi M x=>exact hle.elim
  |gen p=>exact hle.elim
  |lit a b c=>exact hle.elim
  |tok o b=>exact hle.elim
 |own id n =>
  refine⟨h.1.step hl hb,fun e k rows hg=>?_⟩
  obtain⟨o,ho,hle⟩:=hl.obs id _ hb hg
  cases o with
  |res=>exact(h.1 ho).elim
  |box c0=>exact hle.elim
  |arr e0 k0 rows0 =>
   obtain⟨h1,h2⟩:=h.2 _ _ _ ho
   obtain⟨_,_,h3,h4⟩:=hle
   exact⟨by omega,fun hn=>by rw[h4 (by omega)];exact h2 (by omega)⟩
  |pin e0 k0 rows0 x=>exact hle.elim
  |mp M0 x=>exact hle.elim
  |mi M0 x=>exact hle.elim
  |gen p=>exact hle.elim
  |lit a b c=>exact hle.elim
  |tok o b=>exact hle.elim
 |pe id n i f =>
  refine⟨h.1.step hl hb,fun e k rows hg=>?_⟩
  obtain⟨o,ho,hle⟩:=hl.obs id _ hb hg
  cases o with
  |res=>exact(h.1 ho).elim
  |box c0=>exact hle.elim
  |arr e0 k0 rows0 =>
   obtain⟨h1,h2⟩:=h.2 _ _ _ ho
   obtain⟨_,rfl,h3,h4⟩:=hle
   exact⟨by omega,fun hn=>by rw[h4 (by omega)];exact h2 (by omega)⟩
  |pin e0 k0 rows0 x=>exact hle.elim
  |mp M0 x=>exact hle.elim
  |mi M0 x=>exact hle.elim
  |gen p=>exact hle.elim
  |lit a b c=>exact hle.elim
  |tok o b=>exact hle.elim
 |h id =>
  refine⟨h.1.step hl hb,fun o' hg hh=>?_⟩
  obtain⟨o,ho,hle⟩:=hl.obs id _ hb hg
  cases o with
  |res=>exact(h.1 ho).elim
  |gen p0 =>
   refine(h.2 _ ho rfl).trans (Eq.symm ?_)
   cases o' <;> first|exact hle|exact False.elim hle|(cases hh;done)
  |lit a b c =>
   refine(h.2 _ ho rfl).trans (Eq.symm ?_)
   cases o' <;> first|exact hle|exact False.elim hle|(cases hh;done)
  |tok q b=>cases o' <;> first|(cases hh;done)|exact hle.elim
  |box c0=>cases o' <;> first|(cases hh;done)|exact hle.elim
  |arr e0 k0 rows0=>cases o' <;> first|(cases hh;done)|exact hle.elim
  |pin e0 k0 rows0 x=>cases o' <;> first|(cases hh;done)|exact hle.elim
  |mp M0 x=>cases o' <;> first|(cases hh;done)|exact hle.elim
  |mi M0 x=>cases o' <;> first|(cases hh;done)|exact hle.elim
 |any=>trivial
 |agg c=>exact h
 |tup c=>exact h
theorem Rep2.step (hl:Later cx g g' σ σ' w w' nx) {x:Value}{av:AV}(hb:match av with
  |.agg cells=>∀ a∈cells,AV.bd1 nx a
  |a=>a.bd1 nx) (h:Rep2 cx g σ w x av):Rep2 cx g' σ' w' x av:=by
 cases av with
 |agg cells =>
  obtain⟨cs,hx,hs,h1,hr⟩:=h
  exact⟨cs,hx,hs,h1,fun j c av hj hc=>(hr j c av hj hc).step hl (hb av (List.mem_of_getElem? hj))⟩
 |d y=>exact Rep1.step hl hb h
 |pd y=>exact Rep1.step hl hb h
 |ptr i o=>exact Rep1.step hl hb h
 |own i n=>exact Rep1.step hl hb h
 |pe i n a b=>exact Rep1.step hl hb h
 |h i=>exact Rep1.step hl hb h
 |any=>exact Rep1.step (x:=x) (av := .any) hl hb trivial
 |tup c=>exact Rep1.step (x:=x) (av := .tup c) hl hb h
theorem Rep.step (hl:Later cx g g' σ σ' w w' nx) {x:Value}{av:AV}(hb:av.bd nx) (h:Rep cx g σ w x av):Rep cx g' σ' w' x av:=by
 cases av with
 |tup avs =>
  obtain⟨vs,hx,hs,hr⟩:=h
  refine⟨vs,hx,hs,fun j c av hj hc=>(hr j c av hj hc).step hl ?_⟩
  have:=hb av (List.mem_of_getElem? hj)
  cases av <;> exact this
 |agg cells=>exact Rep2.step (av := .agg cells) hl hb h
 |d y=>exact Rep2.step (av := .d y) hl hb h
 |pd y=>exact Rep2.step (av := .pd y) hl hb h
 |ptr i o=>exact Rep2.step (av := .ptr i o) hl hb h
 |own i n=>exact Rep2.step (av := .own i n) hl hb h
 |pe i n a b=>exact Rep2.step (av := .pe i n a b) hl hb h
 |h i=>exact Rep2.step (av := .h i) hl hb h
 |any=>exact Rep2.step (x:=x) (av := .any) hl hb h
theorem AV.bd1_mono {n m:Nat}(h:n≤m) {av:AV}(hb:av.bd1 n):av.bd1 m:=by
 cases av <;> simp only[AV.bd1]at hb ⊢ <;> omega
theorem AV.bd_mono {n m:Nat}(h:n≤m) {av:AV}(hb:av.bd n):av.bd m:=by
 cases av with
 |agg cells=>exact fun a ha=>AV.bd1_mono h (hb a ha)
 |tup avs =>
  intro a ha
  have:=hb a ha
  cases a with
  |agg cells=>exact fun a ha=>AV.bd1_mono h (this a ha)
  |d y=>exact AV.bd1_mono (av := .d y) h this
  |pd y=>exact AV.bd1_mono (av := .pd y) h this
  |ptr i o=>exact AV.bd1_mono (av := .ptr i o) h this
  |own i n=>exact AV.bd1_mono (av := .own i n) h this
  |pe i n a b=>exact AV.bd1_mono (av := .pe i n a b) h this
  |h i=>exact AV.bd1_mono (av := .h i) h this
  |any=>exact AV.bd1_mono (av := .any) h this
  |tup c=>exact AV.bd1_mono (av := .tup c) h this
 |d y=>exact AV.bd1_mono (av := .d y) h hb
 |pd y=>exact AV.bd1_mono (av := .pd y) h hb
 |ptr i o=>exact AV.bd1_mono (av := .ptr i o) h hb
 |own i n=>exact AV.bd1_mono (av := .own i n) h hb
 |pe i n a b=>exact AV.bd1_mono (av := .pe i n a b) h hb
 |h i=>exact AV.bd1_mono (av := .h i) h hb
 |any=>exact AV.bd1_mono (av := .any) h hb
end Go.AX
namespace Go.AX
open Go.RowKit
variable {cx:Cx}{g g':Nat→Value}{σ σ':St}{a a':Act}{w w':World}{nx nx':Nat}
theorem blk_own {base:Nat}{e k:Nat}{v:Value}{n:Nat}{xs:List Value}(h:w.ownsRow base e k v n xs):blk v=v.ownBlock:=by
 rcases h.2 with ⟨rfl,_⟩|⟨_,_,_,rfl,_⟩ <;> rfl
theorem put_ne {a:Act}{d i:Nat}{v:Value}(h:i≠d):(a.put (some d) v).tmps.getD i undef=a.tmps.getD i undef:=by
 have h':¬ d=i:=fun e=>h e.symm
 simp only[Act.put,Array.getD_eq_getD_getElem?,Array.getElem?_setIfInBounds,if_neg h']
theorem put_eq {a:Act}{d:Nat}{v:Value}(h:d < a.tmps.size):(a.put (some d) v).tmps.getD d undef=v:=by
 simp[Act.put,Array.getD_eq_getD_getElem?,h]
theorem ownsRow_same {base:Nat}{e k:Nat}{v:Value}{n:Nat}{xs:List Value}(h:w.ownsRow base e k v n xs)
  (hb:∀ b,blk v=some b→w'.heap[b]? = w.heap[b]?):w'.ownsRow base e k v n xs:=by
 refine⟨h.1,?_⟩
 rcases h.2 with h|⟨gg,cap,cur,hv,h1,h2,h3⟩
 ·
  exact .inl h
 ·
  exact .inr ⟨gg,cap,cur,hv,h1,by rw[hb gg (by rw[hv];rfl)];exact h2,h3⟩
theorem ObOk.step (hl:Later cx g g' σ σ' w w' nx) {id:Nat}{o:Ob}(hg:g' id=g id) (hb:∀ b,blk (g id)=some b→w'.heap[b]? = w.heap[b]?)
  (hbd:o.bd nx) (h:ObOk cx g σ w id o):ObOk cx g' σ' w' id o:=by
 cases o with
 |box cells =>
  obtain⟨b,cs,t,h0,h1,h2,h3,h4,h5⟩:=h
  exact⟨b,cs,t,by rw[hg];exact h0,h1,by rw[hb b (by rw[h0];rfl)];exact h2,h3,h4,
   fun j c av hj hc=>(h5 j c av hj hc).step hl (hbd av (List.mem_of_getElem? hj))⟩
 |arr e k rows =>
  obtain⟨xs,h1,h2,h3,h4⟩:=h
  exact⟨xs,by rw[hg];exact ownsRow_same h1 hb,h2,h3,fun i j r d x hi hj hx=>(h4 i j r d x hi hj hx).step hl.ext hl.own⟩
 |pin e k rows x =>
  obtain⟨h0,xs,h1,h2,h3,h4⟩:=h
  exact⟨by rw[hg];exact h0,xs,by rw[hg];exact ownsRow_same h1 hb,h2,h3,fun i j r d x hi hj hx=>(h4 i j r d x hi hj hx).step hl.ext hl.own⟩
 |mp M x =>
  obtain⟨h0,b,es,clock,h1,h2,h3,h4⟩:=h
  exact⟨by rw[hg];exact h0,b,es,clock,h1,h2,by rw[hb b (by rw[h0,h1];rfl)];exact h3,h4⟩
 |mi M x =>
  obtain⟨h0,b,es,clock,h1,h2,h3,h4⟩:=h
  exact⟨by rw[hg];exact h0,b,es,clock,h1,h2,by rw[hb b (by rw[h0,h1];rfl)];exact h3,h4⟩
 |gen p =>
  obtain⟨b,o,h0,h1,h2,h3⟩:=h
  exact⟨b,o,by rw[hg];exact h0,h1,by rw[hb b h0];exact h2,by rw[hg];exact h3⟩
 |lit kk V ids =>
  obtain⟨b,es,clock,h0,h1,h2,h3,h4⟩:=h
  refine⟨b,es,clock,by rw[hg];exact h0,h1,by rw[hb b (by rw[h0];rfl)];exact h2,h3,fun j i p hj hp hi=>?_⟩
  obtain⟨o,ho,hle⟩:=hl.obs i _ (hbd i (List.mem_of_getElem? hj)) hi
  cases o <;> first|exact False.elim hle|(obtain⟨rfl,rfl⟩:=hle;exact h4 j i p hj hp ho)
 |tok q b=>exact hg.trans h
 |res=>exact hg.trans h
theorem Ob.bd_mono {n m:Nat}(h:n≤m) {o:Ob}(hb:o.bd n):o.bd m:=by
 cases o with
 |box cells=>exact fun av ha=>AV.bd1_mono h (hb av ha)
 |arr e k rows=>trivial
 |pin e k rows x=>trivial
 |mp M x=>trivial
 |mi M x=>trivial
 |gen p=>trivial
 |lit a b c=>exact fun i hi=>Nat.lt_of_lt_of_le (hb i hi) h
 |tok q b=>trivial
 |res=>trivial
theorem SimG.next (h:SimG cx σ a w g nx) (hl:Later cx g g' σ σ' w w' nx) (hnx:get σ' .nx = .num nx') (hle:nx≤nx')
  (hsz:a'.tmps.size=cx.n) (hd:a'.defers=[]) (hbel:Below cx.w0.heap.size w w')
  (hs:∀ i av,get σ' (.s i) = .av av→(get σ (.s i) = .av av∧a'.tmps.getD i undef=a.tmps.getD i undef) ∨
   (Rep cx g' σ' w' (a'.tmps.getD i undef) av∧av.bd nx'))
  (ho:∀ id o,get σ' (.o id) = .ob o→(get σ (.o id) = .ob o∧g' id=g id∧(∀ b,blk (g id)=some b→w'.heap[b]? = w.heap[b]?)) ∨
   (id < nx'∧ObOk cx g' σ' w' id o∧o.bd nx'))
  (hsep:∀ id id' o o' b,get σ' (.o id) = .ob o→get σ' (.o id') = .ob o'→blk (g' id)=some b→blk (g' id')=some b→id=id') :
  SimG cx σ' a' w' g' nx':=by
 refine⟨hnx,hsz,hd,h.below.trans hbel,h.own0,fun i av hi=>?_,fun id o hi=>?_,hsep,Nat.le_trans h.gh.1 hle,fun p hp=>⟨(h.gh.2 p hp).1.step hl (AV.bd_mono h.gh.1 (h.gh.2 p hp).2),(h.gh.2 p hp).2⟩⟩
 ·
  rcases hs i av hi with ⟨h1,h2⟩|h1
  ·
   obtain⟨h3,h4⟩:=h.slots i av h1
   exact⟨by rw[h2];exact h3.step hl h4,AV.bd_mono hle h4⟩
  ·
   exact h1
 ·
  rcases ho id o hi with ⟨h1,h2,h3⟩|h1
  ·
   obtain⟨h4,h5,h6⟩:=h.objs id o h1
   exact⟨by omega,h5.step hl h2 h3 h6,Ob.bd_mono hle h6⟩
  ·
   exact h1
theorem own_lt (h:SimG cx σ a w g nx) {b:Nat}(hb:cx.own g σ b):b < w.heap.size:=by
 rcases hb with hb|⟨id,o,ho,hb⟩
 ·
  exact Nat.lt_of_lt_of_le (h.own0.1 b hb) h.below.size
 ·
  obtain⟨_,hok,_⟩:=h.objs id o ho
  cases o with
  |box cells =>
   obtain⟨b',cs,t,h0,h1,h2,_⟩:=hok
   rw[h0]at hb
   obtain rfl:b'=b:=by simpa[blk] using hb
   rcases Nat.lt_or_ge b' w.heap.size with hlt|hge
   ·
    exact hlt
   ·
    rw[Array.getElem?_eq_none hge]at h2;cases h2
  |arr e k rows =>
   obtain⟨xs,h1,_⟩:=hok
   exact(h1.lt b (by rw[← blk_own h1];exact hb)).2
  |pin e k rows x =>
   obtain⟨_,xs,h1,_⟩:=hok
   exact(h1.lt b (by rw[← blk_own h1];exact hb)).2
  |mp M x =>
   obtain⟨h0,b',es,clock,h1,h2,h3,_⟩:=hok
   rw[h0,h1]at hb
   obtain rfl:b'=b:=by simpa[blk] using hb
   rcases Nat.lt_or_ge b' w.heap.size with hlt|hge
   ·
    exact hlt
   ·
    rw[Array.getElem?_eq_none hge]at h3;cases h3
  |mi M x =>
   obtain⟨h0,b',es,clock,h1,h2,h3,_⟩:=hok
   rw[h0,h1]at hb
   obtain rfl:b'=b:=by simpa[blk] using hb
   rcases Nat.lt_or_ge b' w.heap.size with hlt|hge
   ·
    exact hlt
   ·
    rw[Array.getElem?_eq_none hge]at h3;cases h3
  |tok q b=>rw[show g id=nilS from hok]at hb;simp[blk]at hb
  |lit kk V ids =>
   obtain⟨b',es,clock,h0,_,h3,_⟩:=hok
   rw[h0]at hb
   obtain rfl:b'=b:=by simpa[blk] using hb
   rcases Nat.lt_or_ge b' w.heap.size with hlt|hge
   ·
    exact hlt
   ·
    rw[Array.getElem?_eq_none hge]at h3;cases h3
  |gen p =>
   obtain⟨b',o',h0,_,h3,_⟩:=hok
   obtain rfl:b'=b:=Option.some.inj (h0.symm.trans hb)
   rcases Nat.lt_or_ge b' w.heap.size with hlt|hge
   ·
    exact hlt
   ·
    rw[Array.getElem?_eq_none hge]at h3;cases h3
  |res=>rw[show g id=nilS from hok]at hb;simp[blk]at hb
theorem obj_ge (h:SimG cx σ a w g nx) {id:Nat}{o:Ob}(ho:get σ (.o id) = .ob o) {b:Nat}(hb:blk (g id)=some b):cx.w0.heap.size≤b:=by
 obtain⟨_,hok,_⟩:=h.objs id o ho
 cases o with
 |box cells =>
  obtain⟨b',cs,t,h0,h1,h2,_⟩:=hok
  rw[h0]at hb
  obtain rfl:b'=b:=by simpa[blk] using hb
  exact h1
 |arr e k rows =>
  obtain⟨xs,h1,_⟩:=hok
  exact(h1.lt b (by rw[← blk_own h1];exact hb)).1
 |pin e k rows x =>
  obtain⟨_,xs,h1,_⟩:=hok
  exact(h1.lt b (by rw[← blk_own h1];exact hb)).1
 |mp M x =>
  obtain⟨h0,b',es,clock,h1,h2,h3,_⟩:=hok
  rw[h0,h1]at hb
  obtain rfl:b'=b:=by simpa[blk] using hb
  exact h2
 |mi M x =>
  obtain⟨h0,b',es,clock,h1,h2,h3,_⟩:=hok
  rw[h0,h1]at hb
  obtain rfl:b'=b:=by simpa[blk] using hb
  exact h2
 |gen p =>
  obtain⟨b',o',h0,h1,_⟩:=hok
  obtain rfl:b'=b:=Option.some.inj (h0.symm.trans hb)
  exact h1
 |lit kk V ids =>
  obtain⟨b',es,clock,h0,h1,_⟩:=hok
  rw[h0]at hb
  obtain rfl:b'=b:=by simpa[blk] using hb
  exact h1
 |tok q b=>rw[show g id=nilS from hok]at hb;simp[blk]at hb
 |res=>rw[show g id=nilS from hok]at hb;simp[blk]at hb
theorem Later.same (ho:∀ id,get σ' (.o id)=get σ (.o id)) (hext:Ext (cx.own g σ) w w') (hbel:Below cx.w0.heap.size w w'):Later cx g g σ σ' w w' nx:=by
 refine⟨hext,hbel,fun b hb=>?_,fun id o' _ h=>⟨o',by rw[← ho];exact h,?_⟩⟩
 ·
  rcases hb with hb|⟨id,o,h1,h2⟩
  ·
   exact .inl (.inl hb)
  ·
   exact .inl (.inr ⟨id,o,by rw[← ho];exact h1,h2⟩)
 ·
  cases o' <;> simp[ObLe]
theorem Sim.put (h:SimG cx σ a w g nx) {d:Nat}(hd:d < cx.n) (hb:Below w.heap.size w w') {v:Value}{av:AV}
  (hr:Rep cx g σ w' v av) (hbd:av.bd nx):Sim cx ((.s d,.av av)::σ) (a.put (some d) v) w':=by
 have hos:∀ id,get ((.s d,.av av)::σ) (.o id)=get σ (.o id):=fun id=>get_cons_ne (by simp)
 have hbel:Below cx.w0.heap.size w w':=hb.mono h.below.size
 have hl:Later cx g g σ ((.s d,.av av)::σ) w w' nx:=Later.same hos (Ext.of_below hb) hbel
 refine⟨g,nx,h.next hl (by rw[get_cons_ne (by simp)];exact h.hnx) (Nat.le_refl _) (by simp[Act.put,h.size]) (by simpa[Act.put] using h.defers) hbel (fun i av' hi=>?_) (fun id o hi=>?_) (fun id id' o o' b h1 h2=>?_)⟩
 ·
  by_cases hid:i=d
  ·
   subst hid
   rw[get_cons_same]at hi
   obtain rfl:av=av':=by simpa using hi
   refine .inr ⟨?_,hbd⟩
   have he:(a.put (some i) v).tmps.getD i undef=v:=put_eq (by rw[h.size];exact hd)
   rw[he]
   exact hr.step (Later.same (cx:=cx) (g:=g) (σ:=σ) (nx:=nx) hos (Ext.refl _ _) (Below.refl _ _)) hbd
  ·
   rw[get_cons_ne (by simpa using fun e=>hid e.symm)]at hi
   exact .inl ⟨hi,put_ne hid⟩
 ·
  rw[hos]at hi
  exact .inl ⟨hi,rfl,fun b hbk=>hb.block b (own_lt h (.inr ⟨id,o,hi,hbk⟩))⟩
 ·
  rw[hos]at h1 h2
  exact h.sep id id' o o' b h1 h2
end Go.AX
namespace Go.AX
open Go.RowKit
variable {cx:Cx}{g:Nat→Value}{σ σ':St}{a:Act}{w w':World}{nx nx':Nat}
def upd (g:Nat→Value) (id:Nat) (v:Value):Nat→Value:=fun i=>if i=id then v else g i
theorem upd_same (g:Nat→Value) (id:Nat) (v:Value):upd g id v id=v:=by simp[upd]
theorem upd_ne {g:Nat→Value}{id i:Nat}{v:Value}(h:i≠id):upd g id v i=g i:=by simp[upd,h]
structure ObjStep (cx:Cx) (σ:St) (g:Nat→Value) (nx nx':Nat) (w w':World) (id0:Nat) (o':Ob) (hv:Value):Prop where
 kind:(id0=nx∧nx'=nx+1)∨(nx'=nx∧∃ o,get σ (.o id0) = .ob o∧ObLe g (upd g id0 hv) id0 o o')
 below:Below cx.w0.heap.size w w'
 rest:∀ b,b < w.heap.size→(∀ o,get σ (.o id0) = .ob o→blk (g id0)≠some b)→w'.heap[b]? = w.heap[b]?
 place:∀ b,blk hv=some b→(∃ o,get σ (.o id0) = .ob o∧blk (g id0)=some b)∨w.heap.size≤b
abbrev objSt (σ:St) (nx' id0:Nat) (o':Ob):St:=(.o id0,.ob o')::(.nx,.num nx')::σ
theorem objSt_s {id0:Nat}{o':Ob}(i:Nat):get (objSt σ nx' id0 o') (.s i)=get σ (.s i):=by
 rw[get_cons_ne (by simp),get_cons_ne (by simp)]
theorem objSt_o {id0:Nat}{o':Ob}{i:Nat}(h:i≠id0):get (objSt σ nx' id0 o') (.o i)=get σ (.o i):=by
 rw[get_cons_ne (by simpa using fun e=>h e.symm),get_cons_ne (by simp)]
theorem objSt_nx {id0:Nat}{o':Ob}:get (objSt σ nx' id0 o') .nx = .num nx':=by
 rw[get_cons_ne (by simp),get_cons_same]
theorem Later.obj (_h:SimG cx σ a w g nx) {id0:Nat}{o':Ob}{hv:Value}(hs:ObjStep cx σ g nx nx' w w' id0 o' hv) :
  Later cx g (upd g id0 hv) σ (objSt σ nx' id0 o') w w' nx:=by
 refine⟨⟨hs.below.size,fun b hb hn=>hs.rest b hb fun o ho hbk=>hn (.inr ⟨id0,o,ho,hbk⟩)⟩,hs.below,fun b hb=>?_,fun id o1 hid ho1=>?_⟩
 ·
  rcases hb with hb|⟨id,o,h1,h2⟩
  ·
   exact .inl (.inl hb)
  ·
   by_cases hid:id=id0
   ·
    subst hid
    rw[upd_same]at h2
    rcases hs.place b h2 with ⟨o,h3,h4⟩|h3
    ·
     exact .inl (.inr ⟨id,o,h3,h4⟩)
    ·
     exact .inr h3
   ·
    rw[objSt_o hid]at h1
    rw[upd_ne hid]at h2
    exact .inl (.inr ⟨id,o,h1,h2⟩)
 ·
  by_cases he:id=id0
  ·
   subst he
   rw[get_cons_same]at ho1
   obtain rfl:o'=o1:=by simpa using ho1
   rcases hs.kind with ⟨h1,_⟩|⟨_,o,h1,h2⟩
   ·
    omega
   ·
    exact⟨o,h1,h2⟩
  ·
   rw[objSt_o he]at ho1
   refine⟨o1,ho1,?_⟩
   cases o1 <;> simp[ObLe,upd_ne he]
theorem SimG.obj (h:SimG cx σ a w g nx) {id0:Nat}{o':Ob}{hv:Value}(hs:ObjStep cx σ g nx nx' w w' id0 o' hv)
  (hok:Later cx g (upd g id0 hv) σ (objSt σ nx' id0 o') w w' nx→ObOk cx (upd g id0 hv) (objSt σ nx' id0 o') w' id0 o') (hbd:o'.bd nx') :
  SimG cx (objSt σ nx' id0 o') a w' (upd g id0 hv) nx':=by
 have hl:=Later.obj h hs
 have hle:nx≤nx':=by rcases hs.kind with ⟨_,h1⟩|⟨h1,_⟩ <;> omega
 have hlt:id0 < nx':=by
  rcases hs.kind with ⟨h1,h2⟩|⟨h1,o,h2,_⟩
  ·
   omega
  ·
   have:=(h.objs id0 o h2).1;omega
 refine h.next hl objSt_nx hle h.size h.defers hs.below (fun i av hi=>?_) (fun id o ho=>?_) (fun id id' o o1 b h1 h2 h3 h4=>?_)
 ·
  rw[objSt_s]at hi
  exact .inl ⟨hi,rfl⟩
 ·
  by_cases he:id=id0
  ·
   subst he
   rw[get_cons_same]at ho
   obtain rfl:o'=o:=by simpa using ho
   exact .inr ⟨hlt,hok hl,hbd⟩
  ·
   rw[objSt_o he]at ho
   refine .inl ⟨ho,upd_ne he,fun b hb=>hs.rest b (own_lt h (.inr ⟨id,o,ho,hb⟩)) fun o1 ho1 hb1=>he (h.sep id id0 o o1 b ho ho1 hb hb1)⟩
 ·
  have hone:∀ (id:Nat) (o:Ob) (b:Nat),id≠id0→get (objSt σ nx' id0 o') (.o id) = .ob o→blk (upd g id0 hv id)=some b→blk hv=some b→False:=by
   intro id o b he ho hb hvb
   rw[objSt_o he]at ho
   rw[upd_ne he]at hb
   rcases hs.place b hvb with ⟨o1,h5,h6⟩|h5
   ·
    exact he (h.sep id id0 o o1 b ho h5 hb h6)
   ·
    have:=own_lt h (.inr ⟨id,o,ho,hb⟩);omega
  by_cases he:id=id0
  ·
   by_cases he':id'=id0
   ·
    rw[he,he']
   ·
    subst he
    rw[upd_same]at h3
    exact(hone id' o1 b he' h2 h4 h3).elim
  ·
   by_cases he':id'=id0
   ·
    subst he'
    rw[upd_same]at h4
    exact(hone id o b he h1 h3 h4).elim
   ·
    rw[objSt_o he]at h1
    rw[objSt_o he']at h2
    rw[upd_ne he]at h3
    rw[upd_ne he']at h4
    exact h.sep id id' o o1 b h1 h2 h3 h4
theorem get_nx_obj (h:SimG cx σ a w g nx):get σ (.o nx)=get σ (.o nx)∧∀ o,get σ (.o nx) ≠ .ob o :=
 ⟨rfl,fun o ho=>by have:=(h.objs nx o ho).1;omega⟩
structure Less (σ σ':St):Prop where
 s:∀ i av,get σ' (.s i) = .av av→get σ (.s i) = .av av
 o:∀ id o,get σ' (.o id) = .ob o→get σ (.o id) = .ob o
 nx:∃ n n',get σ .nx = .num n∧get σ' .nx = .num n'∧n'≤n∧(∀ i av,get σ' (.s i) = .av av→av.bd n')∧(∀ id o,get σ' (.o id) = .ob o→id < n'∧o.bd n')
theorem Sim.less (hs:Sim cx σ a w) (hl:Less σ σ') (hgn:∀ n',get σ' .nx = .num n'→cx.gn≤n'):Sim cx σ' a w:=by
 obtain⟨g,nx,h⟩:=hs
 obtain⟨n,n',h1,h2,hle,h3,h4⟩:=hl.nx
 have hn:n=nx:=by
  have:=h.hnx
  rw[h1]at this
  simpa using this
 subst hn
 have hlat:Later cx g g σ σ' w w n:=by
  refine⟨Ext.refl _ _,Below.refl _ _,fun b hb=>?_,fun id o' _ ho=>⟨o',hl.o _ _ ho,?_⟩⟩
  ·
   rcases hb with hb|⟨id,o,h5,h6⟩
   ·
    exact .inl (.inl hb)
   ·
    exact .inl (.inr ⟨id,o,hl.o _ _ h5,h6⟩)
  ·
   cases o' <;> simp[ObLe]
 refine⟨g,n',?_⟩
 refine⟨h2,h.size,h.defers,h.below,h.own0,fun i av hi=>?_,fun id o ho=>?_,fun id id' o o' b h5 h6=>h.sep id id' o o' b (hl.o _ _ h5) (hl.o _ _ h6),hgn _ h2,fun p hp=>⟨(h.gh.2 p hp).1.step hlat (AV.bd_mono h.gh.1 (h.gh.2 p hp).2),(h.gh.2 p hp).2⟩⟩
 ·
  obtain⟨h5,h6⟩:=h.slots i av (hl.s i av hi)
  exact⟨h5.step hlat h6,h3 i av hi⟩
 ·
  obtain⟨h5,h6,h7⟩:=h.objs id o (hl.o _ _ ho)
  exact⟨(h4 id o ho).1,h6.step hlat rfl (fun _ _=>rfl) h7,(h4 id o ho).2⟩
end Go.AX
namespace Go.AX
open Go.RowKit
structure Tr where
 rd:List (Key×Val)
 wr:List (Key×Val)
def App (σ:St):List (Key×Val)→Prop
 | []=>True
 |(k,v)::r=>get σ k=v∧App σ r
theorem App.mem {σ:St}:∀ {l:List (Key×Val)},App σ l→∀ p∈l,get σ p.1=p.2
 |(_,_)::_,h,p,hp=>by
  cases hp with
  |head=>exact h.1
  |tail _ hp=>exact App.mem h.2 p hp
theorem App.of {σ:St}:∀ {l:List (Key×Val)},(∀ p∈l,get σ p.1=p.2)→App σ l
 | [],_=>trivial
 |_::_,h=>⟨h _ (List.mem_cons_self ..),App.of fun p hp=>h p (List.mem_cons_of_mem _ hp)⟩
theorem App.append {σ:St}{l r:List (Key×Val)}(h:App σ l) (h':App σ r):App σ (l++r) :=
 App.of fun p hp=>(List.mem_append.1 hp).elim (h.mem p) (h'.mem p)
theorem App.left {σ:St}{l r:List (Key×Val)}(h:App σ (l++r)):App σ l:=App.of fun p hp=>h.mem p (List.mem_append_left _ hp)
theorem App.right {σ:St}{l r:List (Key×Val)}(h:App σ (l++r)):App σ r:=App.of fun p hp=>h.mem p (List.mem_append_right _ hp)
instance : DecidableEq Key:=fun _ _=>decidable_of_iff _ Key.beq_iff
theorem get_append {l:List (Key×Val)}{σ:St}{k:Key}:get (l++σ) k=if k∈l.map (·.1) then get l k else get σ k:=by
 induction l with
 |nil=>simp
 |cons p l ih =>
  obtain⟨q,v⟩:=p
  by_cases h:q=k
  ·
   subst h;simp[get_cons_same]
  ·
   have h':¬ k=q:=fun e=>h e.symm
   simp only[List.cons_append,get_cons_ne h,ih,List.map_cons,List.mem_cons,h',false_or]
theorem App.drop {l:List (Key×Val)}{σ:St}{rd:List (Key×Val)}(h:∀ k,k∈l.map (·.1)→k∈rd.map (·.1)→False):App (l++σ) rd↔App σ rd:=by
 constructor
 ·
  refine fun ha=>App.of fun p hp=>?_
  have:=ha.mem p hp
  rwa [get_append,if_neg (fun hk=>h p.1 hk (List.mem_map_of_mem hp))]at this
 ·
  refine fun ha=>App.of fun p hp=>?_
  rw[get_append,if_neg (fun hk=>h p.1 hk (List.mem_map_of_mem hp))]
  exact ha.mem p hp
def Stut (cx:Cx) (t:Tr):Prop:=∀ (σ:St) (a:Act) (w:World),Sim cx σ a w→App σ t.rd→Sim cx (t.wr++σ) a w
def mrg (t t1:Tr):Tr:=⟨t.rd++t1.rd.filter (fun p => !((t.wr.map (·.1)).any fun k=>k.beq p.1)),t1.wr++t.wr⟩
def OpOk (cx:Cx) (o:Oper) (t:Tr):Prop :=
 ∀ (σ:St) (a:Act) (w:World) (K:Act→World→Prop) (Q:Exit→Act→World→Prop),Sim cx σ a w→App σ t.rd →
  (∀ a' w',Sim cx (t.wr++σ) a' w'→K a' w')→o.wp cx.P a w K Q
def skipWr (o:Oper):List (Key×Val):=match o.dst with
 |some x=>[(.s x,.av (.d (.v undef)))]
 |none=>[]
abbrev bv (b:Bool):Val := .av (.d (.v (.bool b)))
inductive Steps' (cx:Cx) (ops:Array Oper):List Oper→St→List Tr→St→Prop
 |nil (σ:St):Steps' cx ops [] σ [] σ
 |op {o:Oper} {rest:List Oper} {σ σ':St} {t:Tr} {ts:List Tr} (hg:o.guard=none) (ho:OpOk cx o t) (ha:App σ t.rd)
   (h:Steps' cx ops rest (t.wr++σ) ts σ'):Steps' cx ops (o::rest) σ (t::ts) σ'
 |yes {o:Oper} {rest:List Oper} {σ σ':St} {t:Tr} {ts:List Tr} {j d:Nat} {want:Bool} (hg:o.guard=some (j,want)) (hj:(ops[j]?).bind (·.dst)=some d)
   (hb:get σ (.s d)=bv want) (ho:OpOk cx o t) (ha:App σ t.rd) (h:Steps' cx ops rest (t.wr++σ) ts σ') :
   Steps' cx ops (o::rest) σ ({ rd:=(.s d,bv want)::t.rd,wr:=t.wr }::ts) σ'
 |no {o:Oper} {rest:List Oper} {σ σ':St} {ts:List Tr} {j d:Nat} {want:Bool} {u:Value} (hg:o.guard=some (j,want)) (hj:(ops[j]?).bind (·.dst)=some d)
   (hb:get σ (.s d) = .av (.d (.v u))) (hu:u ≠ .bool want) (hx:∀ x,o.dst=some x→x < cx.n) (h:Steps' cx ops rest (skipWr o++σ) ts σ') :
   Steps' cx ops (o::rest) σ ({ rd:=[(.s d,.av (.d (.v u)))],wr:=skipWr o }::ts) σ'
 |pre {o:Oper} {rest:List Oper} {σ σ':St} {t t1:Tr} {ts:List Tr} (hs:Stut cx t) (ha:App σ t.rd) (h:Steps' cx ops (o::rest) (t.wr++σ) (t1::ts) σ') :
   Steps' cx ops (o::rest) σ (mrg t t1::ts) σ'
variable {cx:Cx}{σ σ':St}{a a':Act}{w w':World}{ops:Array Oper}
theorem Sim.any (h:Sim cx σ a w) {d:Nat}(hd:d < cx.n) (v:Value):Sim cx ((.s d,.av .any)::σ) (a.put (some d) v) w:=by
 obtain⟨g,nx,h⟩:=h
 exact Sim.put h hd (Below.refl _ _) (av := .any) trivial trivial
theorem Sim.skip (h:Sim cx σ a w) {o:Oper}(hx:∀ x,o.dst=some x→x < cx.n):Sim cx (skipWr o++σ) (a.put o.dst undef) w:=by
 unfold skipWr
 cases hd:o.dst with
 |none=>simpa[Act.put] using h
 |some x =>
  obtain⟨g,nx,h⟩:=h
  exact Sim.put h (hx x hd) (Below.refl _ _) (av := .d (.v undef)) (Rd.v _) trivial
theorem Sim.yielded (h:Sim cx σ a w) {j d:Nat}{b:Bool}(hj:(ops[j]?).bind (·.dst)=some d) (hb:get σ (.s d)=bv b):yielded ops a.tmps j=some b:=by
 obtain⟨g,nx,h⟩:=h
 obtain⟨hr,_⟩:=h.slots d _ hb
 have hr':Rd w (cx.own g σ) (a.tmps.getD d undef) (.v (.bool b)):=hr
 have hv:a.tmps.getD d undef = .bool b:=by
  generalize a.tmps.getD d undef=x at hr'
  cases hr';rfl
 unfold Go.yielded
 rw[hj]
 rw[Array.getD_eq_getD_getElem?]at hv
 cases hg:a.tmps[d]? with
 |none=>rw[hg]at hv;cases hv
 |some x =>
  rw[hg]at hv
  have hv':x = .bool b:=hv
  simp[hg,hv']
theorem Sim.unwanted (h:Sim cx σ a w) {j d:Nat}{u:Value}{want:Bool}(hj:(ops[j]?).bind (·.dst)=some d) (hb:get σ (.s d) = .av (.d (.v u))) (hu:u ≠ .bool want):Go.yielded ops a.tmps j≠some want:=by
 obtain⟨g,nx,h⟩:=h
 obtain⟨hr,_⟩:=h.slots d _ hb
 have hr':Rd w (cx.own g σ) (a.tmps.getD d undef) (.v u):=hr
 have hv:a.tmps.getD d undef=u:=by
  generalize a.tmps.getD d undef=x at hr'
  cases hr';rfl
 intro hy
 unfold Go.yielded at hy
 rw[hj]at hy
 rw[Array.getD_eq_getD_getElem?]at hv
 cases hg:a.tmps[d]? with
 |none=>simp[hg]at hy
 |some x =>
  rw[hg]at hv
  have hv':x=u:=hv
  subst hv'
  simp only[Option.bind_some,hg]at hy
  cases x <;> simp_all
def TrOk (cx:Cx) (ops:Array Oper) (o:Oper) (t:Tr):Prop :=
 ∀ (σ:St) (a:Act) (w:World) (K:Act→World→Prop) (Q:Exit→Act→World→Prop),Sim cx σ a w→App σ t.rd →
  (∀ a' w',Sim cx (t.wr++σ) a' w'→K a' w')→if Region.wanted o (yielded ops a.tmps) then o.wp cx.P a w K Q else K (a.put o.dst undef) w
def All2 (cx:Cx) (ops:Array Oper):List Oper→List Tr→Prop
 | [],[]=>True
 |o::l,t::ts=>TrOk cx ops o t∧All2 cx ops l ts
 |_,_=>False
theorem All2.at {cx:Cx}{ops:Array Oper}:∀ {l:List Oper}{ts:List Tr},All2 cx ops l ts→∀ {i:Nat}{o:Oper},l[i]? = some o→∃ t,ts[i]? = some t∧TrOk cx ops o t
 | [],[],_,i,o,h=>by simp at h
 |_::l,t::ts,h,i,o,hi=>by
  cases i with
  |zero=>exact⟨t,rfl,by simp at hi;subst hi;exact h.1⟩
  |succ i=>simpa using All2.at h.2 (by simpa using hi)
theorem not_any {l:List (Key×Val)}{k:Key}:(!((l.map (·.1)).any fun q=>q.beq k))=true↔k∉l.map (·.1):=by
 rw[Bool.not_eq_true',← Bool.not_eq_true,List.any_eq_true]
 constructor
 ·
  intro h hk
  exact h ⟨k,hk,Key.beq_iff.2 rfl⟩
 ·
  rintro h ⟨q,hq,hb⟩
  exact h (Key.beq_iff.1 hb▸hq)
theorem App.of_mrg {t t1:Tr}{σ0:St}(h0:App (t.wr++σ0) t1.rd) (h:App σ (mrg t t1).rd):App σ t.rd∧App (t.wr++σ) t1.rd:=by
 refine⟨h.left,App.of fun p hp=>?_⟩
 by_cases hk:p.1∈t.wr.map (·.1)
 ·
  have:=h0.mem p hp
  rw[get_append,if_pos hk]at this
  rw[get_append,if_pos hk]
  exact this
 ·
  rw[get_append,if_neg hk]
  exact h.right.mem p (List.mem_filter.2 ⟨hp,not_any.2 hk⟩)
theorem App.to_mrg {t t1:Tr}(h:App σ t.rd) (h1:App (t.wr++σ) t1.rd):App σ (mrg t t1).rd:=by
 refine h.append (App.of fun p hp=>?_)
 obtain⟨hp1,hp2⟩:=List.mem_filter.1 hp
 have:=h1.mem p hp1
 rwa [get_append,if_neg (not_any.1 hp2)]at this
theorem Steps'.app {o:Oper}{l:List Oper}{t:Tr}{ts:List Tr}(h:Steps' cx ops (o::l) σ (t::ts) σ'):App σ t.rd:=by
 generalize hl:o::l=l0 at h
 generalize ht:t::ts=t0 at h
 induction h generalizing o l t ts with
 |nil=>cases hl
 |op hg ho ha h=>cases ht;exact ha
 |yes hg hj hb ho ha h=>cases ht;exact⟨hb,ha⟩
 |no hg hj hb hu hx h=>cases ht;exact⟨hb,trivial⟩
 |pre hs ha h ih=>cases ht;exact App.to_mrg ha (ih rfl rfl)
theorem Steps'.trs {l:List Oper}{ts:List Tr}(h:Steps' cx ops l σ ts σ'):All2 cx ops l ts:=by
 induction h with
 |nil=>trivial
 |op hg ho ha h ih =>
  refine And.intro (fun σ a w K Q hs hr hK=>?_) ih
  rw[if_pos (by simp[Region.wanted,hg])]
  exact ho σ a w K Q hs hr hK
 |yes hg hj hb ho ha h ih =>
  refine And.intro (fun σ a w K Q hs hr hK=>?_) ih
  rw[if_pos (by simp only[Region.wanted,hg,hs.yielded hj hr.1,beq_self_eq_true])]
  exact ho σ a w K Q hs hr.2 hK
 |no hg hj hb hu hx h ih =>
  refine And.intro (fun σ a w K Q hs hr hK=>?_) ih
  rw[if_neg (by simpa[Region.wanted,hg] using hs.unwanted hj hr.1 hu)]
  exact hK _ _ (hs.skip hx)
 |@pre o rest σ0 σ' t t1 ts hst ha h ih =>
  refine And.intro (fun σ a w K Q hs hr hK=>?_) ih.2
  obtain⟨h1,h2⟩:=App.of_mrg h.app hr
  refine ih.1 (t.wr++σ) a w K Q (hst σ a w hs h1) h2 fun a' w' hs'=>hK a' w' ?_
  simpa only[mrg,List.append_assoc] using hs'
def Run:List Tr→St→Prop
 | [],_=>True
 |t::ts,σ=>App σ t.rd∧Run ts (t.wr++σ)
def fin:List Tr→St→St
 | [],σ=>σ
 |t::ts,σ=>fin ts (t.wr++σ)
theorem Steps'.run {l:List Oper}{ts:List Tr}(h:Steps' cx ops l σ ts σ'):Run ts σ∧fin ts σ=σ':=by
 induction h with
 |nil=>exact⟨trivial,rfl⟩
 |op hg ho ha h ih=>exact⟨⟨ha,ih.1⟩,ih.2⟩
 |yes hg hj hb ho ha h ih=>exact⟨⟨⟨hb,ha⟩,ih.1⟩,ih.2⟩
 |no hg hj hb hu hx h ih=>exact⟨⟨⟨hb,trivial⟩,ih.1⟩,ih.2⟩
 |@pre o rest σ0 σ' t t1 ts hst ha h ih =>
  obtain⟨h1,h2⟩:=ih
  refine⟨⟨App.to_mrg ha h.app,?_⟩,?_⟩
  ·
   have:=h1.2;simpa only[mrg,List.append_assoc] using this
  ·
   rw[← h2];simp only[fin,mrg,List.append_assoc]
theorem wpList_of_steps {Q:Exit→Act→World→Prop}{l:List Oper}{ts:List Tr}(h:Steps' cx ops l σ ts σ') :
  Sim cx σ a w→(∀ a' w',Sim cx σ' a' w'→Q .normal a' w')→wpList cx.P ops Q l a w:=by
 have h1:=h.trs
 obtain⟨h2,h3⟩:=h.run
 subst h3
 clear h
 induction l generalizing σ a w ts with
 |nil =>
  cases ts with
  |nil=>exact fun hs hq=>hq a w hs
  |cons t ts=>exact h1.elim
 |cons o l ih =>
  cases ts with
  |nil=>exact h1.elim
  |cons t ts =>
   intro hs hq
   refine wpList_step fun K hK=>?_
   exact h1.1 σ a w K Q hs h2.1 fun a' w' hs'=>hK a' w' (ih h1.2 h2.2 hs' hq)
end Go.AX
namespace Go.AX
open Go.RowKit
variable {cx:Cx}{σ σ':St}{a a':Act}{w w':World}{ops:Array Oper}
def Eqv (σ σ':St):Prop:=∀ k,get σ k=get σ' k
theorem Eqv.refl (σ:St):Eqv σ σ:=fun _=>rfl
theorem Eqv.trans {a b c:St}(h:Eqv a b) (h':Eqv b c):Eqv a c:=fun k=>(h k).trans (h' k)
theorem Eqv.symm {a b:St}(h:Eqv a b):Eqv b a:=fun k=>(h k).symm
theorem Eqv.put (h:Eqv σ σ') (l:List (Key×Val)):Eqv (l++σ) (l++σ'):=fun k=>by
 rw[get_append,get_append,h k]
theorem App.eqv (h:Eqv σ σ') {l:List (Key×Val)}(ha:App σ l):App σ' l:=App.of fun p hp=>(h p.1).symm.trans (ha.mem p hp)
theorem Run.eqv:∀ {ts:List Tr}{σ σ':St},Eqv σ σ'→Run ts σ→Run ts σ'∧Eqv (fin ts σ) (fin ts σ')
 | [],_,_,h,_=>⟨trivial,h⟩
 |t::_,_,_,h,hr=>by
  obtain⟨h1,h2⟩:=Run.eqv (h.put t.wr) hr.2
  exact⟨⟨hr.1.eqv h,h1⟩,h2⟩
theorem Sim.eqv (hs:Sim cx σ a w) (h:Eqv σ σ'):Sim cx σ' a w:=by
 have hs':=hs
 obtain⟨g,nx,hg⟩:=hs'
 refine hs.less ⟨fun i av hi=>(h _).trans hi,fun id o ho=>(h _).trans ho,nx,nx,hg.hnx,(h _).symm.trans hg.hnx,Nat.le_refl _,fun i av hi=>?_,fun id o ho=>?_⟩ fun n' hn'=>by
   have h2:=(h .nx).trans hn'
   rw[hg.hnx]at h2
   obtain rfl:nx=n':=by simpa using h2
   exact hg.gh.1
 ·
  exact(hg.slots i av ((h _).trans hi)).2
 ·
  have:=hg.objs id o ((h _).trans ho)
  exact⟨this.1,this.2.2⟩
structure Apart (s t:Tr):Prop where
 ww:∀ k,k∈s.wr.map (·.1)→k∈t.wr.map (·.1)→False
 wr:∀ k,k∈s.wr.map (·.1)→k∈t.rd.map (·.1)→False
 rw:∀ k,k∈s.rd.map (·.1)→k∈t.wr.map (·.1)→False
theorem Run.swap {s t:Tr}{rest:List Tr}{σ:St}(hi:Apart s t) (h:Run (s::t::rest) σ) :
  Run (t::s::rest) σ∧Eqv (fin (s::t::rest) σ) (fin (t::s::rest) σ):=by
 obtain⟨h1,h2,h3⟩:=h
 have he:Eqv (t.wr++(s.wr++σ)) (s.wr++(t.wr++σ)):=fun k=>by
  rw[get_append,get_append,get_append,get_append]
  by_cases hs:k∈s.wr.map (·.1)
  ·
   have ht:¬ k∈t.wr.map (·.1):=fun ht=>hi.ww k hs ht
   simp[hs,ht]
  ·
   simp[hs]
 obtain⟨h4,h5⟩:=Run.eqv he h3
 exact⟨⟨(App.drop hi.wr).1 h2,(App.drop fun k hk hk'=>hi.rw k hk' hk).2 h1,h4⟩,h5⟩
theorem Run.front {t:Tr}{rest:List Tr}:∀ {ts:List Tr}{σ:St},(∀ s∈ts,Apart s t)→Run (ts++t::rest) σ →
  Run (t::(ts++rest)) σ∧Eqv (fin (ts++t::rest) σ) (fin (t::(ts++rest)) σ)
 | [],_,_,h=>⟨h,Eqv.refl _⟩
 |s::ts,σ,hi,h=>by
  obtain⟨h1,h2⟩:=Run.front (rest:=rest) (fun x hx=>hi x (List.mem_cons_of_mem _ hx)) h.2
  have h3:Run (s::t::(ts++rest)) σ:=⟨h.1,h1⟩
  obtain⟨h4,h5⟩:=Run.swap (hi s (List.mem_cons_self ..)) h3
  exact⟨h4,Eqv.trans h2 h5⟩
def edges (o:Oper):List Nat:=(o.after.toList.filter fun e=>Region.binds .any e).map (·.on)
inductive Anc (l:List Oper):Nat→Nat→Prop
 |one {i j:Nat} {o:Oper} (ho:l[i]? = some o) (h:j∈edges o):Anc l j i
 |step {i j m:Nat} {o:Oper} (ho:l[i]? = some o) (h:m∈edges o) (hm:Anc l j m):Anc l j i
structure Fit (l:List Oper) (ts:List Tr):Prop where
 down:∀ i o,l[i]? = some o→∀ j∈edges o,j < i
 apart:∀ i j s t,j < i→ts[j]? = some s→ts[i]? = some t→Anc l j i∨Apart s t
theorem edges_all {o:Oper}{listed:Array Bool}:(o.after.all fun e => !Region.binds .any e || listed.getD e.on false)=true↔∀ j∈edges o,listed.getD j false=true:=by
 rw[Array.all_eq_true_iff_forall_mem]
 simp only[edges,List.mem_map,List.mem_filter,Bool.or_eq_true,Bool.not_eq_true']
 constructor
 ·
  rintro h j ⟨e,⟨he,hb⟩,rfl⟩
  rcases h e (Array.mem_toList_iff.1 he) with h|h
  ·
   rw[hb]at h;cases h
  ·
   exact h
 ·
  intro h e he
  cases hb:Region.binds .any e
  ·
   exact .inl rfl
  ·
   exact .inr (h e.on ⟨e,⟨Array.mem_toList_iff.2 he,hb⟩,rfl⟩)
theorem mem_ready {listed:Array Bool}{i:Nat}:i∈Region.ready .any ops listed↔listed.getD i true=false∧∃ o,ops[i]? = some o∧∀ j∈edges o,listed.getD j false=true:=by
 simp only[Region.ready,List.mem_filter,List.mem_range,Bool.and_eq_true,Bool.not_eq_true']
 constructor
 ·
  rintro ⟨hi,h1,h2⟩
  have ho:ops[i]? = some ops[i]:=Array.getElem?_eq_getElem hi
  rw[ho]at h2
  exact⟨h1,_,ho,edges_all.1 (by simpa using h2)⟩
 ·
  rintro ⟨h1,o,ho,h2⟩
  refine⟨(Array.getElem?_eq_some_iff.1 ho).1,h1,?_⟩
  rw[ho]
  simpa using edges_all.2 h2
def left (ts:List Tr) (listed:Array Bool) (k:Nat):List Tr:=match ts with
 | []=>[]
 |t::ts=>if listed.getD k true=true then left ts listed (k+1) else t::left ts listed (k+1)
theorem left_split {ts:List Tr}{listed:Array Bool}:∀ {k i:Nat}{t:Tr},ts[i]? = some t→listed.getD (k+i) true=false→k+i < listed.size →
  ∃ pre post,left ts listed k=pre++t::post∧left ts (listed.setIfInBounds (k+i) true) k=pre++post ∧
   ∀ s∈pre,∃ j,j < i∧ts[j]? = some s∧listed.getD (k+j) true=false:=by
 induction ts with
 |nil=>intro k i t h;simp at h
 |cons x ts ih =>
  intro k i t ht hl hsz
  cases i with
  |zero =>
   obtain rfl:x=t:=by simpa using ht
   have h0:listed.getD k true=false:=hl
   have htail:∀ m,k < m→left ts (listed.setIfInBounds k true) m=left ts listed m:=by
    clear ih ht
    induction ts with
    |nil=>intro m _;rfl
    |cons y ts ih2 =>
     intro m hm
     have hne:(listed.setIfInBounds k true).getD m true=listed.getD m true:=by
      simp only[Array.getD_eq_getD_getElem?,Array.getElem?_setIfInBounds,if_neg (show ¬ k=m by omega)]
     simp only[left,hne,ih2 (m+1) (by omega)]
   refine⟨[],left ts listed (k+1),by simp[left,h0],?_,by simp⟩
   have h1:(listed.setIfInBounds k true).getD k true=true:=by
    have:k < listed.size:=hsz
    simp[Array.getD_eq_getD_getElem?,this]
   simp only[Nat.add_zero,left,h1,if_true,List.nil_append]
   exact htail (k+1) (by omega)
  |succ i =>
   obtain⟨pre,post,h1,h2,h3⟩:=ih (k:=k+1) (i:=i) (t:=t) (by simpa using ht) (by rw[show k+1+i=k+(i+1) by omega];exact hl) (by omega)
   have hne:(listed.setIfInBounds (k+(i+1)) true).getD k true=listed.getD k true:=by
    simp only[Array.getD_eq_getD_getElem?,Array.getElem?_setIfInBounds,if_neg (show ¬ k+(i+1)=k by omega)]
   rw[show k+1+i=k+(i+1) by omega]at h2
   by_cases hx:listed.getD k true=true
   ·
    refine⟨pre,post,by simp[left,hx,h1],by simp only[left,hne,hx,if_true];exact h2,fun s hs=>?_⟩
    obtain⟨j,h4,h5,h6⟩:=h3 s hs
    exact⟨j+1,by omega,by simpa using h5,by rw[show k+(j+1)=k+1+j by omega];exact h6⟩
   ·
    refine⟨x::pre,post,by simp[left,hx,h1],by simp only[left,hne,hx];rw[if_neg (by simp),h2];rfl,fun s hs=>?_⟩
    cases hs with
    |head=>exact⟨0,by omega,rfl,by simpa using hx⟩
    |tail _ hs =>
     obtain⟨j,h4,h5,h6⟩:=h3 s hs
     exact⟨j+1,by omega,by simpa using h5,by rw[show k+(j+1)=k+1+j by omega];exact h6⟩
theorem left_nil {ts:List Tr}{listed:Array Bool}:∀ {k:Nat},left ts listed k=[]→∀ i,i < ts.length→listed.getD (k+i) true=true:=by
 induction ts with
 |nil=>intro k _ i hi;simp at hi
 |cons t ts ih =>
  intro k h i hi
  by_cases hx:listed.getD k true=true
  ·
   simp only[left,hx,if_true]at h
   cases i with
   |zero=>exact hx
   |succ i=>rw[show k+(i+1)=k+1+i by omega];exact ih h i (by simpa using hi)
  ·
   simp[left,hx]at h
theorem left_ne {ts:List Tr}{listed:Array Bool}:∀ {k:Nat},left ts listed k≠[]→∃ i,i < ts.length∧listed.getD (k+i) true=false∧∀ j,j < i→listed.getD (k+j) true=true:=by
 induction ts with
 |nil=>intro k h;exact(h rfl).elim
 |cons t ts ih =>
  intro k h
  by_cases hx:listed.getD k true=true
  ·
   simp only[left,hx,if_true]at h
   obtain⟨i,h1,h2,h3⟩:=ih h
   refine⟨i+1,by simpa using h1,by rw[show k+(i+1)=k+1+i by omega];exact h2,fun j hj=>?_⟩
   cases j with
   |zero=>exact hx
   |succ j=>rw[show k+(j+1)=k+1+j by omega];exact h3 j (by omega)
  ·
   exact⟨0,by simp,by simpa using hx,by simp⟩
theorem getD_tf {listed:Array Bool}{j:Nat}(hj:j < listed.size):listed.getD j true=listed.getD j false:=by
 simp[Array.getD,hj]
def Closed (ops:Array Oper) (listed:Array Bool):Prop:=∀ i o,ops[i]? = some o→i < listed.size→listed.getD i true=true→∀ j∈edges o,listed.getD j false=true
theorem Closed.anc {listed:Array Bool}(hc:Closed ops listed) (hs:listed.size=ops.size) {i j:Nat}(h:Anc ops.toList j i) (hi:listed.getD i true=true) (hl:i < ops.size) :
  listed.getD j false=true:=by
 induction h with
 |one ho h=>exact hc _ _ (by simpa using ho) (by omega) hi _ h
 |step ho h hm ih =>
  rename_i i' j' m o
  have h1:=hc _ _ (by simpa using ho) (by omega) hi _ h
  have hm':m < ops.size:=by
   rcases Nat.lt_or_ge m ops.size with h2|h2
   ·
    exact h2
   ·
    rw[← hs]at h2
    rw[Array.getD_eq_getD_getElem?,Array.getElem?_eq_none h2]at h1
    cases h1
  exact ih (by rw[getD_tf (by omega)];exact h1) hm'
theorem wpAny_of {ts:List Tr}{Q:Exit→Act→World→Prop}(hA:All2 cx ops ops.toList ts) (hlen:ts.length=ops.size) (hfit:Fit ops.toList ts) :
  ∀ (fuel:Nat) (listed:Array Bool) (σ:St) (a:Act) (w:World),listed.size=ops.size→Closed ops listed→Run (left ts listed 0) σ→(left ts listed 0).length=fuel→Sim cx σ a w →
   (∀ a' w',Sim cx (fin (left ts listed 0) σ) a' w'→Q .normal a' w')→wpAny cx.P .any ops Q fuel listed a w:=by
 intro fuel
 induction fuel with
 |zero =>
  intro listed σ a w hsz hcl hrun hl hs hq
  have hnil:left ts listed 0=[]:=List.eq_nil_of_length_eq_zero hl
  refine⟨?_,hq a w (by rw[hnil];exact hs)⟩
  refine List.eq_nil_iff_forall_not_mem.2 fun i hi=>?_
  obtain⟨h1,o,ho,_⟩:=mem_ready.1 hi
  have:=left_nil hnil i (by rw[hlen];exact(Array.getElem?_eq_some_iff.1 ho).1)
  rw[Nat.zero_add,h1]at this
  cases this
 |succ fuel ih =>
  intro listed σ a w hsz hcl hrun hl hs hq
  refine⟨fun hr=>?_,fun i hi=>?_⟩
  ·
   have hne:left ts listed 0≠[]:=by intro e;rw[e]at hl;simp at hl
   obtain⟨i,h1,h2,h3⟩:=left_ne hne
   rw[Nat.zero_add]at h2
   have hi:i < ops.size:=by omega
   have hm:i∈Region.ready .any ops listed:=mem_ready.2 ⟨h2,ops[i],Array.getElem?_eq_getElem hi,fun j hj=>by
    have hj':=hfit.down i ops[i] (by simp[hi]) j hj
    have:=h3 j hj'
    rw[Nat.zero_add]at this
    rw[← getD_tf (by omega)];exact this⟩
   rw[hr]at hm
   cases hm
  ·
   obtain⟨h1,o,ho,h2⟩:=mem_ready.1 hi
   have hi':i < ops.size:=(Array.getElem?_eq_some_iff.1 ho).1
   obtain⟨t,ht,htr⟩:=hA.at (i:=i) (o:=o) (by simpa using ho)
   obtain⟨pre,post,h3,h4,h5⟩:=left_split (k:=0) ht (by rw[Nat.zero_add];exact h1) (by omega)
   rw[Nat.zero_add]at h4
   rw[h3]at hrun hq hl
   have hap:∀ s∈pre,Apart s t:=by
    intro s hsm
    obtain⟨j,h6,h7,h8⟩:=h5 s hsm
    rw[Nat.zero_add]at h8
    rcases hfit.apart i j s t h6 h7 ht with h9|h9
    ·
     exfalso
     have hanc:∀ m,m∈edges o→Anc ops.toList j m→False:=fun m hm hma=>by
      have hml:listed.getD m false=true:=h2 m hm
      have hms:=hfit.down i o (by simpa using ho) m hm
      have:=hcl.anc hsz hma (by rw[getD_tf (by omega)];exact hml) (by omega)
      rw[← getD_tf (by omega)]at this
      rw[h8]at this;cases this
     cases h9 with
     |one ho' h =>
      rw[show ops.toList[i]? = some o by simpa using ho]at ho'
      cases ho'
      have:=h2 j h
      rw[← getD_tf (by omega)]at this
      rw[h8]at this;cases this
     |step ho' h hm =>
      rw[show ops.toList[i]? = some o by simpa using ho]at ho'
      cases ho'
      exact hanc _ h hm
    ·
     exact h9
   obtain⟨h6,h7⟩:=Run.front hap hrun
   unfold wpOp
   rw[ho]
   have hstep:=htr σ a w (wpAny cx.P .any ops Q fuel (listed.setIfInBounds i true)) Q hs h6.1 fun a' w' hs'=>by
    refine ih _ _ a' w' (by simp[hsz]) (fun i' o' ho' hi2 hli j hj=>?_) (by rw[h4];exact h6.2) (by rw[h4];simp at hl ⊢;omega) hs' (fun a2 w2 hs2=>hq a2 w2 ?_)
    ·
     by_cases he:i'=i
     ·
      subst he
      rw[ho]at ho'
      cases ho'
      have hne:j≠i':=fun e=>by have:=hfit.down i' o (by simpa using ho) j hj;omega
      simp only[Array.getD_eq_getD_getElem?,Array.getElem?_setIfInBounds,if_neg (show ¬ i'=j from fun e=>hne e.symm)]
      simpa only[Array.getD_eq_getD_getElem?] using h2 j hj
     ·
      have hli':listed.getD i' true=true:=by
       simpa only[Array.getD_eq_getD_getElem?,Array.getElem?_setIfInBounds,if_neg (show ¬ i=i' from fun e=>he e.symm)] using hli
      have hjl:=hcl i' o' ho' (by simpa using hi2) hli' j hj
      by_cases hji:i=j
      ·
       subst hji
       simp[Array.getD_eq_getD_getElem?,hsz,hi']
      ·
       simpa only[Array.getD_eq_getD_getElem?,Array.getElem?_setIfInBounds,if_neg hji] using hjl
    ·
     rw[h4]at hs2
     exact hs2.eqv h7.symm
   dsimp only
   split
   ·
    rename_i hw;rw[if_pos hw]at hstep;exact .inl hstep
   ·
    rename_i hw;rw[if_neg hw]at hstep;exact hstep
theorem Sim.drawn (hs:Sim cx σ a w):Sim cx σ a { w with drawn:=w.drawn+1 }:=by
 obtain⟨g,nx,h⟩:=hs
 have hb:Below w.heap.size w { w with drawn:=w.drawn+1 }:=⟨rfl,rfl,rfl,Nat.le_refl _,fun _ _=>rfl⟩
 have hl:Later cx g g σ σ w { w with drawn:=w.drawn+1 } nx:=Later.same (fun _=>rfl) (Ext.of_below hb) (hb.mono h.below.size)
 exact⟨g,nx,h.next hl h.hnx (Nat.le_refl _) h.size h.defers (hb.mono h.below.size) (fun i av hi => .inl ⟨hi,rfl⟩) (fun id o ho => .inl ⟨ho,rfl,fun _ _=>rfl⟩) h.sep⟩
theorem wp_draw {ts:List Tr}{id:Nat}{Q:Exit→Act→World→Prop}(hm:cx.P.follows .mixedOrders=true) (h:Steps' cx ops ops.toList σ ts σ') (hfit:Fit ops.toList ts)
  (hs:Sim cx σ a w) (hq:∀ a' w',Sim cx σ' a' w'→Q .normal a' w'):(Code.region id ops true).wp cx.P Q a w:=by
 have hlen:∀ {l:List Oper} {ts:List Tr},All2 cx ops l ts→ts.length=l.length:=by
  intro l
  induction l with
  |nil=>intro ts h;cases ts with
   |nil=>rfl
   |cons t ts=>exact h.elim
  |cons o l ih=>intro ts h;cases ts with
   |nil=>exact h.elim
   |cons t ts=>simp[ih h.2]
 have hl:ts.length=ops.size:=by simpa using hlen h.trs
 have hleft:∀ (ts:List Tr) (n k:Nat),k+ts.length≤n→left ts (Array.replicate n false) k=ts:=by
  intro ts
  induction ts with
  |nil=>intro n k _;rfl
  |cons t ts ih =>
   intro n k hk
   simp at hk
   have h0:(Array.replicate n false).getD k true=false:=by simp[Array.getD,show k < n by omega]
   simp only[left,h0]
   rw[if_neg (by simp),ih n (k+1) (by omega)]
 have hl0:left ts (Array.replicate ops.size false) 0=ts:=hleft ts _ _ (by omega)
 obtain⟨h1,h2⟩:=h.run
 refine wp_region_any hm (wpAny_of h.trs hl hfit ops.size _ σ a _ (by simp) (fun i o _ hi hli=>?_) (by rw[hl0];exact h1) (by rw[hl0];exact hl) hs.drawn (by rw[hl0,h2];exact hq))
 have:i < ops.size:=by simpa using hi
 simp[Array.getD,this]at hli
end Go.AX
namespace Go.AX
def disj (a b:List (Key×Val)):Bool:=a.all fun p=>b.all fun q => !(p.1.beq q.1)
def apartB (s t:Tr):Bool:=disj s.wr t.wr&&(disj s.wr t.rd&&disj s.rd t.wr)
def bitB (m j:Nat):Bool:=Nat.beq (Nat.land (Nat.shiftRight m j) 1) 1
def bitsOf (A:List Nat):List Nat→Nat
 | []=>0
 |j::es=>Nat.lor (Nat.lor (Nat.shiftLeft 1 j) (A.getD j 0)) (bitsOf A es)
def chkP (an:Nat):Nat→List Tr→Tr→Bool
 |_,[],_=>true
 |j,s::F,t=>(bitB an j || apartB s t)&&chkP an (j+1) F t
def chkG:Nat→Nat→List Nat→List Tr→List Oper→List Tr→Bool
 |0,_,_,_,_,_=>false
 |fuel+1,n,A,F,o::l,t::ts=>((edges o).all fun j=>Nat.blt j n)&&(chkP (bitsOf A (edges o)) 0 F t&&chkG fuel (n+1) (A++[bitsOf A (edges o)]) (F++[t]) l ts)
 |_,_,_,_,[],[]=>true
 |_,_,_,_,_,_=>false
def chk (A:List Nat) (F:List Tr) (l:List Oper) (ts:List Tr):Bool:=chkG 1000 A.length A F l ts
theorem bitB_iff {m j:Nat}:bitB m j=true↔m.testBit j=true:=by
 unfold bitB Nat.testBit
 rw[Nat.beq_eq]
 show(m >>> j) &&& 1=1↔_
 rw[Nat.and_comm]
 have h:1 &&& (m >>> j)=(m >>> j)%2:=by rw[Nat.and_comm,Nat.and_one_is_mod]
 rw[h]
 rcases Nat.mod_two_eq_zero_or_one (m >>> j) with h|h <;> simp[h]
theorem bitsOf_out {A:List Nat}{k:Nat}:∀ {es:List Nat},(bitsOf A es).testBit k=true→k∈es∨∃ j∈es,(A.getD j 0).testBit k=true
 | [],h=>by simp[bitsOf]at h
 |j::es,h=>by
  have h':((((1:Nat) <<< j) ||| A.getD j 0) ||| bitsOf A es).testBit k=true:=h
  rw[Nat.testBit_or,Nat.testBit_or,Bool.or_eq_true,Bool.or_eq_true]at h'
  rcases h' with (h1|h1)|h1
  ·
   rw[Nat.one_shiftLeft,Nat.testBit_two_pow]at h1
   have:j=k:=by simpa using h1
   subst this
   exact .inl (List.mem_cons_self ..)
  ·
   exact .inr ⟨j,List.mem_cons_self ..,h1⟩
  ·
   rcases bitsOf_out h1 with h2|⟨i,h2,h3⟩
   ·
    exact .inl (List.mem_cons_of_mem _ h2)
   ·
    exact .inr ⟨i,List.mem_cons_of_mem _ h2,h3⟩
theorem disj_out {a b:List (Key×Val)}(h:disj a b=true):∀ k,k∈a.map (·.1)→k∈b.map (·.1)→False:=by
 intro k ha hb
 obtain⟨p,hp,rfl⟩:=List.mem_map.1 ha
 obtain⟨q,hq,hk⟩:=List.mem_map.1 hb
 have:=List.all_eq_true.1 (List.all_eq_true.1 h p hp) q hq
 rw[Key.beq_iff.2 hk.symm]at this
 cases this
theorem apartB_out {s t:Tr}(h:apartB s t=true):Apart s t:=by
 simp only[apartB,Bool.and_eq_true]at h
 exact⟨disj_out h.1,disj_out h.2.1,disj_out h.2.2⟩
theorem chkP_out {an:Nat}{t:Tr}:∀ {F:List Tr}{j:Nat},chkP an j F t=true→∀ i s,F[i]? = some s→an.testBit (j+i)=true∨Apart s t
 | [],_,_,i,s,h=>by simp at h
 |x::F,j,h,i,s,hi=>by
  simp only[chkP,Bool.and_eq_true,Bool.or_eq_true]at h
  cases i with
  |zero =>
   obtain rfl:x=s:=by simpa using hi
   exact h.1.imp bitB_iff.1 apartB_out
  |succ i =>
   have:=chkP_out h.2 i s (by simpa using hi)
   rwa [show j+(i+1)=j+1+i by omega]
theorem chk_out {full:List Oper}{tall:List Tr}:∀ {l:List Oper}{ts:List Tr}{A:List Nat}{F:List Tr}{pre:List Oper}{fuel:Nat},
  full=pre++l→tall=F++ts→A.length=pre.length→F.length=pre.length →
  (∀ i an,A[i]? = some an→∀ j,an.testBit j=true→Anc full j i) →
  (∀ i o,i < pre.length→full[i]? = some o→∀ j∈edges o,j < i) →
  (∀ i j s t,i < pre.length→j < i→tall[j]? = some s→tall[i]? = some t→Anc full j i∨Apart s t) →
  chkG fuel pre.length A F l ts=true→Fit full tall:=by
 intro l
 induction l with
 |nil =>
  intro ts A F pre fuel hf ht hA hF h1 h2 h3 hc
  cases fuel with
  |zero=>cases ts <;> cases hc
  |succ fuel =>
  cases ts with
  |cons t ts=>cases hc
  |nil =>
   subst hf ht
   refine⟨fun i o ho=>h2 i o ?_ ho,fun i j s t hj hs hti=>h3 i j s t ?_ hj hs hti⟩
   ·
    simpa using(List.getElem?_eq_some_iff.1 ho).1
   ·
    simpa[hF] using(List.getElem?_eq_some_iff.1 hti).1
 |cons o l ih =>
  intro ts A F pre fuel hf ht hA hF h1 h2 h3 hc
  cases fuel with
  |zero=>cases ts <;> cases hc
  |succ fuel =>
  cases ts with
  |nil=>cases hc
  |cons t ts =>
   simp only[chkG,Bool.and_eq_true]at hc
   obtain⟨hc1,hc2,hc3⟩:=hc
   have hdown:∀ j∈edges o,j < pre.length:=fun j hj=>by
    have:=List.all_eq_true.1 hc1 j hj
    simpa using this
   have hoi:full[pre.length]? = some o:=by subst hf;simp
   have hti:tall[pre.length]? = some t:=by subst ht;simp[← hF]
   have hanc:∀ j,(bitsOf A (edges o)).testBit j=true→Anc full j pre.length:=fun j hj=>by
    rcases bitsOf_out hj with hj|⟨m,hm,hjm⟩
    ·
     exact .one hoi hj
    ·
     have hml:m < A.length:=by have:=hdown m hm;omega
     rw[List.getD_eq_getElem?_getD,List.getElem?_eq_getElem hml]at hjm
     exact .step hoi hm (h1 m _ (List.getElem?_eq_getElem hml) j hjm)
   refine ih (pre:=pre++[o]) (ts:=ts) (A:=A++[bitsOf A (edges o)]) (F:=F++[t]) (fuel:=fuel) (by simp[hf]) (by simp[ht]) (by simp[hA]) (by simp[hF]) (fun i an hi j hj=>?_) (fun i o' hi ho' j hj=>?_) (fun i j s t' hi hj hs ht'=>?_) (by rw[List.length_append];exact hc3)
   ·
    rcases Nat.lt_or_ge i A.length with hl|hl
    ·
     rw[List.getElem?_append_left hl]at hi
     exact h1 i an hi j hj
    ·
     have hil:i < (A++[bitsOf A (edges o)]).length:=(List.getElem?_eq_some_iff.1 hi).1
     have he:i=A.length:=by simp at hil;omega
     subst he
     obtain rfl:bitsOf A (edges o)=an:=by simpa using hi
     rw[hA]
     exact hanc j hj
   ·
    rcases Nat.lt_or_ge i pre.length with hl|hl
    ·
     exact h2 i o' hl ho' j hj
    ·
     have he:i=pre.length:=by simp at hi;omega
     subst he
     rw[hoi]at ho'
     cases ho'
     exact hdown j hj
   ·
    rcases Nat.lt_or_ge i pre.length with hl|hl
    ·
     exact h3 i j s t' hl hj hs ht'
    ·
     have he:i=pre.length:=by simp at hi;omega
     subst he
     rw[hti]at ht'
     cases ht'
     have hjF:F[j]? = some s:=by
      rw[ht]at hs
      rwa [List.getElem?_append_left (by omega)]at hs
     have:=chkP_out hc2 j s hjF
     rw[Nat.zero_add]at this
     exact this.imp (hanc j) id
theorem fit_of_chk {l:List Oper}{ts:List Tr}(h:chk [] [] l ts=true):Fit l ts :=
 chk_out (pre:=[]) rfl rfl rfl rfl (by simp) (by simp) (by simp) (show chkG 1000 0 [] [] l ts=true from h)
end Go.AX
namespace Go.AX
open Go.RowKit
variable {cx:Cx}{g:Nat→Value}{σ:St}{a:Act}{w:World}{nx:Nat}
def ev (σ:St):Operand→Option AV
 |.tmp t=>match get σ (.s t) with
  |.av x=>some x
  |_=>none
 |.const v=>some (.d (.v v))
 |.func f=>some (.d (.v (.func (.func f) #[] #[])))
 |.global _=>none
def rdOf:Operand→AV→List (Key×Val)
 |.tmp t,av=>[(.s t,.av av)]
 |_,_=>[]
def EvS:Operand→AV→Prop
 |.tmp _,_=>True
 |.const v,av=>av = .d (.v v)
 |.func f,av=>av = .d (.v (.func (.func f) #[] #[]))
 |.global _,_=>False
theorem ev_out {x:Operand}{av:AV}(h:ev σ x=some av):EvS x av∧App σ (rdOf x av):=by
 cases x with
 |tmp t =>
  simp only[ev]at h
  split at h
  ·
   next y hy =>
   cases h
   exact⟨trivial,hy,trivial⟩
  ·
   cases h
 |const v=>simp only[ev,Option.some.injEq]at h;exact⟨h.symm,trivial⟩
 |func f=>simp only[ev,Option.some.injEq]at h;exact⟨h.symm,trivial⟩
 |global g=>simp[ev]at h
theorem SimG.ev (h:SimG cx σ a w g nx) {x:Operand}{av:AV}(hs:EvS x av) (ha:App σ (rdOf x av)):Rep cx g σ w (a.eval x) av∧av.bd nx:=by
 cases x with
 |tmp t=>exact h.slots t av ha.1
 |const v=>obtain rfl:av=_:=hs;exact⟨Rd.v _,trivial⟩
 |func f=>obtain rfl:av=_:=hs;exact⟨Rd.v _,trivial⟩
 |global g=>exact hs.elim
theorem wp_val {P:Program}{o:Oper}{d:Nat}{v:Value}{w':World}{K:Act→World→Prop}{Q:Exit→Act→World→Prop}(hd:o.dst=some d)
  (hrun:(execOp a.eval o).run P w = .ok (.value v) w') (h:K (a.put (some d) v) w'):o.wp P a w K Q:=by
 unfold Oper.wp
 rw[hrun]
 simp only[Oper.upon,hd]
 exact h
theorem ok_val {o:Oper}{d:Nat}{rd:List (Key×Val)}{av:AV}(hd:o.dst=some d) (hn:d < cx.n)
  (hrun:∀ (σ:St) (a:Act) (w:World) (g:Nat→Value) (nx:Nat),SimG cx σ a w g nx→App σ rd →
   ∃ v w',(execOp a.eval o).run cx.P w = .ok (.value v) w'∧Below w.heap.size w w'∧Rep cx g σ w' v av∧av.bd nx) :
  OpOk cx o ⟨rd,[(.s d,.av av)]⟩:=by
 rintro σ a w K Q ⟨g,nx,hs⟩ hr hK
 obtain⟨v,w',h1,h2,h3,h4⟩:=hrun σ a w g nx hs hr
 exact wp_val hd h1 (hK _ _ (Sim.put hs hn h2 h3 h4))
theorem rep_v {x y:Value}(h:Rep cx g σ w x (.d (.v y))):x=y:=by
 have h':Rd w (cx.own g σ) x (.v y):=h
 generalize hd:D.v y=d at h'
 cases h' <;> cases hd
 rfl
theorem rd_v {own:Nat→Prop}{x y:Value}(h:Rd w own x (.v y)):x=y:=by
 generalize hd:D.v y=d at h
 cases h <;> cases hd
 rfl
variable {ty:TypeId}{pos:String}{af:Array Edge}{gd:Option (Nat×Bool)}{d:Nat}
theorem ok_move {x:Operand}{av:AV}(hn:d < cx.n) (hx:EvS x av):OpOk cx ⟨some d,.move x,ty,pos,af,gd⟩ ⟨rdOf x av,[(.s d,.av av)]⟩ :=
 ok_val rfl hn fun _ a w _ _ hs hr=>⟨a.eval x,w,by simp[execOp],Below.refl _ _,hs.ev hx hr⟩
theorem ok_assign {x:Operand}{av:AV}(hn:d < cx.n) (hx:EvS x av):OpOk cx ⟨some d,.assign x,ty,pos,af,gd⟩ ⟨rdOf x av,[(.s d,.av av)]⟩ :=
 ok_val rfl hn fun _ a w _ _ hs hr=>⟨a.eval x,w,by simp[execOp],Below.refl _ _,hs.ev hx hr⟩
theorem ok_pick {c x y:Operand}{b:Bool}{av aw:AV}(hn:d < cx.n) (hc:EvS c (.d (.v (.bool b)))) (hx:EvS (if b then x else y) av) :
  OpOk cx ⟨some d,.pick c x y,ty,pos,af,gd⟩ ⟨rdOf c (.d (.v (.bool b)))++rdOf (if b then x else y) av,[(.s d,.av av)]⟩:=by
 have _:=aw
 refine ok_val rfl hn fun _ a w _ _ hs hr=>⟨a.eval (if b then x else y),w,?_,Below.refl _ _,hs.ev hx hr.right⟩
 have:=rep_v (hs.ev hc hr.left).1
 cases b <;> simp[execOp,this,asBool]
def BinR (P:Program) (op:BinOp) (t:TypeId) (u v r:Value):Prop :=
 ∀ (w:World) (x y:Operand),(do eqGuard op t x y u v;binOp op t u v:Sem Value).run P w = .ok r w
theorem ok_bin {op:BinOp}{t t':TypeId}{x y:Operand}{u v r:Value}(hn:d < cx.n) (hx:EvS x (.d (.v u))) (hy:EvS y (.d (.v v))) (hb:BinR cx.P op t u v r) :
  OpOk cx ⟨some d,.binOp op t x y t',ty,pos,af,gd⟩ ⟨rdOf x (.d (.v u))++rdOf y (.d (.v v)),[(.s d,.av (.d (.v r)))]⟩:=by
 refine ok_val rfl hn fun _ a w _ _ hs hr=>⟨r,w,?_,Below.refl _ _,Rd.v _,trivial⟩
 have h1:=rep_v (hs.ev hx hr.left).1
 have h2:=rep_v (hs.ev hy hr.right).1
 have:=hb w x y
 simp only[execOp,h1,h2,Sem.run_bind,Sem.run_pure]at this ⊢
 rw[this]
 rfl
theorem ok_not {t:TypeId}{x:Operand}{b:Bool}(hn:d < cx.n) (hx:EvS x (.d (.v (.bool b)))) :
  OpOk cx ⟨some d,.unOp .not t x,ty,pos,af,gd⟩ ⟨rdOf x (.d (.v (.bool b))),[(.s d,.av (.d (.v (.bool !b))))]⟩:=by
 refine ok_val rfl hn fun _ a w _ _ hs hr=>⟨.bool !b,w,?_,Below.refl _ _,Rd.v _,trivial⟩
 simp[execOp,rep_v (hs.ev hx hr).1,Op.unary]
def ldD (ti:TI) (cells:List D):Option D:=match ti.kind with
 |.st _ | .arr _ _ _=>match Nat.beq cells.length ti.n with
  |true=>some (.agg cells)
  |false=>match Nat.blt cells.length ti.n with
   |true=>none
   |false=>some (.agg (cells.take ti.n))
 |_=>cells.head?
theorem isAgg_of {P:Program}{t:Nat}{ti:TI}(h:TF P t ti) (w:World) :
  (isAgg t).run P w = .ok (match ti.kind with | .st _=>true | .arr _ _ _=>true|_=>false) w:=by
 have hk:=h.kind
 unfold isAgg
 cases hkd:ti.kind <;> simp only[hkd]at hk
 ·
  obtain⟨d,hd,h1,h2,_⟩:=hk
  simp only[Sem.run_bind,run_underlying hd,Result.andThen_ok]
  cases d <;> first|rfl|(exact absurd rfl (h1 _))|(exact absurd rfl (h2 _ _))
 ·
  simp[run_underlying hk.1]
 ·
  simp[run_underlying hk.1]
 ·
  simp[run_underlying hk.1]
 ·
  simp[run_underlying hk.1]
 ·
  obtain⟨fs,hd,_⟩:=hk
  simp[run_underlying hd]
 ·
  simp[run_underlying hk.1]
theorem sizeOf_of {P:Program}{t:Nat}{ti:TI}(h:TF P t ti) (w:World):(sizeOf t).run P w = .ok ti.n w:=by
 obtain⟨i,hi,hs,_⟩:=h.info
 simp[sizeOf,typeInfo,hi,hs]
theorem run_load_cells {P:Program}{w:World}{own:Nat→Prop}{t:Nat}{ti:TI}(h:TF P t ti) {ad:Addr}{cells:List D}(hc:RdCells w own ad cells) {x:D}(hl:ldD ti cells=some x) :
  ∃ v,(Instr.loadAt t (.pointer (some ad))).run P w = .ok v w∧Rd w own v x:=by
 have hagg:∀ n,n≤cells.length→∃ v,(loadCells ad n).run P w = .ok v w∧v.size=n∧∀ (j:Nat) (c:Value),v[j]? = some c→∃ d,cells[j]? = some d∧c.oneCell'=true∧Rd w own c d:=by
  intro n hn
  have hf:∀ j,j < n→w.cell? (ad.add j)=some ((w.cell? (ad.add j)).getD undef):=fun j hj=>by
   obtain⟨u,hu,_⟩:=hc j cells[j] (List.getElem?_eq_getElem (by omega))
   rw[hu];rfl
  refine⟨_,run_loadCells w ad n (fun j=>(w.cell? (ad.add j)).getD undef) hf,by simp,fun j c hj=>?_⟩
  have hjn:j < n:=by
   have:=(Array.getElem?_eq_some_iff.1 hj).1
   simpa using this
  obtain⟨u,hu,h1,h2⟩:=hc j cells[j] (List.getElem?_eq_getElem (by omega))
  have hcu:c=u:=by
   simp[hjn,hu]at hj
   exact hj.symm
  exact⟨cells[j],List.getElem?_eq_getElem (by omega),by rw[hcu];exact h1,by rw[hcu];exact h2⟩
 have hA:=isAgg_of h w
 have hS:=sizeOf_of h w
 have agg:ti.n≤cells.length→(isAgg t).run P w = .ok true w→∃ v,(Instr.loadAt t (.pointer (some ad))).run P w = .ok v w∧Rd w own v (.agg (cells.take ti.n)):=by
  intro hn hA
  obtain⟨v,h1,h2,h3⟩:=hagg ti.n hn
  refine⟨.agg v,by simp[Instr.loadAt,Instr.sureAddr,loadVar,hA,hS,h1],.agg v _ (by simp[h2,hn]) (fun j c hj=>?_) fun j d c hd hj=>?_⟩
  ·
   obtain⟨_,_,h4,_⟩:=h3 j c hj;exact h4
  ·
   obtain⟨d',h4,_,h5⟩:=h3 j c hj
   rw[List.getElem?_take]at hd
   split at hd
   ·
    rw[h4]at hd;cases hd;exact h5
   ·
    cases hd
 have one:cells.head? = some x→(isAgg t).run P w = .ok false w→∃ v,(Instr.loadAt t (.pointer (some ad))).run P w = .ok v w∧Rd w own v x:=by
  intro hx hA
  have h0:cells[0]? = some x:=by rw[← List.head?_eq_getElem?];exact hx
  obtain⟨u,hu,_,h2⟩:=hc 0 x h0
  rw[add_zero]at hu
  exact⟨u,by simp[Instr.loadAt,Instr.sureAddr,loadVar,hA,hu],h2⟩
 have aggs:(isAgg t).run P w = .ok true w→(match Nat.beq cells.length ti.n with
  |true=>some (D.agg cells)
  |false=>match Nat.blt cells.length ti.n with
   |true=>none
   |false=>some (.agg (cells.take ti.n)))=some x→∃ v,(Instr.loadAt t (.pointer (some ad))).run P w = .ok v w∧Rd w own v x:=by
  intro hA hl
  split at hl
  ·
   next hb =>
   cases hl
   have he:cells.length=ti.n:=by simpa using hb
   have:=agg (by omega) hA
   rwa [List.take_of_length_le (by omega)]at this
  ·
   split at hl
   ·
    cases hl
   ·
    next hb =>
    cases hl
    have hle:¬ cells.length < ti.n:=by
     intro hlt
     have:Nat.blt cells.length ti.n=true:=by simpa using hlt
     rw[hb]at this;cases this
    exact agg (by omega) hA
 unfold ldD at hl
 cases hkd:ti.kind <;> simp only[hkd]at hl hA
 ·
  exact one hl hA
 ·
  exact one hl hA
 ·
  exact one hl hA
 ·
  exact one hl hA
 ·
  exact one hl hA
 ·
  exact aggs hA hl
 ·
  exact aggs hA hl
theorem ok_load_pd {t:TypeId}{x:Operand}{cells:List D}{ti:TI}{y:D}(hn:d < cx.n) (hx:EvS x (.pd cells)) (ht:tget cx.T t=some ti) (hl:ldD ti cells=some y) :
  OpOk cx ⟨some d,.load t x,ty,pos,af,gd⟩ ⟨rdOf x (.pd cells),[(.s d,.av (.d y))]⟩:=by
 refine ok_val rfl hn fun _ a w _ _ hs hr=>?_
 obtain⟨ad,hv,_,_,hc⟩:=(hs.ev hx hr).1
 obtain⟨v,h1,h2⟩:=run_load_cells (cx.hT t ti ht) hc hl
 exact⟨v,w,by simp[execOp,hv,h1],Below.refl _ _,h2,trivial⟩
theorem fieldPlace_of {P:Program}{t:Nat}{ti:TI}{fs:List (Nat×Nat)}(h:TF P t ti) (hk:ti.kind = .st fs) {f:Nat}{p:Nat×Nat}(hf:fs[f]? = some p) (ad:Addr) (w:World) :
  (Instr.fieldAt t (.pointer (some ad)) f).run P w = .ok (.pointer (some (ad.add p.1))) w:=by
 have hkd:=h.kind
 rw[hk]at hkd
 obtain⟨b,hu,_,hg⟩:=hkd
 obtain⟨fl,i,h1,h2,h3,h4,h5,_⟩:=hg f p hf
 have:¬ i.size=0:=by omega
 simp[Instr.fieldAt,run_underlying hu,h1,Instr.sureAddr,fieldPlace,sizeOf,typeInfo,h3,this,h2]
def fldOff (ti:TI) (f:Nat):Option Nat:=match ti.kind with
 |.st fs=>(fs[f]?).map (·.1)
 |_=>none
theorem fieldAt_of {P:Program}{t:Nat}{ti:TI}(h:TF P t ti) {f off:Nat}(hf:fldOff ti f=some off) (ad:Addr) (w:World) :
  (Instr.fieldAt t (.pointer (some ad)) f).run P w = .ok (.pointer (some (ad.add off))) w:=by
 unfold fldOff at hf
 split at hf
 ·
  next fs hk =>
  cases hp:fs[f]? with
  |none=>rw[hp]at hf;cases hf
  |some p =>
   rw[hp]at hf
   obtain rfl:p.1=off:=by simpa using hf
   exact fieldPlace_of h hk hp ad w
 ·
  cases hf
theorem RdCells.drop {w:World}{own:Nat→Prop}{ad:Addr}{ds:List D}(h:RdCells w own ad ds) (n:Nat):RdCells w own (ad.add n) (ds.drop n):=by
 intro j d hj
 rw[List.getElem?_drop]at hj
 obtain⟨u,h1,h2,h3⟩:=h _ _ hj
 exact⟨u,by rw[add_add];exact h1,h2,h3⟩
theorem ok_fa_pd {t:TypeId}{x:Operand}{cells:List D}{ti:TI}{f off:Nat}(hn:d < cx.n) (hx:EvS x (.pd cells)) (ht:tget cx.T t=some ti) (hf:fldOff ti f=some off) :
  OpOk cx ⟨some d,.fieldAddr t x f,ty,pos,af,gd⟩ ⟨rdOf x (.pd cells),[(.s d,.av (.pd (cells.drop off)))]⟩:=by
 refine ok_val rfl hn fun _ a w _ _ hs hr=>?_
 obtain⟨ad,hv,h1,h2,hc⟩:=(hs.ev hx hr).1
 exact⟨.pointer (some (ad.add off)),w,by simp[execOp,hv,fieldAt_of (cx.hT t ti ht) hf],Below.refl _ _,
  ⟨_,rfl,by rw[add_block];exact h1,by rw[add_block];exact h2,hc.drop off⟩,trivial⟩
theorem ok_fa_ptr {t:TypeId}{x:Operand}{id o0:Nat}{cells:List AV}{ti:TI}{f off:Nat}(hn:d < cx.n) (hx:EvS x (.ptr id o0)) (ht:tget cx.T t=some ti) (hf:fldOff ti f=some off) :
  OpOk cx ⟨some d,.fieldAddr t x f,ty,pos,af,gd⟩ ⟨rdOf x (.ptr id o0)++[(.o id,.ob (.box cells))],[(.s d,.av (.ptr id (o0+off)))]⟩:=by
 refine ok_val rfl hn fun σ a w g nx hs hr=>?_
 obtain⟨h1,h2⟩:=hs.ev hx hr.left
 have ho:get σ (.o id) = .ob (.box cells):=hr.right.1
 obtain⟨b,hg,hv⟩:=h1.2 cells ho
 refine⟨.pointer (some ⟨b,o0+off,none⟩),w,by simp[execOp,hv,fieldAt_of (cx.hT t ti ht) hf,add_lit],Below.refl _ _,?_,h2⟩
 exact⟨.of ho,fun c0 hc0=>⟨b,hg,rfl⟩⟩
end Go.AX
namespace Go.AX
open Go.RowKit
variable {cx:Cx}{g:Nat→Value}{σ:St}{a:Act}{w:World}{nx:Nat}
variable {ty:TypeId}{pos:String}{af:Array Edge}{gd:Option (Nat×Bool)}{d:Nat}
def ldA (ti:TI) (cells:List AV):Option AV:=match ti.kind with
 |.st _ | .arr _ _ _=>match Nat.beq cells.length ti.n with
  |true=>some (.agg cells)
  |false=>match Nat.blt cells.length ti.n with
   |true=>none
   |false=>some (.agg (cells.take ti.n))
 |_=>cells.head?
theorem load_ptr (hs:SimG cx σ a w g nx) {t:TypeId}{x:Value}{id off:Nat}{cells:List AV}{ti:TI}{y:AV}(hx:Rep cx g σ w x (.ptr id off)) (ho:get σ (.o id) = .ob (.box cells)) (ht:tget cx.T t=some ti)
  (hl:ldA ti (cells.drop off)=some y):∃ v,(Instr.loadAt t x).run cx.P w = .ok v w∧Rep cx g σ w v y∧y.bd nx:=by
 obtain⟨b0,hg0,hv⟩:=hx.2 cells ho
 subst hv
 obtain⟨_,⟨b,cs,et,hg,_,hh,hsz,h1,hrep⟩,hbd⟩:=hs.objs id _ ho
 have hbb:b0=b:=by rw[hg0]at hg;simpa using hg
 subst hbb
 have hF:=cx.hT t ti ht
 have hcell:∀ j,w.cell? ((⟨b0,off,none⟩:Addr).add j)=cs[off+j]? := fun j=>by rw[add_lit];simp[World.cell?,hh]
 have hA:=isAgg_of hF w
 have hS:=sizeOf_of hF w
 have one:∀ {y:AV},(cells.drop off).head? = some y→(isAgg t).run cx.P w = .ok false w→∃ v,(Instr.loadAt t (.pointer (some ⟨b0,off,none⟩))).run cx.P w = .ok v w∧Rep1 cx g σ w v y∧y.bd1 nx:=by
  intro y hy hA
  have h0:cells[off]? = some y:=by
   rw[List.head?_eq_getElem?,List.getElem?_drop]at hy
   simpa using hy
  have hlt:off < cs.size:=by
   have:=(List.getElem?_eq_some_iff.1 h0).1;omega
  have hc:cs[off]? = some cs[off]:=Array.getElem?_eq_getElem hlt
  have hcl:=hcell 0
  rw[add_zero,Nat.add_zero,hc]at hcl
  exact⟨cs[off],by simp[Instr.loadAt,Instr.sureAddr,loadVar,hA,hcl],hrep off _ y h0 hc,hbd y (List.mem_of_getElem? h0)⟩
 have agg:ti.n≤(cells.drop off).length→(isAgg t).run cx.P w = .ok true w→∃ v,(Instr.loadAt t (.pointer (some ⟨b0,off,none⟩))).run cx.P w = .ok v w ∧
   Rep2 cx g σ w v (.agg ((cells.drop off).take ti.n))∧∀ z∈(cells.drop off).take ti.n,z.bd1 nx:=by
  intro hle hA
  rw[List.length_drop]at hle
  have hf:∀ j,j < ti.n→w.cell? ((⟨b0,off,none⟩:Addr).add j)=some (cs.getD (off+j) undef):=fun j hj=>by
   rw[hcell,Array.getElem?_eq_getElem (by omega)]
   simp[Array.getD,show off+j < cs.size by omega]
  have hrun:=run_loadCells (P:=cx.P) w ⟨b0,off,none⟩ ti.n (fun j=>cs.getD (off+j) undef) hf
  have hat:∀ (j:Nat) (c:Value),(((List.range ti.n).map fun j=>cs.getD (off+j) undef).toArray)[j]? = some c→j < ti.n∧cs[off+j]? = some c:=by
   intro j c hj
   have hjn:j < ti.n:=by
    have:=(Array.getElem?_eq_some_iff.1 hj).1
    simpa using this
   refine⟨hjn,?_⟩
   have hlt:off+j < cs.size:=by omega
   simp[hjn,Array.getD,hlt]at hj
   rw[Array.getElem?_eq_getElem hlt,hj]
  refine⟨.agg _,by simp[Instr.loadAt,Instr.sureAddr,loadVar,hA,hS,hrun],⟨_,rfl,by simp;omega,fun j c hj=>h1 _ c (hat j c hj).2,fun j c av hj hc=>?_⟩,fun z hz=>?_⟩
  ·
   rw[List.getElem?_take]at hj
   split at hj
   ·
    rw[List.getElem?_drop]at hj
    exact hrep _ c av hj (hat j c hc).2
   ·
    cases hj
  ·
   exact hbd z (List.mem_of_mem_drop (List.mem_of_mem_take hz))
 have aggs:(isAgg t).run cx.P w = .ok true w→(match Nat.beq (cells.drop off).length ti.n with
  |true=>some (AV.agg (cells.drop off))
  |false=>match Nat.blt (cells.drop off).length ti.n with
   |true=>none
   |false=>some (.agg ((cells.drop off).take ti.n)))=some y→∃ v,(Instr.loadAt t (.pointer (some ⟨b0,off,none⟩))).run cx.P w = .ok v w∧Rep cx g σ w v y∧y.bd nx:=by
  intro hA hl
  split at hl
  ·
   next hb =>
   cases hl
   have he:(cells.drop off).length=ti.n:=by simpa using hb
   have:=agg (by omega) hA
   rw[List.take_of_length_le (by omega)]at this
   exact this
  ·
   split at hl
   ·
    cases hl
   ·
    next hb =>
    cases hl
    have hle:¬ (cells.drop off).length < ti.n:=by
     intro hlt
     have:Nat.blt (cells.drop off).length ti.n=true:=by simpa using hlt
     rw[hb]at this;cases this
    exact agg (by omega) hA
 have ones:(isAgg t).run cx.P w = .ok false w→(cells.drop off).head? = some y→∃ v,(Instr.loadAt t (.pointer (some ⟨b0,off,none⟩))).run cx.P w = .ok v w∧Rep cx g σ w v y∧y.bd nx:=by
  intro hA hl
  obtain⟨v,h2,h3,h4⟩:=one hl hA
  cases y with
  |agg c=>exact h3.elim
  |tup c=>exact h3.elim
  |d z=>exact⟨v,h2,h3,h4⟩
  |pd z=>exact⟨v,h2,h3,h4⟩
  |ptr i o=>exact⟨v,h2,h3,h4⟩
  |own i n=>exact⟨v,h2,h3,h4⟩
  |pe i n p q=>exact⟨v,h2,h3,h4⟩
  |h i=>exact⟨v,h2,h3,h4⟩
  |any=>exact⟨v,h2,h3,h4⟩
 unfold ldA at hl
 cases hkd:ti.kind <;> simp only[hkd]at hl hA
 ·
  exact ones hA hl
 ·
  exact ones hA hl
 ·
  exact ones hA hl
 ·
  exact ones hA hl
 ·
  exact ones hA hl
 ·
  exact aggs hA hl
 ·
  exact aggs hA hl
theorem ok_load_ptr {t:TypeId}{x:Operand}{id off:Nat}{cells:List AV}{ti:TI}{y:AV}(hn:d < cx.n) (hx:EvS x (.ptr id off)) (ht:tget cx.T t=some ti)
  (hl:ldA ti (cells.drop off)=some y) :
  OpOk cx ⟨some d,.load t x,ty,pos,af,gd⟩ ⟨rdOf x (.ptr id off)++[(.o id,.ob (.box cells))],[(.s d,.av y)]⟩:=by
 refine ok_val rfl hn fun σ a w g nx hs hr=>?_
 obtain⟨v,h2,h3,h4⟩:=load_ptr hs (hs.ev hx hr.left).1 hr.right.1 ht hl
 exact⟨v,w,by simp[execOp,h2],Below.refl _ _,h3,h4⟩
def idx (rows:List (List D)) (i:Int):Option (List D):=if 0≤i then rows[i.toNat]? else none
def slK (ti:TI):Option Nat:=match ti.kind with
 |.sl _ k=>some k
 |_=>none
theorem slice_of {P:Program}{t:Nat}{ti:TI}{k:Nat}(h:TF P t ti) (hk:slK ti=some k):∃ e i,P.underlying t=some (.slice e)∧P.info? e=some i∧i.size=k∧0 < k:=by
 have hkd:=h.kind
 unfold slK at hk
 split at hk
 ·
  next e k' hkk =>
  cases hk
  rw[hkk]at hkd
  obtain⟨h1,⟨i,h2,h3⟩,h4,_⟩:=hkd
  exact⟨e,i,h1,h2,h3,h4⟩
 ·
  cases hk
theorem ok_ia_sl {t:TypeId}{x y:Operand}{k:Nat}{rows:List (List D)}{kd:IntKind}{i:Int}{ti:TI}{r:List D}(hn:d < cx.n) (hx:EvS x (.d (.sl k rows)))
  (hy:EvS y (.d (.v (.int kd i)))) (ht:tget cx.T t=some ti) (hk:slK ti=some k) (hi:idx rows i=some r) :
  OpOk cx ⟨some d,.indexAddr t x y,ty,pos,af,gd⟩ ⟨rdOf x (.d (.sl k rows))++rdOf y (.d (.v (.int kd i))),[(.s d,.av (.pd r))]⟩:=by
 refine ok_val rfl hn fun σ a w g nx hs hr=>?_
 obtain⟨e,ie,hu,hie,hks,hk0⟩:=slice_of (cx.hT t ti ht) hk
 have h1:Rd w (cx.own g σ) (a.eval x) (.sl k rows):=(hs.ev hx hr.left).1
 have h2:=rep_v (hs.ev hy hr.right).1
 unfold idx at hi
 split at hi
 ·
  next hi0 =>
  have hlt:i.toNat < rows.length:=(List.getElem?_eq_some_iff.1 hi).1
  generalize hv:a.eval x=v at h1
  generalize hD:D.sl k rows=D0 at h1
  cases h1 with
  |v=>cases hD
  |x=>cases hD
  |agg=>cases hD
  |nil=>cases hD;simp at hlt
  |sl ad cap k' rows' f hb hsz hcap hlen hc hone hrd =>
   cases hD
   refine⟨.pointer (some (ad.add (i.toNat*k))),w,?_,Below.refl _ _,⟨_,rfl,.inr (by rw[add_block];exact hb),by rw[add_block];exact hsz,fun j dd hj=>?_⟩,trivial⟩
   ·
    have:0≤i∧i < (rows.length:Int):=⟨hi0,by omega⟩
    simp[execOp,h2,hv,Instr.indexAt,asIntOf,run_underlying hu,this,sizeOf,typeInfo,hie,hks]
   ·
    exact⟨f i.toNat j,by rw[add_add];exact hc _ _ _ _ hi hj,hone _ _ _ _ hi hj,hrd _ _ _ _ hi hj⟩
 ·
  cases hi
theorem ok_len_sl {t tt:TypeId}{x:Operand}{k k':Nat}{rows:List (List D)}{ti:TI}(hn:d < cx.n) (hx:EvS x (.d (.sl k rows))) (ht:tget cx.T t=some ti) (hk:slK ti=some k') :
  OpOk cx ⟨some d,.call { callee := .builtin .len,args := #[x],argTypes := #[t] },tt,pos,af,gd⟩ ⟨rdOf x (.d (.sl k rows)),[(.s d,.av (.d (.v (.int .i64 rows.length))))]⟩:=by
 refine ok_val rfl hn fun σ a w g nx hs hr=>?_
 obtain⟨e,ie,hu,_⟩:=slice_of (cx.hT t ti ht) hk
 have h1:Rd w (cx.own g σ) (a.eval x) (.sl k rows):=(hs.ev hx hr).1
 have hv:∃ p c,a.eval x = .slice p rows.length c:=by
  generalize a.eval x=v at h1
  generalize hD:D.sl k rows=D0 at h1
  cases h1 with
  |v=>cases hD
  |x=>cases hD
  |agg=>cases hD
  |nil p c=>cases hD;exact⟨p,c,rfl⟩
  |sl ad cap=>cases hD;exact⟨_,cap,rfl⟩
 obtain⟨p,c,hv⟩:=hv
 refine⟨.int .i64 rows.length,w,?_,Below.refl _ _,Rd.v _,trivial⟩
 simp[execOp,resolve,invoke,builtin,hv,Builtin.len_,run_underlying hu,goInt]
theorem ok_extract {x:Operand}{avs:List AV}{i:Nat}{av:AV}(hn:d < cx.n) (hx:EvS x (.tup avs)) (hi:avs[i]? = some av) (hav:match av with | .tup _=>False|_=>True) :
  OpOk cx ⟨some d,.extract x i,ty,pos,af,gd⟩ ⟨rdOf x (.tup avs),[(.s d,.av av)]⟩:=by
 refine ok_val rfl hn fun σ a w g nx hs hr=>?_
 obtain⟨⟨vs,hv,hl,h⟩,hb⟩:=hs.ev hx hr
 have hlt:i < vs.size:=by have:=(List.getElem?_eq_some_iff.1 hi).1;omega
 have hc:vs[i]? = some vs[i]:=Array.getElem?_eq_getElem hlt
 have h2:=h i vs[i] av hi hc
 have hb2:=hb av (List.mem_of_getElem? hi)
 refine⟨vs[i],w,by simp[execOp,hv,Instr.extract,hc],Below.refl _ _,?_,?_⟩
 ·
  cases av <;> first|exact h2|exact hav.elim
 ·
  cases av <;> first|exact hb2|exact hav.elim
theorem ok_nilCheck_pd {x:Operand}{cells:List D}(hn:d < cx.n) (hx:EvS x (.pd cells)) :
  OpOk cx ⟨some d,.nilCheck x,ty,pos,af,gd⟩ ⟨rdOf x (.pd cells),[(.s d,.av (.pd cells))]⟩:=by
 refine ok_val rfl hn fun σ a w g nx hs hr=>?_
 have h:=hs.ev hx hr
 obtain⟨ad,hv,_⟩:=h.1
 exact⟨a.eval x,w,by simp[execOp,hv],Below.refl _ _,h.1,h.2⟩
theorem ok_nilCheck_ptr {x:Operand}{id off:Nat}{cells:List AV}(hn:d < cx.n) (hx:EvS x (.ptr id off)) :
  OpOk cx ⟨some d,.nilCheck x,ty,pos,af,gd⟩ ⟨rdOf x (.ptr id off)++[(.o id,.ob (.box cells))],[(.s d,.av (.ptr id off))]⟩:=by
 refine ok_val rfl hn fun σ a w g nx hs hr=>?_
 have h:=hs.ev hx hr.left
 obtain⟨b,_,hv⟩:=h.1.2 cells hr.right.1
 exact⟨a.eval x,w,by simp[execOp,hv],Below.refl _ _,h.1,h.2⟩
end Go.AX
namespace Go.AX
open Go.RowKit
variable {cx:Cx}{g:Nat→Value}{σ:St}{a:Act}{w:World}{nx:Nat}
variable {ty:TypeId}{pos:String}{af:Array Edge}{gd:Option (Nat×Bool)}{d:Nat}
theorem zero_of {P:Program}{t:Nat}{ti:TI}(h:TF P t ti) (w:World):∃ z,(zeroValue t).run P w = .ok z w∧z.cells.toList=ti.zero:=by
 obtain⟨i,hi,_,_,z,hz,hc⟩:=h.info
 exact⟨z,by simp[zeroValue,typeInfo,hi,hz],hc⟩
theorem newBox {cs:Array Value}{cells:List AV}{t:TypeId}(hs:SimG cx σ a w g nx) (hn:d < cx.n) (hsz:cs.size=cells.length)
  (h1:∀ (j:Nat) (c:Value),cs[j]? = some c→c.oneCell'=true) (hr:∀ (j:Nat) (c:Value) (av:AV),cells[j]? = some av→cs[j]? = some c→Rep1 cx g σ w c av)
  (hbd:∀ av∈cells,av.bd1 nx) :
  Sim cx ([(.s d,.av (.ptr nx 0)),(.o nx,.ob (.box cells)),(.nx,.num (nx+1))]++σ) (a.put (some d) (.pointer (some ⟨w.heap.size,0,none⟩))) (w.alloc (.cells cs t)):=by
 have hno:=(get_nx_obj hs).2
 have hst:ObjStep cx σ g nx (nx+1) w (w.alloc (.cells cs t)) nx (.box cells) (.pointer (some ⟨w.heap.size,0,none⟩)):=by
  refine⟨.inl ⟨rfl,rfl⟩,(Below.refl _ _).alloc hs.below.size _,fun b hb _=>Below.heap_alloc _ _ _ hb,fun b hb => .inr ?_⟩
  obtain rfl:w.heap.size=b:=by simpa[blk] using hb
  exact Nat.le_refl _
 have hG:=SimG.obj hs hst (fun hl=>?_) (fun av hav=>AV.bd1_mono (Nat.le_succ _) (hbd av hav))
 ·
  refine Sim.put hG hn (Below.refl _ _) (⟨.of get_cons_same,fun cells' hc=>?_⟩) (Nat.lt_succ_self _)
  exact⟨w.heap.size,upd_same _ _ _,rfl⟩
 ·
  refine⟨w.heap.size,cs,t,upd_same _ _ _,hs.below.size,?_,hsz,h1,fun j c av hj hc=>(hr j c av hj hc).step hl (hbd av (List.mem_of_getElem? hj))⟩
  exact heap_alloc_new w _
theorem ok_alloc {t:TypeId}{ti:TI}(hn:d < cx.n) (ht:tget cx.T t=some ti) (h1:∀ c∈ti.zero,Value.oneCell' c=true) :
  OpOk cx ⟨some d,.alloc t,ty,pos,af,gd⟩ ⟨[(.nx,.num nx)],[(.s d,.av (.ptr nx 0)),(.o nx,.ob (.box (ti.zero.map fun c => .d (.v c)))),(.nx,.num (nx+1))]⟩:=by
 rintro σ a w K Q ⟨g,n',hs⟩ hr hK
 have hnx:n'=nx:=by
  have h2:=hr.1
  rw[hs.hnx]at h2
  simpa using h2
 subst hnx
 obtain⟨z,hz,hc⟩:=zero_of (cx.hT t ti ht) w
 refine wp_val rfl (v := .pointer (some ⟨w.heap.size,0,none⟩)) (w':=w.alloc (.cells z.cells t)) ?_ (hK _ _ (newBox hs hn ?_ (fun j c hj=>?_) (fun j c av hj hcj=>?_) fun av hav=>?_))
 ·
  simp[execOp,Instr.alloc,hz,newVar,newRow]
 ·
  rw[List.length_map,← hc,Array.length_toList]
 ·
  exact h1 c (by rw[← hc];exact List.mem_of_getElem? (by simpa using hj))
 ·
  rw[List.getElem?_map,← hc]at hj
  have:z.cells.toList[j]? = some c:=by simpa using hcj
  rw[this]at hj
  obtain rfl:AV.d (.v c)=av:=by simpa using hj
  exact Rd.v c
 ·
  obtain⟨c,_,rfl⟩:=List.mem_map.1 hav
  trivial
def cellsOf:AV→Option (List AV)
 |.d (.agg ds)=>some (ds.map AV.d)
 |.d (.v (.agg _))=>none
 |.d (.v (.tuple _))=>none
 |.agg cells=>some cells
 |.tup _=>none
 |.any=>none
 |x=>some [x]
def One (x:Value):AV→Prop
 |.ptr _ _=>x.oneCell'=true
 |.own _ _=>x.oneCell'=true
 |.pe _ _ _ _=>x.oneCell'=true
 |.h _=>x.oneCell'=true
 |_=>True
theorem cells_one {x:Value}(h:x.oneCell'=true):x.cells = #[x]:=by
 cases x <;> first|rfl|cases h
theorem cells_of {x:Value}{av:AV}{cells:List AV}(h:Rep cx g σ w x av) (hb:av.bd nx) (hc:cellsOf av=some cells) (ho:One x av) :
  x.cells.size=cells.length∧(∀ (j:Nat) (c:Value),x.cells[j]? = some c→c.oneCell'=true) ∧
   (∀ (j:Nat) (c:Value) (av:AV),cells[j]? = some av→x.cells[j]? = some c→Rep1 cx g σ w c av)∧∀ av∈cells,av.bd1 nx:=by
 have single:∀ {av:AV},Rep1 cx g σ w x av→av.bd1 nx→x.oneCell'=true→x.cells = #[x]→cells=[av]→_:=fun {av} hr hb h1 hx hce =>
  show x.cells.size=cells.length∧(∀ (j:Nat) (c:Value),x.cells[j]? = some c→c.oneCell'=true) ∧
   (∀ (j:Nat) (c:Value) (av:AV),cells[j]? = some av→x.cells[j]? = some c→Rep1 cx g σ w c av)∧∀ av∈cells,av.bd1 nx by
  subst hce
  rw[hx]
  refine⟨rfl,fun j c hj=>?_,fun j c av hj hc=>?_,fun av hav=>?_⟩
  ·
   cases j with
   |zero=>obtain rfl:x=c:=by simpa using hj
          exact h1
   |succ j=>simp at hj
  ·
   cases j with
   |zero =>
    obtain rfl:x=c:=by simpa using hc
    simp at hj;subst hj;exact hr
   |succ j=>simp at hj
  ·
   simp at hav;subst hav;exact hb
 cases av with
 |d y =>
  cases y with
  |v y =>
   have:=rep_v h
   subst this
   cases x <;> simp only[cellsOf,Option.some.injEq,reduceCtorEq]at hc <;> exact single (av := .d (.v _)) h hb rfl rfl hc.symm
  |sl k rows =>
   simp only[cellsOf,Option.some.injEq]at hc
   have hs:∃ p n c,x = .slice p n c:=by
    have h':Rd w (cx.own g σ) x (.sl k rows):=h
    generalize hD:D.sl k rows=D0 at h'
    cases h' with
    |v=>cases hD
    |x=>cases hD
    |agg=>cases hD
    |nil p c=>exact⟨p,0,c,rfl⟩
    |sl ad c=>exact⟨_,_,c,rfl⟩
   obtain⟨p,n,c,rfl⟩:=hs
   exact single (av := .d (.sl k rows)) h hb rfl rfl hc.symm
  |x p =>
   simp only[cellsOf,Option.some.injEq]at hc
   have hs:x.oneCell'=true:=by
    have h':Rd w (cx.own g σ) x (.x p):=h
    generalize hD:D.x p=D0 at h'
    cases h' with
    |v=>cases hD
    |sl=>cases hD
    |agg=>cases hD
    |nil=>cases hD
    |x p v h1=>exact h1
   exact single (av := .d (.x p)) h hb hs (cells_one hs) hc.symm
  |agg ds =>
   simp only[cellsOf,Option.some.injEq]at hc
   subst hc
   have h':Rd w (cx.own g σ) x (.agg ds):=h
   generalize hD:D.agg ds=D0 at h'
   cases h' with
   |v=>cases hD
   |x=>cases hD
   |sl=>cases hD
   |nil=>cases hD
   |agg cs ds' hl h1 hr =>
    cases hD
    refine⟨by simpa[Value.cells] using hl,h1,fun j c av hj hc=>?_,fun av hav=>?_⟩
    ·
     rw[List.getElem?_map]at hj
     cases hd:ds[j]? with
     |none=>rw[hd]at hj;cases hj
     |some z =>
      rw[hd]at hj
      obtain rfl:AV.d z=av:=by simpa using hj
      exact hr j z c hd hc
    ·
     obtain⟨z,_,rfl⟩:=List.mem_map.1 hav
     trivial
 |agg cs =>
  simp only[cellsOf,Option.some.injEq]at hc
  subst hc
  obtain⟨vs,rfl,h1,h2,h3⟩:=h
  exact⟨h1,h2,h3,hb⟩
 |tup c=>cases hc
 |any=>cases hc
 |pd ds =>
  simp only[cellsOf,Option.some.injEq]at hc
  have h':=h
  obtain⟨ad,rfl,_⟩:=h'
  exact single (av := .pd ds) h hb rfl rfl hc.symm
 |ptr i o=>simp only[cellsOf,Option.some.injEq]at hc;exact single (av := .ptr i o) h hb ho (cells_one ho) hc.symm
 |own i n=>simp only[cellsOf,Option.some.injEq]at hc;exact single (av := .own i n) h hb ho (cells_one ho) hc.symm
 |pe i n p q=>simp only[cellsOf,Option.some.injEq]at hc;exact single (av := .pe i n p q) h hb ho (cells_one ho) hc.symm
 |h i=>simp only[cellsOf,Option.some.injEq]at hc;exact single (av := .h i) h hb ho (cells_one ho) hc.symm
def Newest (σ:St):AV→Prop
 |.own id n=>∃ e k rows,get σ (.o id) = .ob (.arr e k rows)∧n=rows.length
 |.ptr id _=>∃ cells,get σ (.o id) = .ob (.box cells)
 |.pe _ _ _ _=>False
 |.h _=>False
 |_=>True
theorem one_of (hs:SimG cx σ a w g nx) {x:Value}{av:AV}(h:Rep cx g σ w x av) (hn:Newest σ av):One x av:=by
 cases av with
 |own id n =>
  obtain⟨e,k,rows,ho,rfl⟩:=hn
  have hx:=(h.2 e k rows ho).2 rfl
  obtain⟨_,⟨xs,h1,_⟩,_⟩:=hs.objs id _ ho
  show x.oneCell'=true
  rw[hx]
  rcases h1.2 with ⟨he,_⟩|⟨_,_,_,he,_⟩ <;> rw[he] <;> rfl
 |ptr id off =>
  obtain⟨cells,ho⟩:=hn
  obtain⟨b,_,hx⟩:=h.2 cells ho
  show x.oneCell'=true
  rw[hx];rfl
 |pe i n p q=>exact hn.elim
 |h i=>exact hn.elim
 |d y=>trivial
 |pd y=>trivial
 |agg y=>trivial
 |tup y=>trivial
 |any=>trivial
def nwRd:AV→List (Key×Val)→Prop
 |.own id n,l=>∃ e k rows,l=[(.o id,.ob (.arr e k rows))]∧n=rows.length
 |.ptr id _,l=>∃ cells,l=[(.o id,.ob (.box cells))]
 |.pe _ _ _ _,_=>False
 |.h _,_=>False
 |_,l=>l=[]
theorem newest_of {av:AV}{l:List (Key×Val)}(h:nwRd av l) (ha:App σ l):Newest σ av:=by
 cases av with
 |own id n=>obtain⟨e,k,rows,rfl,hn⟩:=h;exact⟨e,k,rows,ha.1,hn⟩
 |ptr id off=>obtain⟨cells,rfl⟩:=h;exact⟨cells,ha.1⟩
 |pe i n p q=>exact h.elim
 |h i=>exact h.elim
 |d y=>trivial
 |pd y=>trivial
 |agg y=>trivial
 |tup y=>trivial
 |any=>trivial
def putCells (cells:List AV) (off:Nat) (new:List AV):List AV:=cells.take off++new++cells.drop (off+new.length)
theorem ok_store_ptr {t:TypeId}{x y:Operand}{id off:Nat}{cells new:List AV}{av:AV}{ti:TI}{l:List (Key×Val)}(hx:EvS x (.ptr id off)) (hy:EvS y av) (ht:tget cx.T t=some ti)
  (hc:cellsOf av=some new) (hl:nwRd av l) (hnn:Nat.beq new.length ti.n=true) (hle:Nat.ble (off+new.length) cells.length=true) :
  OpOk cx ⟨none,.store t x y,ty,pos,af,gd⟩ ⟨rdOf x (.ptr id off)++(rdOf y av++(l++[(.o id,.ob (.box cells))])),[(.o id,.ob (.box (putCells cells off new)))]⟩:=by
 rintro σ a w K Q ⟨g,nx,hs⟩ hr hK
 have ho:get σ (.o id) = .ob (.box cells):=hr.right.right.right.1
 obtain⟨b0,hg0,hv⟩:=(hs.ev hx hr.left).1.2 cells ho
 obtain⟨hav,hbd⟩:=hs.ev hy hr.right.left
 obtain⟨hidn,⟨b,cs,et,hg,hge,hh,hsz,h1,hrep⟩,hcb⟩:=hs.objs id _ ho
 have hbb:b0=b:=by rw[hg0]at hg;simpa using hg
 subst hbb
 obtain⟨c1,c2,c3,c4⟩:=cells_of hav hbd hc (one_of hs hav (newest_of hl hr.right.right.left))
 have hF:=cx.hT t ti ht
 have hnn':new.length=ti.n:=by simpa using hnn
 have hle':off+new.length≤cells.length:=by simpa using hle
 generalize hX:a.eval y=X at hav c1 c2 c3
 have hlen:X.cells.toList.length=new.length:=by simpa using c1
 have hst:=run_storeCells_at (P:=cx.P) b0 off et X.cells.toList 0 cs w hh (by rw[hlen];omega) (fun v hv=>by
  obtain⟨j,hj⟩:=List.getElem?_of_mem hv
  exact c2 j v (by simpa using hj))
 simp only[Nat.add_zero]at hst
 have hrun:(Instr.storeAt t (.pointer (some ⟨b0,off,none⟩)) X).run cx.P w = .ok () (w.setRow b0 (cs.toList.take off++X.cells.toList++cs.toList.drop (off+X.cells.toList.length)).toArray):=by
  simp[Instr.storeAt,Instr.sureAddr,storeVar,sizeOf_of hF w,c1,hnn',hst]
 generalize hcs':(cs.toList.take off++X.cells.toList++cs.toList.drop (off+X.cells.toList.length)).toArray=cs' at hrun
 have hheap:(w.setRow b0 cs').heap[b0]? = some (.cells cs' et (0,0)):=setRow_heap w b0 cs cs' et (0,0) hh
 have hOS:ObjStep cx σ g nx nx w (w.setRow b0 cs') id (.box (putCells cells off new)) (.pointer (some ⟨b0,0,none⟩)):=by
  refine⟨.inr ⟨rfl,.box cells,ho,by simp[ObLe,upd_same,hg0]⟩,⟨rfl,rfl,rfl,by simp,fun k hk=>setRow_other w b0 k cs' (by omega)⟩,fun b hb hne=>setRow_other w b0 b cs' (fun e=>hne _ ho (by rw[hg0,e];rfl)),fun b hb => .inl ⟨_,ho,by rw[hg0];exact hb⟩⟩
 have hsz':cs'.size=(putCells cells off new).length:=by
  subst hcs'
  simp[putCells,c1]
  omega
 have hat:∀ (j:Nat) (c:Value) (av:AV),(putCells cells off new)[j]? = some av→cs'[j]? = some c →
   (cells[j]? = some av∧cs[j]? = some c)∨∃ i:Nat,new[i]? = some av∧X.cells[i]? = some c:=by
  intro j c av hj hcj
  have hcj':(cs.toList.take off++X.cells.toList++cs.toList.drop (off+X.cells.toList.length))[j]? = some c:=by
   subst hcs';simpa using hcj
  unfold putCells at hj
  rw[List.append_assoc]at hj hcj'
  have ht1:(cells.take off).length=off:=by simp;omega
  have ht2:(cs.toList.take off).length=off:=by simp;omega
  rcases Nat.lt_or_ge j off with hjo|hjo
  ·
   rw[List.getElem?_append_left (by omega),List.getElem?_take,if_pos hjo]at hj
   rw[List.getElem?_append_left (by omega),List.getElem?_take,if_pos hjo]at hcj'
   exact .inl ⟨hj,by simpa using hcj'⟩
  ·
   rw[List.getElem?_append_right (by omega),ht1]at hj
   rw[List.getElem?_append_right (by omega),ht2]at hcj'
   rcases Nat.lt_or_ge (j - off) new.length with hjn|hjn
   ·
    rw[List.getElem?_append_left hjn]at hj
    rw[List.getElem?_append_left (by omega)]at hcj'
    exact .inr ⟨j - off,hj,by simpa using hcj'⟩
   ·
    rw[List.getElem?_append_right hjn,List.getElem?_drop]at hj
    rw[List.getElem?_append_right (by omega),List.getElem?_drop,hlen]at hcj'
    rw[show off+new.length+(j - off - new.length)=j by omega]at hj hcj'
    exact .inl ⟨hj,by simpa using hcj'⟩
 have hone:∀ (j:Nat) (c:Value),cs'[j]? = some c→c.oneCell'=true:=by
  intro j c hj
  have hjl:j < (putCells cells off new).length:=by rw[← hsz'];exact(Array.getElem?_eq_some_iff.1 hj).1
  rcases hat j c _ (List.getElem?_eq_getElem hjl) hj with ⟨_,h⟩|⟨i,_,h⟩
  ·
   exact h1 j c h
  ·
   exact c2 i c h
 have hG:=SimG.obj hs hOS (fun hlat=>⟨b0,cs',et,upd_same _ _ _,hge,hheap,hsz',hone,fun j c av hj hcj=>?_⟩) (fun av hm=>?_)
 ·
  unfold Oper.wp
  simp only[execOp,hv,hX,Sem.run_bind,hrun,Result.andThen_ok,Sem.run_pure,Oper.upon,Act.put]
  refine hK _ _ (Sim.eqv ⟨_,_,hG⟩ fun k=>?_)
  cases k with
  |s i=>rw[objSt_s];exact(get_cons_ne (by simp)).symm
  |o i =>
   by_cases hi:i=id
   ·
    subst hi;rw[get_cons_same];exact get_cons_same.symm
   ·
    rw[objSt_o hi];exact(get_cons_ne (by simpa using fun e=>hi e.symm)).symm
  |nx=>rw[objSt_nx];exact hs.hnx.symm.trans (get_cons_ne (by simp)).symm
 ·
  rcases hat j c av hj hcj with ⟨h5,h6⟩|⟨i,h5,h6⟩
  ·
   exact(hrep j c av h5 h6).step hlat (hcb av (List.mem_of_getElem? h5))
  ·
   exact(c3 i c av h5 h6).step hlat (c4 av (List.mem_of_getElem? h5))
 ·
  unfold putCells at hm
  rcases List.mem_append.1 hm with hm|hm
  ·
   rcases List.mem_append.1 hm with hm|hm
   ·
    exact hcb av (List.mem_of_mem_take hm)
   ·
    exact c4 av hm
  ·
   exact hcb av (List.mem_of_mem_drop hm)
theorem ok_box {t:TypeId}{x:Operand}{av:AV}{cells:List AV}{l:List (Key×Val)}(hn:d < cx.n) (hx:EvS x av) (hc:cellsOf av=some cells) (hl:nwRd av l) :
  OpOk cx ⟨some d,.box t x,ty,pos,af,gd⟩ ⟨(.nx,.num nx)::(rdOf x av++l),[(.s d,.av (.ptr nx 0)),(.o nx,.ob (.box cells)),(.nx,.num (nx+1))]⟩:=by
 rintro σ a w K Q ⟨g,n',hs⟩ hr hK
 have hnx:n'=nx:=by
  have h2:=hr.1
  rw[hs.hnx]at h2
  simpa using h2
 subst hnx
 obtain⟨hav,hbd⟩:=hs.ev hx (App.left (r:=l) hr.2)
 obtain⟨c1,c2,c3,c4⟩:=cells_of hav hbd hc (one_of hs hav (newest_of hl (App.right (l:=rdOf x av) hr.2)))
 exact wp_val rfl (v := .pointer (some ⟨w.heap.size,0,none⟩)) (w':=w.alloc (.cells (a.eval x).cells t)) (by simp[execOp,Instr.box,newVar,newRow]) (hK _ _ (newBox hs hn c1 c2 c3 c4))
end Go.AX
namespace Go.AX
open Go.RowKit
inductive DLe:D→D→Prop
 |refl (x:D):DLe x x
 |nil (k:Nat):DLe (.v nilS) (.sl k [])
 |x (v:Value) (p:World→(Nat→Prop)→Value→Prop) (h1:v.oneCell'=true) (hst:Stable p) (h:∀ w own,p w own v):DLe (.v v) (.x p)
 |agg (a b:List D) (hl:a.length=b.length) (h:∀ (j:Nat) (x y:D),a[j]? = some x→b[j]? = some y→DLe x y):DLe (.agg a) (.agg b)
 |sl (k:Nat) (a b:List (List D)) (hl:a.length=b.length) (hr:∀ (i:Nat) (r s:List D),a[i]? = some r→b[i]? = some s→r.length=s.length)
   (h:∀ (i j:Nat) (r s:List D) (x y:D),a[i]? = some r→b[i]? = some s→r[j]? = some x→s[j]? = some y→DLe x y):DLe (.sl k a) (.sl k b)
theorem get_pair {α β:Type}{a:List α}{b:List β}{j:Nat}{y:β}(hl:a.length=b.length) (h:b[j]? = some y):∃ x,a[j]? = some x:=by
 have:=(List.getElem?_eq_some_iff.1 h).1
 exact⟨a[j]'(by omega),List.getElem?_eq_getElem (by omega)⟩
theorem Rd.le {w:World}{own:Nat→Prop}{v:Value}{x y:D}(hle:DLe x y) (h:Rd w own v x):Rd w own v y:=by
 induction hle generalizing v with
 |refl x=>exact h
 |nil k=>exact h.nilS_sl k
 |x u p h1 hst hp =>
  generalize hD:D.v u=D0 at h
  cases h with
  |v=>cases hD;exact .x p _ h1 hst (hp _ _)
  |x=>cases hD
  |sl=>cases hD
  |agg=>cases hD
  |nil=>cases hD
 |agg a b hl _ ih =>
  generalize hD:D.agg a=D0 at h
  cases h with
  |v=>cases hD
  |x=>cases hD
  |sl=>cases hD
  |nil=>cases hD
  |agg cs ds hs h1 hr =>
   cases hD
   refine .agg cs b (by omega) h1 fun j d c hd hc=>?_
   obtain⟨x,hx⟩:=get_pair hl hd
   exact ih j x d hx hd (hr j x c hx hc)
 |sl k a b hl hrl _ ih =>
  generalize hD:D.sl k a=D0 at h
  cases h with
  |v=>cases hD
  |x=>cases hD
  |agg=>cases hD
  |nil p c =>
   cases hD
   obtain rfl:b=[]:=List.eq_nil_of_length_eq_zero (by simpa using hl.symm)
   exact .nil p c k
  |sl ad cap k' rows f hb hsz hcap hk hc h1 hr =>
   cases hD
   have hgo:∀ {i j:Nat} {s:List D} {y:D},b[i]? = some s→s[j]? = some y→∃ r x,a[i]? = some r∧r[j]? = some x:=by
    intro i j s y hs hy
    obtain⟨r,hr'⟩:=get_pair hl hs
    obtain⟨x,hx⟩:=get_pair (hrl i r s hr' hs) hy
    exact⟨r,x,hr',hx⟩
   rw[hl]
   refine .sl ad cap k b f hb hsz (by omega) (fun s hs=>?_) (fun i j s y hs hy=>?_) (fun i j s y hs hy=>?_) fun i j s y hs hy=>?_
   ·
    obtain⟨i,hi⟩:=List.getElem?_of_mem hs
    obtain⟨r,hr'⟩:=get_pair hl hi
    rw[← hrl i r s hr' hi]
    exact hk r (List.mem_of_getElem? hr')
   ·
    obtain⟨r,x,h2,h3⟩:=hgo hs hy
    exact hc i j r x h2 h3
   ·
    obtain⟨r,x,h2,h3⟩:=hgo hs hy
    exact h1 i j r x h2 h3
   ·
    obtain⟨r,x,h2,h3⟩:=hgo hs hy
    exact ih i j r s x y h2 hs h3 hy (hr i j r x h2 h3)
inductive Arg where
 |d (x:D)
 |pd (cells:List D)
def ArgOk (w:World) (own:Nat→Prop) (v:Value):Arg→Prop
 |.d x=>Rd w own v x
 |.pd cells=>∃ ad:Addr,v = .pointer (some ad)∧ad.block < w.heap.size∧RdCells w own ad cells
inductive Res where
 |one (x:D)
 |tup (xs:List D)
def ResOk (w:World) (own:Nat→Prop) (v:Value):Res→Prop
 |.one x=>Rd w own v x
 |.tup xs=>∃ vs:Array Value,v = .tuple vs∧vs.size=xs.length∧∀ (j:Nat) (c:Value) (x:D),xs[j]? = some x→vs[j]? = some c→Rd w own c x
def ArgsOk (w:World) (own:Nat→Prop):List Value→List Arg→Prop
 | [],[]=>True
 |v::vs,x::xs=>ArgOk w own v x∧ArgsOk w own vs xs
 |_,_=>False
structure FnOk (P:Program) (f:FuncId) (args:List Arg) (res:Res):Prop where
 run : ∃ fn, P.funcs[f]? = some fn ∧ (fn.name == "runtime.NumGoroutine") = false ∧ fn.body.isNone = false
 calls:∀ (w:World) (own:Nat→Prop) (vs:List Value),((∀ b,own b→b < w.heap.size)∧Gl P w)→ArgsOk w own vs args →
  Calls P f vs.toArray w fun e w'=>∃ v,e = .returned v∧Below w.heap.size w w'∧ResOk w' own v res
def Res.av:Res→AV
 |.one x => .d x
 |.tup xs => .tup (xs.map AV.d)
variable {cx:Cx}{g:Nat→Value}{σ:St}{a:Act}{w:World}{nx:Nat}
variable {ty:TypeId}{pos:String}{af:Array Edge}{gd:Option (Nat×Bool)}{d:Nat}
inductive Sub:AV→Arg→List (Key×Val)→Prop
 |d {x y:D} (h:DLe x y):Sub (.d x) (.d y) []
 |agg {cells:List AV} {ds es:List D} (h:cells=ds.map AV.d) (hle:DLe (.agg ds) (.agg es)):Sub (.agg cells) (.d (.agg es)) []
 |pd {cells:List D}:Sub (.pd cells) (.pd cells) []
 |ptr {id off:Nat} {cells:List AV} {ds:List D} (h:cells.drop off=ds.map AV.d):Sub (.ptr id off) (.pd ds) [(.o id,.ob (.box cells))]
theorem Sub.ok (hs:SimG cx σ a w g nx) {v:Value}{av:AV}{x:Arg}{l:List (Key×Val)}(hr:Rep cx g σ w v av) (ha:App σ l) (h:Sub av x l) :
  ArgOk w (cx.own g σ) v x:=by
 cases h with
 |d h=>exact Rd.le h hr
 |agg h hle =>
  subst h
  obtain⟨cs,rfl,h1,h2,h3⟩:=hr
  refine Rd.le hle (.agg cs _ (by simpa using h1) h2 fun j z c hz hc=>?_)
  exact h3 j c (.d z) (by rw[List.getElem?_map,hz];rfl) hc
 |pd =>
  obtain⟨ad,h1,_,h2,h3⟩:=hr
  exact⟨ad,h1,h2,h3⟩
 |@ptr id off cells ds h =>
  have ho:get σ (.o id) = .ob (.box cells):=ha.1
  obtain⟨b0,hg0,hv⟩:=hr.2 cells ho
  obtain⟨_,⟨b,cs,et,hg,_,hh,hsz,h1,hrep⟩,_⟩:=hs.objs id _ ho
  have hbb:b0=b:=by rw[hg0]at hg;simpa using hg
  subst hbb
  have hlt:b0 < w.heap.size:=by
   rcases Nat.lt_or_ge b0 w.heap.size with h|h
   ·
    exact h
   ·
    rw[Array.getElem?_eq_none h]at hh;cases hh
  refine⟨_,hv,hlt,fun j z hz=>?_⟩
  have hc:cells[off+j]? = some (.d z):=by
   rw[← List.getElem?_drop,h,List.getElem?_map,hz];rfl
  have hl:off+j < cs.size:=by have:=(List.getElem?_eq_some_iff.1 hc).1;omega
  have hcs:cs[off+j]? = some cs[off+j]:=Array.getElem?_eq_getElem hl
  refine⟨cs[off+j],by rw[add_lit];simp[World.cell?,hh,hcs],h1 _ _ hcs,hrep _ _ _ hc hcs⟩
inductive Subs:List Operand→List AV→List Arg→List (Key×Val)→Prop
 |nil:Subs [] [] [] []
 |cons {x:Operand} {xs:List Operand} {av:AV} {avs:List AV} {y:Arg} {ys:List Arg} {l l':List (Key×Val)} (hx:EvS x av) (h:Sub av y l) (hr:Subs xs avs ys l') :
   Subs (x::xs) (av::avs) (y::ys) (rdOf x av++(l++l'))
theorem Subs.ok (hs:SimG cx σ a w g nx) {xs:List Operand}{avs:List AV}{ys:List Arg}{l:List (Key×Val)}(h:Subs xs avs ys l) (ha:App σ l) :
  ArgsOk w (cx.own g σ) (xs.map a.eval) ys:=by
 induction h with
 |nil=>trivial
 |cons hx h hr ih=>exact⟨h.ok hs (hs.ev hx ha.left).1 ha.right.left,ih ha.right.right⟩
theorem Res.rep {w':World}{v:Value}{r:Res}(h:ResOk w' (cx.own g σ) v r):Rep cx g σ w' v r.av∧r.av.bd nx:=by
 cases r with
 |one x=>exact⟨h,trivial⟩
 |tup xs =>
  obtain⟨vs,rfl,h1,h2⟩:=h
  refine⟨⟨vs,rfl,by simpa using h1,fun j c av hj hc=>?_⟩,fun av hav=>?_⟩
  ·
   rw[List.getElem?_map]at hj
   cases hx:xs[j]? with
   |none=>rw[hx]at hj;cases hj
   |some x =>
    rw[hx]at hj
    obtain rfl:AV.d x=av:=by simpa using hj
    exact h2 j c x hx hc
  ·
   obtain⟨x,_,rfl⟩:=List.mem_map.1 hav
   trivial
theorem ok_call {f:FuncId}{xs:List Operand}{avs:List AV}{ys:List Arg}{l:List (Key×Val)}{r:Res}{ats:Array TypeId}(hn:d < cx.n) (hc:FnOk cx.P f ys r) (hsub:Subs xs avs ys l) :
  OpOk cx ⟨some d,.call { callee := .value (.func f),args:=⟨xs⟩,argTypes:=ats },ty,pos,af,gd⟩ ⟨l,[(.s d,.av r.av)]⟩:=by
 rintro σ a w K Q ⟨g,nx,hs⟩ hr hK
 have hcall:=hc.calls w (cx.own g σ) (xs.map a.eval) ⟨fun b hb=>own_lt hs hb,hs.gl⟩ (hsub.ok hs hr)
 have hrun:(execOp a.eval ⟨some d,.call { callee := .value (.func f),args:=⟨xs⟩,argTypes:=ats },ty,pos,af,gd⟩).run cx.P w = .ok (.enter f (xs.map a.eval).toArray) w:=by
  obtain⟨fn,h1,h2,h3⟩:=hc.run
  simp only[execOp,resolve,Deferred.ofValue,Act.eval,invoke,callFunc,Sem.run_bind,Sem.run_pure,Result.andThen_ok,run_program,h1,h2,h3,Bool.false_eq_true,if_false]
  simp
 unfold Oper.wp
 rw[hrun]
 refine hcall.mono fun e w' he=>?_
 obtain⟨v,rfl,hb,hres⟩:=he
 obtain⟨h1,h2⟩:=Res.rep (nx:=nx) hres
 exact hK _ _ (Sim.put hs hn hb h1 h2)
end Go.AX
namespace Go.AX
open Go.RowKit
variable {cx:Cx}{g:Nat→Value}{σ σ':St}{a:Act}{w:World}{nx:Nat}
def CW (cx:Cx) (c:Code) (Q:Exit→St→Prop) (σ:St):Prop :=
 ∀ a w,Sim cx σ a w→c.wp cx.P (fun e a' w'=>∃ σ',Sim cx σ' a' w'∧Q e σ') a w
def RW (cx:Cx) (ops:Array Oper) (K:List Tr→St→Prop) (acc:List Tr) (l:List Oper) (σ:St):Prop :=
 ∃ ts σ',Steps' cx ops l σ ts σ'∧K (acc++ts) σ'
variable {ops:Array Oper}{K:List Tr→St→Prop}{acc:List Tr}{rest:List Oper}{o:Oper}{Q:Exit→St→Prop}
theorem RW.nil (h:K acc σ):RW cx ops K acc [] σ:=⟨[],σ,.nil σ,by simpa using h⟩
inductive GOk (ops:Array Oper) (σ:St) (o:Oper):List (Key×Val)→Prop
 |none (h:o.guard=none):GOk ops σ o []
 |yes {j d:Nat} {want:Bool} (h:o.guard=some (j,want)) (hj:(ops[j]?).bind (·.dst)=some d) (hb:get σ (.s d)=bv want):GOk ops σ o [(.s d,bv want)]
theorem RW.step {t:Tr}{pre:List (Key×Val)}(hg:GOk ops σ o pre) (ho:OpOk cx o t) (ha:App σ t.rd)
  (h:RW cx ops K (acc++[⟨pre++t.rd,t.wr⟩]) rest (t.wr++σ)):RW cx ops K acc (o::rest) σ:=by
 obtain⟨ts,σ',h1,h2⟩:=h
 rw[List.append_assoc]at h2
 cases hg with
 |none hg=>exact⟨_,σ',.op hg ho ha h1,h2⟩
 |yes hg hj hb=>exact⟨_,σ',.yes hg hj hb ho ha h1,h2⟩
theorem RW.skip {j d:Nat}{want:Bool}{u:Value}(hg:o.guard=some (j,want)) (hj:(ops[j]?).bind (·.dst)=some d) (hb:get σ (.s d) = .av (.d (.v u))) (hu:u ≠ .bool want)
  (hx:∀ x,o.dst=some x→x < cx.n) (h:RW cx ops K (acc++[⟨[(.s d,.av (.d (.v u)))],skipWr o⟩]) rest (skipWr o++σ)):RW cx ops K acc (o::rest) σ:=by
 obtain⟨ts,σ',h1,h2⟩:=h
 rw[List.append_assoc]at h2
 exact⟨_,σ',.no hg hj hb hu hx h1,h2⟩
theorem RW.pre {t:Tr}{rest:List Oper}(hs:Stut cx t) (ha:App σ t.rd) (h:RW cx ops (fun ts σ'=>match ts with
  | []=>False
  |t1::ts=>K (acc++mrg t t1::ts) σ') [] (o::rest) (t.wr++σ)):RW cx ops K acc (o::rest) σ:=by
 obtain⟨ts,σ',h1,h2⟩:=h
 cases ts with
 |nil=>exact h2.elim
 |cons t1 ts=>exact⟨_,σ',.pre hs ha h1,h2⟩
theorem CW.region {id:Nat}{l:List Oper}(h:RW cx l.toArray (fun _ σ'=>Q .normal σ') [] l σ):CW cx (.region id l.toArray false) Q σ:=by
 obtain⟨ts,σ',h1,h2⟩:=h
 intro a w hs
 exact wp_region_lit (wpList_of_steps h1 hs fun a' w' hs'=>⟨σ',hs',h2⟩)
theorem CW.draw {id:Nat}{l:List Oper}(h:RW cx l.toArray (fun ts σ'=>chk [] [] l ts=true∧Q .normal σ') [] l σ):CW cx (.region id l.toArray true) Q σ:=by
 obtain⟨ts,σ',h1,h2,h3⟩:=h
 intro a w hs
 exact wp_draw cx.mixed (ops:=l.toArray) h1 (by simpa using fit_of_chk h2) hs fun a' w' hs'=>⟨σ',hs',h3⟩
def thenQ (cx:Cx) (y:Code) (Q:Exit→St→Prop):Exit→St→Prop
 |.normal,σ=>CW cx y Q σ
 |e,σ=>Q e σ
def blockQ (id:Nat) (Q:Exit→St→Prop):Exit→St→Prop
 |.exit j,σ=>match Nat.beq j id with
  |true=>Q .normal σ
  |false=>Q (.exit j) σ
 |e,σ=>Q e σ
theorem CW.seq {x y:Code}(h:CW cx x (thenQ cx y Q) σ):CW cx (.seq x y) Q σ:=by
 intro a w hs
 refine wp_seq (wp_mono (h a w hs) fun e a' w' he=>?_)
 obtain⟨σ',h1,h2⟩:=he
 cases e with
 |normal=>exact h2 a' w' h1
 |exit j=>exact⟨σ',h1,h2⟩
 |goto j=>exact⟨σ',h1,h2⟩
 |ret=>exact⟨σ',h1,h2⟩
 |panic c=>exact⟨σ',h1,h2⟩
 |outgrown=>exact⟨σ',h1,h2⟩
theorem CW.block {id:Nat}{c:Code}(h:CW cx c (blockQ id Q) σ):CW cx (.block id c) Q σ:=by
 intro a w hs
 refine wp_block (wp_mono (h a w hs) fun e a' w' he=>?_)
 obtain⟨σ',h1,h2⟩:=he
 cases e with
 |exit j =>
  by_cases hj:j=id
  ·
   subst hj
   simp only[Exit.inBlock,if_true]
   simp only[blockQ,Nat.beq_refl]at h2
   exact⟨σ',h1,h2⟩
  ·
   simp only[Exit.inBlock,if_neg hj]
   have:Nat.beq j id=false:=by
    cases hb:Nat.beq j id
    ·
     rfl
    ·
     exact absurd (by simpa using hb) hj
   simp only[blockQ,this]at h2
   exact⟨σ',h1,h2⟩
 |normal=>exact⟨σ',h1,h2⟩
 |goto j=>exact⟨σ',h1,h2⟩
 |ret=>exact⟨σ',h1,h2⟩
 |panic c=>exact⟨σ',h1,h2⟩
 |outgrown=>exact⟨σ',h1,h2⟩
theorem CW.skip (h:Q .normal σ):CW cx .skip Q σ:=fun _ _ hs=>wp_skip ⟨σ,hs,h⟩
theorem CW.exit {id:Nat}(h:Q (.exit id) σ):CW cx (.exit id) Q σ:=fun _ _ hs=>wp_exit ⟨σ,hs,h⟩
theorem CW.ret (h:Q .ret σ):CW cx .ret Q σ:=fun _ _ hs=>wp_ret ⟨σ,hs,h⟩
theorem CW.cond {c:Operand}{x y:Code}{b:Bool}(hc:Go.AX.ev σ c=some (.d (.v (.bool b)))) (ht:b=true→CW cx x Q σ) (hf:b=false→CW cx y Q σ):CW cx (.cond c x y) Q σ:=by
 intro a w hs
 obtain⟨h1,h2⟩:=ev_out hc
 have hs':=hs
 obtain⟨g,nx,hg⟩:=hs'
 have hv:=rep_v (hg.ev h1 h2).1
 exact wp_cond_split hv (fun h=>ht h a w hs) (fun h=>hf h a w hs)
theorem CW.less {c:Code}(h:CW cx c Q σ') (hl:Less σ σ') (hgn:cx.gn=0:=by rfl):CW cx c Q σ:=fun a w hs=>h a w (hs.less hl fun _ _=>by omega)
theorem CW.pre {c:Code}(h:CW cx c Q σ') (hl:∀ a w,Sim cx σ a w→Sim cx σ' a w):CW cx c Q σ:=fun a w hs=>h a w (hl a w hs)
def loopQ (S:Nat→St) (m k:Nat) (Q:Exit→St→Prop):Exit→St→Prop
 |.normal,σ=>k < m∧Less σ (S (k+1))
 |e,σ=>Q e σ
theorem CW.loop {c:Code}(S:Nat→St) (m:Nat) (h0:Less σ (S 0)) (hr:∀ k,k≤m→CW cx c (loopQ S m k Q) (S k)) (hgn:cx.gn=0:=by rfl):CW cx (.loop c) Q σ:=by
 intro a w hs
 have key:∀ n k,k+n=m→∀ a w,Sim cx (S k) a w→Code.rounds cx.P c (fun e a' w'=>∃ σ',Sim cx σ' a' w'∧Q e σ') (n+1) a w:=by
  intro n
  induction n with
  |zero =>
   intro k hk a w hs
   rw[rounds_succ]
   refine wp_mono (hr k (by omega) a w hs) fun e a' w' he=>?_
   obtain⟨σ',h1,h2⟩:=he
   cases e with
   |normal=>exact absurd h2.1 (by omega)
   |exit j=>exact⟨σ',h1,h2⟩
   |goto j=>exact⟨σ',h1,h2⟩
   |ret=>exact⟨σ',h1,h2⟩
   |panic c=>exact⟨σ',h1,h2⟩
   |outgrown=>exact⟨σ',h1,h2⟩
  |succ n ih =>
   intro k hk a w hs
   rw[rounds_succ]
   refine wp_mono (hr k (by omega) a w hs) fun e a' w' he=>?_
   obtain⟨σ',h1,h2⟩:=he
   cases e with
   |normal=>exact ih (k+1) (by omega) a' w' (h1.less h2.2 fun _ _=>by omega)
   |exit j=>exact⟨σ',h1,h2⟩
   |goto j=>exact⟨σ',h1,h2⟩
   |ret=>exact⟨σ',h1,h2⟩
   |panic c=>exact⟨σ',h1,h2⟩
   |outgrown=>exact⟨σ',h1,h2⟩
 exact wp_loop_rounds (m+1) (key m 0 (by omega) a w (hs.less h0 fun _ _=>by omega))
inductive ToD1 (σ:St):AV→D→Prop
 |d {x y:D} (h:DLe x y):ToD1 σ (.d x) y
 |own {id n e k:Nat} {rows:List (List D)} {y:D} (ho:get σ (.o id) = .ob (.arr e k rows)) (hn:n=rows.length) (h:DLe (.sl k rows) y):ToD1 σ (.own id n) y
inductive ToDs (σ:St):List AV→List D→Prop
 |nil:ToDs σ [] []
 |cons {av:AV} {avs:List AV} {x:D} {xs:List D} (h:ToD1 σ av x) (hr:ToDs σ avs xs):ToDs σ (av::avs) (x::xs)
inductive ToD (σ:St):AV→D→Prop
 |one {av:AV} {x:D} (h:ToD1 σ av x):ToD σ av x
 |aggd {cells:List AV} {ds:List D} {x:D} (h:cells=ds.map AV.d) (hl:DLe (.agg ds) x):ToD σ (.agg cells) x
 |agg {cells:List AV} {ds:List D} (h:ToDs σ cells ds):ToD σ (.agg cells) (.agg ds)
theorem rd_own (hs:SimG cx σ a w g nx) {id e k:Nat}{rows:List (List D)}(ho:get σ (.o id) = .ob (.arr e k rows)):Rd w cx.own0 (g id) (.sl k rows):=by
 obtain⟨_,⟨xs,h1,h2,h3,h4⟩,_⟩:=hs.objs id _ ho
 rcases h1.2 with ⟨hv,hn⟩|⟨b,cap,cur,hv,hb,hh,hle,hcm,hsz,htk⟩
 ·
  obtain rfl:rows=[]:=List.eq_nil_of_length_eq_zero hn
  rw[hv];exact .nil none 0 k
 ·
  rw[hv]
  have hlt:b < w.heap.size:=by
   rcases Nat.lt_or_ge b w.heap.size with h|h
   ·
    exact h
   ·
    rw[Array.getElem?_eq_none h]at hh;cases hh
  have hx:∀ i j r d,rows[i]? = some r→r[j]? = some d→∃ x,xs[i*k+j]? = some x∧w.cell? ((⟨b,0,none⟩:Addr).add (i*k+j))=some x:=by
   intro i j r d hi hj
   have hil:=(List.getElem?_eq_some_iff.1 hi).1
   have hjl:j < k:=by rw[← h3 r (List.mem_of_getElem? hi)];exact(List.getElem?_eq_some_iff.1 hj).1
   have hlen:i*k+j < xs.length:=by
    rw[h1.1]
    have h5:(i+1)*k≤rows.length*k:=Nat.mul_le_mul_right _ hil
    rw[Nat.add_mul,Nat.one_mul]at h5
    omega
   exact⟨xs[i*k+j],List.getElem?_eq_getElem hlen,h1.cells (g:=b) (by rw[hv];rfl) _ _ (List.getElem?_eq_getElem hlen)⟩
  refine .sl ⟨b,0,none⟩ cap k rows (fun i j=>xs.getD (i*k+j) undef) (fun h0=>?_) hlt hle h3 (fun i j r d hi hj=>?_) (fun i j r d hi hj=>?_) fun i j r d hi hj=>?_
  ·
   have h6:=hs.own0.1 b h0
   omega
  ·
   obtain⟨x,h5,h6⟩:=hx i j r d hi hj
   rw[h6];simp[h5]
  ·
   obtain⟨x,h5,h6⟩:=hx i j r d hi hj
   simp only[List.getD_eq_getElem?_getD,h5,Option.getD_some]
   exact h2 x (List.mem_of_getElem? h5)
  ·
   obtain⟨x,h5,h6⟩:=hx i j r d hi hj
   simp only[List.getD_eq_getElem?_getD,h5,Option.getD_some]
   exact(h4 i j r d x hi hj h5).less fun b hb => .inl hb
theorem ToD1.ok (hs:SimG cx σ a w g nx) {av:AV}{x:D}(h:ToD1 σ av x) {v:Value}(hr:Rep1 cx g σ w v av):Rd w cx.own0 v x:=by
 cases h with
 |d h=>exact Rd.le h (Rd.less (fun b hb => .inl hb) hr)
 |own ho hn h =>
  rw[(hr.2 _ _ _ ho).2 hn]
  exact Rd.le h (rd_own hs ho)
theorem ToDs.ok (hs:SimG cx σ a w g nx) {avs:List AV}{xs:List D}(h:ToDs σ avs xs):avs.length=xs.length ∧
  ∀ (j:Nat) (c:Value) (av:AV) (x:D),avs[j]? = some av→xs[j]? = some x→Rep1 cx g σ w c av→Rd w cx.own0 c x:=by
 induction h with
 |nil=>exact⟨rfl,fun j c av x h=>by simp at h⟩
 |cons h hr ih =>
  refine⟨by simp[ih.1],fun j c av x hj hx hrep=>?_⟩
  cases j with
  |zero =>
   simp at hj hx
   subst hj hx
   exact h.ok hs hrep
  |succ j=>exact ih.2 j c av x (by simpa using hj) (by simpa using hx) hrep
theorem ToD.ok (hs:SimG cx σ a w g nx) {av:AV}{x:D}(h:ToD σ av x) {v:Value}(hr:Rep cx g σ w v av):Rd w cx.own0 v x:=by
 cases h with
 |one h =>
  refine h.ok hs ?_
  cases h <;> exact hr
 |aggd h hl =>
  subst h
  obtain⟨cs,rfl,h1,h2,h3⟩:=hr
  refine Rd.le hl (.agg cs _ (by simpa using h1) h2 fun j z c hz hc=>?_)
  exact Rd.less (fun b hb => .inl hb) (h3 j c (.d z) (by rw[List.getElem?_map,hz];rfl) hc)
 |@agg cells ds h =>
  obtain⟨cs,rfl,h1,h2,h3⟩:=hr
  obtain⟨h4,h5⟩:=h.ok hs
  refine .agg cs _ (by omega) h2 fun j z c hz hc=>?_
  obtain⟨av,hav⟩:=get_pair (a:=cells) h4 hz
  exact h5 j c av z hav hz (h3 j c av hav hc)
end Go.AX
namespace Go.AX
open Go.RowKit
variable {cx:Cx}{g:Nat→Value}{σ σ':St}{a:Act}{w:World}{nx:Nat}
def Arg.av:Arg→AV
 |.d x => .d x
 |.pd c => .pd c
def argSt:Nat→List Arg→St
 |_,[]=>[(.nx,.num 0)]
 |i,x::xs=>(.s i,.av x.av)::argSt (i+1) xs
theorem argSt_get {xs:List Arg}:∀ {i:Nat},(∀ j,get (argSt i xs) (.s j)=match (if i≤j then xs[j - i]? else none) with|some x => .av x.av|none => .none) ∧
  (∀ j,get (argSt i xs) (.o j) = .none)∧get (argSt i xs) .nx = .num 0:=by
 induction xs with
 |nil=>intro i;refine⟨fun j=>?_,fun j=>rfl,rfl⟩;simp[argSt,get,Key.beq]
 |cons x xs ih =>
  intro i
  obtain⟨h1,h2,h3⟩:=ih (i:=i+1)
  refine⟨fun j=>?_,fun j=>?_,?_⟩
  ·
   by_cases hj:i=j
   ·
    subst hj
    simp only[argSt,get_cons_same]
    simp
   ·
    simp only[argSt]
    rw[get_cons_ne (by simpa using hj),h1 j]
    by_cases hij:i+1≤j
    ·
     rw[if_pos hij,if_pos (by omega),show j - i=(j - (i+1))+1 by omega,List.getElem?_cons_succ]
    ·
     rw[if_neg hij,if_neg (by omega)]
  ·
   simp only[argSt];rw[get_cons_ne (by simp)];exact h2 j
  ·
   simp only[argSt];rw[get_cons_ne (by simp)];exact h3
theorem argsOk_at {w:World}{own:Nat→Prop}:∀ {vs:List Value}{xs:List Arg},ArgsOk w own vs xs→vs.length=xs.length∧∀ (j:Nat) (v:Value) (x:Arg),vs[j]? = some v→xs[j]? = some x→ArgOk w own v x
 | [],[],_=>⟨rfl,fun j v x h=>by simp at h⟩
 |v::vs,x::xs,h=>by
  obtain⟨h1,h2⟩:=argsOk_at h.2
  refine⟨by simp[h1],fun j v' x' hv hx=>?_⟩
  cases j with
  |zero=>simp at hv hx;subst hv hx;exact h.1
  |succ j=>exact h2 j v' x' (by simpa using hv) (by simpa using hx)
theorem entry_sim {P:Program}{T:Tbl}{hT:TOk P T}{hm:P.follows .mixedOrders=true}{n:Nat}{own:Nat→Prop}{vs:List Value}{xs:List Arg}(hown:(∀ b,own b→b < w.heap.size)∧Gl P w) (ha:ArgsOk w own vs xs)
  (hn:xs.length≤n):Sim ⟨P,T,hT,hm,n,w,own,0,[]⟩ (argSt 0 xs) { tmps:=vs.toArray++Array.replicate (n - vs.toArray.size) undef,defers:=[] } w:=by
 obtain⟨hl,hat⟩:=argsOk_at ha
 obtain⟨h1,h2,h3⟩:=argSt_get (xs:=xs) (i:=0)
 refine⟨fun _=>undef,0,h3,by simp;omega,rfl,Below.refl _ _,hown,fun i av hi=>?_,fun id o ho=>?_,fun id id' o o' b ho=>?_,Nat.zero_le _,fun p hp=>by cases hp⟩
 ·
  rw[h1 i]at hi
  simp only[Nat.zero_le,if_true,Nat.sub_zero]at hi
  cases hx:xs[i]? with
  |none=>rw[hx]at hi;cases hi
  |some x =>
   rw[hx]at hi
   obtain rfl:x.av=av:=by simpa using hi
   have hlt:i < vs.length:=by have:=(List.getElem?_eq_some_iff.1 hx).1;omega
   have hv:vs[i]? = some vs[i]:=List.getElem?_eq_getElem hlt
   have hd:(vs.toArray++Array.replicate (n - vs.toArray.size) undef).getD i undef=vs[i]:=by
    rw[Array.getD_eq_getD_getElem?,Array.getElem?_append_left (by simpa using hlt)]
    simp[hv]
   show Rep _ _ _ _ ((vs.toArray++Array.replicate (n - vs.toArray.size) undef).getD i undef) _∧_
   rw[hd]
   have hnone:∀ b,Cx.own ⟨P,T,hT,hm,n,w,own,0,[]⟩ (fun _=>undef) (argSt 0 xs) b→own b:=by
    rintro b (h|⟨id,o,h,_⟩)
    ·
     exact h
    ·
     rw[h2]at h;cases h
   have:=hat i _ x hv hx
   cases x with
   |d y=>exact⟨Rd.less hnone this,trivial⟩
   |pd cells =>
    obtain⟨ad,h4,h5,h6⟩:=this
    refine⟨⟨ad,h4,.inl h5,h5,fun j z hz=>?_⟩,trivial⟩
    obtain⟨u,h7,h8,h9⟩:=h6 j z hz
    exact⟨u,h7,h8,h9.less hnone⟩
 ·
  rw[h2]at ho;cases ho
 ·
  rw[h2]at ho;cases ho
inductive RetV (T:Tbl) (σ:St):ResultVar→D→Prop
 |tmp {t:Nat} {av:AV} {x:D} (h:get σ (.s t) = .av av) (hd:ToD σ av x):RetV T σ (.tmp t) x
 |cell {s t id:Nat} {cells:List AV} {ti:TI} {av:AV} {x:D} (h:get σ (.s s) = .av (.ptr id 0)) (ho:get σ (.o id) = .ob (.box cells)) (ht:tget T t=some ti)
   (hl:ldA ti cells=some av) (hd:ToD σ av x):RetV T σ (.cell s t) x
def rvRun (tmps:Array Value):ResultVar→Sem Value
 |.tmp t=>pure (tmps.getD t undef)
 |.cell a t=>do loadVar t (← asAddr (tmps.getD a undef))
theorem RetV.ok (hs:SimG cx σ a w g nx) {rv:ResultVar}{x:D}(h:RetV cx.T σ rv x):∃ v,(rvRun a.tmps rv).run cx.P w = .ok v w∧Rd w cx.own0 v x:=by
 cases h with
 |@tmp t av x h hd=>exact⟨_,rfl,hd.ok hs (hs.slots t av h).1⟩
 |@cell s t id cells ti av x h ho ht hl hd =>
  have hdn:∃ v,(Instr.loadAt t (a.tmps.getD s undef)).run cx.P w = .ok v w∧Rep cx g σ w v av:=by
   obtain⟨v,h1,h2,_⟩:=load_ptr hs (x:=a.tmps.getD s undef) (off:=0) (hs.slots s _ h).1 ho ht (by simpa using hl)
   exact⟨v,h1,h2⟩
  obtain⟨v,h1,h2⟩:=hdn
  obtain⟨b,hg,hv⟩:=(hs.slots s _ h).1.2 cells ho
  refine⟨v,?_,hd.ok hs h2⟩
  rw[hv]at h1
  simp only[rvRun,hv,asAddr,Sem.run_bind,Sem.run_pure,Result.andThen_ok]
  simpa[Instr.loadAt,Instr.sureAddr] using h1
inductive RetOk (T:Tbl) (σ:St):List ResultVar→Res→Prop
 |one {rv:ResultVar} {x:D} (h:RetV T σ rv x):RetOk T σ [rv] (.one x)
 |two {r1 r2:ResultVar} {x1 x2:D} (h1:RetV T σ r1 x1) (h2:RetV T σ r2 x2):RetOk T σ [r1,r2] (.tup [x1,x2])
 |three {r1 r2 r3:ResultVar} {x1 x2 x3:D} (h1:RetV T σ r1 x1) (h2:RetV T σ r2 x2) (h3:RetV T σ r3 x3):RetOk T σ [r1,r2,r3] (.tup [x1,x2,x3])
def retQ (cx:Cx) (rvs:List ResultVar) (res:Res):Exit→St→Prop
 |.normal,σ=>RetOk cx.T σ rvs res
 |.ret,σ=>RetOk cx.T σ rvs res
 |_,_=>False
theorem results_one {fn:Func}{rv:ResultVar}(h:fn.results = #[rv]) (tmps:Array Value):results fn tmps=(do let v ← rvRun tmps rv;pure v:Sem Value):=by
 cases rv <;> simp[results,h,rvRun]
theorem results_two {fn:Func}{r1 r2:ResultVar}(h:fn.results = #[r1,r2]) (tmps:Array Value):results fn tmps=(do let v1 ← rvRun tmps r1;let v2 ← rvRun tmps r2;pure (.tuple #[v1,v2]):Sem Value):=by
 cases r1 <;> cases r2 <;> simp[results,h,rvRun]
theorem results_three {fn:Func}{r1 r2 r3:ResultVar}(h:fn.results = #[r1,r2,r3]) (tmps:Array Value) :
  results fn tmps=(do let v1 ← rvRun tmps r1;let v2 ← rvRun tmps r2;let v3 ← rvRun tmps r3;pure (.tuple #[v1,v2,v3]):Sem Value):=by
 cases r1 <;> cases r2 <;> cases r3 <;> simp[results,h,rvRun]
theorem RetOk.ok (hs:SimG cx σ a w g nx) {fn:Func}{rvs:List ResultVar}{res:Res}(hf:fn.results=⟨rvs⟩) (h:RetOk cx.T σ rvs res) :
  ∃ v,(results fn a.tmps).run cx.P w = .ok v w∧ResOk w cx.own0 v res:=by
 cases h with
 |one h =>
  obtain⟨v,h1,h2⟩:=h.ok hs
  exact⟨v,by simp[results_one hf,h1],h2⟩
 |two h1 h2 =>
  obtain⟨v1,h3,h4⟩:=h1.ok hs
  obtain⟨v2,h5,h6⟩:=h2.ok hs
  refine⟨.tuple #[v1,v2],by simp[results_two hf,h3,h5],_,rfl,rfl,fun j c x hx hc=>?_⟩
  match j with
  |0=>simp at hx hc;subst hx hc;exact h4
  |1=>simp at hx hc;subst hx hc;exact h6
  |j+2=>simp at hx
 |three h1 h2 h3 =>
  obtain⟨v1,e1,f1⟩:=h1.ok hs
  obtain⟨v2,e2,f2⟩:=h2.ok hs
  obtain⟨v3,e3,f3⟩:=h3.ok hs
  refine⟨.tuple #[v1,v2,v3],by simp[results_three hf,e1,e2,e3],_,rfl,rfl,fun j c x hx hc=>?_⟩
  match j with
  |0=>simp at hx hc;subst hx hc;exact f1
  |1=>simp at hx hc;subst hx hc;exact f2
  |2=>simp at hx hc;subst hx hc;exact f3
  |j+3=>simp at hx
theorem fnOk_of {P:Program}{T:Tbl}(hT:TOk P T) (hm:P.follows .mixedOrders=true) {f:FuncId}{fn:Func}{c:Code}{rvs:List ResultVar}{args:List Arg}{res:Res}
  (hf : P.funcs[f]? = some fn) (hb : fn.body = some c) (hname : (fn.name == "runtime.NumGoroutine") = false) (hr : fn.results = ⟨rvs⟩) (hn : Nat.ble args.length fn.ntmps = true)
  (h:∀ w0 own0,CW ⟨P,T,hT,hm,fn.ntmps,w0,own0,0,[]⟩ c (retQ ⟨P,T,hT,hm,fn.ntmps,w0,own0,0,[]⟩ rvs res) (argSt 0 args)):FnOk P f args res:=by
 refine⟨⟨fn,hf,hname,by rw[hb];rfl⟩,fun w own vs hown ha=>?_⟩
 have hsim:=entry_sim (P:=P) (T:=T) (hT:=hT) (hm:=hm) (n:=fn.ntmps) hown ha (by simpa using hn)
 refine calls_of_wp hf hb (wp_mono (h w own _ _ hsim) fun e a' w' he=>?_)
 obtain⟨σ',hs',hq⟩:=he
 have hs2:=hs'
 obtain⟨g,nx,hg⟩:=hs2
 have fin:∀ hq:RetOk T σ' rvs res,a'.defers=[]∧∃ v,(results fn a'.tmps).run P w' = .ok v w'∧∃ v',Ending.returned v = .returned v'∧Below w.heap.size w w'∧ResOk w' own v' res:=by
  intro hq
  obtain⟨v,h1,h2⟩:=RetOk.ok hg hr hq
  exact⟨hg.defers,v,h1,v,rfl,hg.below,h2⟩
 cases e with
 |normal=>exact fin hq
 |ret=>exact fin hq
 |exit j=>exact hq.elim
 |goto j=>exact hq.elim
 |panic c=>exact hq.elim
 |outgrown=>exact hq.elim
end Go.AX
namespace Go.AX
open Go.RowKit
def str (l:List UInt8):Value := .string ⟨l.toArray⟩
section bin
variable {P:Program}{t:TypeId}
theorem wrap_in {n:Int}(h : -9223372036854775808≤n∧n≤9223372036854775807):IntKind.i64.wrap n=n:=by
 rw[IntKind.wrap_i64];omega
theorem bin_add {a b:Int}(h : -9223372036854775808≤a+b∧a+b≤9223372036854775807):BinR P .add t (.int .i64 a) (.int .i64 b) (.int .i64 (a+b)):=by
 intro w x y
 have:=wrap_in h
 simp[eqGuard,binOp,Op.intArith,this]
theorem bin_sub {a b:Int}(h : -9223372036854775808≤a - b∧a - b≤9223372036854775807):BinR P .sub t (.int .i64 a) (.int .i64 b) (.int .i64 (a - b)):=by
 intro w x y
 have:=wrap_in h
 simp[eqGuard,binOp,Op.intArith,this]
theorem bin_mul {a b:Int}(h : -9223372036854775808≤a*b∧a*b≤9223372036854775807):BinR P .mul t (.int .i64 a) (.int .i64 b) (.int .i64 (a*b)):=by
 intro w x y
 have:=wrap_in h
 simp[eqGuard,binOp,Op.intArith,this]
theorem bin_lss {k:IntKind}{a b:Int}:BinR P .lss t (.int k a) (.int k b) (.bool (decide (a < b))):=by
 intro w x y;simp[eqGuard,binOp,Op.intCmp]
theorem bin_leq {k:IntKind}{a b:Int}:BinR P .leq t (.int k a) (.int k b) (.bool (decide (a≤b))):=by
 intro w x y;simp[eqGuard,binOp,Op.intCmp]
theorem bin_gtr {k:IntKind}{a b:Int}:BinR P .gtr t (.int k a) (.int k b) (.bool (decide (b < a))):=by
 intro w x y;simp[eqGuard,binOp,Op.intCmp]
theorem bin_geq {k:IntKind}{a b:Int}:BinR P .geq t (.int k a) (.int k b) (.bool (decide (b≤a))):=by
 intro w x y;simp[eqGuard,binOp,Op.intCmp]
theorem bin_eql {k:IntKind}{a b:Int}:BinR P .eql t (.int k a) (.int k b) (.bool (decide (a=b))):=by
 intro w x y;simp[eqGuard_at_int,binOp,Op.intCmp];rw[Bool.eq_iff_iff];simp
theorem bin_neq {k:IntKind}{a b:Int}:BinR P .neq t (.int k a) (.int k b) (.bool (!decide (a=b))):=by
 intro w x y;simp[eqGuard_at_int,binOp,Op.intCmp];rw[Bool.eq_iff_iff];simp
theorem bin_seql {a b:List UInt8}:BinR P .eql t (str a) (str b) (.bool (decide (a=b))):=by
 intro w x y;simp[str,eqGuard_at_string,binOp,Op.stringOp];rw[Bool.eq_iff_iff];simp
theorem bin_sneq {a b:List UInt8}:BinR P .neq t (str a) (str b) (.bool (!decide (a=b))):=by
 intro w x y;simp[str,eqGuard_at_string,binOp,Op.stringOp];rw[Bool.eq_iff_iff];simp
theorem bin_slss {a b:List UInt8}:BinR P .lss t (str a) (str b) (.bool (Op.bytesLess a b)):=by
 intro w x y;simp[str,eqGuard_at_string,binOp,Op.stringOp]
theorem bin_sgtr {a b:List UInt8}:BinR P .gtr t (str a) (str b) (.bool (!(Op.bytesLess a b || decide (a=b)))):=by
 intro w x y;simp[str,eqGuard_at_string,binOp,Op.stringOp];rw[Bool.eq_iff_iff];simp
theorem bin_sleq {a b:List UInt8}:BinR P .leq t (str a) (str b) (.bool (Op.bytesLess a b || decide (a=b))):=by
 intro w x y;simp[str,eqGuard_at_string,binOp,Op.stringOp];rw[Bool.eq_iff_iff];simp
theorem bin_sgeq {a b:List UInt8}:BinR P .geq t (str a) (str b) (.bool (!Op.bytesLess a b)):=by
 intro w x y;simp[str,eqGuard_at_string,binOp,Op.stringOp]
end bin
variable {cx:Cx}{σ:St}{ops:Array Oper}{K:List Tr→St→Prop}{acc:List Tr}{rest:List Oper}{pre:List (Key×Val)}
variable {ty:TypeId}{pos:String}{af:Array Edge}{gd:Option (Nat×Bool)}{d:Nat}
theorem lt_of_blt {a b:Nat}(h:Nat.blt a b=true):a < b:=by simpa using h
theorem st_bin {op:BinOp}{t t':TypeId}{x y:Operand}{u v r:Value}(hx:ev σ x=some (.d (.v u))) (hy:ev σ y=some (.d (.v v))) (hb:BinR cx.P op t u v r)
  (hg:GOk ops σ ⟨some d,.binOp op t x y t',ty,pos,af,gd⟩ pre) (hd:Nat.blt d cx.n=true)
  (h:RW cx ops K (acc++[⟨pre++(rdOf x (.d (.v u))++rdOf y (.d (.v v))),[(.s d,.av (.d (.v r)))]⟩]) rest ((.s d,.av (.d (.v r)))::σ)) :
  RW cx ops K acc (⟨some d,.binOp op t x y t',ty,pos,af,gd⟩::rest) σ :=
 RW.step hg (ok_bin (lt_of_blt hd) (ev_out hx).1 (ev_out hy).1 hb) ((ev_out hx).2.append (ev_out hy).2) h
def AV.plain:AV→Prop
 |.tup _=>False
 |_=>True
section q
variable {Q:Exit→St→Prop}{y:Code}{id j k m:Nat}{S:Nat→St}
theorem q_then (h:CW cx y Q σ):thenQ cx y Q .normal σ:=h
theorem q_then_exit (h:Q (.exit j) σ):thenQ cx y Q (.exit j) σ:=h
theorem q_then_ret (h:Q .ret σ):thenQ cx y Q .ret σ:=h
theorem q_block (h:Q .normal σ):blockQ id Q .normal σ:=h
theorem q_block_ret (h:Q .ret σ):blockQ id Q .ret σ:=h
theorem q_block_hit (h:Q .normal σ):blockQ id Q (.exit id) σ:=by simp only[blockQ,Nat.beq_refl];exact h
theorem q_block_miss (hj:Nat.beq j id=false) (h:Q (.exit j) σ):blockQ id Q (.exit j) σ:=by simp only[blockQ,hj];exact h
theorem q_loop (hk:k < m) (h:Less σ (S (k+1))):loopQ S m k Q .normal σ:=⟨hk,h⟩
theorem q_loop_exit (h:Q (.exit j) σ):loopQ S m k Q (.exit j) σ:=h
theorem q_loop_ret (h:Q .ret σ):loopQ S m k Q .ret σ:=h
end q
theorem CW.cond_t {c:Operand}{x y:Code}{b:Bool}{Q:Exit→St→Prop}(hc:Go.AX.ev σ c=some (.d (.v (.bool b)))) (hb:b=true) (h:CW cx x Q σ):CW cx (.cond c x y) Q σ :=
 CW.cond hc (fun _=>h) (fun hf=>absurd (hb.symm.trans hf) (by simp))
theorem CW.cond_f {c:Operand}{x y:Code}{b:Bool}{Q:Exit→St→Prop}(hc:Go.AX.ev σ c=some (.d (.v (.bool b)))) (hb:b=false) (h:CW cx y Q σ):CW cx (.cond c x y) Q σ :=
 CW.cond hc (fun hf=>absurd (hb.symm.trans hf) (by simp)) (fun _=>h)
def AV.bd1B (nx:Nat):AV→Bool
 |.ptr id _=>Nat.blt id nx
 |.own id _=>Nat.blt id nx
 |.pe id _ _ _=>Nat.blt id nx
 |.h id=>Nat.blt id nx
 |_=>true
def AV.bdB (nx:Nat):AV→Bool
 |.agg cells=>cells.all (AV.bd1B nx)
 |.tup avs=>avs.all fun av=>match av with
  |.agg cells=>cells.all (AV.bd1B nx)
  |a=>a.bd1B nx
 |av=>av.bd1B nx
def Ob.bdB (nx:Nat):Ob→Bool
 |.box cells=>cells.all (AV.bd1B nx)
 |.arr _ _ _=>true
 |.pin _ _ _ _=>true
 |.mp _ _=>true
 |.mi _ _=>true
 |.gen _=>true
 |.lit _ _ ids=>ids.all fun i=>Nat.blt i nx
 |.tok _ _=>true
 |.res=>true
theorem bd1_out {nx:Nat}{av:AV}(h:av.bd1B nx=true):av.bd1 nx:=by
 cases av <;> simp[AV.bd1B,AV.bd1]at h ⊢ <;> exact h
theorem bd_out {nx:Nat}{av:AV}(h:av.bdB nx=true):av.bd nx:=by
 cases av with
 |agg cells=>exact fun a ha=>bd1_out (List.all_eq_true.1 h a ha)
 |tup avs =>
  intro a ha
  have:=List.all_eq_true.1 h a ha
  cases a <;> first|exact fun a ha=>bd1_out (List.all_eq_true.1 this a ha)|exact bd1_out this
 |d y=>trivial
 |pd y=>trivial
 |any=>trivial
 |ptr i o=>exact bd1_out (av := .ptr i o) h
 |own i o=>exact bd1_out (av := .own i o) h
 |pe i o p q=>exact bd1_out (av := .pe i o p q) h
 |h i=>exact bd1_out (av := .h i) h
theorem obd_out {nx:Nat}{o:Ob}(h:o.bdB nx=true):o.bd nx:=by
 cases o with
 |box cells=>exact fun a ha=>bd1_out (List.all_eq_true.1 h a ha)
 |arr e k r=>trivial
 |pin e k r x=>trivial
 |mp M x=>trivial
 |mi M x=>trivial
 |gen p=>trivial
 |lit a b c=>exact fun i hi=>lt_of_blt (List.all_eq_true.1 h i hi)
 |tok q b=>trivial
 |res=>trivial
def valB (nx:Nat):Key→Val→Bool
 |.o i,.ob o=>Nat.blt i nx&&o.bdB nx
 |_,.av av=>av.bdB nx
 |.o i,_=>Nat.blt i nx
 |_,_=>true
def LessL (σ:St) (nx:Nat):List (Key×Val)→Prop
 | []=>True
 |(k,v)::r=>match k with
  |.nx=>LessL σ nx r
  |k=>(get σ k=v∧valB nx k v=true)∧LessL σ nx r
theorem LessL.mem {nx:Nat}:∀ {l:List (Key×Val)},LessL σ nx l→∀ k v,k ≠ .nx→get l k=v→v ≠ .none→get σ k=v∧valB nx k v=true
 | [],_,k,v,_,h,hn=>absurd h.symm hn
 |(q,x)::r,h,k,v,hk,hv,hn=>by
  by_cases hq:q=k
  ·
   subst hq
   rw[get_cons_same]at hv
   subst hv
   cases q with
   |nx=>exact absurd rfl hk
   |s i=>exact h.1
   |o i=>exact h.1
  ·
   have hr:LessL σ nx r:=by
    cases q with
    |nx=>exact h
    |s i=>exact h.2
    |o i=>exact h.2
   exact LessL.mem hr k v hk (by rw[← hv,get_cons_ne hq]) hn
theorem less_of {σ':St}{n n':Nat}(h1:get σ .nx = .num n) (h2:get σ' .nx = .num n') (hle:Nat.ble n' n=true) (h:LessL σ n' σ'):Less σ σ':=by
 refine⟨fun i av hi=>(h.mem _ _ (by simp) hi (by simp)).1,fun id o ho=>(h.mem _ _ (by simp) ho (by simp)).1,n,n',h1,h2,by simpa using hle,fun i av hi=>?_,fun id o ho=>?_⟩
 ·
  exact bd_out (h.mem _ _ (by simp) hi (by simp)).2
 ·
  have:=(h.mem _ _ (by simp) ho (by simp)).2
  simp only[valB,Bool.and_eq_true]at this
  exact⟨by simpa using this.1,obd_out this.2⟩
theorem lessL_cons {nx:Nat}{k:Key}{v:Val}{r:List (Key×Val)}(h:get σ k=v) (hb:valB nx k v=true) (hr:LessL σ nx r):LessL σ nx ((k,v)::r):=by
 cases k with
 |nx=>exact hr
 |s i=>exact⟨⟨h,hb⟩,hr⟩
 |o i=>exact⟨⟨h,hb⟩,hr⟩
theorem lessL_nx {nx:Nat}{v:Val}{r:List (Key×Val)}(hr:LessL σ nx r):LessL σ nx ((.nx,v)::r):=hr
theorem lessL_nil {nx:Nat}:LessL σ nx []:=trivial
theorem get_int {k:Key}{kd:IntKind}{n n':Int}(h:get σ k = .av (.d (.v (.int kd n)))) (hn:n=n'):get σ k = .av (.d (.v (.int kd n'))):=by rw[← hn];exact h
theorem get_sl {k:Key}{m:Nat}{r r':List (List D)}(h:get σ k = .av (.d (.sl m r))) (hn:r=r'):get σ k = .av (.d (.sl m r')):=by rw[← hn];exact h
theorem get_bool {k:Key}{b b':Bool}(h:get σ k = .av (.d (.v (.bool b)))) (hn:b=b'):get σ k = .av (.d (.v (.bool b'))):=by rw[← hn];exact h
theorem get_arr {k:Key}{e m:Nat}{r r':List (List D)}(h:get σ k = .ob (.arr e m r)) (hn:r=r'):get σ k = .ob (.arr e m r'):=by rw[← hn];exact h
theorem get_own {k:Key}{i n n':Nat}(h:get σ k = .av (.own i n)) (hn:n=n'):get σ k = .av (.own i n'):=by rw[← hn];exact h
theorem get_box {k:Key}{r r':List AV}(h:get σ k = .ob (.box r)) (hn:r=r'):get σ k = .ob (.box r'):=by rw[← hn];exact h
theorem q_ret {rvs:List ResultVar}{res:Res}(h:RetOk cx.T σ rvs res):retQ cx rvs res .ret σ:=h
theorem q_end {rvs:List ResultVar}{res:Res}(h:RetOk cx.T σ rvs res):retQ cx rvs res .normal σ:=h
end Go.AX
namespace Go.AX
open Go.RowKit
variable {cx:Cx}{g:Nat→Value}{σ:St}{a:Act}{w:World}{nx:Nat}
variable {ty:TypeId}{pos:String}{af:Array Edge}{gd:Option (Nat×Bool)}{d:Nat}
def RdL (w:World) (own:Nat→Prop) (cs:List Value) (ds:List D):Prop :=
 cs.length=ds.length∧(∀ c∈cs,Value.oneCell' c=true)∧∀ (j:Nat) (c:Value) (x:D),ds[j]? = some x→cs[j]? = some c→Rd w own c x
def splice {α:Type}(l:List α) (off:Nat) (new:List α):List α:=l.take off++new++l.drop (off+new.length)
theorem RdL.splice {own:Nat→Prop}{cs ns:List Value}{ds es:List D}{off:Nat}(h:RdL w own cs ds) (hn:RdL w own ns es) (hle:off+es.length≤ds.length):RdL w own (splice cs off ns) (splice ds off es):=by
 obtain⟨h1,h2,h3⟩:=h
 obtain⟨n1,n2,n3⟩:=hn
 refine⟨by simp[AX.splice];omega,fun c hc=>?_,fun j c x hx hc=>?_⟩
 ·
  unfold AX.splice at hc
  rcases List.mem_append.1 hc with hc|hc
  ·
   rcases List.mem_append.1 hc with hc|hc
   ·
    exact h2 c (List.mem_of_mem_take hc)
   ·
    exact n2 c hc
  ·
   exact h2 c (List.mem_of_mem_drop hc)
 ·
  unfold AX.splice at hx hc
  rw[List.append_assoc]at hx hc
  have t1:(ds.take off).length=off:=by simp;omega
  have t2:(cs.take off).length=off:=by simp;omega
  rcases Nat.lt_or_ge j off with hj|hj
  ·
   rw[List.getElem?_append_left (by omega),List.getElem?_take,if_pos hj]at hx hc
   exact h3 j c x hx hc
  ·
   rw[List.getElem?_append_right (by omega),t1]at hx
   rw[List.getElem?_append_right (by omega),t2]at hc
   rcases Nat.lt_or_ge (j - off) es.length with hjn|hjn
   ·
    rw[List.getElem?_append_left hjn]at hx
    rw[List.getElem?_append_left (by omega)]at hc
    exact n3 _ c x hx hc
   ·
    rw[List.getElem?_append_right hjn,List.getElem?_drop]at hx
    rw[List.getElem?_append_right (by omega),List.getElem?_drop]at hc
    rw[n1]at hc
    exact h3 _ c x hx hc
theorem foldl_set (off:Nat):∀ (vs:List Value) (j:Nat) (cs:Array Value),off+j+vs.length≤cs.size →
  ((vs.zipIdx j).foldl (fun cs (c,j)=>cs.setIfInBounds (off+j) c) cs).toList=splice cs.toList (off+j) vs
 | [],j,cs,_=>by simp[splice]
 |v::vs,j,cs,h=>by
  simp only[List.length_cons]at h
  simp only[List.zipIdx_cons,List.foldl_cons]
  rw[show(fun(cs:Array Value) (x:Value×Nat)=>cs.setIfInBounds (off+x.2) x.1)=(fun cs (c,j)=>cs.setIfInBounds (off+j) c) from rfl]
  rw[foldl_set off vs (j+1) (cs.setIfInBounds (off+j) v) (by simp;omega)]
  apply List.ext_getElem?
  intro i
  simp only[splice,List.append_assoc,List.length_cons,Array.toList_setIfInBounds]
  have t1:∀ n,n≤cs.size→(cs.toList.take n).length=n:=fun n hn=>by simp;omega
  have t2:∀ n,n≤cs.size→((cs.toList.set (off+j) v).take n).length=n:=fun n hn=>by simp;omega
  rcases Nat.lt_trichotomy i (off+j) with hi|hi|hi
  ·
   rw[List.getElem?_append_left (by rw[t2 _ (by omega)];omega),List.getElem?_take,if_pos (by omega),List.getElem?_set_ne (by omega),
    List.getElem?_append_left (by rw[t1 _ (by omega)];omega),List.getElem?_take,if_pos hi]
  ·
   subst hi
   rw[List.getElem?_append_left (by rw[t2 _ (by omega)];omega),List.getElem?_take,if_pos (by omega),List.getElem?_set_self (by simp;omega),
    List.getElem?_append_right (by rw[t1 _ (by omega)];omega),t1 _ (by omega),Nat.sub_self]
   rfl
  ·
   rw[List.getElem?_append_right (l₁:=(cs.toList.set (off+j) v).take (off+(j+1))) (by rw[t2 _ (by omega)];omega),t2 _ (by omega),List.getElem?_append_right (l₁:=cs.toList.take (off+j)) (by rw[t1 _ (by omega)];omega),t1 _ (by omega),
    show i - (off+j)=(i - (off+(j+1)))+1 by omega]
   simp only[List.cons_append,List.getElem?_cons_succ]
   rcases Nat.lt_or_ge (i - (off+(j+1))) vs.length with hv|hv
   ·
    rw[List.getElem?_append_left hv,List.getElem?_append_left hv]
   ·
    rw[List.getElem?_append_right hv,List.getElem?_append_right hv,List.getElem?_drop,List.getElem?_drop,List.getElem?_set_ne (by omega)]
    congr 1;omega
def fillD (place:Nat→Option (Nat×Nat)):List D→List (Nat×List D)→Option (List D)
 |ds,[]=>some ds
 |ds,(i,es)::r=>match place i with
  |none=>none
  |some (off,size)=>match Nat.beq es.length size with
   |false=>none
   |true=>match Nat.ble (off+es.length) ds.length with
    |false=>none
    |true=>fillD place (splice ds off es) r
theorem fill_ok {own:Nat→Prop}{place:Nat→Option (Nat×Nat)}:∀ {ps:List (Nat×Value)}{qs:List (Nat×List D)}{cs:Array Value}{ds out:List D},
  ps.length=qs.length→(∀ (j:Nat) (p:Nat×Value) (q:Nat×List D),ps[j]? = some p→qs[j]? = some q→p.1=q.1∧RdL w own p.2.cells.toList q.2) →
  RdL w own cs.toList ds→fillD place ds qs=some out→∃ cs',Instr.fill place cs ps=some cs'∧RdL w own cs'.toList out
 | [],[],cs,ds,out,_,_,h,hf=>by
  simp only[fillD,Option.some.injEq]at hf
  subst hf
  exact⟨cs,rfl,h⟩
 |p::ps,(i,es)::qs,cs,ds,out,hl,hp,h,hf=>by
  obtain⟨hp1,hp2⟩:=hp 0 p (i,es) rfl rfl
  simp only[fillD]at hf
  split at hf
  ·
   cases hf
  ·
   next off size hpl =>
   split at hf
   ·
    cases hf
   ·
    next hb1 =>
    split at hf
    ·
     cases hf
    ·
     next hb2 =>
     have e1:es.length=size:=by simpa using hb1
     have e2:off+es.length≤ds.length:=by simpa using hb2
     have hsz:p.2.cells.size=es.length:=by have:=hp2.1;simpa using this
     have hcs:cs.size=ds.length:=by have:=h.1;simpa using this
     have hsp:=foldl_set off p.2.cells.toList 0 cs (by simp;omega)
     rw[Nat.add_zero]at hsp
     have hr:=h.splice hp2 e2
     rw[← hsp]at hr
     obtain⟨cs',h3,h4⟩:=fill_ok (ps:=ps) (qs:=qs) (by simpa using hl) (fun j p q hj hq=>hp (j+1) p q (by simpa using hj) (by simpa using hq)) hr hf
     refine⟨cs',?_,h4⟩
     obtain⟨pi,pv⟩:=p
     simp only at hp1 hsz
     subst hp1
     simp only[Instr.fill,hpl,hsz,e1,ne_eq,not_true_eq_false,decide_false,Bool.false_or]
     rw[if_neg (by simp;omega)]
     rw[← h3]
     have hfo:pv.cells.zipIdx.foldl (fun(cs:Array Value) (x:Value×Nat)=>match x with|(c,j)=>cs.setIfInBounds (off+j) c) cs =
       List.foldl (fun(cs:Array Value) (x:Value×Nat)=>match x with|(c,j)=>cs.setIfInBounds (off+j) c) cs pv.cells.toList.zipIdx:=by
      rw[← Array.foldl_toList,Array.toList_zipIdx]
     rw[← hfo]
def unD:List AV→Option (List D)
 | []=>some []
 |.d x::r=>(unD r).map (x :: ·)
 |_::_=>none
def dcells:AV→Option (List D)
 |.d (.agg ds)=>some ds
 |.d (.v (.agg _))=>none
 |.d (.v (.tuple _))=>none
 |.d x=>some [x]
 |.agg cells=>unD cells
 |_=>none
theorem unD_map:∀ {cells:List AV}{ds:List D},unD cells=some ds→cells=ds.map AV.d
 | [],ds,h=>by simp only[unD,Option.some.injEq]at h;subst h;rfl
 |.d x::r,ds,h=>by
  simp only[unD,Option.map_eq_some_iff]at h
  obtain⟨es,h1,rfl⟩:=h
  rw[unD_map h1];rfl
 |.pd _::_,_,h=>by simp[unD]at h
 |.ptr _ _::_,_,h=>by simp[unD]at h
 |.own _ _::_,_,h=>by simp[unD]at h
 |.pe _ _ _ _::_,_,h=>by simp[unD]at h
 |.h _::_,_,h=>by simp[unD]at h
 |.agg _::_,_,h=>by simp[unD]at h
 |.tup _::_,_,h=>by simp[unD]at h
 |.any::_,_,h=>by simp[unD]at h
theorem dcells_ok (hs:SimG cx σ a w g nx) {x:Value}{av:AV}{ds:List D}(h:Rep cx g σ w x av) (hc:dcells av=some ds):RdL w (cx.own g σ) x.cells.toList ds:=by
 have key:∃ cells,cellsOf av=some cells∧cells=ds.map AV.d∧av.bd nx:=by
  cases av with
  |d y =>
   cases y with
   |v y=>cases y <;> simp only[dcells,Option.some.injEq,reduceCtorEq]at hc <;> subst hc <;> exact⟨_,rfl,rfl,trivial⟩
   |sl k r=>simp only[dcells,Option.some.injEq]at hc;subst hc;exact⟨_,rfl,rfl,trivial⟩
   |agg es=>simp only[dcells,Option.some.injEq]at hc;subst hc;exact⟨_,rfl,rfl,trivial⟩
   |x p=>simp only[dcells,Option.some.injEq]at hc;subst hc;exact⟨_,rfl,rfl,trivial⟩
  |agg cells =>
   have:=unD_map hc
   subst this
   exact⟨_,rfl,rfl,fun av hav=>by obtain⟨z,_,rfl⟩:=List.mem_map.1 hav;trivial⟩
  |pd y=>cases hc
  |ptr i o=>cases hc
  |own i n=>cases hc
  |pe i n p q=>cases hc
  |h i=>cases hc
  |tup c=>cases hc
  |any=>cases hc
 obtain⟨cells,h1,rfl,hb⟩:=key
 have hone:One x av:=by cases av <;> first|trivial|(simp[dcells]at hc)
 obtain⟨c1,c2,c3,_⟩:=cells_of h hb h1 hone
 have _:=hs
 refine⟨by simpa using c1,fun c hc=>?_,fun j c y hy hc=>?_⟩
 ·
  obtain⟨j,hj⟩:=List.getElem?_of_mem hc
  exact c2 j c (by simpa using hj)
 ·
  exact c3 j c (.d y) (by rw[List.getElem?_map,hy];rfl) (by simpa using hc)
inductive Parts:List (Nat×Operand)→List (Nat×List D)→List (Key×Val)→Prop
 |nil:Parts [] [] []
 |cons {i:Nat} {x:Operand} {r:List (Nat×Operand)} {av:AV} {ds:List D} {q:List (Nat×List D)} {l:List (Key×Val)} (hx:EvS x av) (hc:dcells av=some ds) (hr:Parts r q l) :
   Parts ((i,x)::r) ((i,ds)::q) (rdOf x av++l)
theorem Parts.ok (hs:SimG cx σ a w g nx) {ps:List (Nat×Operand)}{qs:List (Nat×List D)}{l:List (Key×Val)}(h:Parts ps qs l) (ha:App σ l) :
  (ps.map fun p=>(p.1,a.eval p.2)).length=qs.length ∧
  ∀ (j:Nat) (p:Nat×Value) (q:Nat×List D),(ps.map fun p=>(p.1,a.eval p.2))[j]? = some p→qs[j]? = some q→p.1=q.1∧RdL w (cx.own g σ) p.2.cells.toList q.2:=by
 induction h with
 |nil=>exact⟨rfl,fun j p q h=>by simp at h⟩
 |cons hx hc hr ih =>
  obtain⟨h1,h2⟩:=ih ha.right
  refine⟨by simpa using h1,fun j p q hj hq=>?_⟩
  cases j with
  |zero =>
   simp at hj hq
   subst hj hq
   exact⟨rfl,dcells_ok hs (hs.ev hx ha.left).1 hc⟩
  |succ j=>exact h2 j p q (by simpa using hj) (by simpa using hq)
theorem zero_rd {own:Nat→Prop}{zs:List Value}(h1:∀ c∈zs,Value.oneCell' c=true):RdL w own zs (zs.map D.v) :=
 ⟨by simp,h1,fun j c x hx hc=>by
  rw[List.getElem?_map,hc]at hx
  obtain rfl:D.v c=x:=by simpa using hx
  exact .v c⟩
def stPlace (ti:TI):Option (Nat→Option (Nat×Nat)):=match ti.kind with
 |.st fs=>some (fs[·]?)
 |_=>none
theorem ok_build {t:TypeId}{ps:List (Nat×Operand)}{qs:List (Nat×List D)}{l:List (Key×Val)}{ti:TI}{place:Nat→Option (Nat×Nat)}{out:List D}(hn:d < cx.n) (ht:tget cx.T t=some ti)
  (hk:stPlace ti=some place) (h1:∀ c∈ti.zero,Value.oneCell' c=true) (hp:Parts ps qs l) (hf:fillD place (ti.zero.map D.v) qs=some out) :
  OpOk cx ⟨some d,.build t ⟨ps⟩,ty,pos,af,gd⟩ ⟨l,[(.s d,.av (.d (.agg out)))]⟩:=by
 refine ok_val rfl hn fun σ a w g nx hs hr=>?_
 have hF:=cx.hT t ti ht
 obtain⟨i,hi,_,_,z,hz,hzc⟩:=hF.info
 unfold stPlace at hk
 split at hk
 ·
  next fs hkd =>
  cases hk
  have hkk:=hF.kind
  rw[hkd]at hkk
  obtain⟨b,hu,hbl,hg⟩:=hkk
  have hpl:b.toList.mapM (fun f=>(cx.P.info? f.type).map fun i=>(f.offset,i.size))=some fs:=by
   have key:∀ (bl:List Field) (fl:List (Nat×Nat)),bl.length=fl.length→(∀ (j:Nat) (p:Nat×Nat),fl[j]? = some p→∃ (f:Field) (i:TypeInfo),bl[j]? = some f∧f.offset=p.1∧cx.P.info? f.type=some i∧i.size=p.2) →
     bl.mapM (fun f=>(cx.P.info? f.type).map fun i=>(f.offset,i.size))=some fl:=by
    intro bl
    induction bl with
    |nil=>intro fl hl _;cases fl with
     |nil=>rfl
     |cons p fl=>simp at hl
    |cons f bl ih=>intro fl hl hh;cases fl with
     |nil=>simp at hl
     |cons p fl =>
      obtain⟨f',i',e1,e2,e3,e4⟩:=hh 0 p rfl
      simp at e1
      subst e1
      have:=ih fl (by simpa using hl) fun j q hq=>by
       obtain⟨f',i',e⟩:=hh (j+1) q (by simpa using hq)
       exact⟨f',i',by simpa using e⟩
      simp[List.mapM_cons,e3,this,e2,e4]
   exact key b.toList fs (by simpa using hbl) fun j p hj=>by
    obtain⟨f,i,e1,e2,e3,e4,_⟩:=hg j p hj
    exact⟨f,i,by simpa using e1,e2,e3,e4⟩
  obtain⟨h2,h3⟩:=hp.ok hs hr
  obtain⟨cs',h4,h5,h6,h7⟩:=fill_ok (cs:=z.cells) h2 h3 (by rw[hzc];exact zero_rd h1) hf
  have hb:cx.P.built t (ps.map fun p=>(p.1,a.eval p.2))=some cs':=by
   simp only[Program.built,hi,hu,hz,hpl]
   rw[← h4]
   congr 1
   funext j
   simp
  have hrun:=run_build (P:=cx.P) w t (ps.map fun p=>(p.1,a.eval p.2)).toArray cs' (by simpa using hb)
  refine⟨.agg cs',w,?_,Below.refl _ _,.agg cs' out (by simpa using h5) (fun j c hj=>h6 c (List.mem_of_getElem? (by simpa using hj))) (fun j x c hx hc=>h7 j c x hx (by simpa using hc)),trivial⟩
  simp only[execOp,List.map_toArray,Sem.run_bind,hrun,Result.andThen_ok,Sem.run_pure]
 ·
  cases hk
end Go.AX
namespace Go.AX
open Go.RowKit
variable {cx:Cx}{g:Nat→Value}{σ:St}{a:Act}{w:World}{nx:Nat}
variable {ty:TypeId}{pos:String}{af:Array Edge}{gd:Option (Nat×Bool)}{d:Nat}
theorem flat_get {α:Type}{k:Nat}:∀ {rs:List (List α)}{i j:Nat}{r:List α}{x:α},(∀ r∈rs,r.length=k)→rs[i]? = some r→r[j]? = some x→rs.flatten[i*k+j]? = some x
 | [],i,j,r,x,_,h,_=>by simp at h
 |q::rs,i,j,r,x,hk,hi,hj=>by
  have hq:q.length=k:=hk q (List.mem_cons_self ..)
  cases i with
  |zero =>
   simp at hi
   subst hi
   have hjl:=(List.getElem?_eq_some_iff.1 hj).1
   rw[Nat.zero_mul,Nat.zero_add,List.flatten_cons,List.getElem?_append_left hjl]
   exact hj
  |succ i =>
   have:=flat_get (rs:=rs) (fun r hr=>hk r (List.mem_cons_of_mem _ hr)) (by simpa using hi) hj
   rw[List.flatten_cons,List.getElem?_append_right (by rw[hq,Nat.add_mul];omega),hq,show(i+1)*k+j - k=i*k+j by rw[Nat.add_mul];omega]
   exact this
def numb:Nat→List (List D)→List (Nat×List D)
 |_,[]=>[]
 |i,r::rs=>(i,r)::numb (i+1) rs
theorem fill_rows {k n:Nat}:∀ {rs:List (List D)}{i:Nat}{ds:List D},(∀ r∈rs,r.length=k)→ds.length=n*k→i+rs.length≤n →
  fillD (fun i=>some (i*k,k)) ds (numb i rs)=some (ds.take (i*k)++rs.flatten++ds.drop ((i+rs.length)*k))
 | [],i,ds,_,_,_=>by simp[fillD,numb]
 |r::rs,i,ds,hk,hl,hn=>by
  have hr:=hk r (List.mem_cons_self ..)
  simp only[List.length_cons]at hn
  have hle:(i+1)*k≤n*k:=Nat.mul_le_mul_right _ (by omega)
  rw[Nat.add_mul,Nat.one_mul]at hle
  have e1:Nat.beq r.length k=true:=by simpa using hr
  have e2:Nat.ble (i*k+r.length) ds.length=true:=by simp[hr,hl];omega
  have hsl:(splice ds (i*k) r).length=n*k:=by simp[splice,hr];omega
  have ih:=fill_rows (rs:=rs) (i:=i+1) (ds:=splice ds (i*k) r) (fun r hr=>hk r (List.mem_cons_of_mem _ hr)) hsl (by omega)
  have t1:(ds.take (i*k)).length=i*k:=by simp;omega
  simp only[numb,fillD,e1,e2]
  rw[ih]
  congr 1
  have h3:(splice ds (i*k) r).take ((i+1)*k)=ds.take (i*k)++r:=by
   unfold splice
   rw[List.take_append_of_le_length (by simp[hr,Nat.add_mul];omega),List.take_of_length_le (by simp[hr,Nat.add_mul];omega)]
  have h4:(splice ds (i*k) r).drop ((i+1+rs.length)*k)=ds.drop ((i+(rs.length+1))*k):=by
   unfold splice
   have hge:(ds.take (i*k)++r).length≤(i+1+rs.length)*k:=by
    rw[List.length_append,t1,hr]
    have:(i+1)*k≤(i+1+rs.length)*k:=Nat.mul_le_mul_right _ (by omega)
    rw[Nat.add_mul,Nat.one_mul]at this
    exact this
   rw[List.drop_append,List.drop_eq_nil_of_le hge,List.nil_append,List.drop_drop,List.length_append,t1,hr]
   congr 1
   have:(i+(rs.length+1))=i+1+rs.length:=by omega
   rw[this]
   have h5:i*k+k≤(i+1+rs.length)*k:=by rw[List.length_append,t1,hr]at hge;exact hge
   omega
  rw[h3,h4]
  simp[List.append_assoc]
theorem rd_new {own:Nat→Prop}{k:Nat}{e:TypeId}{cs:Array Value}{rs:List (List D)}(hown:∀ b,own b→b < w.heap.size) (h:RdL w own cs.toList rs.flatten) (hk:∀ r∈rs,r.length=k) (n:Nat) (hn:n=rs.length) :
  Rd (w.alloc (.cells cs e)) own (.slice (some ⟨w.heap.size,0,none⟩) n n) (.sl k rs):=by
 subst hn
 have hcell:∀ j,(w.alloc (.cells cs e)).cell? ((⟨w.heap.size,0,none⟩:Addr).add j)=cs[j]? := fun j=>by
  rw[add_lit,Nat.zero_add];exact World.cell?_alloc_new ..
 obtain⟨h1,h2,h3⟩:=h
 have hget:∀ i j r x,rs[i]? = some r→r[j]? = some x→∃ c,cs[i*k+j]? = some c∧rs.flatten[i*k+j]? = some x:=fun i j r x hi hj=>by
  have hf:=flat_get hk hi hj
  have:=(List.getElem?_eq_some_iff.1 hf).1
  have hl:i*k+j < cs.size:=by
   have:cs.toList.length=rs.flatten.length:=h1
   simp only[Array.length_toList]at this
   omega
  exact⟨cs[i*k+j],Array.getElem?_eq_getElem hl,hf⟩
 refine .sl _ _ k rs (fun i j=>cs.getD (i*k+j) undef) (fun hb=>?_) (by simp) (Nat.le_refl _) hk (fun i j r x hi hj=>?_) (fun i j r x hi hj=>?_) fun i j r x hi hj=>?_
 ·
  have:=hown _ hb
  exact absurd this (Nat.lt_irrefl _)
 ·
  obtain⟨c,hc,_⟩:=hget i j r x hi hj
  rw[hcell,hc];simp[Array.getD_eq_getD_getElem?,hc]
 ·
  obtain⟨c,hc,_⟩:=hget i j r x hi hj
  simp only[Array.getD_eq_getD_getElem?,hc,Option.getD_some]
  exact h2 c (List.mem_of_getElem? (by simpa using hc))
 ·
  obtain⟨c,hc,hf⟩:=hget i j r x hi hj
  simp only[Array.getD_eq_getD_getElem?,hc,Option.getD_some]
  have hrd:=h3 _ c x hf (by simpa using hc)
  exact hrd.step ⟨by simp,fun b hb _=>Below.heap_alloc _ _ _ hb⟩ fun b hb => .inl hb
theorem ok_buildSlice {t e:TypeId}{n k:Nat}{ps:List (Nat×Operand)}{rs:List (List D)}{l:List (Key×Val)}{ti te:TI}(hn:d < cx.n) (ht:tget cx.T t=some ti) (hk:ti.kind = .sl e k)
  (hte:tget cx.T e=some te) (h1:∀ c∈te.zero,Value.oneCell' c=true) (hp:Parts ps (numb 0 rs) l) (hrs:∀ r∈rs,r.length=k) (hnl:n=rs.length) (hsm:n*k≤65536) (hpos:n*k≠0) :
  OpOk cx ⟨some d,.buildSlice t n ⟨ps⟩,ty,pos,af,gd⟩ ⟨l,[(.s d,.av (.d (.sl k rs)))]⟩:=by
 refine ok_val rfl hn fun σ a w g nx hs hr=>?_
 have hF:=(cx.hT t ti ht).kind
 rw[hk]at hF
 obtain⟨hu,⟨ie,hie,hks⟩,_⟩:=hF
 obtain⟨ie',hie',hes,_,z,hz,hzc⟩:=(cx.hT e te hte).info
 rw[hie]at hie'
 cases hie'
 obtain⟨h2,h3⟩:=hp.ok hs hr
 have hzl:z.cells.size=k:=by
  have:=(cx.hT e te hte).len
  rw[← hzc]at this
  simp at this
  omega
 have hinit:RdL w (cx.own g σ) ((Array.range (n*ie.size)).map (z.cells[· % z.cells.size]!)).toList (((Array.range (n*ie.size)).map (z.cells[· % z.cells.size]!)).toList.map D.v):=by
  refine zero_rd fun c hc=>?_
  simp only[Array.toList_map,List.mem_map]at hc
  obtain⟨q,_,rfl⟩:=hc
  refine h1 _ ?_
  rw[← hzc]
  have hlt:q%z.cells.size < z.cells.size:=Nat.mod_lt _ (by rw[hzl];exact Nat.pos_of_ne_zero fun e=>hpos (by rw[e,Nat.mul_zero]))
  rw[getElem!_pos z.cells _ hlt]
  simp
 have hfr:=fill_rows (k:=k) (n:=n) (rs:=rs) (i:=0) (ds:=((Array.range (n*ie.size)).map (z.cells[· % z.cells.size]!)).toList.map D.v) hrs (by simp[hks]) (by omega)
 rw[Nat.zero_mul,List.take_zero,List.nil_append,List.drop_eq_nil_of_le (by simp[hks,hnl]),List.append_nil]at hfr
 obtain⟨cs',h4,h5⟩:=fill_ok (cs:=(Array.range (n*ie.size)).map (z.cells[· % z.cells.size]!)) h2 h3 hinit hfr
 have hrun:=run_buildSlice (P:=cx.P) w t e n (ps.map fun p=>(p.1,a.eval p.2)).toArray cs' ie z hu hie hz (by rw[hks];omega) (by rw[hks];exact hpos) (by rw[← h4,hks])
 refine⟨.slice (some ⟨w.heap.size,0,none⟩) n n,w.alloc (.cells cs' e),?_,(Below.refl _ _).alloc (Nat.le_refl _) _,rd_new (fun b hb=>own_lt hs hb) h5 hrs n hnl,trivial⟩
 simp only[execOp,List.map_toArray,Sem.run_bind,hrun,Result.andThen_ok,Sem.run_pure]
end Go.AX
namespace Go.AX
open Go.RowKit
variable {cx:Cx}{g:Nat→Value}{σ:St}{a:Act}{w:World}{nx:Nat}
variable {ty:TypeId}{pos:String}{af:Array Edge}{gd:Option (Nat×Bool)}{d:Nat}
theorem newArr {w':World}{hv:Value}{e k:Nat}(hs:SimG cx σ a w g nx) (hb:Below w.heap.size w w')
  (hp:∀ b,blk hv=some b→w.heap.size≤b) (ho:w'.ownsRow cx.w0.heap.size e k hv 0 []) :
  SimG cx (objSt σ (nx+1) nx (.arr e k [])) a w' (upd g nx hv) (nx+1) :=
 SimG.obj hs ⟨.inl ⟨rfl,rfl⟩,hb.mono hs.below.size,fun b hb' _=>hb.block b hb',fun b hb' => .inr (hp b hb')⟩
  (fun _=>⟨[],by rw[upd_same];exact ho,by simp,by simp,fun i j r x v hi=>by simp at hi⟩) trivial
theorem ok_buildSlice0 {t e k:Nat}{ti:TI}(hn:d < cx.n) (ht:tget cx.T t=some ti) (hk:ti.kind = .sl e k) :
  OpOk cx ⟨some d,.buildSlice t 0 #[],ty,pos,af,gd⟩ ⟨[(.nx,.num nx)],[(.s d,.av (.own nx 0)),(.o nx,.ob (.arr e k [])),(.nx,.num (nx+1))]⟩:=by
 rintro σ a w K Q ⟨g,n',hs⟩ hr hK
 have hnx:n'=nx:=by
  have h2:=hr.1
  rw[hs.hnx]at h2
  simpa using h2
 subst hnx
 have hF:=(cx.hT t ti ht).kind
 rw[hk]at hF
 obtain⟨hu,⟨ie,hie,hks⟩,_⟩:=hF
 have hrun:(execOp a.eval ⟨some d,.buildSlice t 0 #[],ty,pos,af,gd⟩).run cx.P w = .ok (.value (.slice (some ⟨w.heap.size,0,none⟩) 0 0)) (w.alloc (.cells #[] e)):=by
  have h0:Array.range 0 = #[]:=Array.eq_empty_of_size_eq_zero (by simp)
  simp[execOp,Instr.buildSlice,run_underlying hu,sizeOf,typeInfo,hie,Instr.fill,newRow,h0]
 have hG:=newArr (w':=w.alloc (.cells #[] e)) (hv := .slice (some ⟨w.heap.size,0,none⟩) 0 0) (e:=e) (k:=k) hs ((Below.refl _ _).alloc (Nat.le_refl _) _)
  (fun b hb=>by obtain rfl:w.heap.size=b:=by simpa[blk] using hb
                exact Nat.le_refl _)
  ⟨by simp,.inr ⟨w.heap.size,0,#[],rfl,hs.below.size,heap_alloc_new w _,Nat.le_refl _,Nat.zero_le _,by simp,by simp⟩⟩
 refine wp_val rfl hrun (hK _ _ (Sim.put hG hn (Below.refl _ _) ⟨.of get_cons_same,fun e' k' rows hg=>?_⟩ (Nat.lt_succ_self _)))
 rw[get_cons_same]at hg
 cases hg
 exact⟨Nat.le_refl _,fun _=>(upd_same _ _ _).symm⟩
theorem stut_promote {i:Nat}(e k:Nat):Stut cx ⟨[(.s i,.av (.d (.v nilS))),(.nx,.num nx)],[(.s i,.av (.own nx 0)),(.o nx,.ob (.arr e k [])),(.nx,.num (nx+1))]⟩:=by
 rintro σ a w ⟨g,n',hs⟩ hr
 have hnx:n'=nx:=by
  have h2:=hr.2.1
  rw[hs.hnx]at h2
  simpa using h2
 subst hnx
 obtain⟨h1,h2⟩:=hs.slots i _ hr.1
 have hv:=rep_v h1
 have hG:=newArr (w':=w) (hv:=nilS) (e:=e) (k:=k) hs (Below.refl _ _) (fun b hb=>by simp[blk]at hb) (World.ownsRow_nil w _ e k)
 refine⟨_,_,hG.next (Later.same (fun id=>get_cons_ne (by simp)) (Ext.refl _ _) (Below.refl _ _)) ?_ (Nat.le_refl _) hG.size hG.defers (Below.refl _ _) (fun j av hj=>?_) (fun id o ho=>?_) (fun id id' o o' b h5 h6=>?_)⟩
 ·
  exact(get_cons_ne (by simp)).trans hG.hnx
 ·
  by_cases hij:i=j
  ·
   subst hij
   have h3:get ([(.s i,.av (.own n' 0)),(.o n',.ob (.arr e k [])),(.nx,.num (n'+1))]++σ) (.s i) = .av (.own n' 0):=get_cons_same
   rw[h3]at hj
   cases hj
   refine .inr ⟨⟨.of ((get_cons_ne (by simp)).trans get_cons_same),fun e' k' rows hg=>?_⟩,Nat.lt_succ_self _⟩
   have h4:get ([(.s i,.av (.own n' 0)),(.o n',.ob (.arr e k [])),(.nx,.num (n'+1))]++σ) (.o n') = .ob (.arr e k []):=(get_cons_ne (by simp)).trans get_cons_same
   rw[h4]at hg
   cases hg
   exact⟨Nat.le_refl _,fun _=>by rw[upd_same];exact hv⟩
  ·
   exact .inl ⟨(get_cons_ne (by simpa using hij)).symm.trans hj,rfl⟩
 ·
  exact .inl ⟨(get_cons_ne (by simp)).symm.trans ho,rfl,fun _ _=>rfl⟩
 ·
  exact hG.sep id id' o o' b ((get_cons_ne (by simp)).symm.trans h5) ((get_cons_ne (by simp)).symm.trans h6)
theorem sl_cells {own:Nat→Prop}{v:Value}{k:Nat}{rows:List (List D)}(h:Rd w own v (.sl k rows)) (hne:rows≠[]) :
  ∃ (ad:Addr) (c:Nat) (news:List Value),v = .slice (some ad) rows.length c∧news.length=rows.length*k∧(∀ j u,news[j]? = some u→w.cell? (ad.add j)=some u) ∧
   (∀ u∈news,Value.oneCell' u=true)∧∀ (i j:Nat) (r:List D) (x:D) (u:Value),rows[i]? = some r→r[j]? = some x→news[i*k+j]? = some u→Rd w own u x:=by
 generalize hD:D.sl k rows=D0 at h
 cases h with
 |v=>cases hD
 |x=>cases hD
 |agg=>cases hD
 |nil=>cases hD;exact absurd rfl hne
 |sl ad cap k' rows' f hb hs hcap hk hc h1 hr =>
  cases hD
  rcases Nat.eq_zero_or_pos k with h0|h0
  ·
   subst h0
   exact⟨ad,cap,[],rfl,by simp,fun j u h=>by simp at h,fun u h=>by simp at h,fun i j r x u _ _ h=>by simp at h⟩
  ·
   have hdm:∀ q,q < rows.length*k→∃ r x,rows[q / k]? = some r∧r[q%k]? = some x:=by
    intro q hq
    have h2:q / k < rows.length:=by rw[Nat.div_lt_iff_lt_mul h0];exact hq
    have h3:q%k < k:=Nat.mod_lt _ h0
    have h4:=hk rows[q / k] (List.getElem_mem h2)
    exact⟨rows[q / k],rows[q / k][q%k]'(by omega),List.getElem?_eq_getElem h2,List.getElem?_eq_getElem (by omega)⟩
   have hget:∀ (j:Nat) (u:Value),((List.range (rows.length*k)).map fun q=>f (q / k) (q%k))[j]? = some u→j < rows.length*k∧u=f (j / k) (j%k):=by
    intro j u hj
    have hl:j < rows.length*k:=by have:=(List.getElem?_eq_some_iff.1 hj).1;simpa using this
    simp[hl]at hj
    exact⟨hl,hj.symm⟩
   refine⟨ad,cap,(List.range (rows.length*k)).map fun q=>f (q / k) (q%k),rfl,by simp,fun j u hj=>?_,fun u hu=>?_,fun i j r x u hi hj hu=>?_⟩
   ·
    obtain⟨hl,rfl⟩:=hget j u hj
    obtain⟨r,x,h2,h3⟩:=hdm j hl
    have:=hc _ _ _ _ h2 h3
    rwa [Nat.div_add_mod' j k]at this
   ·
    obtain⟨j,hj⟩:=List.getElem?_of_mem hu
    obtain⟨hl,rfl⟩:=hget j u hj
    obtain⟨r,x,h2,h3⟩:=hdm j hl
    exact h1 _ _ _ _ h2 h3
   ·
    obtain⟨hl,rfl⟩:=hget _ u hu
    have hjk:j < k:=by
     have:=(List.getElem?_eq_some_iff.1 hj).1
     rw[hk r (List.mem_of_getElem? hi)]at this
     exact this
    have e1:(i*k+j) / k=i:=by
     rw[Nat.add_comm,Nat.add_mul_div_right _ _ h0,Nat.div_eq_of_lt hjk,Nat.zero_add]
    have e2:(i*k+j)%k=j:=by rw[Nat.add_comm,Nat.add_mul_mod_self_right,Nat.mod_eq_of_lt hjk]
    rw[e1,e2]
    exact hr i j r x hi hj
theorem sl_k {own:Nat→Prop}{v:Value}{k:Nat}{rows:List (List D)}(h:Rd w own v (.sl k rows)):∀ r∈rows,r.length=k:=by
 generalize hD:D.sl k rows=D0 at h
 cases h with
 |v=>cases hD
 |x=>cases hD
 |agg=>cases hD
 |nil=>cases hD;intro r hr;simp at hr
 |sl ad cap k' rows' f hb hs' hcap hkk=>cases hD;exact hkk
theorem append_nothing {P:Program}{base e k:Nat}{t ty:TypeId}{i:TypeInfo}{v:Value}{n:Nat}{xs:List Value}{p:Option Addr}{c:Nat}(hu:P.underlying t=some (.slice e)) (hi:P.info? e=some i)
  (ho:w.ownsRow base e k v n xs):(Builtin.append_ #[t,t] ty #[v,.slice p 0 c]).run P w = .ok v w:=by
 rcases ho.2 with ⟨rfl,rfl⟩|⟨b,cap,cur,rfl,_,_,hnc,_⟩
 ·
  cases p <;> simp[Builtin.append_,run_underlying hu,sizeOf,typeInfo,hi,Builtin.lenOf,Builtin.firstCells,loadCells,loadCellsFrom]
 ·
  cases p <;> simp[Builtin.append_,run_underlying hu,sizeOf,typeInfo,hi,Builtin.lenOf,Builtin.firstCells,hnc,storeCells,loadCells,loadCellsFrom]
theorem ok_append {t e k id n:Nat}{x y:Operand}{rows rows2:List (List D)}{ti te:TI}(hn:d < cx.n) (hx:EvS x (.own id n)) (hy:EvS y (.d (.sl k rows2))) (ht:tget cx.T t=some ti) (hk:ti.kind = .sl e k)
  (hte:tget cx.T e=some te) (hby:te.bytes≤65536) (hnn:n=rows.length) (hlen:rows.length+rows2.length≤1073741824) :
  OpOk cx ⟨some d,.call { callee := .builtin .append,args := #[x,y],argTypes := #[t,t] },ty,pos,af,gd⟩ ⟨rdOf x (.own id n)++(rdOf y (.d (.sl k rows2))++[(.o id,.ob (.arr e k rows))]),
   [(.s d,.av (.own id (n+rows2.length))),(.o id,.ob (.arr e k (rows++rows2)))]⟩:=by
 rintro σ a w K Q ⟨g,nx,hs⟩ hr hK
 subst hnn
 have ho:get σ (.o id) = .ob (.arr e k rows):=hr.right.right.1
 have hv:a.eval x=g id:=((hs.ev hx hr.left).1.2 e k rows ho).2 rfl
 have hy':Rd w (cx.own g σ) (a.eval y) (.sl k rows2):=(hs.ev hy hr.right.left).1
 obtain⟨hid,⟨xs,h1,h2,h3,h4⟩,_⟩:=hs.objs id _ ho
 have hF:=(cx.hT t ti ht).kind
 rw[hk]at hF
 obtain⟨hu,⟨ie,hie,hks⟩,hk0,_⟩:=hF
 obtain⟨ie',hie',hes,heb,z,hz,hzc⟩:=(cx.hT e te hte).info
 rw[hie]at hie'
 cases hie'
 have hzl:z.cells.size=k:=by
  have:=(cx.hT e te hte).len
  rw[← hzc]at this
  simp at this
  omega
 have hrunS:∀ (v':Value) (w':World),(Builtin.append_ #[t,t] ty #[g id,a.eval y]).run cx.P w = .ok v' w' →
   (execOp a.eval ⟨some d,.call { callee := .builtin .append,args := #[x,y],argTypes := #[t,t] },ty,pos,af,gd⟩).run cx.P w = .ok (.value v') w':=by
  intro v' w' h
  simp[execOp,resolve,invoke,builtin,hv,h]
 by_cases hne:rows2=[]
 ·
  subst hne
  have hyv:∃ p c,a.eval y = .slice p 0 c:=by
   generalize a.eval y=v at hy'
   generalize hD:D.sl k []=D0 at hy'
   cases hy' with
   |v=>cases hD
   |x=>cases hD
   |agg=>cases hD
   |nil p c=>exact⟨p,c,rfl⟩
   |sl ad cap=>cases hD;exact⟨_,cap,rfl⟩
  obtain⟨p,c,hyv⟩:=hyv
  have hrun:=hrunS (g id) w (by rw[hyv];exact append_nothing hu hie h1)
  refine wp_val rfl hrun (hK _ _ (Sim.eqv (Sim.put hs hn (Below.refl _ _) (av := .own id (rows.length+0)) ⟨.of ho,fun e' k' rows' hg=>?_⟩ hid) fun q=>?_))
  ·
   rw[ho]at hg
   cases hg
   exact⟨Nat.le_refl _,fun _=>rfl⟩
  ·
   cases q with
   |s i =>
    by_cases hi:i=d
    ·
     subst hi;rw[get_cons_same];exact get_cons_same.symm
    ·
     rw[get_cons_ne (by simpa using fun e=>hi e.symm)]
     exact((get_cons_ne (by simpa using fun e=>hi e.symm)).trans (get_cons_ne (by simp))).symm
   |o i =>
    rw[get_cons_ne (by simp)]
    by_cases hi:i=id
    ·
     subst hi
     rw[ho]
     exact((get_cons_ne (by simp)).trans (get_cons_same.trans (by rw[List.append_nil]))).symm
    ·
     exact((get_cons_ne (by simp)).trans (get_cons_ne (by simpa using fun e=>hi e.symm))).symm
   |nx=>rw[get_cons_ne (by simp)];exact((get_cons_ne (by simp)).trans (get_cons_ne (by simp))).symm
 ·
  obtain⟨ad,c,news,hyv,hnl,hnc,hn1,hnr⟩:=sl_cells hy' hne
  have hbytes:(rows.length+rows2.length)*te.bytes≤140737488355328:=Nat.le_trans (Nat.mul_le_mul hlen hby) (by decide)
  obtain⟨v',w',hrun0,hown,hgr,_,hat⟩:=run_append_own_at (P:=cx.P) w cx.w0.heap.size t ty e ie z k te.bytes hu hie hz hks heb hzl hk0 (g id) rows.length xs h1 ad rows2.length c news hnl hnc hn1 (by simp only[maxLen];omega) hbytes hs.below.size
  have hrun:=hrunS v' w' (by rw[hyv];exact hrun0)
  have hlen2:0 < rows2.length:=List.length_pos_iff.2 hne
  have hgb:∀ b,blk (g id)=some b↔(g id).ownBlock=some b:=fun b=>by rw[blk_own h1]
  have hst:ObjStep cx σ g nx nx w w' id (.arr e k (rows++rows2)) v':=by
   refine⟨.inr ⟨rfl,_,ho,rfl,rfl,by simp,fun h=>?_⟩,?_,fun b hb hno=>?_,fun b hb=>?_⟩
   ·
    rw[List.length_append]at h;omega
   ·
    exact(Below.refl _ _).grown hgr hs.below.size fun q hq=>obj_ge hs ho (by rw[hgb];exact hq)
   ·
    exact hgr.block b hb fun e=>hno _ ho (by rw[hgb];exact e.symm)
   ·
    have hb':v'.ownBlock=some b:=by rw[← blk_own hown];exact hb
    rcases hat with h|h
    ·
     exact .inl ⟨_,ho,by rw[hgb,← h];exact hb'⟩
    ·
     rw[h]at hb'
     right
     simp at hb'
     omega
  have hG:=SimG.obj hs hst (fun hl=>⟨xs++news,by rw[upd_same,List.length_append];exact hown,fun u hu=>?_,fun r hr'=>?_,fun i j r q u hi hj hu=>?_⟩) trivial
  ·
   refine wp_val rfl hrun (hK _ _ (Sim.eqv (Sim.put hG hn (Below.refl _ _) (av := .own id (rows.length+rows2.length)) ⟨.of get_cons_same,fun e' k' rows' hg=>?_⟩ hid) fun q=>?_))
   ·
    rw[get_cons_same]at hg
    cases hg
    exact⟨by simp,fun _=>(upd_same _ _ _).symm⟩
   ·
    cases q with
    |s i =>
     by_cases hi:i=d
     ·
      subst hi;rw[get_cons_same];exact get_cons_same.symm
     ·
      rw[get_cons_ne (by simpa using fun e=>hi e.symm),objSt_s]
      exact((get_cons_ne (by simpa using fun e=>hi e.symm)).trans (get_cons_ne (by simp))).symm
    |o i =>
     rw[get_cons_ne (by simp)]
     by_cases hi:i=id
     ·
      subst hi
      rw[get_cons_same]
      exact((get_cons_ne (by simp)).trans get_cons_same).symm
     ·
      rw[objSt_o hi]
      exact((get_cons_ne (by simp)).trans (get_cons_ne (by simpa using fun e=>hi e.symm))).symm
    |nx =>
     rw[get_cons_ne (by simp),objSt_nx]
     exact(((get_cons_ne (by simp)).trans (get_cons_ne (by simp))).trans hs.hnx).symm
  ·
   rcases List.mem_append.1 hu with hu|hu
   ·
    exact h2 u hu
   ·
    exact hn1 u hu
  ·
   rcases List.mem_append.1 hr' with hr'|hr'
   ·
    exact h3 r hr'
   ·
    exact sl_k hy' r hr'
  ·
   rcases Nat.lt_or_ge i rows.length with hil|hil
   ·
    rw[List.getElem?_append_left hil]at hi
    have hjk:j < k:=by
     have:=(List.getElem?_eq_some_iff.1 hj).1
     rw[h3 r (List.mem_of_getElem? hi)]at this
     exact this
    have hlt:i*k+j < xs.length:=by
     rw[h1.1]
     have h5:(i+1)*k≤rows.length*k:=Nat.mul_le_mul_right _ hil
     rw[Nat.add_mul,Nat.one_mul]at h5
     omega
    rw[List.getElem?_append_left hlt]at hu
    exact(h4 i j r q u hi hj hu).step hl.ext hl.own
   ·
    rw[List.getElem?_append_right hil]at hi
    have he:i*k+j=xs.length+((i - rows.length)*k+j):=by
     rw[h1.1,Nat.sub_mul]
     have:rows.length*k≤i*k:=Nat.mul_le_mul_right _ hil
     omega
    rw[he,List.getElem?_append_right (by omega),Nat.add_sub_cancel_left]at hu
    exact(hnr _ j r q u hi hj hu).step hl.ext hl.own
end Go.AX
namespace Go.AX
open Go.RowKit
variable {cx:Cx}{g:Nat→Value}{σ σ':St}{a:Act}{w:World}{nx:Nat}
variable {ty:TypeId}{pos:String}{af:Array Edge}{gd:Option (Nat×Bool)}{d:Nat}
theorem Sim.retell (hs:SimG cx σ a w g nx) {i:Nat}{av:AV}(hr:Rep cx g σ w (a.tmps.getD i undef) av) (hb:av.bd nx):Sim cx ((.s i,.av av)::σ) a w:=by
 have hos:∀ id,get ((.s i,.av av)::σ) (.o id)=get σ (.o id):=fun id=>get_cons_ne (by simp)
 have hl:Later cx g g σ ((.s i,.av av)::σ) w w nx:=Later.same hos (Ext.refl _ _) (Below.refl _ _)
 refine⟨g,nx,hs.next hl ((get_cons_ne (by simp)).trans hs.hnx) (Nat.le_refl _) hs.size hs.defers (Below.refl _ _) (fun j av' hj=>?_) (fun id o ho => .inl ⟨by rw[← hos];exact ho,rfl,fun _ _=>rfl⟩) (fun id id' o o' b h1 h2=>?_)⟩
 ·
  by_cases hij:i=j
  ·
   subst hij
   rw[get_cons_same]at hj
   cases hj
   exact .inr ⟨hr.step hl hb,hb⟩
  ·
   rw[get_cons_ne (by simpa using hij)]at hj
   exact .inl ⟨hj,rfl⟩
 ·
  rw[hos]at h1 h2
  exact hs.sep id id' o o' b h1 h2
theorem stut_le {i:Nat}{x y:D}(h:DLe x y):Stut cx ⟨[(.s i,.av (.d x))],[(.s i,.av (.d y))]⟩:=by
 rintro σ a w ⟨g,nx,hs⟩ hr
 exact Sim.retell hs (av := .d y) (Rd.le h (hs.slots i _ hr.1).1) trivial
theorem Less.drop (hs:Sim cx σ a w) (id:Nat):Less σ ((.o id,.none)::σ):=by
 obtain⟨g,nx,hs⟩:=hs
 refine⟨fun i av hi=>(get_cons_ne (by simp)).symm.trans hi,fun j o ho=>?_,nx,nx,hs.hnx,(get_cons_ne (by simp)).trans hs.hnx,Nat.le_refl _,fun i av hi=>?_,fun j o ho=>?_⟩
 ·
  by_cases hj:id=j
  ·
   subst hj;rw[get_cons_same]at ho;cases ho
  ·
   exact(get_cons_ne (by simpa using hj)).symm.trans ho
 ·
  exact(hs.slots i av ((get_cons_ne (by simp)).symm.trans hi)).2
 ·
  by_cases hj:id=j
  ·
   subst hj;rw[get_cons_same]at ho;cases ho
  ·
   have:=hs.objs j o ((get_cons_ne (by simpa using hj)).symm.trans ho)
   exact⟨this.1,this.2.2⟩
theorem rd_freed (hs:SimG cx σ a w g nx) {id e k:Nat}{rows:List (List D)}(ho:get σ (.o id) = .ob (.arr e k rows)):Rd w (cx.own g ((.o id,.none)::σ)) (g id) (.sl k rows):=by
 have hown:∀ b,cx.own g ((.o id,.none)::σ) b→cx.own g σ b∧blk (g id)≠some b:=by
  rintro b (h|⟨j,o,h1,h2⟩)
  ·
   refine⟨.inl h,fun hb=>?_⟩
   have h3:=obj_ge hs ho hb
   have h4:=hs.own0.1 b h
   omega
  ·
   by_cases hj:id=j
   ·
    subst hj;rw[get_cons_same]at h1;cases h1
   ·
    rw[get_cons_ne (by simpa using hj)]at h1
    exact⟨.inr ⟨j,o,h1,h2⟩,fun hb=>hj (hs.sep id j _ o b ho h1 hb h2)⟩
 obtain⟨_,⟨xs,h1,h2,h3,h4⟩,_⟩:=hs.objs id _ ho
 rcases h1.2 with ⟨hv,hn⟩|⟨b,cap,cur,hv,hb,hh,hle,hcm,hsz,htk⟩
 ·
  obtain rfl:rows=[]:=List.eq_nil_of_length_eq_zero hn
  rw[hv];exact .nil none 0 k
 ·
  have hlt:b < w.heap.size:=by
   rcases Nat.lt_or_ge b w.heap.size with h|h
   ·
    exact h
   ·
    rw[Array.getElem?_eq_none h]at hh;cases hh
  have hx:∀ i j r d,rows[i]? = some r→r[j]? = some d→∃ x,xs[i*k+j]? = some x∧w.cell? ((⟨b,0,none⟩:Addr).add (i*k+j))=some x:=by
   intro i j r d hi hj
   have hil:=(List.getElem?_eq_some_iff.1 hi).1
   have hjl:j < k:=by rw[← h3 r (List.mem_of_getElem? hi)];exact(List.getElem?_eq_some_iff.1 hj).1
   have hlen:i*k+j < xs.length:=by
    rw[h1.1]
    have h5:(i+1)*k≤rows.length*k:=Nat.mul_le_mul_right _ hil
    rw[Nat.add_mul,Nat.one_mul]at h5
    omega
   exact⟨xs[i*k+j],List.getElem?_eq_getElem hlen,h1.cells (g:=b) (by rw[hv];rfl) _ _ (List.getElem?_eq_getElem hlen)⟩
  have hblk:blk (g id)=some b:=by rw[hv];rfl
  rw[hv]
  refine .sl ⟨b,0,none⟩ cap k rows (fun i j=>xs.getD (i*k+j) undef) (fun h0=>(hown b h0).2 hblk) hlt hle h3 (fun i j r d hi hj=>?_) (fun i j r d hi hj=>?_) fun i j r d hi hj=>?_
  ·
   obtain⟨x,h5,h6⟩:=hx i j r d hi hj
   rw[h6];simp[h5]
  ·
   obtain⟨x,h5,h6⟩:=hx i j r d hi hj
   simp only[List.getD_eq_getElem?_getD,h5,Option.getD_some]
   exact h2 x (List.mem_of_getElem? h5)
  ·
   obtain⟨x,h5,h6⟩:=hx i j r d hi hj
   simp only[List.getD_eq_getElem?_getD,h5,Option.getD_some]
   exact(h4 i j r d x hi hj h5).less fun b hb=>(hown b hb).1
theorem stut_freeze {i id n e k:Nat}{rows:List (List D)}(hn:n=rows.length):Stut cx ⟨[(.s i,.av (.own id n)),(.o id,.ob (.arr e k rows))],[(.s i,.av (.d (.sl k rows))),(.o id,.none)]⟩:=by
 rintro σ a w hs hr
 have hs0:=hs
 obtain⟨g,nx,hG⟩:=hs0
 have ho:get σ (.o id) = .ob (.arr e k rows):=hr.2.1
 have hv:=((hG.slots i _ hr.1).1.2 e k rows ho).2 hn
 have hrd:=rd_freed hG ho
 have hl:=Less.drop hs id
 have hlat:Later cx g g σ ((.o id,.none)::σ) w w nx:=by
  refine⟨Ext.refl _ _,Below.refl _ _,fun b hb=>?_,fun j o' _ h=>⟨o',hl.o _ _ h,?_⟩⟩
  ·
   rcases hb with hb|⟨j,o,h5,h6⟩
   ·
    exact .inl (.inl hb)
   ·
    exact .inl (.inr ⟨j,o,hl.o _ _ h5,h6⟩)
  ·
   cases o' <;> simp[ObLe]
 have hG2:SimG cx ((.o id,.none)::σ) a w g nx :=
  hG.next hlat ((get_cons_ne (by simp)).trans hG.hnx) (Nat.le_refl _) hG.size hG.defers (Below.refl _ _) (fun j av hj => .inl ⟨hl.s _ _ hj,rfl⟩) (fun j o hj => .inl ⟨hl.o _ _ hj,rfl,fun _ _=>rfl⟩)
   (fun j j' o o' b h1 h2=>hG.sep j j' o o' b (hl.o _ _ h1) (hl.o _ _ h2))
 exact Sim.retell hG2 (av := .d (.sl k rows)) (by rw[hv];exact hrd) trivial
def cutI (rows:List (List D)) (lo hi:Option Int):Option (List (List D)) :=
 let l:=lo.getD 0
 let h:=hi.getD rows.length
 if 0≤l∧l≤h∧h≤rows.length then some ((rows.take h.toNat).drop l.toNat) else none
theorem sl_form {own:Nat→Prop}{v:Value}{k:Nat}{rows:List (List D)}(h:Rd w own v (.sl k rows)):∃ p c,v = .slice p rows.length c:=by
 generalize hD:D.sl k rows=D0 at h
 cases h with
 |v=>cases hD
 |x=>cases hD
 |agg=>cases hD
 |nil p c=>cases hD;exact⟨p,c,rfl⟩
 |sl ad cap=>cases hD;exact⟨_,cap,rfl⟩
theorem cut_rd {own:Nat→Prop}{p:Option Addr}{c n k l h:Nat}{rows:List (List D)}(hr:Rd w own (.slice p n c) (.sl k rows)) (hlh:l≤h) (hh:h≤rows.length) (m:Nat) (hm:h≤m) :
  Rd w own (.slice (if m=l then p else p.map (·.add (l*k))) (h - l) (m - l)) (.sl k ((rows.take h).drop l)):=by
 have hlen:((rows.take h).drop l).length=h - l:=by simp;omega
 by_cases hz:h=l
 ·
  subst hz
  have:(rows.take h).drop h=[]:=List.drop_eq_nil_of_le (by simp;omega)
  rw[this,Nat.sub_self]
  exact .nil _ _ k
 ·
  rw[if_neg (by omega)]
  generalize hV:Value.slice p n c=V at hr
  generalize hD:D.sl k rows=D0 at hr
  cases hr with
  |v=>cases hD
  |x=>cases hD
  |agg=>cases hD
  |nil=>cases hD;simp at hh;omega
  |sl ad cap k' rows' f hb hs hcap hk hc h1 hrr =>
   cases hD
   cases hV
   have hgo:∀ (i j:Nat) (r:List D) (x:D),((rows.take h).drop l)[i]? = some r→r[j]? = some x→rows[l+i]? = some r:=by
    intro i j r x hi _
    rw[List.getElem?_drop,List.getElem?_take]at hi
    split at hi
    ·
     exact hi
    ·
     cases hi
   rw[← hlen]
   refine .sl (ad.add (l*k)) (m - l) k _ (fun i j=>f (l+i) j) (by rw[add_block];exact hb) (by rw[add_block];exact hs) (by rw[hlen];omega) (fun r hr=>hk r (List.mem_of_mem_take (List.mem_of_mem_drop hr)))
    (fun i j r x hi hj=>?_) (fun i j r x hi hj=>?_) fun i j r x hi hj=>?_
   ·
    rw[add_add,show l*k+(i*k+j)=(l+i)*k+j by rw[Nat.add_mul];omega]
    exact hc _ _ _ _ (hgo i j r x hi hj) hj
   ·
    exact h1 _ _ _ _ (hgo i j r x hi hj) hj
   ·
    exact hrr _ _ _ _ (hgo i j r x hi hj) hj
inductive Bd:Option Operand→Option Int→List (Key×Val)→Prop
 |no:Bd none none []
 |at_ {x:Operand} {kd:IntKind} {n:Int} (hx:EvS x (.d (.v (.int kd n)))):Bd (some x) (some n) (rdOf x (.d (.v (.int kd n))))
theorem Bd.ok (hs:SimG cx σ a w g nx) {x:Option Operand}{n:Option Int}{l:List (Key×Val)}(h:Bd x n l) (ha:App σ l):(x.map a.eval=none∧n=none)∨∃ kd m,x.map a.eval=some (.int kd m)∧n=some m:=by
 cases h with
 |no=>exact .inl ⟨rfl,rfl⟩
 |@at_ x kd n hx=>exact .inr ⟨kd,n,by simp[rep_v (hs.ev hx ha).1],rfl⟩
theorem ok_slice {t:TypeId}{x:Operand}{lo hi:Option Operand}{nl nh:Option Int}{k:Nat}{rows out:List (List D)}{ti:TI}{l1 l2:List (Key×Val)}(hn:d < cx.n) (hx:EvS x (.d (.sl k rows)))
  (hlo:Bd lo nl l1) (hhi:Bd hi nh l2) (ht:tget cx.T t=some ti) (hk:slK ti=some k) (hc:cutI rows nl nh=some out) :
  OpOk cx ⟨some d,.slice t x lo hi none,ty,pos,af,gd⟩ ⟨rdOf x (.d (.sl k rows))++(l1++l2),[(.s d,.av (.d (.sl k out)))]⟩:=by
 refine ok_val rfl hn fun σ a w g nx hs hr=>?_
 obtain⟨e,ie,hu,hie,hks,_⟩:=slice_of (cx.hT t ti ht) hk
 have h1:Rd w (cx.own g σ) (a.eval x) (.sl k rows):=(hs.ev hx hr.left).1
 obtain⟨p,c,hv⟩:=sl_form h1
 have hcap:rows.length≤c:=by
  rw[hv]at h1
  generalize hV:Value.slice p rows.length c=V at h1
  generalize hD:D.sl k rows=D0 at h1
  cases h1 with
  |v=>cases hD
  |x=>cases hD
  |agg=>cases hD
  |nil=>cases hD;simp
  |sl ad cap k' rows' f hb hs hcap=>cases hD;cases hV;exact hcap
 rw[hv]at h1
 unfold cutI at hc
 dsimp only at hc
 split at hc
 ·
  next hcond =>
  cases hc
  have hrun:(Instr.sliceAt t (a.eval x) (lo.map a.eval) (hi.map a.eval) none).run cx.P w =
    .ok (.slice (if c=(nl.getD 0).toNat then p else p.map (·.add ((nl.getD 0).toNat*k))) ((nh.getD rows.length).toNat - (nl.getD 0).toNat) (c - (nl.getD 0).toNat)) w:=by
   have hS:(sizeOf e).run cx.P w = .ok k w:=by simp[sizeOf,typeInfo,hie,hks]
   rcases hlo.ok hs hr.right.left with ⟨e1,rfl⟩|⟨kd1,m1,e1,rfl⟩ <;> rcases hhi.ok hs hr.right.right with ⟨e2,rfl⟩|⟨kd2,m2,e2,rfl⟩ <;>
    simp only[Option.getD_none,Option.getD_some]at hcond
   ·
    simp[Instr.sliceAt,Instr.slice,run_underlying hu,hv,e1,e2,Instr.sliceBounds,hS]
   ·
    have h5:0≤m2∧m2≤(c:Int):=by omega
    simp[Instr.sliceAt,Instr.slice,run_underlying hu,hv,e1,e2,Instr.sliceBounds,Instr.sliceBound,asIntOf,h5,hS]
   ·
    have h5:0≤m1∧m1≤(rows.length:Int):=by omega
    simp[Instr.sliceAt,Instr.slice,run_underlying hu,hv,e1,e2,Instr.sliceBounds,Instr.sliceBound,asIntOf,h5,hS]
   ·
    have h5:0≤m2∧m2≤(c:Int):=by omega
    have h6:0≤m1∧m1≤((m2.toNat:Nat):Int):=by omega
    have h7:m1≤max m2 0:=by omega
    simp[Instr.sliceAt,Instr.slice,run_underlying hu,hv,e1,e2,Instr.sliceBounds,Instr.sliceBound,asIntOf,h5,h6.1,h7,hS]
  refine⟨_,w,?_,Below.refl _ _,cut_rd h1 (l:=(nl.getD 0).toNat) (h:=(nh.getD rows.length).toNat) (by omega) (by omega) c (by omega),trivial⟩
  simp only[execOp,Option.map_none,Sem.run_bind,hrun,Result.andThen_ok,Sem.run_pure]
 ·
  cases hc
theorem ok_field {t:TypeId}{x:Operand}{f:Nat}{cells:List D}{ti:TI}{fs:List (Nat×Nat)}{off:Nat}{y:D}(hn:d < cx.n) (hx:EvS x (.d (.agg cells))) (ht:tget cx.T t=some ti)
  (hk:ti.kind = .st fs) (hf:fs[f]? = some (off,1)) (hy:cells[off]? = some y) :
  OpOk cx ⟨some d,.field t x f,ty,pos,af,gd⟩ ⟨rdOf x (.d (.agg cells)),[(.s d,.av (.d y))]⟩:=by
 refine ok_val rfl hn fun σ a w g nx hs hr=>?_
 have h1:Rd w (cx.own g σ) (a.eval x) (.agg cells):=(hs.ev hx hr).1
 have hkk:=(cx.hT t ti ht).kind
 rw[hk]at hkk
 obtain⟨b,hu,_,hg⟩:=hkk
 obtain⟨fl,i,e1,e2,_,_,_,e3⟩:=hg f _ hf
 obtain⟨dd,hd,hd1,hd2⟩:=e3 rfl
 generalize hv:a.eval x=v at h1
 generalize hD:D.agg cells=D0 at h1
 cases h1 with
 |v=>cases hD
 |x=>cases hD
 |sl=>cases hD
 |nil=>cases hD
 |agg cs ds hl hone hrd =>
  cases hD
  have hlt:off < cs.size:=by have:=(List.getElem?_eq_some_iff.1 hy).1;omega
  have hc:cs[off]? = some cs[off]:=Array.getElem?_eq_getElem hlt
  refine⟨cs[off],w,?_,Below.refl _ _,hrd off y _ hy hc,trivial⟩
  have hA:(isAgg fl.type).run cx.P w = .ok false w:=by
   simp only[isAgg,Sem.run_bind,run_underlying hd,Result.andThen_ok]
   cases dd <;> first|rfl|(exact absurd rfl (hd1 _))|(exact absurd rfl (hd2 _ _))
  have hp:(part fl.type cs off).run cx.P w = .ok cs[off] w:=by simp[part,hA,hc]
  simp[execOp,hv,Instr.field,run_underlying hu,e1,asAgg,e2,hp]
end Go.AX
namespace Go.AX
open Go.RowKit
variable {cx:Cx}{σ:St}{ops:Array Oper}{K:List Tr→St→Prop}{acc:List Tr}{rest:List Oper}{pre:List (Key×Val)}
variable {ty:TypeId}{pos:String}{af:Array Edge}{gd:Option (Nat×Bool)}{d:Nat}
inductive PartsE (σ:St):List (Nat×Operand)→List (Nat×List D)→List (Key×Val)→Prop
 |nil:PartsE σ [] [] []
 |cons {i:Nat} {x:Operand} {r:List (Nat×Operand)} {av:AV} {ds:List D} {q:List (Nat×List D)} {l:List (Key×Val)} (hx:ev σ x=some av) (hc:dcells av=some ds) (hr:PartsE σ r q l) :
   PartsE σ ((i,x)::r) ((i,ds)::q) (rdOf x av++l)
theorem PartsE.out {ps:List (Nat×Operand)}{qs:List (Nat×List D)}{l:List (Key×Val)}(h:PartsE σ ps qs l):Parts ps qs l∧App σ l:=by
 induction h with
 |nil=>exact⟨.nil,trivial⟩
 |cons hx hc hr ih=>exact⟨.cons (ev_out hx).1 hc ih.1,(ev_out hx).2.append ih.2⟩
inductive SubsE (σ:St):List Operand→List AV→List Arg→List (Key×Val)→Prop
 |nil:SubsE σ [] [] [] []
 |cons {x:Operand} {xs:List Operand} {av:AV} {avs:List AV} {y:Arg} {ys:List Arg} {l l':List (Key×Val)} (hx:ev σ x=some av) (h:Sub av y l) (ha:App σ l) (hr:SubsE σ xs avs ys l') :
   SubsE σ (x::xs) (av::avs) (y::ys) (rdOf x av++(l++l'))
theorem SubsE.out {xs:List Operand}{avs:List AV}{ys:List Arg}{l:List (Key×Val)}(h:SubsE σ xs avs ys l):Subs xs avs ys l∧App σ l:=by
 induction h with
 |nil=>exact⟨.nil,trivial⟩
 |cons hx h ha hr ih=>exact⟨.cons (ev_out hx).1 h ih.1,(ev_out hx).2.append (ha.append ih.2)⟩
theorem cut_from {rows:List (List D)}{n:Nat}(h:n≤rows.length):cutI rows (some (n:Int)) none=some (rows.drop n):=by
 unfold cutI
 dsimp only[Option.getD]
 rw[if_pos (by omega)]
 simp
theorem cut_to {rows:List (List D)}{n:Nat}(h:n≤rows.length):cutI rows none (some (n:Int))=some (rows.take n):=by
 unfold cutI
 dsimp only[Option.getD]
 rw[if_pos (by omega)]
 simp
theorem rd_agg_v {own:Nat→Prop}{w:World}{v:Value}{vs:List Value}(h:Rd w own v (.agg (vs.map D.v))):v = .agg vs.toArray:=by
 generalize hD:D.agg (vs.map D.v)=D0 at h
 cases h with
 |v=>cases hD
 |x=>cases hD
 |sl=>cases hD
 |nil=>cases hD
 |agg cs ds hl h1 hr =>
  cases hD
  congr 1
  apply Array.ext_getElem?
  intro j
  rcases Nat.lt_or_ge j cs.size with hj|hj
  ·
   have hv:j < vs.length:=by simp at hl;omega
   have h2:=hr j (.v vs[j]) cs[j] (by simp[hv]) (Array.getElem?_eq_getElem hj)
   have h3:=rd_v h2
   simp[hj,hv,h3]
  ·
   have hv:vs.length≤j:=by simp at hl;omega
   simp[hj,hv]
theorem ok_binagg {op:BinOp}{t t':TypeId}{x y:Operand}{us vs:List Value}{r:Value}(hn:d < cx.n) (hx:EvS x (.d (.agg (us.map D.v)))) (hy:EvS y (.d (.agg (vs.map D.v)))) (hb:BinR cx.P op t (.agg us.toArray) (.agg vs.toArray) r) :
  OpOk cx ⟨some d,.binOp op t x y t',ty,pos,af,gd⟩ ⟨rdOf x (.d (.agg (us.map D.v)))++rdOf y (.d (.agg (vs.map D.v))),[(.s d,.av (.d (.v r)))]⟩:=by
 refine ok_val rfl hn fun _ a w _ _ hs hr=>⟨r,w,?_,Below.refl _ _,Rd.v _,trivial⟩
 have h1:=rd_agg_v (hs.ev hx hr.left).1
 have h2:=rd_agg_v (hs.ev hy hr.right).1
 have:=hb w x y
 simp only[execOp,h1,h2,Sem.run_bind,Sem.run_pure]at this ⊢
 rw[this]
 rfl
theorem ok_index_str {t:TypeId}{x y:Operand}{l:List UInt8}{kd:IntKind}{i:Int}{c:UInt8}{ti:TI}(hn:d < cx.n) (hx:EvS x (.d (.v (str l)))) (hy:EvS y (.d (.v (.int kd i))))
  (ht:tget cx.T t=some ti) (hk:ti.kind = .str) (hi:0≤i) (hc:l[i.toNat]? = some c) :
  OpOk cx ⟨some d,.index t x y,ty,pos,af,gd⟩ ⟨rdOf x (.d (.v (str l)))++rdOf y (.d (.v (.int kd i))),[(.s d,.av (.d (.v (.int .u8 c.toNat))))]⟩:=by
 refine ok_val rfl hn fun σ a w g nx hs hr=>⟨.int .u8 c.toNat,w,?_,Below.refl _ _,Rd.v _,trivial⟩
 have h1:=rep_v (hs.ev hx hr.left).1
 have h2:=rep_v (hs.ev hy hr.right).1
 have hkk:=(cx.hT t ti ht).kind
 rw[hk]at hkk
 have h3:(⟨l.toArray⟩:ByteArray)[i.toNat]? = some c:=by
  rw[getElem?_def]at hc ⊢
  split at hc
  ·
   next h=>rw[dif_pos (by simpa[ByteArray.size] using h)];exact hc
  ·
   cases hc
 simp[execOp,h1,h2,str,Instr.index,asIntOf,run_underlying hkk.1,hi,h3]
theorem ok_len_str {t:TypeId}{x:Operand}{l:List UInt8}{ti:TI}(hn:d < cx.n) (hx:EvS x (.d (.v (str l)))) (ht:tget cx.T t=some ti) (hk:ti.kind = .str) :
  OpOk cx ⟨some d,.call { callee := .builtin .len,args := #[x],argTypes := #[t] },ty,pos,af,gd⟩ ⟨rdOf x (.d (.v (str l))),[(.s d,.av (.d (.v (.int .i64 l.length))))]⟩:=by
 refine ok_val rfl hn fun σ a w g nx hs hr=>⟨.int .i64 l.length,w,?_,Below.refl _ _,Rd.v _,trivial⟩
 have hv:=rep_v (hs.ev hx hr).1
 have hkk:=(cx.hT t ti ht).kind
 rw[hk]at hkk
 have hz:(⟨l.toArray⟩:ByteArray).size=l.length:=by rw[← ByteArray.size_data];simp
 simp[execOp,resolve,invoke,builtin,hv,str,Builtin.len_,run_underlying hkk.1,goInt,hz]
theorem gt {q:Key}{b b':Bool}(h:get σ q=bv b) (hb:b=b'):get σ q=bv b':=by rw[h,hb]
theorem st_skip {o:Oper}{j q:Nat}{want b:Bool}(hg:o.guard=some (j,want)) (hj:(ops[j]?).bind (·.dst)=some q) (hq:get σ (.s q)=bv b) (hb:b = !want)
  (hx:(match o.dst with|some x=>Nat.blt x cx.n|none=>true)=true)
  (h:RW cx ops K (acc++[⟨[(.s q,bv (!want))],skipWr o⟩]) rest (skipWr o++σ)):RW cx ops K acc (o::rest) σ :=
 RW.skip hg hj (gt hq hb) (by cases want <;> simp) (fun x hxx=>by rw[hxx]at hx;exact lt_of_blt hx) h
theorem st_skip_u {o:Oper}{j q:Nat}{want:Bool}(hg:o.guard=some (j,want)) (hj:(ops[j]?).bind (·.dst)=some q) (hq:get σ (.s q) = .av (.d (.v undef)))
  (hx:(match o.dst with|some x=>Nat.blt x cx.n|none=>true)=true)
  (h:RW cx ops K (acc++[⟨[(.s q,.av (.d (.v undef)))],skipWr o⟩]) rest (skipWr o++σ)):RW cx ops K acc (o::rest) σ :=
 RW.skip hg hj hq (by simp[undef]) (fun x hxx=>by rw[hxx]at hx;exact lt_of_blt hx) h
end Go.AX
namespace Go.AX
def vEq:Value→Value→Bool
 |.bool a,.bool b=>a==b
 |.int k a,.int k' b=>k==k'&&a==b
 |.string a,.string b=>a.data.toList==b.data.toList
 |.slice none 0 0,.slice none 0 0=>true
 |.pointer none,.pointer none=>true
 |.map none,.map none=>true
 |.nilFunc,.nilFunc=>true
 |.nilIface,.nilIface=>true
 |_,_=>false
theorem vEq_out {a b:Value}(h:vEq a b=true):a=b:=by
 unfold vEq at h
 split at h <;> simp_all
 rename_i x y
 cases x;cases y
 simp_all
def vsEq:List Value→List Value→Bool
 | [],[]=>true
 |a::l,b::r=>vEq a b&&vsEq l r
 |_,_=>false
theorem vsEq_out:∀ {l r:List Value},vsEq l r=true→l=r
 | [],[],_=>rfl
 |a::l,b::r,h=>by
  simp only[vsEq,Bool.and_eq_true]at h
  rw[vEq_out h.1,vsEq_out h.2]
def notAgg (P:Program) (t:Nat):Bool:=match P.underlying t with
 |some (.struct _)=>false
 |some (.array _ _)=>false
 |some _=>true
 |none=>false
theorem notAgg_out {P:Program}{t:Nat}(h:notAgg P t=true):∃ dd,P.underlying t=some dd∧(∀ fs,dd ≠ .struct fs)∧∀ n e,dd ≠ .array n e:=by
 unfold notAgg at h
 cases hu:P.underlying t with
 |none=>rw[hu]at h;cases h
 |some dd =>
  rw[hu]at h
  cases dd <;> first|(cases h;done)|exact⟨_,rfl,by simp,by simp⟩
def fsB (P:Program):List Field→List (Nat×Nat)→Bool
 | [],[]=>true
 |f::l,p::r=>(Nat.beq f.offset p.1&&(match P.info? f.type with|some i=>Nat.beq i.size p.2&&(Nat.blt 0 p.2&&(!(Nat.beq p.2 1) || notAgg P f.type))|none=>false))&&fsB P l r
 |_,_=>false
theorem fsB_out {P:Program}:∀ {l:List Field}{r:List (Nat×Nat)},fsB P l r=true→l.length=r.length ∧
  ∀ (j:Nat) (p:Nat×Nat),r[j]? = some p→∃ (f:Field) (i:TypeInfo),l[j]? = some f∧f.offset=p.1∧P.info? f.type=some i∧i.size=p.2∧0 < p.2 ∧
   (p.2=1→∃ dd,P.underlying f.type=some dd∧(∀ fs,dd ≠ .struct fs)∧∀ n e,dd ≠ .array n e)
 | [],[],_=>⟨rfl,fun j p h=>by simp at h⟩
 |f::l,p::r,h=>by
  simp only[fsB,Bool.and_eq_true]at h
  obtain⟨⟨h1,h2⟩,h3⟩:=h
  obtain⟨h4,h5⟩:=fsB_out h3
  refine⟨by simp[h4],fun j q hj=>?_⟩
  cases j with
  |zero =>
   simp at hj
   subst hj
   cases hi:P.info? f.type with
   |none=>rw[hi]at h2;cases h2
   |some i =>
    rw[hi]at h2
    simp only[Bool.and_eq_true]at h2
    exact⟨f,i,rfl,by simpa using h1,hi,by simpa using h2.1,by simpa using h2.2.1,fun h1'=>notAgg_out (by have:=h2.2.2;simpa[h1'] using this)⟩
  |succ j =>
   obtain⟨f',i,h6⟩:=h5 j q (by simpa using hj)
   exact⟨f',i,by simpa using h6⟩
def kB (P:Program) (t:Nat) (ti:TI):Bool:=match ti.kind with
 |.int k=>match P.underlying t with
  |some (.int k')=>k==k'&&Nat.beq ti.n 1
  |_=>false
 |.bool=>match P.underlying t with
  |some .bool=>Nat.beq ti.n 1
  |_=>false
 |.str=>match P.underlying t with
  |some .string=>Nat.beq ti.n 1
  |_=>false
 |.sl e k=>match P.underlying t with
  |some (.slice e')=>Nat.beq e e'&&(match P.info? e with|some i=>Nat.beq i.size k|none=>false)&&Nat.blt 0 k&&Nat.beq ti.n 1
  |_=>false
 |.st fs=>match P.underlying t with
  |some (.struct a)=>fsB P a.toList fs
  |_=>false
 |.arr n e k=>match P.underlying t with
  |some (.array n' e')=>Nat.beq n n'&&Nat.beq e e'&&(match P.info? e with|some i=>Nat.beq i.size k|none=>false)
  |_=>false
 |.one=>match P.underlying t with
  |some (.struct _)=>false
  |some (.array _ _)=>false
  |some _=>Nat.beq ti.n 1
  |none=>false
def tiB (P:Program) (t:Nat) (ti:TI):Bool :=
 (match P.info? t with
  |some i=>Nat.beq i.size ti.n&&Nat.beq i.bytes ti.bytes&&(match i.zero with|some z=>vsEq z.cells.toList ti.zero|none=>false)
  |none=>false)&&(Nat.beq ti.zero.length ti.n&&kB P t ti)
theorem tiB_out {P:Program}{t:Nat}{ti:TI}(h:tiB P t ti=true):TF P t ti:=by
 simp only[tiB,Bool.and_eq_true]at h
 obtain⟨h1,h2,h3⟩:=h
 refine⟨?_,by simpa using h2,?_⟩
 ·
  cases hi:P.info? t with
  |none=>rw[hi]at h1;cases h1
  |some i =>
   rw[hi]at h1
   simp only[Bool.and_eq_true]at h1
   obtain⟨⟨h4,h5⟩,h6⟩:=h1
   cases hz:i.zero with
   |none=>rw[hz]at h6;cases h6
   |some z =>
    rw[hz]at h6
    exact⟨i,rfl,by simpa using h4,by simpa using h5,z,hz,vsEq_out h6⟩
 ·
  unfold kB at h3
  cases hk:ti.kind <;> simp only[hk]at h3 ⊢
  ·
   cases hu:P.underlying t with
   |none=>rw[hu]at h3;cases h3
   |some dd =>
    rw[hu]at h3
    cases dd <;> first|(cases h3;done)|exact⟨_,rfl,by simp,by simp,by simpa using h3⟩
  ·
   split at h3
   ·
    next hu=>simp only[Bool.and_eq_true,beq_iff_eq,Nat.beq_eq]at h3;rw[h3.1];exact⟨hu,h3.2⟩
   ·
    cases h3
  ·
   split at h3
   ·
    next hu=>exact⟨hu,by simpa using h3⟩
   ·
    cases h3
  ·
   split at h3
   ·
    next hu=>exact⟨hu,by simpa using h3⟩
   ·
    cases h3
  ·
   split at h3
   ·
    next hu =>
    simp only[Bool.and_eq_true,Nat.beq_eq]at h3
    obtain⟨⟨⟨h4,h5⟩,h6⟩,h7⟩:=h3
    subst h4
    split at h5
    ·
     next i hi=>exact⟨hu,⟨i,hi,by simpa using h5⟩,by simpa using h6,h7⟩
    ·
     cases h5
   ·
    cases h3
  ·
   split at h3
   ·
    next hu =>
    obtain⟨h4,h5⟩:=fsB_out h3
    refine⟨_,hu,by simpa using h4,fun j p hj=>?_⟩
    obtain⟨f,i,h6,h7⟩:=h5 j p hj
    exact⟨f,i,by simpa using h6,h7⟩
   ·
    cases h3
  ·
   split at h3
   ·
    next hu =>
    simp only[Bool.and_eq_true,Nat.beq_eq]at h3
    obtain⟨⟨h4,h5⟩,h6⟩:=h3
    subst h4 h5
    split at h6
    ·
     next i hi=>exact⟨hu,i,hi,by simpa using h6⟩
    ·
     cases h6
   ·
    cases h3
def tblB (P:Program) (T:Tbl):Bool:=T.all fun p=>tiB P p.1 p.2
theorem tget_mem:∀ {T:Tbl}{t:Nat}{ti:TI},tget T t=some ti→(t,ti)∈T
 |(q,i)::r,t,ti,h=>by
  simp only[tget]at h
  split at h
  ·
   next hb =>
   obtain rfl:q=t:=by simpa using hb
   cases h
   exact List.mem_cons_self ..
  ·
   exact List.mem_cons_of_mem _ (tget_mem h)
theorem tok_of {P:Program}{T:Tbl}(h:tblB P T=true):TOk P T :=
 fun _ _ ht=>tiB_out (List.all_eq_true.1 h _ (tget_mem ht))
end Go.AX
namespace Go.AX
open Go.RowKit
variable {cx:Cx}{σ σ':St}{a:Act}{w:World}{c:Code}{Q:Exit→St→Prop}
def loopTQ {τ:Type}(S:τ→St) (I:τ→Prop) (μ:τ→Nat) (t:τ) (Q:Exit→St→Prop):Exit→St→Prop
 |.normal,σ=>∃ t',I t'∧μ t' < μ t∧Less σ (S t')
 |e,σ=>Q e σ
theorem CW.loopT {τ:Type}(S:τ→St) (I:τ→Prop) (μ:τ→Nat) (t0:τ) (h0:I t0) (hs0:Less σ (S t0)) (hr:∀ t,I t→CW cx c (loopTQ S I μ t Q) (S t)) (hgn:cx.gn=0:=by rfl):CW cx (.loop c) Q σ:=by
 intro a w hs
 have key:∀ n t,μ t≤n→I t→∀ a w,Sim cx (S t) a w→Code.rounds cx.P c (fun e a' w'=>∃ σ',Sim cx σ' a' w'∧Q e σ') (n+1) a w:=by
  intro n
  induction n with
  |zero =>
   intro t ht hI a w hs
   rw[rounds_succ]
   refine wp_mono (hr t hI a w hs) fun e a' w' he=>?_
   obtain⟨σ',h1,h2⟩:=he
   cases e with
   |normal=>obtain⟨t',_,h3,_⟩:=h2;omega
   |exit j=>exact⟨σ',h1,h2⟩
   |goto j=>exact⟨σ',h1,h2⟩
   |ret=>exact⟨σ',h1,h2⟩
   |panic c=>exact⟨σ',h1,h2⟩
   |outgrown=>exact⟨σ',h1,h2⟩
  |succ n ih =>
   intro t ht hI a w hs
   rw[rounds_succ]
   refine wp_mono (hr t hI a w hs) fun e a' w' he=>?_
   obtain⟨σ',h1,h2⟩:=he
   cases e with
   |normal=>obtain⟨t',h3,h4,h5⟩:=h2;exact ih t' (by omega) h3 a' w' (h1.less h5 fun _ _=>by omega)
   |exit j=>exact⟨σ',h1,h2⟩
   |goto j=>exact⟨σ',h1,h2⟩
   |ret=>exact⟨σ',h1,h2⟩
   |panic c=>exact⟨σ',h1,h2⟩
   |outgrown=>exact⟨σ',h1,h2⟩
 exact wp_loop_rounds (μ t0+1) (key (μ t0) t0 (Nat.le_refl _) h0 a w (hs.less hs0 fun _ _=>by omega))
theorem CW.stut {t:Tr}(hs:Stut cx t) (ha:App σ t.rd) (h:CW cx c Q (t.wr++σ)):CW cx c Q σ:=fun a w hsim=>h a w (hs σ a w hsim ha)
def Stop (p:Prop):Prop:=p
theorem Stop.go {p:Prop}(h:p):Stop p:=h
def firstRegion:Code→Option Nat
 |.region id _ _=>some id
 |.seq x _=>firstRegion x
 |.block _ c=>firstRegion c
 |_=>none
def keep (ks:List Key) (σ:St):St:=ks.map fun k=>(k,get σ k)
def cutQ (σ1:St):Exit→St→Prop
 |.normal,σ=>Less σ σ1
 |_,_=>False
theorem Stop.cut {x y:Code}(σ1:St) (h1:CW cx x (cutQ σ1) σ) (h2:CW cx y Q σ1) (hgn:cx.gn=0:=by rfl):Stop (CW cx (.seq x y) Q σ):=by
 refine CW.seq (fun a w hs=>wp_mono (h1 a w hs) fun e a' w' he=>?_)
 obtain⟨σ',h3,h4⟩:=he
 cases e with
 |normal=>exact⟨σ1,h3.less h4 fun _ _=>by omega,h2⟩
 |exit j=>exact h4.elim
 |goto j=>exact h4.elim
 |ret=>exact h4.elim
 |panic c=>exact h4.elim
 |outgrown=>exact h4.elim
theorem Stop.cutk {x y:Code}(new:St) (ks:List Key) (h1:CW cx x (cutQ (new++keep ks σ)) σ) (h2:CW cx y Q (new++keep ks σ)) (hgn:cx.gn=0:=by rfl):Stop (CW cx (.seq x y) Q σ) :=
 Stop.cut _ h1 h2 hgn
theorem q_cut {σ1:St}(h:Less σ σ1):cutQ σ1 .normal σ:=h
section q
variable {τ:Type}{S:τ→St}{I:τ→Prop}{μ:τ→Nat}{t:τ}{j:Nat}
theorem q_loopT (t':τ) (hI:I t') (hm:μ t' < μ t) (h:Less σ (S t')):loopTQ S I μ t Q .normal σ:=⟨t',hI,hm,h⟩
theorem q_loopT_exit (h:Q (.exit j) σ):loopTQ S I μ t Q (.exit j) σ:=h
theorem q_loopT_ret (h:Q .ret σ):loopTQ S I μ t Q .ret σ:=h
end q
theorem nw_own {id n e k:Nat}{rows:List (List D)}(ho:get σ (.o id) = .ob (.arr e k rows)) (hn:n=rows.length):nwRd (.own id n) [(.o id,.ob (.arr e k rows))]∧App σ [(.o id,.ob (.arr e k rows))] :=
 ⟨⟨e,k,rows,rfl,hn⟩,ho,trivial⟩
theorem drop_case {α:Type}{l:List α}{k:Nat}(h:k≤l.length):(l.drop k=[]∧k=l.length)∨∃ x,l.drop k=x::l.drop (k+1)∧l[k]? = some x∧k < l.length:=by
 rcases Nat.lt_or_ge k l.length with h1|h1
 ·
  exact .inr ⟨l[k],List.drop_eq_getElem_cons h1,List.getElem?_eq_getElem h1,h1⟩
 ·
  exact .inl ⟨List.drop_eq_nil_of_le h1,by omega⟩
theorem DLe_nilv (p:Option Addr) (c k:Nat) {own:Nat→Prop}{w:World}{x:Value}(h:Rd w own x (.v (.slice p 0 c))):Rd w own x (.sl k []):=by
 cases h with
 |v=>exact .nil p c k
section bin
variable {P:Program}{t:TypeId}
theorem bin_quo {a b:Int}(hb:b≠0) (h : -9223372036854775808≤a.tdiv b∧a.tdiv b≤9223372036854775807):BinR P .quo t (.int .i64 a) (.int .i64 b) (.int .i64 (a.tdiv b)):=by
 intro w x y
 have:=wrap_in h
 simp[eqGuard,binOp,Op.intDiv,this,hb]
theorem bin_rem {a b:Int}(hb:b≠0):BinR P .rem t (.int .i64 a) (.int .i64 b) (.int .i64 (a.tmod b)):=by
 intro w x y
 simp[eqGuard,binOp,Op.intDiv,hb]
end bin
end Go.AX
namespace Go.AX
open Go.RowKit
variable {cx:Cx}{σ:St}{ops:Array Oper}{K:List Tr→St→Prop}{acc:List Tr}{rest:List Oper}{pre:List (Key×Val)}
variable {ty:TypeId}{pos:String}{af:Array Edge}{gd:Option (Nat×Bool)}{d:Nat}
def arK (ti:TI):Option (Nat×Nat):=match ti.kind with
 |.arr n _ k=>some (n,k)
 |_=>none
theorem array_of {P:Program}{t:Nat}{ti:TI}{n k:Nat}(h:TF P t ti) (hk:arK ti=some (n,k)):∃ e i,P.underlying t=some (.array n e)∧P.info? e=some i∧i.size=k:=by
 have hkd:=h.kind
 unfold arK at hk
 split at hk
 ·
  next n' e k' hkk =>
  cases hk
  rw[hkk]at hkd
  obtain⟨h1,i,h2,h3⟩:=hkd
  exact⟨e,i,h1,h2,h3⟩
 ·
  cases hk
theorem ok_ia_ptr {t:TypeId}{x y:Operand}{id o0 n k:Nat}{cells:List AV}{kd:IntKind}{i:Nat}{ti:TI}(hn:d < cx.n) (hx:EvS x (.ptr id o0)) (hy:EvS y (.d (.v (.int kd (i:Int)))))
  (ht:tget cx.T t=some ti) (hk:arK ti=some (n,k)) (hi:i < n) :
  OpOk cx ⟨some d,.indexAddr t x y,ty,pos,af,gd⟩ ⟨(rdOf x (.ptr id o0)++rdOf y (.d (.v (.int kd (i:Int)))))++[(.o id,.ob (.box cells))],[(.s d,.av (.ptr id (o0+i*k)))]⟩:=by
 refine ok_val rfl hn fun σ a w g nx hs hr=>?_
 obtain⟨h1,h2⟩:=hs.ev hx hr.left.left
 have ho:get σ (.o id) = .ob (.box cells):=hr.right.1
 obtain⟨b,hg,hv⟩:=h1.2 cells ho
 have hy':=rep_v (hs.ev hy hr.left.right).1
 obtain⟨e,ie,hu,hie,hks⟩:=array_of (cx.hT t ti ht) hk
 refine⟨.pointer (some ⟨b,o0+i*k,none⟩),w,?_,Below.refl _ _,?_,h2⟩
 ·
  have:(0:Int)≤(i:Int)∧(i:Int) < (n:Int):=⟨by omega,by omega⟩
  simp[execOp,hy',hv,Instr.indexAt,asIntOf,run_underlying hu,Instr.sureAddr,hi,sizeOf,typeInfo,hie,hks,add_lit]
 ·
  exact⟨.of ho,fun c0 hc0=>⟨b,hg,rfl⟩⟩
end Go.AX
namespace Go.AX
open Go.RowKit
variable {cx:Cx}{g:Nat→Value}{σ:St}{a:Act}{w:World}{nx:Nat}
theorem SimG.retellBox (hs:SimG cx σ a w g nx) {id:Nat}{cells cells':List AV}(ho:get σ (.o id) = .ob (.box cells)) (hr:ObOk cx g σ w id (.box cells')) (hb:(Ob.box cells').bd nx) :
  SimG cx ((.o id,.ob (.box cells'))::σ) a w g nx:=by
 have hback:∀ j o,get ((.o id,.ob (.box cells'))::σ) (.o j) = .ob o→∃ o0,get σ (.o j) = .ob o0∧ObLe g g j o0 o:=by
  intro j o hj
  by_cases he:id=j
  ·
   subst he
   rw[get_cons_same]at hj
   cases hj
   exact⟨_,ho,rfl⟩
  ·
   rw[get_cons_ne (by simpa using he)]at hj
   exact⟨o,hj,by cases o <;> simp[ObLe]⟩
 have hl:Later cx g g σ ((.o id,.ob (.box cells'))::σ) w w nx:=by
  refine⟨Ext.refl _ _,Below.refl _ _,fun b hb=>?_,fun j o' _ h=>hback j o' h⟩
  rcases hb with hb|⟨j,o,h1,h2⟩
  ·
   exact .inl (.inl hb)
  ·
   obtain⟨o0,h3,_⟩:=hback j o h1
   exact .inl (.inr ⟨j,o0,h3,h2⟩)
 refine hs.next hl ((get_cons_ne (by simp)).trans hs.hnx) (Nat.le_refl _) hs.size hs.defers (Below.refl _ _) (fun i av hi => .inl ⟨(get_cons_ne (by simp)).symm.trans hi,rfl⟩) (fun j o hj=>?_) (fun j j' o o' b h1 h2=>?_)
 ·
  by_cases he:id=j
  ·
   subst he
   rw[get_cons_same]at hj
   cases hj
   exact .inr ⟨(hs.objs id _ ho).1,hr.step hl rfl (fun _ _=>rfl) hb,hb⟩
  ·
   rw[get_cons_ne (by simpa using he)]at hj
   exact .inl ⟨hj,rfl,fun _ _=>rfl⟩
 ·
  obtain⟨o1,h3,_⟩:=hback j o h1
  obtain⟨o2,h4,_⟩:=hback j' o' h2
  exact hs.sep j j' o1 o2 b h3 h4
theorem obOk_set {id:Nat}{cells:List AV}{j:Nat}{av av':AV}(h:ObOk cx g σ w id (.box cells)) (hj:cells[j]? = some av) (hr:∀ c,Rep1 cx g σ w c av→Rep1 cx g σ w c av') :
  ObOk cx g σ w id (.box (cells.set j av')):=by
 obtain⟨b,cs,t,h0,h1,h2,h3,h4,h5⟩:=h
 refine⟨b,cs,t,h0,h1,h2,by simpa using h3,h4,fun i c x hi hc=>?_⟩
 by_cases hij:j=i
 ·
  subst hij
  have hlt:j < cells.length:=(List.getElem?_eq_some_iff.1 hj).1
  rw[List.getElem?_set_self hlt]at hi
  cases hi
  exact hr c (h5 j c av hj hc)
 ·
  rw[List.getElem?_set_ne hij]at hi
  exact h5 i c x hi hc
theorem bd_set {cells:List AV}{j:Nat}{av':AV}{n:Nat}(h:(Ob.box cells).bd n) (hb:av'.bd1 n):(Ob.box (cells.set j av')).bd n:=by
 intro x hx
 rcases List.mem_or_eq_of_mem_set hx with h1|h1
 ·
  exact h x h1
 ·
  subst h1;exact hb
theorem stut_promote_cell {id j:Nat}{cells:List AV}(e k:Nat) (hj:cells[j]? = some (.d (.v nilS))) :
  Stut cx ⟨[(.o id,.ob (.box cells)),(.nx,.num nx)],[(.o id,.ob (.box (cells.set j (.own nx 0)))),(.o nx,.ob (.arr e k [])),(.nx,.num (nx+1))]⟩:=by
 rintro σ a w ⟨g,n',hs⟩ hr
 have hnx:n'=nx:=by
  have h2:=hr.2.1
  rw[hs.hnx]at h2
  simpa using h2
 subst hnx
 have ho:get σ (.o id) = .ob (.box cells):=hr.1
 have hlt:=(hs.objs id _ ho).1
 have hG:=newArr (w':=w) (hv:=nilS) (e:=e) (k:=k) hs (Below.refl _ _) (fun b hb=>by simp[blk]at hb) (World.ownsRow_nil w _ e k)
 have ho':get (objSt σ (n'+1) n' (.arr e k [])) (.o id) = .ob (.box cells):=(objSt_o (by omega)).trans ho
 obtain⟨h1,h2,h3⟩:=hG.objs id _ ho'
 refine⟨_,_,hG.retellBox ho' (obOk_set h2 hj fun c hc=>?_) (bd_set h3 (Nat.lt_succ_self _))⟩
 have hv:=rd_v hc
 refine⟨.of get_cons_same,fun e' k' rows hg=>?_⟩
 rw[get_cons_same]at hg
 cases hg
 exact⟨Nat.le_refl _,fun _=>by rw[upd_same];exact hv⟩
theorem stut_freeze_cell {id j i n e k:Nat}{cells:List AV}{rows:List (List D)}(hj:cells[j]? = some (.own i n)) (hn:n=rows.length) :
  Stut cx ⟨[(.o id,.ob (.box cells)),(.o i,.ob (.arr e k rows))],[(.o id,.ob (.box (cells.set j (.d (.sl k rows))))),(.o i,.none)]⟩:=by
 rintro σ a w hs hr
 have hs0:=hs
 obtain⟨g,nx,hG⟩:=hs0
 have hb:get σ (.o id) = .ob (.box cells):=hr.1
 have ho:get σ (.o i) = .ob (.arr e k rows):=hr.2.1
 have hne:i≠id:=fun he=>by subst he;rw[hb]at ho;cases ho
 have hrd:=rd_freed hG ho
 have hl:=Less.drop hs i
 have hlat:Later cx g g σ ((.o i,.none)::σ) w w nx:=by
  refine⟨Ext.refl _ _,Below.refl _ _,fun b hb=>?_,fun j o' _ h=>⟨o',hl.o _ _ h,?_⟩⟩
  ·
   rcases hb with hb|⟨j,o,h5,h6⟩
   ·
    exact .inl (.inl hb)
   ·
    exact .inl (.inr ⟨j,o,hl.o _ _ h5,h6⟩)
  ·
   cases o' <;> simp[ObLe]
 have hG2:SimG cx ((.o i,.none)::σ) a w g nx :=
  hG.next hlat ((get_cons_ne (by simp)).trans hG.hnx) (Nat.le_refl _) hG.size hG.defers (Below.refl _ _) (fun j av hj => .inl ⟨hl.s _ _ hj,rfl⟩) (fun j o hj => .inl ⟨hl.o _ _ hj,rfl,fun _ _=>rfl⟩)
   (fun j j' o o' b h1 h2=>hG.sep j j' o o' b (hl.o _ _ h1) (hl.o _ _ h2))
 have hb':get ((.o i,.none)::σ) (.o id) = .ob (.box cells):=(get_cons_ne (by simpa using hne)).trans hb
 obtain⟨_,⟨b,cs,t,h0,h1,h2,h3,h4,h5⟩,h6⟩:=hG.objs id _ hb
 refine⟨g,nx,hG2.retellBox hb' ⟨b,cs,t,h0,h1,h2,by simpa using h3,h4,fun m c x hm hc=>?_⟩ (bd_set h6 trivial)⟩
 by_cases hjm:j=m
 ·
  subst hjm
  have hlt:j < cells.length:=(List.getElem?_eq_some_iff.1 hj).1
  rw[List.getElem?_set_self hlt]at hm
  cases hm
  have hv:=((h5 j c _ hj hc).2 e k rows ho).2 hn
  show Rd w _ c (.sl k rows)
  rw[hv];exact hrd
 ·
  rw[List.getElem?_set_ne hjm]at hm
  exact(h5 m c x hm hc).step hlat (h6 x (List.mem_of_getElem? hm))
end Go.AX
namespace Go.AX
open Go.RowKit
def cmpI:BinOp→Int→Int→Option Bool
 |.lss,a,b=>some (decide (a < b))
 |.leq,a,b=>some (decide (a≤b))
 |.gtr,a,b=>some (decide (b < a))
 |.geq,a,b=>some (decide (b≤a))
 |.eql,a,b=>some (decide (a=b))
 |.neq,a,b=>some (!decide (a=b))
 |_,_,_=>none
def cmpS:BinOp→List UInt8→List UInt8→Option Bool
 |.lss,a,b=>some (Op.bytesLess a b)
 |.leq,a,b=>some (Op.bytesLess a b || decide (a=b))
 |.gtr,a,b=>some (!(Op.bytesLess a b || decide (a=b)))
 |.geq,a,b=>some (!Op.bytesLess a b)
 |.eql,a,b=>some (decide (a=b))
 |.neq,a,b=>some (!decide (a=b))
 |_,_,_=>none
def cmpA (op:BinOp) (u v:Value):Option Bool:=match u with
 |.int .i64 a=>match v with
  |.int .i64 b=>cmpI op a b
  |_=>none
 |.int .u8 a=>match v with
  |.int .u8 b=>cmpI op a b
  |_=>none
 |.int .i32 a=>match v with
  |.int .i32 b=>cmpI op a b
  |_=>none
 |.string ⟨⟨a⟩⟩=>match v with
  |.string ⟨⟨b⟩⟩=>cmpS op a b
  |_=>none
 |_=>none
def gbox (σ:St) (id:Nat):Option (List AV):=match get σ (.o id) with
 |.ob (.box c)=>some c
 |_=>none
def plainA:AV→Bool
 |.tup _=>false
 |_=>true
def valA (T:Tbl) (σ:St):Op→Option (List (Key×Val)×AV)
 |.move x=>(ev σ x).bind fun av=>some (rdOf x av,av)
 |.assign x=>(ev σ x).bind fun av=>some (rdOf x av,av)
 |.unOp .not _ x=>(ev σ x).bind fun av=>match av with
  |.d (.v (.bool b))=>some (rdOf x (.d (.v (.bool b))),.d (.v (.bool !b)))
  |_=>none
 |.binOp op _ x y _=>(ev σ x).bind fun av=>match av with
  |.d (.v u)=>(ev σ y).bind fun aw=>match aw with
   |.d (.v v)=>(cmpA op u v).bind fun r=>some (rdOf x (.d (.v u))++rdOf y (.d (.v v)),.d (.v (.bool r)))
   |_=>none
  |_=>none
 |.load t x=>(ev σ x).bind fun av=>(tget T t).bind fun ti=>match av with
  |.pd cells=>(ldD ti cells).bind fun y=>some (rdOf x (.pd cells),.d y)
  |.ptr id off=>(gbox σ id).bind fun cells=>(ldA ti (cells.drop off)).bind fun y=>some (rdOf x (.ptr id off)++[(.o id,.ob (.box cells))],y)
  |_=>none
 |.fieldAddr t x f=>(ev σ x).bind fun av=>(tget T t).bind fun ti=>(fldOff ti f).bind fun off=>match av with
  |.pd cells=>some (rdOf x (.pd cells),.pd (cells.drop off))
  |.ptr id o0=>(gbox σ id).bind fun cells=>some (rdOf x (.ptr id o0)++[(.o id,.ob (.box cells))],.ptr id (o0+off))
  |_=>none
 |.extract x i=>(ev σ x).bind fun av=>match av with
  |.tup avs=>(avs[i]?).bind fun v=>match plainA v with
   |true=>some (rdOf x (.tup avs),v)
   |false=>none
  |_=>none
 |.field t x f=>(ev σ x).bind fun av=>match av with
  |.d (.agg cells)=>(tget T t).bind fun ti=>match ti.kind with
   |.st fs=>(fs[f]?).bind fun p=>match Nat.beq p.2 1 with
    |true=>(cells[p.1]?).bind fun y=>some (rdOf x (.d (.agg cells)),.d y)
    |false=>none
   |_=>none
  |_=>none
 |.call ⟨.builtin .len,⟨[x]⟩,⟨[t]⟩⟩=>(ev σ x).bind fun av=>(tget T t).bind fun ti=>match av with
  |.d (.sl k rows)=>(slK ti).bind fun _=>some (rdOf x (.d (.sl k rows)),.d (.v (.int .i64 rows.length)))
  |.d (.v (.string ⟨⟨l⟩⟩))=>match ti.kind with
   |.str=>some (rdOf x (.d (.v (.string ⟨⟨l⟩⟩))),.d (.v (.int .i64 l.length)))
   |_=>none
  |_=>none
 |_=>none
def freeA:AV→Bool
 |.own _ _=>false
 |.ptr _ _=>false
 |.pe _ _ _ _=>false
 |.h _=>false
 |_=>true
def partsA (σ:St):List (Nat×Operand)→Option (List (Nat×List D)×List (Key×Val))
 | []=>some ([],[])
 |(i,x)::r=>(ev σ x).bind fun av=>(dcells av).bind fun ds=>(partsA σ r).bind fun q=>some ((i,ds)::q.1,rdOf x av++q.2)
def gnum (σ:St):Option Nat:=match get σ .nx with
 |.num n=>some n
 |_=>none
def rowsA (k:Nat):Nat→List (Nat×List D)→Option (List (List D))
 |_,[]=>some []
 |i,(j,r)::q=>match Nat.beq i j&&Nat.beq r.length k with
  |true=>(rowsA k (i+1) q).bind fun rs=>some (r::rs)
  |false=>none
def trA (T:Tbl) (σ:St) (dst:Option Nat) (op:Op):Option Tr:=match dst with
 |some d=>match valA T σ op with
  |some (rd,av)=>some ⟨rd,[(.s d,.av av)]⟩
  |none=>match op with
   |.alloc t=>(gnum σ).bind fun nx=>(tget T t).bind fun ti=>match ti.zero.all Value.oneCell' with
    |true=>some ⟨[(.nx,.num nx)],[(.s d,.av (.ptr nx 0)),(.o nx,.ob (.box (ti.zero.map fun c => .d (.v c)))),(.nx,.num (nx+1))]⟩
    |false=>none
   |.box _ x=>(gnum σ).bind fun nx=>(ev σ x).bind fun av=>match freeA av with
    |true=>(cellsOf av).bind fun cells=>some ⟨(.nx,.num nx)::(rdOf x av++[]),[(.s d,.av (.ptr nx 0)),(.o nx,.ob (.box cells)),(.nx,.num (nx+1))]⟩
    |false=>none
   |.build t ⟨ps⟩=>(tget T t).bind fun ti=>match ti.zero.all Value.oneCell' with
    |true=>(stPlace ti).bind fun place=>(partsA σ ps).bind fun q=>(fillD place (ti.zero.map D.v) q.1).bind fun out=>some ⟨q.2,[(.s d,.av (.d (.agg out)))]⟩
    |false=>none
   |.buildSlice t n ⟨ps⟩=>(tget T t).bind fun ti=>match ti.kind with
    |.sl e k=>match n with
     |0=>match ps with
      | []=>(gnum σ).bind fun nx=>some ⟨[(.nx,.num nx)],[(.s d,.av (.own nx 0)),(.o nx,.ob (.arr e k [])),(.nx,.num (nx+1))]⟩
      |_=>none
     |n+1=>(tget T e).bind fun te=>match te.zero.all Value.oneCell'&&(Nat.ble ((n+1)*k) 65536&&Nat.blt 0 ((n+1)*k)) with
      |true=>(partsA σ ps).bind fun q=>(rowsA k 0 q.1).bind fun rs=>match Nat.beq (n+1) rs.length with
       |true=>some ⟨q.2,[(.s d,.av (.d (.sl k rs)))]⟩
       |false=>none
      |false=>none
    |_=>none
   |_=>none
 |none=>match op with
  |.store t x y=>(ev σ x).bind fun ax=>match ax with
   |.ptr id off=>(gbox σ id).bind fun cells=>(ev σ y).bind fun av=>(tget T t).bind fun ti=>match freeA av with
    |true=>(cellsOf av).bind fun new=>match Nat.beq new.length ti.n&&Nat.ble (off+new.length) cells.length with
     |true=>some ⟨rdOf x (.ptr id off)++(rdOf y av++([]++[(.o id,.ob (.box cells))])),[(.o id,.ob (.box (putCells cells off new)))]⟩
     |false=>none
    |false=>none
   |_=>none
  |_=>none
variable {cx:Cx}{σ:St}{ty:TypeId}{pos:String}{af:Array Edge}{gd:Option (Nat×Bool)}{d:Nat}
theorem cmpI_ok {P:Program}{t:TypeId}{op:BinOp}{k:IntKind}{a b:Int}{r:Bool}(h:cmpI op a b=some r):BinR P op t (.int k a) (.int k b) (.bool r):=by
 cases op <;> simp only[cmpI,Option.some.injEq,reduceCtorEq]at h <;> subst h <;> first|exact bin_lss|exact bin_leq|exact bin_gtr|exact bin_geq|exact bin_eql|exact bin_neq
theorem cmpS_ok {P:Program}{t:TypeId}{op:BinOp}{a b:List UInt8}{r:Bool}(h:cmpS op a b=some r):BinR P op t (str a) (str b) (.bool r):=by
 cases op <;> simp only[cmpS,Option.some.injEq,reduceCtorEq]at h <;> subst h <;> first|exact bin_slss|exact bin_sleq|exact bin_sgtr|exact bin_sgeq|exact bin_seql|exact bin_sneq
theorem cmpA_ok {P:Program}{t:TypeId}{op:BinOp}{u v:Value}{r:Bool}(h:cmpA op u v=some r):BinR P op t u v (.bool r):=by
 unfold cmpA at h
 split at h
 ·
  split at h
  ·
   exact cmpI_ok h
  ·
   cases h
 ·
  split at h
  ·
   exact cmpI_ok h
  ·
   cases h
 ·
  split at h
  ·
   exact cmpI_ok h
  ·
   cases h
 ·
  split at h
  ·
   exact cmpS_ok h
  ·
   cases h
 ·
  cases h
theorem gbox_out {id:Nat}{c:List AV}(h:gbox σ id=some c):get σ (.o id) = .ob (.box c):=by
 unfold gbox at h
 split at h
 ·
  next x hx=>cases h;exact hx
 ·
  cases h
theorem gnum_out {n:Nat}(h:gnum σ=some n):get σ .nx = .num n:=by
 unfold gnum at h
 split at h
 ·
  next x hx=>cases h;exact hx
 ·
  cases h
theorem valA_ok {op:Op}{rd:List (Key×Val)}{av:AV}(hn:d < cx.n) (h:valA cx.T σ op=some (rd,av)):OpOk cx ⟨some d,op,ty,pos,af,gd⟩ ⟨rd,[(.s d,.av av)]⟩∧App σ rd:=by
 unfold valA at h
 split at h
 ·
  simp only[Option.bind_eq_some_iff,Option.some.injEq,Prod.mk.injEq]at h
  obtain⟨x,hx,rfl,rfl⟩:=h
  exact⟨ok_move hn (ev_out hx).1,(ev_out hx).2⟩
 ·
  simp only[Option.bind_eq_some_iff,Option.some.injEq,Prod.mk.injEq]at h
  obtain⟨x,hx,rfl,rfl⟩:=h
  exact⟨ok_assign hn (ev_out hx).1,(ev_out hx).2⟩
 ·
  simp only[Option.bind_eq_some_iff]at h
  obtain⟨x,hx,h⟩:=h
  split at h
  ·
   cases h
   exact⟨ok_not hn (ev_out hx).1,(ev_out hx).2⟩
  ·
   cases h
 ·
  simp only[Option.bind_eq_some_iff]at h
  obtain⟨x,hx,h⟩:=h
  split at h
  ·
   simp only[Option.bind_eq_some_iff]at h
   obtain⟨y,hy,h⟩:=h
   split at h
   ·
    simp only[Option.bind_eq_some_iff]at h
    obtain⟨r,hr,h⟩:=h
    cases h
    exact⟨ok_bin hn (ev_out hx).1 (ev_out hy).1 (cmpA_ok hr),(ev_out hx).2.append (ev_out hy).2⟩
   ·
    cases h
  ·
   cases h
 ·
  simp only[Option.bind_eq_some_iff]at h
  obtain⟨x,hx,ti,ht,h⟩:=h
  split at h
  ·
   simp only[Option.bind_eq_some_iff]at h
   obtain⟨y,hy,h⟩:=h
   cases h
   exact⟨ok_load_pd hn (ev_out hx).1 ht hy,(ev_out hx).2⟩
  ·
   simp only[Option.bind_eq_some_iff]at h
   obtain⟨c,hc,y,hy,h⟩:=h
   cases h
   exact⟨ok_load_ptr hn (ev_out hx).1 ht hy,(ev_out hx).2.append ⟨gbox_out hc,trivial⟩⟩
  ·
   cases h
 ·
  simp only[Option.bind_eq_some_iff]at h
  obtain⟨x,hx,ti,ht,off,hf,h⟩:=h
  split at h
  ·
   cases h
   exact⟨ok_fa_pd hn (ev_out hx).1 ht hf,(ev_out hx).2⟩
  ·
   simp only[Option.bind_eq_some_iff]at h
   obtain⟨c,hc,h⟩:=h
   cases h
   exact⟨ok_fa_ptr hn (ev_out hx).1 ht hf,(ev_out hx).2.append ⟨gbox_out hc,trivial⟩⟩
  ·
   cases h
 ·
  simp only[Option.bind_eq_some_iff]at h
  obtain⟨x,hx,h⟩:=h
  split at h
  ·
   simp only[Option.bind_eq_some_iff]at h
   obtain⟨v,hv,h⟩:=h
   split at h
   ·
    next hp =>
    cases h
    refine⟨ok_extract hn (ev_out hx).1 hv ?_,(ev_out hx).2⟩
    cases av <;> first|trivial|exact absurd hp (by simp[plainA])
   ·
    cases h
  ·
   cases h
 ·
  simp only[Option.bind_eq_some_iff]at h
  obtain⟨x,hx,h⟩:=h
  split at h
  ·
   simp only[Option.bind_eq_some_iff]at h
   obtain⟨ti,ht,h⟩:=h
   split at h
   ·
    next fs hk =>
    simp only[Option.bind_eq_some_iff]at h
    obtain⟨p,hp,h⟩:=h
    split at h
    ·
     next h1 =>
     simp only[Option.bind_eq_some_iff]at h
     obtain⟨y,hy,h⟩:=h
     cases h
     obtain⟨p1,p2⟩:=p
     obtain rfl:p2=1:=by simpa using h1
     exact⟨ok_field hn (ev_out hx).1 ht hk hp hy,(ev_out hx).2⟩
    ·
     cases h
   ·
    cases h
  ·
   cases h
 ·
  simp only[Option.bind_eq_some_iff]at h
  obtain⟨x,hx,ti,ht,h⟩:=h
  split at h
  ·
   simp only[Option.bind_eq_some_iff]at h
   obtain⟨k,hk,h⟩:=h
   cases h
   exact⟨ok_len_sl hn (ev_out hx).1 ht hk,(ev_out hx).2⟩
  ·
   split at h
   ·
    next hk =>
    cases h
    exact⟨ok_len_str hn (ev_out hx).1 ht hk,(ev_out hx).2⟩
   ·
    cases h
  ·
   cases h
 ·
  cases h
theorem partsA_ok:∀ {ps:List (Nat×Operand)}{q:List (Nat×List D)×List (Key×Val)},partsA σ ps=some q→PartsE σ ps q.1 q.2
 | [],q,h=>by cases h;exact .nil
 |(i,x)::r,q,h=>by
  simp only[partsA,Option.bind_eq_some_iff]at h
  obtain⟨av,hx,ds,hd,q',hq,h⟩:=h
  cases h
  exact .cons hx hd (partsA_ok hq)
theorem rowsA_ok {k:Nat}:∀ {q:List (Nat×List D)}{i:Nat}{rs:List (List D)},rowsA k i q=some rs→q=numb i rs∧∀ r∈rs,r.length=k
 | [],i,rs,h=>by cases h;exact⟨rfl,by simp⟩
 |(j,r)::q,i,rs,h=>by
  simp only[rowsA]at h
  split at h
  ·
   next hb =>
   simp only[Option.bind_eq_some_iff]at h
   obtain⟨rs',hr,h⟩:=h
   cases h
   obtain⟨h1,h2⟩:=rowsA_ok hr
   simp only[Bool.and_eq_true,Nat.beq_eq]at hb
   obtain⟨rfl,hk⟩:=hb
   refine⟨by rw[h1];rfl,fun x hx=>?_⟩
   rcases List.mem_cons.1 hx with rfl|hx
   ·
    exact hk
   ·
    exact h2 x hx
  ·
   cases h
theorem freeA_ok {av:AV}(h:freeA av=true):nwRd av []:=by
 cases av <;> first|rfl|cases h
theorem trA_ok {op:Op}{dst:Option Nat}{t:Tr}(hn:(match dst with|some d=>Nat.blt d cx.n|none=>true)=true) (h:trA cx.T σ dst op=some t) :
  OpOk cx ⟨dst,op,ty,pos,af,gd⟩ t∧App σ t.rd:=by
 unfold trA at h
 split at h
 ·
  next d =>
  have hd:d < cx.n:=lt_of_blt hn
  split at h
  ·
   next rd av hv =>
   cases h
   exact valA_ok hd hv
  ·
   clear hn
   split at h
   ·
    simp only[Option.bind_eq_some_iff]at h
    obtain⟨nx,hnx,ti,ht,h⟩:=h
    split at h
    ·
     next h1 =>
     cases h
     exact⟨ok_alloc hd ht fun c hc=>List.all_eq_true.1 h1 c hc,gnum_out hnx,trivial⟩
    ·
     cases h
   ·
    simp only[Option.bind_eq_some_iff]at h
    obtain⟨nx,hnx,av,hx,h⟩:=h
    split at h
    ·
     next h1 =>
     simp only[Option.bind_eq_some_iff]at h
     obtain⟨cells,hc,h⟩:=h
     cases h
     exact⟨ok_box hd (ev_out hx).1 hc (freeA_ok h1),gnum_out hnx,(ev_out hx).2.append trivial⟩
    ·
     cases h
   ·
    simp only[Option.bind_eq_some_iff]at h
    obtain⟨ti,ht,h⟩:=h
    split at h
    ·
     next h1 =>
     simp only[Option.bind_eq_some_iff]at h
     obtain⟨place,hk,q,hq,out,hf,h⟩:=h
     cases h
     exact⟨ok_build hd ht hk (fun c hc=>List.all_eq_true.1 h1 c hc) (partsA_ok hq).out.1 hf,(partsA_ok hq).out.2⟩
    ·
     cases h
   ·
    simp only[Option.bind_eq_some_iff]at h
    obtain⟨ti,ht,h⟩:=h
    split at h
    ·
     next e k hk =>
     split at h
     ·
      split at h
      ·
       simp only[Option.bind_eq_some_iff]at h
       obtain⟨nx,hnx,h⟩:=h
       cases h
       exact⟨ok_buildSlice0 hd ht hk,gnum_out hnx,trivial⟩
      ·
       cases h
     ·
      simp only[Option.bind_eq_some_iff]at h
      obtain⟨te,hte,h⟩:=h
      split at h
      ·
       next h1 =>
       simp only[Option.bind_eq_some_iff]at h
       obtain⟨q,hq,rs,hr,h⟩:=h
       split at h
       ·
        next h2 =>
        cases h
        simp only[Bool.and_eq_true]at h1
        obtain⟨h1,h3,h4⟩:=h1
        obtain⟨h5,h6⟩:=rowsA_ok hr
        have h7:=(partsA_ok hq).out
        rw[h5]at h7
        refine⟨ok_buildSlice hd ht hk hte (fun c hc=>List.all_eq_true.1 h1 c hc) h7.1 h6 (by simpa using h2) (by simpa using h3) (Nat.ne_of_gt (lt_of_blt h4)),h7.2⟩
       ·
        cases h
      ·
       cases h
    ·
     cases h
   ·
    cases h
 ·
  split at h
  ·
   simp only[Option.bind_eq_some_iff]at h
   obtain⟨ax,hx,h⟩:=h
   split at h
   ·
    simp only[Option.bind_eq_some_iff]at h
    obtain⟨cells,hc,av,hy,ti,ht,h⟩:=h
    split at h
    ·
     next h1 =>
     simp only[Option.bind_eq_some_iff]at h
     obtain⟨new,hnew,h⟩:=h
     split at h
     ·
      next h2 =>
      cases h
      simp only[Bool.and_eq_true]at h2
      exact⟨ok_store_ptr (ev_out hx).1 (ev_out hy).1 ht hnew (freeA_ok h1) h2.1 h2.2,(ev_out hx).2.append ((ev_out hy).2.append (App.append (l:=[]) trivial ⟨gbox_out hc,trivial⟩))⟩
     ·
      cases h
    ·
     cases h
   ·
    cases h
  ·
   cases h
variable {ops:Array Oper}{K:List Tr→St→Prop}{acc:List Tr}{rest:List Oper}{o:Oper}
def autA (cx:Cx) (σ:St) (o:Oper):Option Tr:=match o.guard with
 |some _=>none
 |none=>match (match o.dst with|some d=>Nat.blt d cx.n|none=>true) with
  |true=>trA cx.T σ o.dst o.op
  |false=>none
theorem s1 {rd wr:List (Key×Val)}(ha:autA cx σ o=some ⟨rd,wr⟩) (h:RW cx ops K (acc++[⟨rd,wr⟩]) rest (wr++σ)):RW cx ops K acc (o::rest) σ:=by
 obtain⟨dst,op,ty,pos,af,gd⟩:=o
 cases gd with
 |some p=>cases ha
 |none =>
  simp only[autA]at ha
  split at ha
  ·
   next hd =>
   obtain⟨h1,h2⟩:=trA_ok (cx:=cx) (ty:=ty) (pos:=pos) (af:=af) (gd:=none) hd ha
   exact RW.step (.none rfl) h1 h2 h
  ·
   cases ha
def guaA (cx:Cx) (ops:Array Oper) (σ:St) (o:Oper):Option (Nat×Bool×Bool×Tr):=match o.guard with
 |none=>none
 |some (j,want)=>match (ops[j]?).bind (·.dst) with
  |none=>none
  |some q=>match get σ (.s q) with
   |.av (.d (.v (.bool b)))=>match (match o.dst with|some d=>Nat.blt d cx.n|none=>true) with
    |true=>(trA cx.T σ o.dst o.op).bind fun t=>some (q,b,want,t)
    |false=>none
   |_=>none
theorem s2 {q:Nat}{b want:Bool}{rd wr:List (Key×Val)}(ha:guaA cx ops σ o=some (q,b,want,⟨rd,wr⟩)) (hb:b=want) (h:RW cx ops K (acc++[⟨(.s q,bv want)::rd,wr⟩]) rest (wr++σ)):RW cx ops K acc (o::rest) σ:=by
 obtain⟨dst,op,ty,pos,af,gd⟩:=o
 cases gd with
 |none=>cases ha
 |some p =>
  obtain⟨j,w⟩:=p
  simp only[guaA]at ha
  split at ha
  ·
   cases ha
  ·
   next q' hq =>
   split at ha
   ·
    next b' hv =>
    split at ha
    ·
     next hd =>
     simp only[Option.bind_eq_some_iff]at ha
     obtain⟨t,ht,ha⟩:=ha
     cases ha
     subst hb
     obtain⟨h1,h2⟩:=trA_ok (cx:=cx) (ty:=ty) (pos:=pos) (af:=af) (gd:=some (j,b)) hd ht
     exact RW.step (.yes rfl hq hv) h1 h2 h
    ·
     cases ha
   ·
    cases ha
def skiA (cx:Cx) (ops:Array Oper) (σ:St) (o:Oper):Option (Nat×Bool×Bool):=match o.guard with
 |none=>none
 |some (j,want)=>match (ops[j]?).bind (·.dst) with
  |none=>none
  |some q=>match get σ (.s q) with
   |.av (.d (.v (.bool b)))=>match (match o.dst with|some d=>Nat.blt d cx.n|none=>true) with
    |true=>some (q,b,!want)
    |false=>none
   |_=>none
theorem s3 {q:Nat}{b nw:Bool}(ha:skiA cx ops σ o=some (q,b,nw)) (hb:b=nw) (h:RW cx ops K (acc++[⟨[(.s q,bv nw)],skipWr o⟩]) rest (skipWr o++σ)):RW cx ops K acc (o::rest) σ:=by
 unfold skiA at ha
 split at ha
 ·
  cases ha
 ·
  next j w hg =>
  split at ha
  ·
   cases ha
  ·
   next q' hq =>
   split at ha
   ·
    next b' hv =>
    split at ha
    ·
     next hd =>
     cases ha
     exact st_skip (b:=b) hg hq hv hb hd h
    ·
     cases ha
   ·
    cases ha
def skuA (cx:Cx) (ops:Array Oper) (σ:St) (o:Oper):Option Nat:=match o.guard with
 |none=>none
 |some (j,_)=>match (ops[j]?).bind (·.dst) with
  |none=>none
  |some q=>match get σ (.s q) with
   |.av (.d (.v (.tuple ⟨[]⟩)))=>match (match o.dst with|some d=>Nat.blt d cx.n|none=>true) with
    |true=>some q
    |false=>none
   |_=>none
theorem s4 {q:Nat}(ha:skuA cx ops σ o=some q) (h:RW cx ops K (acc++[⟨[(.s q,.av (.d (.v undef)))],skipWr o⟩]) rest (skipWr o++σ)):RW cx ops K acc (o::rest) σ:=by
 unfold skuA at ha
 split at ha
 ·
  cases ha
 ·
  next j w hg =>
  split at ha
  ·
   cases ha
  ·
   next q' hq =>
   split at ha
   ·
    next hv =>
    split at ha
    ·
     next hd =>
     cases ha
     exact st_skip_u hg hq hv hd h
    ·
     cases ha
   ·
    cases ha
structure OA (cx:Cx) (σ:St) (o:Oper) (t:Tr):Prop where
 ok:OpOk cx o t
 app:App σ t.rd
theorem s5 {pre rd wr:List (Key×Val)}(ho:OA cx σ o ⟨rd,wr⟩) (hg:GOk ops σ o pre) (h:RW cx ops K (acc++[⟨pre++rd,wr⟩]) rest (wr++σ)):RW cx ops K acc (o::rest) σ :=
 RW.step hg ho.ok ho.app h
theorem a_pick_t {c x y:Operand}{b:Bool}{av:AV}(hc:ev σ c=some (.d (.v (.bool b)))) (hb:b=true) (hx:ev σ x=some av) (hd:Nat.blt d cx.n=true) :
  OA cx σ ⟨some d,.pick c x y,ty,pos,af,gd⟩ ⟨rdOf c (.d (.v (.bool b)))++rdOf x av,[(.s d,.av av)]⟩:=by
 subst hb
 exact⟨ok_pick (b:=true) (aw:=av) (lt_of_blt hd) (ev_out hc).1 (ev_out hx).1,(ev_out hc).2.append (ev_out hx).2⟩
theorem a_pick_f {c x y:Operand}{b:Bool}{av:AV}(hc:ev σ c=some (.d (.v (.bool b)))) (hb:b=false) (hy:ev σ y=some av) (hd:Nat.blt d cx.n=true) :
  OA cx σ ⟨some d,.pick c x y,ty,pos,af,gd⟩ ⟨rdOf c (.d (.v (.bool b)))++rdOf y av,[(.s d,.av av)]⟩:=by
 subst hb
 exact⟨ok_pick (b:=false) (aw:=av) (lt_of_blt hd) (ev_out hc).1 (ev_out hy).1,(ev_out hc).2.append (ev_out hy).2⟩
theorem a_bin {op:BinOp}{t t':TypeId}{x y:Operand}{u v r:Value}(hx:ev σ x=some (.d (.v u))) (hy:ev σ y=some (.d (.v v))) (hb:BinR cx.P op t u v r) (hd:Nat.blt d cx.n=true) :
  OA cx σ ⟨some d,.binOp op t x y t',ty,pos,af,gd⟩ ⟨rdOf x (.d (.v u))++rdOf y (.d (.v v)),[(.s d,.av (.d (.v r)))]⟩ :=
 ⟨ok_bin (lt_of_blt hd) (ev_out hx).1 (ev_out hy).1 hb,(ev_out hx).2.append (ev_out hy).2⟩
theorem a_agg {op:BinOp}{t t':TypeId}{x y:Operand}{cs es:List D}{us vs:List Value}{r:Value}(hb:BinR cx.P op t (.agg us.toArray) (.agg vs.toArray) r) (hx:ev σ x=some (.d (.agg cs))) (hy:ev σ y=some (.d (.agg es)))
  (hu:cs=us.map D.v) (hv:es=vs.map D.v) (hd:Nat.blt d cx.n=true):OA cx σ ⟨some d,.binOp op t x y t',ty,pos,af,gd⟩ ⟨rdOf x (.d (.agg cs))++rdOf y (.d (.agg es)),[(.s d,.av (.d (.v r)))]⟩:=by
 subst hu hv
 exact⟨ok_binagg (lt_of_blt hd) (ev_out hx).1 (ev_out hy).1 hb,(ev_out hx).2.append (ev_out hy).2⟩
theorem a_ia {t:TypeId}{x y:Operand}{k:Nat}{rows:List (List D)}{kd:IntKind}{i:Int}{ti:TI}{r:List D}(hx:ev σ x=some (.d (.sl k rows))) (hy:ev σ y=some (.d (.v (.int kd i)))) (ht:tget cx.T t=some ti)
  (hk:slK ti=some k) (hd:Nat.blt d cx.n=true) (hi:idx rows i=some r):OA cx σ ⟨some d,.indexAddr t x y,ty,pos,af,gd⟩ ⟨rdOf x (.d (.sl k rows))++rdOf y (.d (.v (.int kd i))),[(.s d,.av (.pd r))]⟩ :=
 ⟨ok_ia_sl (lt_of_blt hd) (ev_out hx).1 (ev_out hy).1 ht hk hi,(ev_out hx).2.append (ev_out hy).2⟩
theorem a_ib {t:TypeId}{x y:Operand}{id o0 n k:Nat}{cells:List AV}{kd:IntKind}{i:Nat}{ti:TI}(hx:ev σ x=some (.ptr id o0)) (ho:get σ (.o id) = .ob (.box cells)) (hy:ev σ y=some (.d (.v (.int kd (i:Int)))))
  (ht:tget cx.T t=some ti) (hk:arK ti=some (n,k)) (hd:Nat.blt d cx.n=true) (hi:i < n) :
  OA cx σ ⟨some d,.indexAddr t x y,ty,pos,af,gd⟩ ⟨(rdOf x (.ptr id o0)++rdOf y (.d (.v (.int kd (i:Int)))))++[(.o id,.ob (.box cells))],[(.s d,.av (.ptr id (o0+i*k)))]⟩ :=
 ⟨ok_ia_ptr (lt_of_blt hd) (ev_out hx).1 (ev_out hy).1 ht hk hi,((ev_out hx).2.append (ev_out hy).2).append ⟨ho,trivial⟩⟩
theorem a_is {t:TypeId}{x y:Operand}{l:List UInt8}{kd:IntKind}{k:Nat}{c:UInt8}{ti:TI}(hx:ev σ x=some (.d (.v (str l)))) (hy:ev σ y=some (.d (.v (.int kd (k:Int))))) (ht:tget cx.T t=some ti) (hk:ti.kind = .str)
  (hd:Nat.blt d cx.n=true) (hc:l[k]? = some c):OA cx σ ⟨some d,.index t x y,ty,pos,af,gd⟩ ⟨rdOf x (.d (.v (str l)))++rdOf y (.d (.v (.int kd (k:Int)))),[(.s d,.av (.d (.v (.int .u8 c.toNat))))]⟩ :=
 ⟨ok_index_str (lt_of_blt hd) (ev_out hx).1 (ev_out hy).1 ht hk (by omega) (by simpa using hc),(ev_out hx).2.append (ev_out hy).2⟩
theorem a_store {t:TypeId}{x y:Operand}{id off:Nat}{cells new:List AV}{av:AV}{ti:TI}{l:List (Key×Val)}(hx:ev σ x=some (.ptr id off)) (ho:get σ (.o id) = .ob (.box cells)) (hy:ev σ y=some av) (ht:tget cx.T t=some ti)
  (hc:cellsOf av=some new) (hnn:Nat.beq new.length ti.n=true) (hle:Nat.ble (off+new.length) cells.length=true) (hl:nwRd av l∧App σ l) :
  OA cx σ ⟨none,.store t x y,ty,pos,af,gd⟩ ⟨rdOf x (.ptr id off)++(rdOf y av++(l++[(.o id,.ob (.box cells))])),[(.o id,.ob (.box (putCells cells off new)))]⟩ :=
 ⟨ok_store_ptr (ev_out hx).1 (ev_out hy).1 ht hc hl.1 hnn hle,(ev_out hx).2.append ((ev_out hy).2.append (hl.2.append ⟨ho,trivial⟩))⟩
theorem a_box {t:TypeId}{x:Operand}{av:AV}{cells:List AV}{l:List (Key×Val)}{nx:Nat}(hx:ev σ x=some av) (hnx:get σ .nx = .num nx) (hc:cellsOf av=some cells) (hd:Nat.blt d cx.n=true) (hl:nwRd av l∧App σ l) :
  OA cx σ ⟨some d,.box t x,ty,pos,af,gd⟩ ⟨(.nx,.num nx)::(rdOf x av++l),[(.s d,.av (.ptr nx 0)),(.o nx,.ob (.box cells)),(.nx,.num (nx+1))]⟩ :=
 ⟨ok_box (lt_of_blt hd) (ev_out hx).1 hc hl.1,hnx,(ev_out hx).2.append hl.2⟩
theorem a_bs {t e n k:Nat}{ps:List (Nat×Operand)}(rs:List (List D)) {l:List (Key×Val)}{ti te:TI}(ht:tget cx.T t=some ti) (hk:ti.kind = .sl e k)
  (hte:tget cx.T e=some te) (h1:(te.zero.all Value.oneCell')=true) (hrs:(rs.all fun r=>Nat.beq r.length k)=true) (hnl:n=rs.length) (hsm:Nat.ble (n*k) 65536=true) (hpos:Nat.blt 0 (n*k)=true)
  (hd:Nat.blt d cx.n=true) (hp:PartsE σ ps (numb 0 rs) l):OA cx σ ⟨some d,.buildSlice t n ⟨ps⟩,ty,pos,af,gd⟩ ⟨l,[(.s d,.av (.d (.sl k rs)))]⟩ :=
 ⟨ok_buildSlice (lt_of_blt hd) ht hk hte (fun c hc=>List.all_eq_true.1 h1 c hc) hp.out.1 (fun r hr=>by simpa using List.all_eq_true.1 hrs r hr) hnl (by simpa using hsm) (Nat.ne_of_gt (lt_of_blt hpos)),hp.out.2⟩
theorem a_app {t e k id n:Nat}{x y:Operand}{rows rows2:List (List D)}{ti te:TI}(hx:ev σ x=some (.own id n)) (ho:get σ (.o id) = .ob (.arr e k rows)) (hy:ev σ y=some (.d (.sl k rows2))) (ht:tget cx.T t=some ti) (hk:ti.kind = .sl e k)
  (hte:tget cx.T e=some te) (hby:Nat.ble te.bytes 65536=true) (hd:Nat.blt d cx.n=true) (hnn:n=rows.length) (hlen:rows.length+rows2.length≤1073741824) :
  OA cx σ ⟨some d,.call { callee := .builtin .append,args := #[x,y],argTypes := #[t,t] },ty,pos,af,gd⟩
   ⟨rdOf x (.own id n)++(rdOf y (.d (.sl k rows2))++[(.o id,.ob (.arr e k rows))]),[(.s d,.av (.own id (n+rows2.length))),(.o id,.ob (.arr e k (rows++rows2)))]⟩ :=
 ⟨ok_append (lt_of_blt hd) (ev_out hx).1 (ev_out hy).1 ht hk hte (by simpa using hby) hnn hlen,(ev_out hx).2.append ((ev_out hy).2.append ⟨ho,trivial⟩)⟩
theorem a_from {t:TypeId}{x lo:Operand}{kd:IntKind}{m:Int}{k:Nat}{rows out:List (List D)}{ti:TI}(hx:ev σ x=some (.d (.sl k rows))) (hlo:ev σ lo=some (.d (.v (.int kd m)))) (ht:tget cx.T t=some ti) (hk:slK ti=some k)
  (hd:Nat.blt d cx.n=true) (hc:cutI rows (some m) none=some out):OA cx σ ⟨some d,.slice t x (some lo) none none,ty,pos,af,gd⟩ ⟨rdOf x (.d (.sl k rows))++(rdOf lo (.d (.v (.int kd m)))++[]),[(.s d,.av (.d (.sl k out)))]⟩ :=
 ⟨ok_slice (lt_of_blt hd) (ev_out hx).1 (.at_ (ev_out hlo).1) .no ht hk hc,(ev_out hx).2.append ((ev_out hlo).2.append trivial)⟩
theorem a_to {t:TypeId}{x hi:Operand}{kd:IntKind}{m:Int}{k:Nat}{rows out:List (List D)}{ti:TI}(hx:ev σ x=some (.d (.sl k rows))) (hhi:ev σ hi=some (.d (.v (.int kd m)))) (ht:tget cx.T t=some ti) (hk:slK ti=some k)
  (hd:Nat.blt d cx.n=true) (hc:cutI rows none (some m)=some out):OA cx σ ⟨some d,.slice t x none (some hi) none,ty,pos,af,gd⟩ ⟨rdOf x (.d (.sl k rows))++([]++rdOf hi (.d (.v (.int kd m)))),[(.s d,.av (.d (.sl k out)))]⟩ :=
 ⟨ok_slice (lt_of_blt hd) (ev_out hx).1 .no (.at_ (ev_out hhi).1) ht hk hc,(ev_out hx).2.append (App.append (l:=[]) trivial (ev_out hhi).2)⟩
theorem a_call {f:FuncId}{xs:List Operand}{avs:List AV}{ys:List Arg}{l:List (Key×Val)}{r:Res}{ats:Array TypeId}(hc:FnOk cx.P f ys r) (hd:Nat.blt d cx.n=true) (hsub:SubsE σ xs avs ys l) :
  OA cx σ ⟨some d,.call { callee := .value (.func f),args:=⟨xs⟩,argTypes:=ats },ty,pos,af,gd⟩ ⟨l,[(.s d,.av r.av)]⟩ :=
 ⟨ok_call (lt_of_blt hd) hc hsub.out.1,hsub.out.2⟩
abbrev sd (i:Nat) (x:D):Key×Val:=(.s i,.av (.d x))
abbrev sp (i id:Nat):Key×Val:=(.s i,.av (.ptr id 0))
abbrev so (i id n:Nat):Key×Val:=(.s i,.av (.own id n))
abbrev ob (id:Nat) (cells:List D):Key×Val:=(.o id,.ob (.box (cells.map AV.d)))
abbrev oa (id e k:Nat) (rows:List (List D)):Key×Val:=(.o id,.ob (.arr e k rows))
abbrev nxt (n:Nat):Key×Val:=(.nx,.num n)
end Go.AX
