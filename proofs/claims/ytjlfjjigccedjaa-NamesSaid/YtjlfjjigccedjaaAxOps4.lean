/-
  Structs and slices that are built; slices of slices; append.
-/
import Derived.Test.YtjlfjjigccedjaaAxFn
import Derived.Laws.Tables
import Derived.Great.BuildSlice
namespace Go.AX
open Go.RowKit

variable {cx : Cx} {g : Nat → Value} {σ : St} {a : Act} {w : World} {nx : Nat}
variable {ty : TypeId} {pos : String} {af : Array Edge} {gd : Option (Nat × Bool)} {d : Nat}

/-- A list of cells, and what each reads as. -/
def RdL (w : World) (own : Nat → Prop) (cs : List Value) (ds : List D) : Prop :=
  cs.length = ds.length ∧ (∀ c ∈ cs, Value.oneCell' c = true) ∧ ∀ (j : Nat) (c : Value) (x : D), ds[j]? = some x → cs[j]? = some c → Rd w own c x

def splice {α : Type} (l : List α) (off : Nat) (new : List α) : List α := l.take off ++ new ++ l.drop (off + new.length)

theorem RdL.splice {own : Nat → Prop} {cs ns : List Value} {ds es : List D} {off : Nat} (h : RdL w own cs ds) (hn : RdL w own ns es) (hle : off + es.length ≤ ds.length) : RdL w own (splice cs off ns) (splice ds off es) := by
  obtain ⟨h1, h2, h3⟩ := h
  obtain ⟨n1, n2, n3⟩ := hn
  refine ⟨by simp [AX.splice]; omega, fun c hc => ?_, fun j c x hx hc => ?_⟩
  · unfold AX.splice at hc
    rcases List.mem_append.1 hc with hc | hc
    · rcases List.mem_append.1 hc with hc | hc
      · exact h2 c (List.mem_of_mem_take hc)
      · exact n2 c hc
    · exact h2 c (List.mem_of_mem_drop hc)
  · unfold AX.splice at hx hc
    rw [List.append_assoc] at hx hc
    have t1 : (ds.take off).length = off := by simp; omega
    have t2 : (cs.take off).length = off := by simp; omega
    rcases Nat.lt_or_ge j off with hj | hj
    · rw [List.getElem?_append_left (by omega), List.getElem?_take, if_pos hj] at hx hc
      exact h3 j c x hx hc
    · rw [List.getElem?_append_right (by omega), t1] at hx
      rw [List.getElem?_append_right (by omega), t2] at hc
      rcases Nat.lt_or_ge (j - off) es.length with hjn | hjn
      · rw [List.getElem?_append_left hjn] at hx
        rw [List.getElem?_append_left (by omega)] at hc
        exact n3 _ c x hx hc
      · rw [List.getElem?_append_right hjn, List.getElem?_drop] at hx
        rw [List.getElem?_append_right (by omega), List.getElem?_drop] at hc
        rw [n1] at hc
        exact h3 _ c x hx hc

theorem foldl_set (off : Nat) : ∀ (vs : List Value) (j : Nat) (cs : Array Value), off + j + vs.length ≤ cs.size →
    ((vs.zipIdx j).foldl (fun cs (c, j) => cs.setIfInBounds (off + j) c) cs).toList = splice cs.toList (off + j) vs
  | [], j, cs, _ => by simp [splice]
  | v :: vs, j, cs, h => by
    simp only [List.length_cons] at h
    simp only [List.zipIdx_cons, List.foldl_cons]
    rw [show (fun (cs : Array Value) (x : Value × Nat) => cs.setIfInBounds (off + x.2) x.1) = (fun cs (c, j) => cs.setIfInBounds (off + j) c) from rfl]
    rw [foldl_set off vs (j + 1) (cs.setIfInBounds (off + j) v) (by simp; omega)]
    apply List.ext_getElem?
    intro i
    simp only [splice, List.append_assoc, List.length_cons, Array.toList_setIfInBounds]
    have t1 : ∀ n, n ≤ cs.size → (cs.toList.take n).length = n := fun n hn => by simp; omega
    have t2 : ∀ n, n ≤ cs.size → ((cs.toList.set (off + j) v).take n).length = n := fun n hn => by simp; omega
    rcases Nat.lt_trichotomy i (off + j) with hi | hi | hi
    · rw [List.getElem?_append_left (by rw [t2 _ (by omega)]; omega), List.getElem?_take, if_pos (by omega), List.getElem?_set_ne (by omega),
        List.getElem?_append_left (by rw [t1 _ (by omega)]; omega), List.getElem?_take, if_pos hi]
    · subst hi
      rw [List.getElem?_append_left (by rw [t2 _ (by omega)]; omega), List.getElem?_take, if_pos (by omega), List.getElem?_set_self (by simp; omega),
        List.getElem?_append_right (by rw [t1 _ (by omega)]; omega), t1 _ (by omega), Nat.sub_self]
      rfl
    · rw [List.getElem?_append_right (l₁ := (cs.toList.set (off + j) v).take (off + (j + 1))) (by rw [t2 _ (by omega)]; omega), t2 _ (by omega), List.getElem?_append_right (l₁ := cs.toList.take (off + j)) (by rw [t1 _ (by omega)]; omega), t1 _ (by omega),
        show i - (off + j) = (i - (off + (j + 1))) + 1 by omega]
      simp only [List.cons_append, List.getElem?_cons_succ]
      rcases Nat.lt_or_ge (i - (off + (j + 1))) vs.length with hv | hv
      · rw [List.getElem?_append_left hv, List.getElem?_append_left hv]
      · rw [List.getElem?_append_right hv, List.getElem?_append_right hv, List.getElem?_drop, List.getElem?_drop, List.getElem?_set_ne (by omega)]
        congr 1; omega

/-- The parts of a literal, in the abstract. -/
def fillD (place : Nat → Option (Nat × Nat)) : List D → List (Nat × List D) → Option (List D)
  | ds, [] => some ds
  | ds, (i, es) :: r => match place i with
    | none => none
    | some (off, size) => match Nat.beq es.length size with
      | false => none
      | true => match Nat.ble (off + es.length) ds.length with
        | false => none
        | true => fillD place (splice ds off es) r

theorem fill_ok {own : Nat → Prop} {place : Nat → Option (Nat × Nat)} : ∀ {ps : List (Nat × Value)} {qs : List (Nat × List D)} {cs : Array Value} {ds out : List D},
    ps.length = qs.length → (∀ (j : Nat) (p : Nat × Value) (q : Nat × List D), ps[j]? = some p → qs[j]? = some q → p.1 = q.1 ∧ RdL w own p.2.cells.toList q.2) →
    RdL w own cs.toList ds → fillD place ds qs = some out → ∃ cs', Instr.fill place cs ps = some cs' ∧ RdL w own cs'.toList out
  | [], [], cs, ds, out, _, _, h, hf => by
    simp only [fillD, Option.some.injEq] at hf
    subst hf
    exact ⟨cs, rfl, h⟩
  | p :: ps, (i, es) :: qs, cs, ds, out, hl, hp, h, hf => by
    obtain ⟨hp1, hp2⟩ := hp 0 p (i, es) rfl rfl
    simp only [fillD] at hf
    split at hf
    · cases hf
    · next off size hpl =>
      split at hf
      · cases hf
      · next hb1 =>
        split at hf
        · cases hf
        · next hb2 =>
          have e1 : es.length = size := by simpa using hb1
          have e2 : off + es.length ≤ ds.length := by simpa using hb2
          have hsz : p.2.cells.size = es.length := by have := hp2.1; simpa using this
          have hcs : cs.size = ds.length := by have := h.1; simpa using this
          have hsp := foldl_set off p.2.cells.toList 0 cs (by simp; omega)
          rw [Nat.add_zero] at hsp
          have hr := h.splice hp2 e2
          rw [← hsp] at hr
          obtain ⟨cs', h3, h4⟩ := fill_ok (ps := ps) (qs := qs) (by simpa using hl) (fun j p q hj hq => hp (j + 1) p q (by simpa using hj) (by simpa using hq)) hr hf
          refine ⟨cs', ?_, h4⟩
          obtain ⟨pi, pv⟩ := p
          simp only at hp1 hsz
          subst hp1
          simp only [Instr.fill, hpl, hsz, e1, ne_eq, not_true_eq_false, decide_false, Bool.false_or]
          rw [if_neg (by simp; omega)]
          rw [← h3]
          have hfo : pv.cells.zipIdx.foldl (fun (cs : Array Value) (x : Value × Nat) => match x with | (c, j) => cs.setIfInBounds (off + j) c) cs =
              List.foldl (fun (cs : Array Value) (x : Value × Nat) => match x with | (c, j) => cs.setIfInBounds (off + j) c) cs pv.cells.toList.zipIdx := by
            rw [← Array.foldl_toList, Array.toList_zipIdx]
          rw [← hfo]

/-- The cells of an operand that is a part of a literal. -/
def unD : List AV → Option (List D)
  | [] => some []
  | .d x :: r => (unD r).map (x :: ·)
  | _ :: _ => none
def dcells : AV → Option (List D)
  | .d (.agg ds) => some ds
  | .d (.v (.agg _)) => none
  | .d (.v (.tuple _)) => none
  | .d x => some [x]
  | .agg cells => unD cells
  | _ => none

theorem unD_map : ∀ {cells : List AV} {ds : List D}, unD cells = some ds → cells = ds.map AV.d
  | [], ds, h => by simp only [unD, Option.some.injEq] at h; subst h; rfl
  | .d x :: r, ds, h => by
    simp only [unD, Option.map_eq_some_iff] at h
    obtain ⟨es, h1, rfl⟩ := h
    rw [unD_map h1]; rfl
  | .pd _ :: _, _, h => by simp [unD] at h
  | .ptr _ _ :: _, _, h => by simp [unD] at h
  | .own _ _ :: _, _, h => by simp [unD] at h
  | .pe _ _ _ _ :: _, _, h => by simp [unD] at h
  | .agg _ :: _, _, h => by simp [unD] at h
  | .tup _ :: _, _, h => by simp [unD] at h
  | .any :: _, _, h => by simp [unD] at h

theorem dcells_ok (hs : SimG cx σ a w g nx) {x : Value} {av : AV} {ds : List D} (h : Rep cx g σ w x av) (hc : dcells av = some ds) : RdL w (cx.own g σ) x.cells.toList ds := by
  have key : ∃ cells, cellsOf av = some cells ∧ cells = ds.map AV.d ∧ av.bd nx := by
    cases av with
    | d y =>
      cases y with
      | v y => cases y <;> simp only [dcells, Option.some.injEq, reduceCtorEq] at hc <;> subst hc <;> exact ⟨_, rfl, rfl, trivial⟩
      | sl k r => simp only [dcells, Option.some.injEq] at hc; subst hc; exact ⟨_, rfl, rfl, trivial⟩
      | agg es => simp only [dcells, Option.some.injEq] at hc; subst hc; exact ⟨_, rfl, rfl, trivial⟩
    | agg cells =>
      have := unD_map hc
      subst this
      exact ⟨_, rfl, rfl, fun av hav => by obtain ⟨z, _, rfl⟩ := List.mem_map.1 hav; trivial⟩
    | pd y => cases hc
    | ptr i o => cases hc
    | own i n => cases hc
    | pe i n p q => cases hc
    | tup c => cases hc
    | any => cases hc
  obtain ⟨cells, h1, rfl, hb⟩ := key
  have hone : One x av := by cases av <;> first | trivial | (simp [dcells] at hc)
  obtain ⟨c1, c2, c3, _⟩ := cells_of h hb h1 hone
  have _ := hs
  refine ⟨by simpa using c1, fun c hc => ?_, fun j c y hy hc => ?_⟩
  · obtain ⟨j, hj⟩ := List.getElem?_of_mem hc
    exact c2 j c (by simpa using hj)
  · exact c3 j c (.d y) (by rw [List.getElem?_map, hy]; rfl) (by simpa using hc)

/-- The operands of a literal's parts. -/
inductive Parts : List (Nat × Operand) → List (Nat × List D) → List (Key × Val) → Prop
  | nil : Parts [] [] []
  | cons {i : Nat} {x : Operand} {r : List (Nat × Operand)} {av : AV} {ds : List D} {q : List (Nat × List D)} {l : List (Key × Val)} (hx : EvS x av) (hc : dcells av = some ds) (hr : Parts r q l) :
      Parts ((i, x) :: r) ((i, ds) :: q) (rdOf x av ++ l)

theorem Parts.ok (hs : SimG cx σ a w g nx) {ps : List (Nat × Operand)} {qs : List (Nat × List D)} {l : List (Key × Val)} (h : Parts ps qs l) (ha : App σ l) :
    (ps.map fun p => (p.1, a.eval p.2)).length = qs.length ∧
    ∀ (j : Nat) (p : Nat × Value) (q : Nat × List D), (ps.map fun p => (p.1, a.eval p.2))[j]? = some p → qs[j]? = some q → p.1 = q.1 ∧ RdL w (cx.own g σ) p.2.cells.toList q.2 := by
  induction h with
  | nil => exact ⟨rfl, fun j p q h => by simp at h⟩
  | cons hx hc hr ih =>
    obtain ⟨h1, h2⟩ := ih ha.right
    refine ⟨by simpa using h1, fun j p q hj hq => ?_⟩
    cases j with
    | zero =>
      simp at hj hq
      subst hj hq
      exact ⟨rfl, dcells_ok hs (hs.ev hx ha.left).1 hc⟩
    | succ j => exact h2 j p q (by simpa using hj) (by simpa using hq)

theorem zero_rd {own : Nat → Prop} {zs : List Value} (h1 : ∀ c ∈ zs, Value.oneCell' c = true) : RdL w own zs (zs.map D.v) :=
  ⟨by simp, h1, fun j c x hx hc => by
    rw [List.getElem?_map, hc] at hx
    obtain rfl : D.v c = x := by simpa using hx
    exact .v c⟩

def stPlace (ti : TI) : Option (Nat → Option (Nat × Nat)) := match ti.kind with
  | .st fs => some (fs[·]?)
  | _ => none

theorem ok_build {t : TypeId} {ps : List (Nat × Operand)} {qs : List (Nat × List D)} {l : List (Key × Val)} {ti : TI} {place : Nat → Option (Nat × Nat)} {out : List D} (hn : d < cx.n) (ht : tget cx.T t = some ti)
    (hk : stPlace ti = some place) (h1 : ∀ c ∈ ti.zero, Value.oneCell' c = true) (hp : Parts ps qs l) (hf : fillD place (ti.zero.map D.v) qs = some out) :
    OpOk cx ⟨some d, .build t ⟨ps⟩, ty, pos, af, gd⟩ ⟨l, [(.s d, .av (.d (.agg out)))]⟩ := by
  refine ok_val rfl hn fun σ a w g nx hs hr => ?_
  have hF := cx.hT t ti ht
  obtain ⟨i, hi, _, _, z, hz, hzc⟩ := hF.info
  unfold stPlace at hk
  split at hk
  · next fs hkd =>
    cases hk
    have hkk := hF.kind
    rw [hkd] at hkk
    obtain ⟨b, hu, hbl, hg⟩ := hkk
    have hpl : b.toList.mapM (fun f => (cx.P.info? f.type).map fun i => (f.offset, i.size)) = some fs := by
      have key : ∀ (bl : List Field) (fl : List (Nat × Nat)), bl.length = fl.length → (∀ (j : Nat) (p : Nat × Nat), fl[j]? = some p → ∃ (f : Field) (i : TypeInfo), bl[j]? = some f ∧ f.offset = p.1 ∧ cx.P.info? f.type = some i ∧ i.size = p.2) →
          bl.mapM (fun f => (cx.P.info? f.type).map fun i => (f.offset, i.size)) = some fl := by
        intro bl
        induction bl with
        | nil => intro fl hl _; cases fl with
          | nil => rfl
          | cons p fl => simp at hl
        | cons f bl ih => intro fl hl hh; cases fl with
          | nil => simp at hl
          | cons p fl =>
            obtain ⟨f', i', e1, e2, e3, e4⟩ := hh 0 p rfl
            simp at e1
            subst e1
            have := ih fl (by simpa using hl) fun j q hq => by
              obtain ⟨f', i', e⟩ := hh (j + 1) q (by simpa using hq)
              exact ⟨f', i', by simpa using e⟩
            simp [List.mapM_cons, e3, this, e2, e4]
      exact key b.toList fs (by simpa using hbl) fun j p hj => by
        obtain ⟨f, i, e1, e2, e3, e4, _⟩ := hg j p hj
        exact ⟨f, i, by simpa using e1, e2, e3, e4⟩
    obtain ⟨h2, h3⟩ := hp.ok hs hr
    obtain ⟨cs', h4, h5, h6, h7⟩ := fill_ok (cs := z.cells) h2 h3 (by rw [hzc]; exact zero_rd h1) hf
    have hb : cx.P.built t (ps.map fun p => (p.1, a.eval p.2)) = some cs' := by
      simp only [Program.built, hi, hu, hz, hpl]
      rw [← h4]
      congr 1
      funext j
      simp
    have hrun := run_build (P := cx.P) w t (ps.map fun p => (p.1, a.eval p.2)).toArray cs' (by simpa using hb)
    refine ⟨.agg cs', w, ?_, Below.refl _ _, .agg cs' out (by simpa using h5) (fun j c hj => h6 c (List.mem_of_getElem? (by simpa using hj))) (fun j x c hx hc => h7 j c x hx (by simpa using hc)), trivial⟩
    simp only [execOp, List.map_toArray, Sem.run_bind, hrun, Result.andThen_ok, Sem.run_pure]
  · cases hk

end Go.AX
