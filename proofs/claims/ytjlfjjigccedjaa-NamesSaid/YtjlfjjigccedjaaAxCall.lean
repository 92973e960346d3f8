/-
  A function's contract in abstract data, and a call by it; nil slices read as empty ones.
-/
import Derived.Test.YtjlfjjigccedjaaAxOps3
namespace Go.AX
open Go.RowKit

/-- The tree says less than the other: a nil slice is an empty one. -/
inductive DLe : D → D → Prop
  | refl (x : D) : DLe x x
  | nil (k : Nat) : DLe (.v nilS) (.sl k [])
  | agg (a b : List D) (hl : a.length = b.length) (h : ∀ (j : Nat) (x y : D), a[j]? = some x → b[j]? = some y → DLe x y) : DLe (.agg a) (.agg b)
  | sl (k : Nat) (a b : List (List D)) (hl : a.length = b.length) (hr : ∀ (i : Nat) (r s : List D), a[i]? = some r → b[i]? = some s → r.length = s.length)
      (h : ∀ (i j : Nat) (r s : List D) (x y : D), a[i]? = some r → b[i]? = some s → r[j]? = some x → s[j]? = some y → DLe x y) : DLe (.sl k a) (.sl k b)

theorem get_pair {α β : Type} {a : List α} {b : List β} {j : Nat} {y : β} (hl : a.length = b.length) (h : b[j]? = some y) : ∃ x, a[j]? = some x := by
  have := (List.getElem?_eq_some_iff.1 h).1
  exact ⟨a[j]'(by omega), List.getElem?_eq_getElem (by omega)⟩

theorem Rd.le {w : World} {own : Nat → Prop} {v : Value} {x y : D} (hle : DLe x y) (h : Rd w own v x) : Rd w own v y := by
  induction hle generalizing v with
  | refl x => exact h
  | nil k => exact h.nilS_sl k
  | agg a b hl _ ih =>
    generalize hD : D.agg a = D0 at h
    cases h with
    | v => cases hD
    | sl => cases hD
    | nil => cases hD
    | agg cs ds hs h1 hr =>
      cases hD
      refine .agg cs b (by omega) h1 fun j d c hd hc => ?_
      obtain ⟨x, hx⟩ := get_pair hl hd
      exact ih j x d hx hd (hr j x c hx hc)
  | sl k a b hl hrl _ ih =>
    generalize hD : D.sl k a = D0 at h
    cases h with
    | v => cases hD
    | agg => cases hD
    | nil p c =>
      cases hD
      obtain rfl : b = [] := List.eq_nil_of_length_eq_zero (by simpa using hl.symm)
      exact .nil p c k
    | sl ad cap k' rows f hb hsz hcap hk hc h1 hr =>
      cases hD
      have hgo : ∀ {i j : Nat} {s : List D} {y : D}, b[i]? = some s → s[j]? = some y → ∃ r x, a[i]? = some r ∧ r[j]? = some x := by
        intro i j s y hs hy
        obtain ⟨r, hr'⟩ := get_pair hl hs
        obtain ⟨x, hx⟩ := get_pair (hrl i r s hr' hs) hy
        exact ⟨r, x, hr', hx⟩
      rw [hl]
      refine .sl ad cap k b f hb hsz (by omega) (fun s hs => ?_) (fun i j s y hs hy => ?_) (fun i j s y hs hy => ?_) fun i j s y hs hy => ?_
      · obtain ⟨i, hi⟩ := List.getElem?_of_mem hs
        obtain ⟨r, hr'⟩ := get_pair hl hi
        rw [← hrl i r s hr' hi]
        exact hk r (List.mem_of_getElem? hr')
      · obtain ⟨r, x, h2, h3⟩ := hgo hs hy
        exact hc i j r x h2 h3
      · obtain ⟨r, x, h2, h3⟩ := hgo hs hy
        exact h1 i j r x h2 h3
      · obtain ⟨r, x, h2, h3⟩ := hgo hs hy
        exact ih i j r s x y h2 hs h3 hy (hr i j r x h2 h3)

/-- An argument: data, or a pointer to cells that are only read. -/
inductive Arg where
  | d (x : D)
  | pd (cells : List D)

def ArgOk (w : World) (own : Nat → Prop) (v : Value) : Arg → Prop
  | .d x => Rd w own v x
  | .pd cells => ∃ ad : Addr, v = .pointer (some ad) ∧ ad.block < w.heap.size ∧ RdCells w own ad cells

/-- What comes back: one result, or several. -/
inductive Res where
  | one (x : D)
  | tup (xs : List D)

def ResOk (w : World) (own : Nat → Prop) (v : Value) : Res → Prop
  | .one x => Rd w own v x
  | .tup xs => ∃ vs : Array Value, v = .tuple vs ∧ vs.size = xs.length ∧ ∀ (j : Nat) (c : Value) (x : D), xs[j]? = some x → vs[j]? = some c → Rd w own c x

def ArgsOk (w : World) (own : Nat → Prop) : List Value → List Arg → Prop
  | [], [] => True
  | v :: vs, x :: xs => ArgOk w own v x ∧ ArgsOk w own vs xs
  | _, _ => False

/-- The function's contract: whoever calls it with such data gets that data; nothing that was there has turned. -/
structure FnOk (P : Program) (f : FuncId) (args : List Arg) (res : Res) : Prop where
  run : ∃ fn, P.funcs[f]? = some fn ∧ (fn.name == "runtime.NumGoroutine") = false ∧ fn.body.isNone = false
  calls : ∀ (w : World) (own : Nat → Prop) (vs : List Value), (∀ b, own b → b < w.heap.size) → ArgsOk w own vs args →
    Calls P f vs.toArray w fun e w' => ∃ v, e = .returned v ∧ Below w.heap.size w w' ∧ ResOk w' own v res

def Res.av : Res → AV
  | .one x => .d x
  | .tup xs => .tup (xs.map AV.d)

variable {cx : Cx} {g : Nat → Value} {σ : St} {a : Act} {w : World} {nx : Nat}
variable {ty : TypeId} {pos : String} {af : Array Edge} {gd : Option (Nat × Bool)} {d : Nat}

/-- A value is handed over as such an argument; what it leans on. -/
inductive Sub : AV → Arg → List (Key × Val) → Prop
  | d {x y : D} (h : DLe x y) : Sub (.d x) (.d y) []
  | agg {cells : List AV} {ds es : List D} (h : cells = ds.map AV.d) (hle : DLe (.agg ds) (.agg es)) : Sub (.agg cells) (.d (.agg es)) []
  | pd {cells : List D} : Sub (.pd cells) (.pd cells) []
  | ptr {id off : Nat} {cells : List AV} {ds : List D} (h : cells.drop off = ds.map AV.d) : Sub (.ptr id off) (.pd ds) [(.o id, .ob (.box cells))]

theorem Sub.ok (hs : SimG cx σ a w g nx) {v : Value} {av : AV} {x : Arg} {l : List (Key × Val)} (hr : Rep cx g σ w v av) (ha : App σ l) (h : Sub av x l) :
    ArgOk w (cx.own g σ) v x := by
  cases h with
  | d h => exact Rd.le h hr
  | agg h hle =>
    subst h
    obtain ⟨cs, rfl, h1, h2, h3⟩ := hr
    refine Rd.le hle (.agg cs _ (by simpa using h1) h2 fun j z c hz hc => ?_)
    exact h3 j c (.d z) (by rw [List.getElem?_map, hz]; rfl) hc
  | pd =>
    obtain ⟨ad, h1, _, h2, h3⟩ := hr
    exact ⟨ad, h1, h2, h3⟩
  | @ptr id off cells ds h =>
    have ho : get σ (.o id) = .ob (.box cells) := ha.1
    obtain ⟨b0, hg0, hv⟩ := hr cells ho
    obtain ⟨_, ⟨b, cs, et, hg, _, hh, hsz, h1, hrep⟩, _⟩ := hs.objs id _ ho
    have hbb : b0 = b := by rw [hg0] at hg; simpa using hg
    subst hbb
    have hlt : b0 < w.heap.size := by
      rcases Nat.lt_or_ge b0 w.heap.size with h | h
      · exact h
      · rw [Array.getElem?_eq_none h] at hh; cases hh
    refine ⟨_, hv, hlt, fun j z hz => ?_⟩
    have hc : cells[off + j]? = some (.d z) := by
      rw [← List.getElem?_drop, h, List.getElem?_map, hz]; rfl
    have hl : off + j < cs.size := by have := (List.getElem?_eq_some_iff.1 hc).1; omega
    have hcs : cs[off + j]? = some cs[off + j] := Array.getElem?_eq_getElem hl
    refine ⟨cs[off + j], by rw [add_lit]; simp [World.cell?, hh, hcs], h1 _ _ hcs, hrep _ _ _ hc hcs⟩

/-- The operands of a call, one behind the other. -/
inductive Subs : List Operand → List AV → List Arg → List (Key × Val) → Prop
  | nil : Subs [] [] [] []
  | cons {x : Operand} {xs : List Operand} {av : AV} {avs : List AV} {y : Arg} {ys : List Arg} {l l' : List (Key × Val)} (hx : EvS x av) (h : Sub av y l) (hr : Subs xs avs ys l') :
      Subs (x :: xs) (av :: avs) (y :: ys) (rdOf x av ++ (l ++ l'))

theorem Subs.ok (hs : SimG cx σ a w g nx) {xs : List Operand} {avs : List AV} {ys : List Arg} {l : List (Key × Val)} (h : Subs xs avs ys l) (ha : App σ l) :
    ArgsOk w (cx.own g σ) (xs.map a.eval) ys := by
  induction h with
  | nil => trivial
  | cons hx h hr ih => exact ⟨h.ok hs (hs.ev hx ha.left).1 ha.right.left, ih ha.right.right⟩

theorem Res.rep {w' : World} {v : Value} {r : Res} (h : ResOk w' (cx.own g σ) v r) : Rep cx g σ w' v r.av ∧ r.av.bd nx := by
  cases r with
  | one x => exact ⟨h, trivial⟩
  | tup xs =>
    obtain ⟨vs, rfl, h1, h2⟩ := h
    refine ⟨⟨vs, rfl, by simpa using h1, fun j c av hj hc => ?_⟩, fun av hav => ?_⟩
    · rw [List.getElem?_map] at hj
      cases hx : xs[j]? with
      | none => rw [hx] at hj; cases hj
      | some x =>
        rw [hx] at hj
        obtain rfl : AV.d x = av := by simpa using hj
        exact h2 j c x hx hc
    · obtain ⟨x, _, rfl⟩ := List.mem_map.1 hav
      trivial

theorem ok_call {f : FuncId} {xs : List Operand} {avs : List AV} {ys : List Arg} {l : List (Key × Val)} {r : Res} {ats : Array TypeId} (hn : d < cx.n) (hc : FnOk cx.P f ys r) (hsub : Subs xs avs ys l) :
    OpOk cx ⟨some d, .call { callee := .value (.func f), args := ⟨xs⟩, argTypes := ats }, ty, pos, af, gd⟩ ⟨l, [(.s d, .av r.av)]⟩ := by
  rintro σ a w K Q ⟨g, nx, hs⟩ hr hK
  have hcall := hc.calls w (cx.own g σ) (xs.map a.eval) (fun b hb => own_lt hs hb) (hsub.ok hs hr)
  have hrun : (execOp a.eval ⟨some d, .call { callee := .value (.func f), args := ⟨xs⟩, argTypes := ats }, ty, pos, af, gd⟩).run cx.P w = .ok (.enter f (xs.map a.eval).toArray) w := by
    obtain ⟨fn, h1, h2, h3⟩ := hc.run
    simp only [execOp, resolve, Deferred.ofValue, Act.eval, invoke, callFunc, Sem.run_bind, Sem.run_pure, Result.andThen_ok, run_program, h1, h2, h3, Bool.false_eq_true, if_false]
    simp
  unfold Oper.wp
  rw [hrun]
  refine hcall.mono fun e w' he => ?_
  obtain ⟨v, rfl, hb, hres⟩ := he
  obtain ⟨h1, h2⟩ := Res.rep (nx := nx) hres
  exact hK _ _ (Sim.put hs hn hb h1 h2)

end Go.AX
