/-
  A function's contract, out of the walk of its body.
-/
import Derived.Test.YtjlfjjigccedjaaAxCode
namespace Go.AX
open Go.RowKit

variable {cx : Cx} {g : Nat → Value} {σ σ' : St} {a : Act} {w : World} {nx : Nat}

def Arg.av : Arg → AV
  | .d x => .d x
  | .pd c => .pd c
def argSt : Nat → List Arg → St
  | _, [] => [(.nx, .num 0)]
  | i, x :: xs => (.s i, .av x.av) :: argSt (i + 1) xs

theorem argSt_get {xs : List Arg} : ∀ {i : Nat}, (∀ j, get (argSt i xs) (.s j) = match (if i ≤ j then xs[j - i]? else none) with | some x => .av x.av | none => .none) ∧
    (∀ j, get (argSt i xs) (.o j) = .none) ∧ get (argSt i xs) .nx = .num 0 := by
  induction xs with
  | nil => intro i; refine ⟨fun j => ?_, fun j => rfl, rfl⟩; simp [argSt, get, Key.beq]
  | cons x xs ih =>
    intro i
    obtain ⟨h1, h2, h3⟩ := ih (i := i + 1)
    refine ⟨fun j => ?_, fun j => ?_, ?_⟩
    · by_cases hj : i = j
      · subst hj
        simp only [argSt, get_cons_same]
        simp
      · simp only [argSt]
        rw [get_cons_ne (by simpa using hj), h1 j]
        by_cases hij : i + 1 ≤ j
        · rw [if_pos hij, if_pos (by omega), show j - i = (j - (i + 1)) + 1 by omega, List.getElem?_cons_succ]
        · rw [if_neg hij, if_neg (by omega)]
    · simp only [argSt]; rw [get_cons_ne (by simp)]; exact h2 j
    · simp only [argSt]; rw [get_cons_ne (by simp)]; exact h3

theorem argsOk_at {w : World} {own : Nat → Prop} : ∀ {vs : List Value} {xs : List Arg}, ArgsOk w own vs xs → vs.length = xs.length ∧ ∀ (j : Nat) (v : Value) (x : Arg), vs[j]? = some v → xs[j]? = some x → ArgOk w own v x
  | [], [], _ => ⟨rfl, fun j v x h => by simp at h⟩
  | v :: vs, x :: xs, h => by
    obtain ⟨h1, h2⟩ := argsOk_at h.2
    refine ⟨by simp [h1], fun j v' x' hv hx => ?_⟩
    cases j with
    | zero => simp at hv hx; subst hv hx; exact h.1
    | succ j => exact h2 j v' x' (by simpa using hv) (by simpa using hx)

theorem entry_sim {P : Program} {T : Tbl} {hT : TOk P T} {hm : P.follows .mixedOrders = true} {n : Nat} {own : Nat → Prop} {vs : List Value} {xs : List Arg} (hown : ∀ b, own b → b < w.heap.size) (ha : ArgsOk w own vs xs)
    (hn : xs.length ≤ n) : Sim ⟨P, T, hT, hm, n, w, own⟩ (argSt 0 xs) { tmps := vs.toArray ++ Array.replicate (n - vs.toArray.size) undef, defers := [] } w := by
  obtain ⟨hl, hat⟩ := argsOk_at ha
  obtain ⟨h1, h2, h3⟩ := argSt_get (xs := xs) (i := 0)
  refine ⟨fun _ => undef, 0, h3, by simp; omega, rfl, Below.refl _ _, hown, fun i av hi => ?_, fun id o ho => ?_, fun id id' o o' b ho => ?_⟩
  · rw [h1 i] at hi
    simp only [Nat.zero_le, if_true, Nat.sub_zero] at hi
    cases hx : xs[i]? with
    | none => rw [hx] at hi; cases hi
    | some x =>
      rw [hx] at hi
      obtain rfl : x.av = av := by simpa using hi
      have hlt : i < vs.length := by have := (List.getElem?_eq_some_iff.1 hx).1; omega
      have hv : vs[i]? = some vs[i] := List.getElem?_eq_getElem hlt
      have hd : (vs.toArray ++ Array.replicate (n - vs.toArray.size) undef).getD i undef = vs[i] := by
        rw [Array.getD_eq_getD_getElem?, Array.getElem?_append_left (by simpa using hlt)]
        simp [hv]
      show Rep _ _ _ _ ((vs.toArray ++ Array.replicate (n - vs.toArray.size) undef).getD i undef) _ ∧ _
      rw [hd]
      have hnone : ∀ b, Cx.own ⟨P, T, hT, hm, n, w, own⟩ (fun _ => undef) (argSt 0 xs) b → own b := by
        rintro b (h | ⟨id, o, h, _⟩)
        · exact h
        · rw [h2] at h; cases h
      have := hat i _ x hv hx
      cases x with
      | d y => exact ⟨Rd.less hnone this, trivial⟩
      | pd cells =>
        obtain ⟨ad, h4, h5, h6⟩ := this
        refine ⟨⟨ad, h4, .inl h5, h5, fun j z hz => ?_⟩, trivial⟩
        obtain ⟨u, h7, h8, h9⟩ := h6 j z hz
        exact ⟨u, h7, h8, h9.less hnone⟩
  · rw [h2] at ho; cases ho
  · rw [h2] at ho; cases ho

/-- A result variable holds that. -/
inductive RetV (T : Tbl) (σ : St) : ResultVar → D → Prop
  | tmp {t : Nat} {av : AV} {x : D} (h : get σ (.s t) = .av av) (hd : ToD σ av x) : RetV T σ (.tmp t) x
  | cell {s t id : Nat} {cells : List AV} {ti : TI} {av : AV} {x : D} (h : get σ (.s s) = .av (.ptr id 0)) (ho : get σ (.o id) = .ob (.box cells)) (ht : tget T t = some ti)
      (hl : ldA ti cells = some av) (hd : ToD σ av x) : RetV T σ (.cell s t) x

def rvRun (tmps : Array Value) : ResultVar → Sem Value
  | .tmp t => pure (tmps.getD t undef)
  | .cell a t => do loadVar t (← asAddr (tmps.getD a undef))

theorem RetV.ok (hs : SimG cx σ a w g nx) {rv : ResultVar} {x : D} (h : RetV cx.T σ rv x) : ∃ v, (rvRun a.tmps rv).run cx.P w = .ok v w ∧ Rd w cx.own0 v x := by
  cases h with
  | @tmp t av x h hd => exact ⟨_, rfl, hd.ok hs (hs.slots t av h).1⟩
  | @cell s t id cells ti av x h ho ht hl hd =>
    have hdn : ∃ v, (Instr.loadAt t (a.tmps.getD s undef)).run cx.P w = .ok v w ∧ Rep cx g σ w v av := by
      obtain ⟨v, h1, h2, _⟩ := load_ptr hs (x := a.tmps.getD s undef) (off := 0) (hs.slots s _ h).1 ho ht (by simpa using hl)
      exact ⟨v, h1, h2⟩
    obtain ⟨v, h1, h2⟩ := hdn
    obtain ⟨b, hg, hv⟩ := (hs.slots s _ h).1 cells ho
    refine ⟨v, ?_, hd.ok hs h2⟩
    rw [hv] at h1
    simp only [rvRun, hv, asAddr, Sem.run_bind, Sem.run_pure, Result.andThen_ok]
    simpa [Instr.loadAt, Instr.sureAddr] using h1

/-- What comes back at the function's end. -/
inductive RetOk (T : Tbl) (σ : St) : List ResultVar → Res → Prop
  | one {rv : ResultVar} {x : D} (h : RetV T σ rv x) : RetOk T σ [rv] (.one x)
  | two {r1 r2 : ResultVar} {x1 x2 : D} (h1 : RetV T σ r1 x1) (h2 : RetV T σ r2 x2) : RetOk T σ [r1, r2] (.tup [x1, x2])
  | three {r1 r2 r3 : ResultVar} {x1 x2 x3 : D} (h1 : RetV T σ r1 x1) (h2 : RetV T σ r2 x2) (h3 : RetV T σ r3 x3) : RetOk T σ [r1, r2, r3] (.tup [x1, x2, x3])

def retQ (cx : Cx) (rvs : List ResultVar) (res : Res) : Exit → St → Prop
  | .normal, σ => RetOk cx.T σ rvs res
  | .ret, σ => RetOk cx.T σ rvs res
  | _, _ => False

theorem results_one {fn : Func} {rv : ResultVar} (h : fn.results = #[rv]) (tmps : Array Value) : results fn tmps = (do let v ← rvRun tmps rv; pure v : Sem Value) := by
  cases rv <;> simp [results, h, rvRun]
theorem results_two {fn : Func} {r1 r2 : ResultVar} (h : fn.results = #[r1, r2]) (tmps : Array Value) : results fn tmps = (do let v1 ← rvRun tmps r1; let v2 ← rvRun tmps r2; pure (.tuple #[v1, v2]) : Sem Value) := by
  cases r1 <;> cases r2 <;> simp [results, h, rvRun]
theorem results_three {fn : Func} {r1 r2 r3 : ResultVar} (h : fn.results = #[r1, r2, r3]) (tmps : Array Value) :
    results fn tmps = (do let v1 ← rvRun tmps r1; let v2 ← rvRun tmps r2; let v3 ← rvRun tmps r3; pure (.tuple #[v1, v2, v3]) : Sem Value) := by
  cases r1 <;> cases r2 <;> cases r3 <;> simp [results, h, rvRun]

theorem RetOk.ok (hs : SimG cx σ a w g nx) {fn : Func} {rvs : List ResultVar} {res : Res} (hf : fn.results = ⟨rvs⟩) (h : RetOk cx.T σ rvs res) :
    ∃ v, (results fn a.tmps).run cx.P w = .ok v w ∧ ResOk w cx.own0 v res := by
  cases h with
  | one h =>
    obtain ⟨v, h1, h2⟩ := h.ok hs
    exact ⟨v, by simp [results_one hf, h1], h2⟩
  | two h1 h2 =>
    obtain ⟨v1, h3, h4⟩ := h1.ok hs
    obtain ⟨v2, h5, h6⟩ := h2.ok hs
    refine ⟨.tuple #[v1, v2], by simp [results_two hf, h3, h5], _, rfl, rfl, fun j c x hx hc => ?_⟩
    match j with
    | 0 => simp at hx hc; subst hx hc; exact h4
    | 1 => simp at hx hc; subst hx hc; exact h6
    | j + 2 => simp at hx
  | three h1 h2 h3 =>
    obtain ⟨v1, e1, f1⟩ := h1.ok hs
    obtain ⟨v2, e2, f2⟩ := h2.ok hs
    obtain ⟨v3, e3, f3⟩ := h3.ok hs
    refine ⟨.tuple #[v1, v2, v3], by simp [results_three hf, e1, e2, e3], _, rfl, rfl, fun j c x hx hc => ?_⟩
    match j with
    | 0 => simp at hx hc; subst hx hc; exact f1
    | 1 => simp at hx hc; subst hx hc; exact f2
    | 2 => simp at hx hc; subst hx hc; exact f3
    | j + 3 => simp at hx

/-- A function's contract, out of its body's walk. -/
theorem fnOk_of {P : Program} {T : Tbl} (hT : TOk P T) (hm : P.follows .mixedOrders = true) {f : FuncId} {fn : Func} {c : Code} {rvs : List ResultVar} {args : List Arg} {res : Res}
    (hf : P.funcs[f]? = some fn) (hb : fn.body = some c) (hname : (fn.name == "runtime.NumGoroutine") = false) (hr : fn.results = ⟨rvs⟩) (hn : Nat.ble args.length fn.ntmps = true)
    (h : ∀ w0 own0, CW ⟨P, T, hT, hm, fn.ntmps, w0, own0⟩ c (retQ ⟨P, T, hT, hm, fn.ntmps, w0, own0⟩ rvs res) (argSt 0 args)) : FnOk P f args res := by
  refine ⟨⟨fn, hf, hname, by rw [hb]; rfl⟩, fun w own vs hown ha => ?_⟩
  have hsim := entry_sim (P := P) (T := T) (hT := hT) (hm := hm) (n := fn.ntmps) hown ha (by simpa using hn)
  refine calls_of_wp hf hb (wp_mono (h w own _ _ hsim) fun e a' w' he => ?_)
  obtain ⟨σ', hs', hq⟩ := he
  have hs2 := hs'
  obtain ⟨g, nx, hg⟩ := hs2
  have fin : ∀ hq : RetOk T σ' rvs res, a'.defers = [] ∧ ∃ v, (results fn a'.tmps).run P w' = .ok v w' ∧ ∃ v', Ending.returned v = .returned v' ∧ Below w.heap.size w w' ∧ ResOk w' own v' res := by
    intro hq
    obtain ⟨v, h1, h2⟩ := RetOk.ok hg hr hq
    exact ⟨hg.defers, v, h1, v, rfl, hg.below, h2⟩
  cases e with
  | normal => exact fin hq
  | ret => exact fin hq
  | exit j => exact hq.elim
  | goto j => exact hq.elim
  | panic c => exact hq.elim
  | outgrown => exact hq.elim

end Go.AX
