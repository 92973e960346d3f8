/-
  Part 4 of what the claim leans on: AxPin3 G1 G3 G4 P1 P2 P3 AxFam AxFam2 AxPin4 AxPin5 AxFnD Rn Sh G2 G8 G11 AxIns G12 R2 P4 P5 AxNews AxApp R5.
-/
import Derived.Test.YtembfadhnkabhaaGreatDoorK3
import Derived.MapKept
import Derived.Shelf.Small.Strs
import Derived.Test.YtembfadhnkabhaaGreatDoorProg
import Derived.Shelf.Spec.SlicesInsertGrow
import Derived.Maps.AppendAt
import Derived.Lib.SlTrimSet

/-! AxPin3 -/
/-
  A call that yields two slices of the caller's own, one within the other's element; a call that takes a slice of ours and yields one.
-/
namespace Go.AX
open Go.RowKit

variable {cx : Cx} {g : Nat → Value} {σ σ' : St} {a : Act} {w w' : World} {nx : Nat} {c : Code} {Q : Exit → St → Prop}
variable {ty : TypeId} {pos : String} {af : Array Edge} {gd : Option (Nat × Bool)} {d : Nat}

structure FnOwn2 (P : Program) (f : FuncId) (args : List Arg) (e k : Nat) (rowsF : Value → List (List D)) (e2 k2 : Nat) (rows2 : List (List D)) : Prop where
  run : ∃ fn, P.funcs[f]? = some fn ∧ (fn.name == "runtime.NumGoroutine") = false ∧ fn.body.isNone = false
  calls : ∀ (w : World) (own : Nat → Prop) (vs : List Value), (∀ b, own b → b < w.heap.size) → ArgsOk w own vs args →
    Calls P f vs.toArray w fun r w' => ∃ v x, r = .returned v ∧ Below w.heap.size w w' ∧ RowsAt w' w.heap.size (with1 (with1 own v) x) e k v (rowsF x) ∧
      RowsAt w' w.heap.size (with1 (with1 own v) x) e2 k2 x rows2 ∧ ∀ b, blk v = some b → blk x ≠ some b

def own2Q (t e k : Nat) (rowsF : Value → List (List D)) (e2 k2 : Nat) (rows2 : List (List D)) : Exit → St → Prop
  | .normal, σ => ∃ id n id2 x, get σ (.s t) = .av (.own id n) ∧ get σ (.o id) = .ob (.arr e k (rowsF x)) ∧ n = (rowsF x).length ∧ get σ (.o id2) = .ob (.pin e2 k2 rows2 x)
  | .ret, σ => ∃ id n id2 x, get σ (.s t) = .av (.own id n) ∧ get σ (.o id) = .ob (.arr e k (rowsF x)) ∧ n = (rowsF x).length ∧ get σ (.o id2) = .ob (.pin e2 k2 rows2 x)
  | _, _ => False

theorem fnOwn2_of {P : Program} {T : Tbl} (hT : TOk P T) (hm : P.follows .mixedOrders = true) {f : FuncId} {fn : Func} {c : Code} {t e k e2 k2 : Nat} {args : List Arg} {rowsF : Value → List (List D)} {rows2 : List (List D)}
    (hf : P.funcs[f]? = some fn) (hb : fn.body = some c) (hname : (fn.name == "runtime.NumGoroutine") = false) (hr : fn.results = #[.tmp t]) (hn : Nat.ble args.length fn.ntmps = true)
    (h : ∀ w0 own0, CW ⟨P, T, hT, hm, fn.ntmps, w0, own0⟩ c (own2Q t e k rowsF e2 k2 rows2) (argSt 0 args)) : FnOwn2 P f args e k rowsF e2 k2 rows2 := by
  refine ⟨⟨fn, hf, hname, by rw [hb]; rfl⟩, fun w own vs hown ha => ?_⟩
  have hsim := entry_sim (P := P) (T := T) (hT := hT) (hm := hm) (n := fn.ntmps) hown ha (by simpa using hn)
  refine calls_of_wp hf hb (wp_mono (h w own _ _ hsim) fun z a' w' he => ?_)
  obtain ⟨σ', ⟨g, nx, hg⟩, hq⟩ := he
  have fin : ∀ hq : ∃ id n id2 x, get σ' (.s t) = .av (.own id n) ∧ get σ' (.o id) = .ob (.arr e k (rowsF x)) ∧ n = (rowsF x).length ∧ get σ' (.o id2) = .ob (.pin e2 k2 rows2 x),
      a'.defers = [] ∧ ∃ v, (results fn a'.tmps).run P w' = .ok v w' ∧ ∃ v' x, Ending.returned v = .returned v' ∧ Below w.heap.size w w' ∧ RowsAt w' w.heap.size (with1 (with1 own v') x) e k v' (rowsF x) ∧
        RowsAt w' w.heap.size (with1 (with1 own v') x) e2 k2 x rows2 ∧ ∀ b, blk v' = some b → blk x ≠ some b := by
    rintro ⟨id, n, id2, x, h1, h2, h3, h4⟩
    have hv : a'.tmps.getD t undef = g id := ((hg.slots t _ h1).1.2 e k _ h2).2 h3
    obtain ⟨_, ⟨hgx, hp⟩, _⟩ := hg.objs id2 _ h4
    have hp' : RowsAt w' w.heap.size (Cx.own ⟨P, T, hT, hm, fn.ntmps, w, own⟩ g σ') e2 k2 (g id2) rows2 := hp
    have hin : ∀ b, with1 (with1 own (g id)) x b → Cx.own ⟨P, T, hT, hm, fn.ntmps, w, own⟩ g σ' b := by
      rintro b ((hb | hb) | hb)
      · exact .inl hb
      · exact .inr ⟨id, _, h2, hb⟩
      · exact .inr ⟨id2, _, h4, by rw [hgx]; exact hb⟩
    have hR1 := objRows hg h2
    refine ⟨hg.defers, g id, by rw [results_one hr, ← hv]; simp [rvRun], g id, x, rfl, hg.below, hR1.re (fun b hb => (hR1.lt hb).1) hin, ?_, fun b hb hb2 => ?_⟩
    · rw [hgx] at hp'
      exact hp'.re (fun b hb => (hp'.lt hb).1) hin
    · have := hg.sep id id2 _ _ b h2 h4 hb (by rw [hgx]; exact hb2)
      subst this
      rw [h2] at h4; cases h4
  cases z with
  | normal => exact fin hq
  | ret => exact fin hq
  | exit j => exact hq.elim
  | goto j => exact hq.elim
  | panic c => exact hq.elim
  | outgrown => exact hq.elim

theorem SimG.join2 (hs : SimG cx σ a w g nx) (hb : Below w.heap.size w w') {v x : Value} {e k e2 k2 : Nat} {rows rows2 : List (List D)} (h1 : RowsAt w' w.heap.size (with1 (with1 (cx.own g σ) v) x) e k v rows)
    (h2 : RowsAt w' w.heap.size (with1 (with1 (cx.own g σ) v) x) e2 k2 x rows2) (hd : ∀ b, blk v = some b → blk x ≠ some b) :
    SimG cx ((.o nx, .ob (.arr e k rows)) :: (.o (nx + 1), .ob (.pin e2 k2 rows2 x)) :: (.nx, .num (nx + 2)) :: σ) a w' (upd (upd g nx v) (nx + 1) x) (nx + 2) := by
  have hge := hs.below.size
  have hg1 : upd (upd g nx v) (nx + 1) x nx = v := by rw [upd_ne (by omega), upd_same]
  have hg2 : upd (upd g nx v) (nx + 1) x (nx + 1) = x := upd_same _ _ _
  have hg0 : ∀ j, j < nx → upd (upd g nx v) (nx + 1) x j = g j := fun j hj => by rw [upd_ne (by omega), upd_ne (by omega)]
  have hback : ∀ j o, get ((.o nx, .ob (.arr e k rows)) :: (.o (nx + 1), .ob (.pin e2 k2 rows2 x)) :: (.nx, .num (nx + 2)) :: σ) (.o j) = .ob o →
      (j = nx ∧ o = .arr e k rows) ∨ (j = nx + 1 ∧ o = .pin e2 k2 rows2 x) ∨ (j < nx ∧ get σ (.o j) = .ob o) := by
    intro j o hj
    by_cases hj1 : j = nx
    · subst hj1; rw [get_cons_same] at hj; cases hj; exact .inl ⟨rfl, rfl⟩
    · rw [get_cons_ne (by simpa using fun e => hj1 e.symm)] at hj
      by_cases hj2 : j = nx + 1
      · subst hj2; rw [get_cons_same] at hj; cases hj; exact .inr (.inl ⟨rfl, rfl⟩)
      · rw [get_cons_ne (by simpa using fun e => hj2 e.symm), get_cons_ne (by simp)] at hj
        exact .inr (.inr ⟨(hs.objs j o hj).1, hj⟩)
  have hown : ∀ b, cx.own (upd (upd g nx v) (nx + 1) x) ((.o nx, .ob (.arr e k rows)) :: (.o (nx + 1), .ob (.pin e2 k2 rows2 x)) :: (.nx, .num (nx + 2)) :: σ) b → with1 (with1 (cx.own g σ) v) x b := by
    rintro b (h | ⟨j, o, h3, h4⟩)
    · exact .inl (.inl (.inl h))
    · rcases hback j o h3 with ⟨rfl, rfl⟩ | ⟨rfl, rfl⟩ | ⟨hj, h5⟩
      · rw [hg1] at h4; exact .inl (.inr h4)
      · rw [hg2] at h4; exact .inr h4
      · rw [hg0 j hj] at h4; exact .inl (.inl (.inr ⟨j, o, h5, h4⟩))
  have hl : Later cx g (upd (upd g nx v) (nx + 1) x) σ ((.o nx, .ob (.arr e k rows)) :: (.o (nx + 1), .ob (.pin e2 k2 rows2 x)) :: (.nx, .num (nx + 2)) :: σ) w w' nx := by
    refine ⟨Ext.of_below hb, hb.mono hge, fun b hbb => ?_, fun j o hj h3 => ?_⟩
    · rcases hown b hbb with (h | h) | h
      · exact .inl h
      · exact .inr (h1.lt h).1
      · exact .inr (h2.lt h).1
    · rcases hback j o h3 with ⟨rfl, _⟩ | ⟨rfl, _⟩ | ⟨hj', h5⟩
      · omega
      · omega
      · exact ⟨o, h5, by cases o <;> simp [ObLe, hg0 j hj']⟩
  refine hs.next hl (by rw [get_cons_ne (by simp), get_cons_ne (by simp), get_cons_same]) (by omega) hs.size hs.defers (hb.mono hge) (fun j av hj => .inl ⟨?_, rfl⟩) (fun j o hj => ?_) (fun j j' o o' b h3 h4 h5 h6 => ?_)
  · rw [get_cons_ne (by simp), get_cons_ne (by simp), get_cons_ne (by simp)] at hj; exact hj
  · rcases hback j o hj with ⟨rfl, rfl⟩ | ⟨rfl, rfl⟩ | ⟨hj', h5⟩
    · refine .inr ⟨by omega, ?_, trivial⟩
      show RowsAt w' cx.w0.heap.size _ e k _ rows
      rw [hg1]
      exact h1.re (fun b hb' => by have := (h1.lt hb').1; omega) hown
    · refine .inr ⟨by omega, ⟨hg2, ?_⟩, trivial⟩
      show RowsAt w' cx.w0.heap.size _ e2 k2 _ rows2
      rw [hg2]
      exact h2.re (fun b hb' => by have := (h2.lt hb').1; omega) hown
    · exact .inl ⟨h5, hg0 j hj', fun b hb' => hb.block b (own_lt hs (.inr ⟨j, o, h5, hb'⟩))⟩
  · have place : ∀ j o, get ((.o nx, .ob (.arr e k rows)) :: (.o (nx + 1), .ob (.pin e2 k2 rows2 x)) :: (.nx, .num (nx + 2)) :: σ) (.o j) = .ob o → blk (upd (upd g nx v) (nx + 1) x j) = some b →
        (j = nx ∧ blk v = some b ∧ w.heap.size ≤ b) ∨ (j = nx + 1 ∧ blk x = some b ∧ w.heap.size ≤ b) ∨ (j < nx ∧ get σ (.o j) = .ob o ∧ blk (g j) = some b ∧ b < w.heap.size) := by
      intro j o hj hbj
      rcases hback j o hj with ⟨rfl, rfl⟩ | ⟨rfl, rfl⟩ | ⟨hj', h7⟩
      · rw [hg1] at hbj; exact .inl ⟨rfl, hbj, (h1.lt hbj).1⟩
      · rw [hg2] at hbj; exact .inr (.inl ⟨rfl, hbj, (h2.lt hbj).1⟩)
      · rw [hg0 j hj'] at hbj; exact .inr (.inr ⟨hj', h7, hbj, own_lt hs (.inr ⟨j, o, h7, hbj⟩)⟩)
    rcases place j o h3 h5 with ⟨p1, p2, p3⟩ | ⟨p1, p2, p3⟩ | ⟨p1, p2, p3, p4⟩ <;> rcases place j' o' h4 h6 with ⟨q1, q2, q3⟩ | ⟨q1, q2, q3⟩ | ⟨q1, q2, q3, q4⟩
    · omega
    · exact (hd b p2 q2).elim
    · omega
    · exact (hd b q2 p2).elim
    · omega
    · omega
    · omega
    · omega
    · exact hs.sep j j' o o' b p2 q2 p3 q3

theorem fam_own2 {f : FuncId} {xs : List Operand} {avs : List AV} {ys : List Arg} {l : List (Key × Val)} {e k e2 k2 : Nat} {rowsF : Value → List (List D)} {rows2 : List (List D)} {ats : Array TypeId}
    (hc : FnOwn2 cx.P f ys e k rowsF e2 k2 rows2) (hnx : get σ .nx = .num nx) (hd : Nat.blt d cx.n = true) (hsub : SubsE σ xs avs ys l)
    (a : Act) (w : World) (K : Act → World → Prop) (Q : Exit → Act → World → Prop) (hs : Sim cx σ a w)
    (hK : ∀ (x : Value) a' w', Sim cx ((.s d, .av (.own nx (rowsF x).length)) :: (.o nx, .ob (.arr e k (rowsF x))) :: (.o (nx + 1), .ob (.pin e2 k2 rows2 x)) :: (.nx, .num (nx + 2)) :: σ) a' w' → K a' w') :
    Oper.wp cx.P ⟨some d, .call { callee := .value (.func f), args := ⟨xs⟩, argTypes := ats }, ty, pos, af, gd⟩ a w K Q := by
  obtain ⟨g, n', hs⟩ := hs
  obtain rfl : n' = nx := by have := hs.hnx; rw [hnx] at this; simpa using this.symm
  have hcall := hc.calls w (cx.own g σ) (xs.map a.eval) (fun b hb => own_lt hs hb) (hsub.out.1.ok hs hsub.out.2)
  unfold Oper.wp
  rw [call_run hc.run]
  refine hcall.mono fun r w' he => ?_
  obtain ⟨v, x, rfl, hb, h1, h2, h3⟩ := he
  have hG := SimG.join2 hs hb h1 h2 h3
  refine hK x _ _ (Sim.put hG (lt_of_blt hd) (Below.refl _ _) ?_ (show n' < n' + 2 by omega))
  refine ⟨.of get_cons_same, fun e' k' rows' hg => ?_⟩
  rw [get_cons_same] at hg
  cases hg
  exact ⟨Nat.le_refl _, fun _ => by rw [upd_ne (by omega), upd_same]⟩

/-! ### A slice of ours handed over, and another one back -/
/-- From w to w': nothing that was there has turned but the block of v. -/
structure BelowBut (v : Value) (w w' : World) : Prop where
  os : w'.os = w.os
  tape : w'.tape = w.tape
  output : w'.output = w.output
  size : w.heap.size ≤ w'.heap.size
  block : ∀ b, b < w.heap.size → blk v ≠ some b → w'.heap[b]? = w.heap[b]?
structure FnUpd (P : Program) (f : FuncId) (e k : Nat) (rows : List (List D)) (args : List Arg) (rows' : List (List D)) : Prop where
  run : ∃ fn, P.funcs[f]? = some fn ∧ (fn.name == "runtime.NumGoroutine") = false ∧ fn.body.isNone = false
  calls : ∀ (w : World) (own : Nat → Prop) (v : Value) (vs : List Value), (∀ b, own b → b < w.heap.size) → RowsAt w 0 (with1 own v) e k v rows → (∀ b, own b → blk v ≠ some b) → ArgsOk w (with1 own v) vs args →
    Calls P f (v :: vs).toArray w fun r w' => ∃ v', r = .returned v' ∧ BelowBut v w w' ∧ (∀ b, blk v' = some b → blk v = some b ∨ w.heap.size ≤ b) ∧ RowsAt w' 0 (with1 own v') e k v' rows'

theorem ok_upd {f : FuncId} {x : Operand} {xs : List Operand} {avs : List AV} {ys : List Arg} {l : List (Key × Val)} {e k id n : Nat} {rows rows' : List (List D)} {ats : Array TypeId}
    (hd : d < cx.n) (hc : FnUpd cx.P f e k rows ys rows') (hx : EvS x (.own id n)) (hn : n = rows.length) (hsub : Subs xs avs ys l) :
    OpOk cx ⟨some d, .call { callee := .value (.func f), args := ⟨x :: xs⟩, argTypes := ats }, ty, pos, af, gd⟩ ⟨rdOf x (.own id n) ++ (l ++ [(.o id, .ob (.arr e k rows)), (.nx, .num nx)]), [(.s d, .av (.own nx rows'.length)), (.o nx, .ob (.arr e k rows')), (.nx, .num (nx + 1)), (.o id, .none)]⟩ := by
  rintro σ a w K Q ⟨g, n', hs⟩ hr hK
  have hnx : n' = nx := by
    have h2 := hr.right.right.2.1
    rw [hs.hnx] at h2
    simpa using h2
  subst hnx
  have ho : get σ (.o id) = .ob (.arr e k rows) := hr.right.right.1
  have hidlt := (hs.objs id _ ho).1
  have hval : a.eval x = g id := ((hs.ev hx hr.left).1.2 e k rows ho).2 hn
  have hR := objRows hs ho
  -- what is kept, but for that slice
  have hown1 : ∀ b, cx.own g ((.o id, .none) :: σ) b → cx.own g σ b ∧ blk (g id) ≠ some b := by
    rintro b (h | ⟨j, o, h1, h2⟩)
    · refine ⟨.inl h, fun hb => ?_⟩
      have h3 := obj_ge hs ho hb
      have h4 := hs.own0 b h
      omega
    · by_cases hj : id = j
      · subst hj; rw [get_cons_same] at h1; cases h1
      · rw [get_cons_ne (by simpa using hj)] at h1
        exact ⟨.inr ⟨j, o, h1, h2⟩, fun hb => hj (hs.sep id j _ o b ho h1 hb h2)⟩
  have hw1 : ∀ b, with1 (cx.own g ((.o id, .none) :: σ)) (g id) b → cx.own g σ b := by
    rintro b (h | h)
    · exact (hown1 b h).1
    · exact .inr ⟨id, _, ho, h⟩
  have hcall := hc.calls w (cx.own g ((.o id, .none) :: σ)) (g id) (xs.map a.eval) (fun b hb => own_lt hs (hown1 b hb).1) (hR.re (fun b _ => Nat.zero_le _) hw1) (fun b hb => (hown1 b hb).2) ((hsub.ok hs hr.right.left).less hw1)
  unfold Oper.wp
  rw [call_run hc.run, List.map_cons, hval]
  refine hcall.mono fun r w' he => ?_
  obtain ⟨v', rfl, hbb, hpl, hR'⟩ := he
  have hge := hs.below.size
  have hbel : Below cx.w0.heap.size w w' := ⟨hbb.os, hbb.tape, hbb.output, hbb.size, fun b hb => hbb.block b (by omega) fun he => by have := obj_ge hs ho he; omega⟩
  have hext : Ext (cx.own g σ) w w' := ⟨hbb.size, fun b hb hn => hbb.block b hb fun he => hn (.inr ⟨id, _, ho, he⟩)⟩
  have hback : ∀ j o, j ≠ n' → get ((.o n', .ob (.arr e k rows')) :: (.nx, .num (n' + 1)) :: (.o id, .none) :: σ) (.o j) = .ob o → j ≠ id ∧ get σ (.o j) = .ob o := by
    intro j o1 hj h1
    rw [get_cons_ne (by simpa using fun e => hj e.symm), get_cons_ne (by simp)] at h1
    by_cases he : id = j
    · subst he; rw [get_cons_same] at h1; cases h1
    · rw [get_cons_ne (by simpa using he)] at h1
      exact ⟨fun e => he e.symm, h1⟩
  have hownin : ∀ b, cx.own (upd g n' v') ((.o n', .ob (.arr e k rows')) :: (.nx, .num (n' + 1)) :: (.o id, .none) :: σ) b → with1 (cx.own g ((.o id, .none) :: σ)) v' b := by
    rintro b (h | ⟨j, o, h1, h2⟩)
    · exact .inl (.inl h)
    · by_cases hj : j = n'
      · subst hj; rw [upd_same] at h2; exact .inr h2
      · rw [upd_ne hj] at h2
        obtain ⟨h3, h4⟩ := hback j o hj h1
        exact .inl (.inr ⟨j, o, (get_cons_ne (by simpa using fun e => h3 e.symm)).trans h4, h2⟩)
  have hl : Later cx g (upd g n' v') σ ((.o n', .ob (.arr e k rows')) :: (.nx, .num (n' + 1)) :: (.o id, .none) :: σ) w w' n' := by
    refine ⟨hext, hbel, fun b hb => ?_, fun j o1 hj h1 => ?_⟩
    · rcases hownin b hb with h | h
      · exact .inl (hown1 b h).1
      · rcases hpl b h with h | h
        · exact .inl (.inr ⟨id, _, ho, h⟩)
        · exact .inr h
    · have hjn : j ≠ n' := by omega
      refine ⟨o1, (hback j o1 hjn h1).2, ?_⟩
      cases o1 <;> simp [ObLe, upd_ne hjn]
  have hG : SimG cx ((.o n', .ob (.arr e k rows')) :: (.nx, .num (n' + 1)) :: (.o id, .none) :: σ) a w' (upd g n' v') (n' + 1) := by
    refine hs.next hl (by rw [get_cons_ne (by simp), get_cons_same]) (Nat.le_succ _) hs.size hs.defers hbel (fun j av hj => .inl ⟨?_, rfl⟩) (fun j o1 hj => ?_) (fun j j' o1 o2 b h1 h2 h3 h4 => ?_)
    · rw [get_cons_ne (by simp), get_cons_ne (by simp), get_cons_ne (by simp)] at hj; exact hj
    · by_cases hjn : j = n'
      · subst hjn
        rw [get_cons_same] at hj
        cases hj
        refine .inr ⟨Nat.lt_succ_self _, ?_, trivial⟩
        show RowsAt w' cx.w0.heap.size _ e k (upd g j v' j) rows'
        rw [upd_same]
        refine hR'.re (fun b hb => ?_) hownin
        rcases hpl b hb with h | h
        · exact (hR.lt h).1
        · omega
      · obtain ⟨h5, h6⟩ := hback j o1 hjn hj
        exact .inl ⟨h6, upd_ne hjn, fun b hb => hbb.block b (own_lt hs (.inr ⟨j, o1, h6, hb⟩)) fun he => h5 (hs.sep j id o1 _ b h6 ho hb he)⟩
    · have hone : ∀ j o1, j ≠ n' → get ((.o n', .ob (.arr e k rows')) :: (.nx, .num (n' + 1)) :: (.o id, .none) :: σ) (.o j) = .ob o1 → blk (upd g n' v' j) = some b → blk v' = some b → False := by
        intro j o1 hj hj1 hjb hvb
        rw [upd_ne hj] at hjb
        obtain ⟨h5, h6⟩ := hback j o1 hj hj1
        rcases hpl b hvb with h | h
        · exact h5 (hs.sep j id o1 _ b h6 ho hjb h)
        · have := own_lt hs (.inr ⟨j, o1, h6, hjb⟩); omega
      by_cases he : j = n'
      · by_cases he' : j' = n'
        · rw [he, he']
        · subst he; rw [upd_same] at h3; exact (hone j' o2 he' h2 h4 h3).elim
      · by_cases he' : j' = n'
        · subst he'; rw [upd_same] at h4; exact (hone j o1 he h1 h3 h4).elim
        · obtain ⟨_, h6⟩ := hback j o1 he h1
          obtain ⟨_, h8⟩ := hback j' o2 he' h2
          rw [upd_ne he] at h3
          rw [upd_ne he'] at h4
          exact hs.sep j j' o1 o2 b h6 h8 h3 h4
  refine hK _ _ (Sim.put hG hd (Below.refl _ _) ?_ (Nat.lt_succ_self _))
  refine ⟨.of get_cons_same, fun e' k' rows'' hg => ?_⟩
  rw [get_cons_same] at hg
  cases hg
  exact ⟨Nat.le_refl _, fun _ => by rw [upd_same]⟩
theorem a_upd {f : FuncId} {x : Operand} {xs : List Operand} {avs : List AV} {ys : List Arg} {l : List (Key × Val)} {e k id n : Nat} {rows rows' : List (List D)} {ats : Array TypeId}
    (hc : FnUpd cx.P f e k rows ys rows') (hx : ev σ x = some (.own id n)) (ho : get σ (.o id) = .ob (.arr e k rows)) (hnx : get σ .nx = .num nx) (hn : n = rows.length) (hd : Nat.blt d cx.n = true) (hsub : SubsE σ xs avs ys l) :
    OA cx σ ⟨some d, .call { callee := .value (.func f), args := ⟨x :: xs⟩, argTypes := ats }, ty, pos, af, gd⟩ ⟨rdOf x (.own id n) ++ (l ++ [(.o id, .ob (.arr e k rows)), (.nx, .num nx)]), [(.s d, .av (.own nx rows'.length)), (.o nx, .ob (.arr e k rows')), (.nx, .num (nx + 1)), (.o id, .none)]⟩ :=
  ⟨ok_upd (lt_of_blt hd) hc (ev_out hx).1 hn hsub.out.1, (ev_out hx).2.append (hsub.out.2.append ⟨ho, hnx, trivial⟩)⟩

end Go.AX

/-! G1 -/
/-
  Contracts of the library's Clone: what comes back is the caller's own.
-/
namespace Go.Proofs.YtembfadhnkabhaaGreatDoor
open Go.AX Go.RF

set_option maxRecDepth 100000
set_option maxHeartbeats 4000000

theorem new_clone_version (rows : List (List D)) (hl : rows.length ≤ 536870912) : FnNew Tryz.prog 83 [.d (.sl 4 rows)] 58 4 rows := by
  refine fnNew_of tbl_ok mixed_ok Tryz.func83 rfl (by kernel_rfl) rfl rfl fun w0 own0 => ?_
  cases rows with
  | nil =>
    refine CW.empty 0 rfl fun p cp => ?_
    cases p with
    | none =>
      repeat (first | ((with_reducible apply s1); exact rfl) | (with_reducible first | apply CW.seq | apply CW.block | apply CW.region | apply CW.draw | apply CW.skip | apply CW.exit | apply CW.ret | apply q_then | apply q_then_exit | apply q_then_ret | apply q_block | apply q_block_ret | apply q_block_hit | apply q_ret | apply q_end | apply q_loop_exit | apply q_loop_ret | apply q_loopT_exit | apply q_loopT_ret | apply RW.nil) | ((with_reducible apply s3); exact rfl; exact by_k) | ((with_reducible apply s2); exact rfl; exact by_k) | ((with_reducible apply s4); exact rfl) | ((with_reducible apply s5); (first | exact by_oa); exact by_g) | ((with_reducible apply CW.cond_t); exact rfl; exact by_ks) | ((with_reducible apply CW.cond_f); exact rfl; exact by_ks) | ((with_reducible apply q_block_miss); exact rfl) | (refine And.intro (show chk [] [] _ _ = true by kernel_rfl) ?_))
      exact RetNew.nil rfl rfl
    | some ad =>
      repeat (first | (with_reducible apply stop_reg 3) | ((with_reducible apply s1); exact rfl) | (with_reducible first | apply CW.seq | apply CW.block | apply CW.region | apply CW.draw | apply CW.skip | apply CW.exit | apply CW.ret | apply q_then | apply q_then_exit | apply q_then_ret | apply q_block | apply q_block_ret | apply q_block_hit | apply q_ret | apply q_end | apply q_loop_exit | apply q_loop_ret | apply q_loopT_exit | apply q_loopT_ret | apply RW.nil) | ((with_reducible apply s3); exact rfl; exact by_k) | ((with_reducible apply s2); exact rfl; exact by_k) | ((with_reducible apply s4); exact rfl) | ((with_reducible apply s5); (first | exact by_oa); exact by_g) | ((with_reducible apply CW.cond_t); exact rfl; exact by_ks) | ((with_reducible apply CW.cond_f); exact rfl; exact by_ks) | ((with_reducible apply q_block_miss); exact rfl) | (refine And.intro (show chk [] [] _ _ = true by kernel_rfl) ?_))
      refine Stop.go (CW.stut (stut_nilv (i := 0) (k := 4)) ⟨rfl, trivial⟩ ?_)
      repeat (first | ((with_reducible apply s1); exact rfl) | (with_reducible first | apply CW.seq | apply CW.block | apply CW.region | apply CW.draw | apply CW.skip | apply CW.exit | apply CW.ret | apply q_then | apply q_then_exit | apply q_then_ret | apply q_block | apply q_block_ret | apply q_block_hit | apply q_ret | apply q_end | apply q_loop_exit | apply q_loop_ret | apply q_loopT_exit | apply q_loopT_ret | apply RW.nil) | ((with_reducible apply s3); exact rfl; exact by_k) | ((with_reducible apply s2); exact rfl; exact by_k) | ((with_reducible apply s4); exact rfl) | ((with_reducible apply s5); (first | exact by_oa); exact by_g) | ((with_reducible apply CW.cond_t); exact rfl; exact by_ks) | ((with_reducible apply CW.cond_f); exact rfl; exact by_ks) | ((with_reducible apply q_block_miss); exact rfl) | (refine And.intro (show chk [] [] _ _ = true by kernel_rfl) ?_))
      exact RetNew.own rfl rfl rfl
  | cons r rows =>
    have hl2 : rows.length ≤ 536870911 := by simp at hl; omega
    repeat (first | ((with_reducible apply s1); exact rfl) | (with_reducible first | apply CW.seq | apply CW.block | apply CW.region | apply CW.draw | apply CW.skip | apply CW.exit | apply CW.ret | apply q_then | apply q_then_exit | apply q_then_ret | apply q_block | apply q_block_ret | apply q_block_hit | apply q_ret | apply q_end | apply q_loop_exit | apply q_loop_ret | apply q_loopT_exit | apply q_loopT_ret | apply RW.nil) | ((with_reducible apply s3); exact rfl; exact by_k) | ((with_reducible apply s2); exact rfl; exact by_k) | ((with_reducible apply s4); exact rfl) | ((with_reducible apply s5); (first | exact by_oa); exact by_g) | ((with_reducible apply CW.cond_t); exact rfl; exact by_ks) | ((with_reducible apply CW.cond_f); exact rfl; exact by_ks) | ((with_reducible apply q_block_miss); exact rfl) | (refine And.intro (show chk [] [] _ _ = true by kernel_rfl) ?_))
    exact RetNew.own rfl rfl (by simp)
theorem ok_clone_version (rows : List (List D)) (hl : rows.length ≤ 536870912) : FnOk Tryz.prog 83 [.d (.sl 4 rows)] (.one (.sl 4 rows)) := (new_clone_version rows hl).ok

theorem new_clone_int (rows : List (List D)) (hl : rows.length ≤ 536870912) : FnNew Tryz.prog 53 [.d (.sl 1 rows)] 3 1 rows := by
  refine fnNew_of tbl_ok mixed_ok Tryz.func53 rfl (by kernel_rfl) rfl rfl fun w0 own0 => ?_
  cases rows with
  | nil =>
    refine CW.empty 0 rfl fun p cp => ?_
    cases p with
    | none =>
      repeat (first | ((with_reducible apply s1); exact rfl) | (with_reducible first | apply CW.seq | apply CW.block | apply CW.region | apply CW.draw | apply CW.skip | apply CW.exit | apply CW.ret | apply q_then | apply q_then_exit | apply q_then_ret | apply q_block | apply q_block_ret | apply q_block_hit | apply q_ret | apply q_end | apply q_loop_exit | apply q_loop_ret | apply q_loopT_exit | apply q_loopT_ret | apply RW.nil) | ((with_reducible apply s3); exact rfl; exact by_k) | ((with_reducible apply s2); exact rfl; exact by_k) | ((with_reducible apply s4); exact rfl) | ((with_reducible apply s5); (first | exact by_oa); exact by_g) | ((with_reducible apply CW.cond_t); exact rfl; exact by_ks) | ((with_reducible apply CW.cond_f); exact rfl; exact by_ks) | ((with_reducible apply q_block_miss); exact rfl) | (refine And.intro (show chk [] [] _ _ = true by kernel_rfl) ?_))
      exact RetNew.nil rfl rfl
    | some ad =>
      repeat (first | (with_reducible apply stop_reg 3) | ((with_reducible apply s1); exact rfl) | (with_reducible first | apply CW.seq | apply CW.block | apply CW.region | apply CW.draw | apply CW.skip | apply CW.exit | apply CW.ret | apply q_then | apply q_then_exit | apply q_then_ret | apply q_block | apply q_block_ret | apply q_block_hit | apply q_ret | apply q_end | apply q_loop_exit | apply q_loop_ret | apply q_loopT_exit | apply q_loopT_ret | apply RW.nil) | ((with_reducible apply s3); exact rfl; exact by_k) | ((with_reducible apply s2); exact rfl; exact by_k) | ((with_reducible apply s4); exact rfl) | ((with_reducible apply s5); (first | exact by_oa); exact by_g) | ((with_reducible apply CW.cond_t); exact rfl; exact by_ks) | ((with_reducible apply CW.cond_f); exact rfl; exact by_ks) | ((with_reducible apply q_block_miss); exact rfl) | (refine And.intro (show chk [] [] _ _ = true by kernel_rfl) ?_))
      refine Stop.go (CW.stut (stut_nilv (i := 0) (k := 1)) ⟨rfl, trivial⟩ ?_)
      repeat (first | ((with_reducible apply s1); exact rfl) | (with_reducible first | apply CW.seq | apply CW.block | apply CW.region | apply CW.draw | apply CW.skip | apply CW.exit | apply CW.ret | apply q_then | apply q_then_exit | apply q_then_ret | apply q_block | apply q_block_ret | apply q_block_hit | apply q_ret | apply q_end | apply q_loop_exit | apply q_loop_ret | apply q_loopT_exit | apply q_loopT_ret | apply RW.nil) | ((with_reducible apply s3); exact rfl; exact by_k) | ((with_reducible apply s2); exact rfl; exact by_k) | ((with_reducible apply s4); exact rfl) | ((with_reducible apply s5); (first | exact by_oa); exact by_g) | ((with_reducible apply CW.cond_t); exact rfl; exact by_ks) | ((with_reducible apply CW.cond_f); exact rfl; exact by_ks) | ((with_reducible apply q_block_miss); exact rfl) | (refine And.intro (show chk [] [] _ _ = true by kernel_rfl) ?_))
      exact RetNew.own rfl rfl rfl
  | cons r rows =>
    have hl2 : rows.length ≤ 536870911 := by simp at hl; omega
    repeat (first | ((with_reducible apply s1); exact rfl) | (with_reducible first | apply CW.seq | apply CW.block | apply CW.region | apply CW.draw | apply CW.skip | apply CW.exit | apply CW.ret | apply q_then | apply q_then_exit | apply q_then_ret | apply q_block | apply q_block_ret | apply q_block_hit | apply q_ret | apply q_end | apply q_loop_exit | apply q_loop_ret | apply q_loopT_exit | apply q_loopT_ret | apply RW.nil) | ((with_reducible apply s3); exact rfl; exact by_k) | ((with_reducible apply s2); exact rfl; exact by_k) | ((with_reducible apply s4); exact rfl) | ((with_reducible apply s5); (first | exact by_oa); exact by_g) | ((with_reducible apply CW.cond_t); exact rfl; exact by_ks) | ((with_reducible apply CW.cond_f); exact rfl; exact by_ks) | ((with_reducible apply q_block_miss); exact rfl) | (refine And.intro (show chk [] [] _ _ = true by kernel_rfl) ?_))
    exact RetNew.own rfl rfl (by simp)
theorem ok_clone_int (rows : List (List D)) (hl : rows.length ≤ 536870912) : FnOk Tryz.prog 53 [.d (.sl 1 rows)] (.one (.sl 1 rows)) := (new_clone_int rows hl).ok

theorem new_clone_done (rows : List (List D)) (hl : rows.length ≤ 536870912) : FnNew Tryz.prog 54 [.d (.sl 5 rows)] 53 5 rows := by
  refine fnNew_of tbl_ok mixed_ok Tryz.func54 rfl (by kernel_rfl) rfl rfl fun w0 own0 => ?_
  cases rows with
  | nil =>
    refine CW.empty 0 rfl fun p cp => ?_
    cases p with
    | none =>
      repeat (first | ((with_reducible apply s1); exact rfl) | (with_reducible first | apply CW.seq | apply CW.block | apply CW.region | apply CW.draw | apply CW.skip | apply CW.exit | apply CW.ret | apply q_then | apply q_then_exit | apply q_then_ret | apply q_block | apply q_block_ret | apply q_block_hit | apply q_ret | apply q_end | apply q_loop_exit | apply q_loop_ret | apply q_loopT_exit | apply q_loopT_ret | apply RW.nil) | ((with_reducible apply s3); exact rfl; exact by_k) | ((with_reducible apply s2); exact rfl; exact by_k) | ((with_reducible apply s4); exact rfl) | ((with_reducible apply s5); (first | exact by_oa); exact by_g) | ((with_reducible apply CW.cond_t); exact rfl; exact by_ks) | ((with_reducible apply CW.cond_f); exact rfl; exact by_ks) | ((with_reducible apply q_block_miss); exact rfl) | (refine And.intro (show chk [] [] _ _ = true by kernel_rfl) ?_))
      exact RetNew.nil rfl rfl
    | some ad =>
      repeat (first | (with_reducible apply stop_reg 3) | ((with_reducible apply s1); exact rfl) | (with_reducible first | apply CW.seq | apply CW.block | apply CW.region | apply CW.draw | apply CW.skip | apply CW.exit | apply CW.ret | apply q_then | apply q_then_exit | apply q_then_ret | apply q_block | apply q_block_ret | apply q_block_hit | apply q_ret | apply q_end | apply q_loop_exit | apply q_loop_ret | apply q_loopT_exit | apply q_loopT_ret | apply RW.nil) | ((with_reducible apply s3); exact rfl; exact by_k) | ((with_reducible apply s2); exact rfl; exact by_k) | ((with_reducible apply s4); exact rfl) | ((with_reducible apply s5); (first | exact by_oa); exact by_g) | ((with_reducible apply CW.cond_t); exact rfl; exact by_ks) | ((with_reducible apply CW.cond_f); exact rfl; exact by_ks) | ((with_reducible apply q_block_miss); exact rfl) | (refine And.intro (show chk [] [] _ _ = true by kernel_rfl) ?_))
      refine Stop.go (CW.stut (stut_nilv (i := 0) (k := 5)) ⟨rfl, trivial⟩ ?_)
      repeat (first | ((with_reducible apply s1); exact rfl) | (with_reducible first | apply CW.seq | apply CW.block | apply CW.region | apply CW.draw | apply CW.skip | apply CW.exit | apply CW.ret | apply q_then | apply q_then_exit | apply q_then_ret | apply q_block | apply q_block_ret | apply q_block_hit | apply q_ret | apply q_end | apply q_loop_exit | apply q_loop_ret | apply q_loopT_exit | apply q_loopT_ret | apply RW.nil) | ((with_reducible apply s3); exact rfl; exact by_k) | ((with_reducible apply s2); exact rfl; exact by_k) | ((with_reducible apply s4); exact rfl) | ((with_reducible apply s5); (first | exact by_oa); exact by_g) | ((with_reducible apply CW.cond_t); exact rfl; exact by_ks) | ((with_reducible apply CW.cond_f); exact rfl; exact by_ks) | ((with_reducible apply q_block_miss); exact rfl) | (refine And.intro (show chk [] [] _ _ = true by kernel_rfl) ?_))
      exact RetNew.own rfl rfl rfl
  | cons r rows =>
    have hl2 : rows.length ≤ 536870911 := by simp at hl; omega
    repeat (first | ((with_reducible apply s1); exact rfl) | (with_reducible first | apply CW.seq | apply CW.block | apply CW.region | apply CW.draw | apply CW.skip | apply CW.exit | apply CW.ret | apply q_then | apply q_then_exit | apply q_then_ret | apply q_block | apply q_block_ret | apply q_block_hit | apply q_ret | apply q_end | apply q_loop_exit | apply q_loop_ret | apply q_loopT_exit | apply q_loopT_ret | apply RW.nil) | ((with_reducible apply s3); exact rfl; exact by_k) | ((with_reducible apply s2); exact rfl; exact by_k) | ((with_reducible apply s4); exact rfl) | ((with_reducible apply s5); (first | exact by_oa); exact by_g) | ((with_reducible apply CW.cond_t); exact rfl; exact by_ks) | ((with_reducible apply CW.cond_f); exact rfl; exact by_ks) | ((with_reducible apply q_block_miss); exact rfl) | (refine And.intro (show chk [] [] _ _ = true by kernel_rfl) ?_))
    exact RetNew.own rfl rfl (by simp)
theorem ok_clone_done (rows : List (List D)) (hl : rows.length ≤ 536870912) : FnOk Tryz.prog 54 [.d (.sl 5 rows)] (.one (.sl 5 rows)) := (new_clone_done rows hl).ok

theorem new_clone_str (rows : List (List D)) (hl : rows.length ≤ 536870912) : FnNew Tryz.prog 69 [.d (.sl 1 rows)] 9 1 rows := by
  refine fnNew_of tbl_ok mixed_ok Tryz.func69 rfl (by kernel_rfl) rfl rfl fun w0 own0 => ?_
  cases rows with
  | nil =>
    refine CW.empty 0 rfl fun p cp => ?_
    cases p with
    | none =>
      repeat (first | ((with_reducible apply s1); exact rfl) | (with_reducible first | apply CW.seq | apply CW.block | apply CW.region | apply CW.draw | apply CW.skip | apply CW.exit | apply CW.ret | apply q_then | apply q_then_exit | apply q_then_ret | apply q_block | apply q_block_ret | apply q_block_hit | apply q_ret | apply q_end | apply q_loop_exit | apply q_loop_ret | apply q_loopT_exit | apply q_loopT_ret | apply RW.nil) | ((with_reducible apply s3); exact rfl; exact by_k) | ((with_reducible apply s2); exact rfl; exact by_k) | ((with_reducible apply s4); exact rfl) | ((with_reducible apply s5); (first | exact by_oa); exact by_g) | ((with_reducible apply CW.cond_t); exact rfl; exact by_ks) | ((with_reducible apply CW.cond_f); exact rfl; exact by_ks) | ((with_reducible apply q_block_miss); exact rfl) | (refine And.intro (show chk [] [] _ _ = true by kernel_rfl) ?_))
      exact RetNew.nil rfl rfl
    | some ad =>
      repeat (first | (with_reducible apply stop_reg 3) | ((with_reducible apply s1); exact rfl) | (with_reducible first | apply CW.seq | apply CW.block | apply CW.region | apply CW.draw | apply CW.skip | apply CW.exit | apply CW.ret | apply q_then | apply q_then_exit | apply q_then_ret | apply q_block | apply q_block_ret | apply q_block_hit | apply q_ret | apply q_end | apply q_loop_exit | apply q_loop_ret | apply q_loopT_exit | apply q_loopT_ret | apply RW.nil) | ((with_reducible apply s3); exact rfl; exact by_k) | ((with_reducible apply s2); exact rfl; exact by_k) | ((with_reducible apply s4); exact rfl) | ((with_reducible apply s5); (first | exact by_oa); exact by_g) | ((with_reducible apply CW.cond_t); exact rfl; exact by_ks) | ((with_reducible apply CW.cond_f); exact rfl; exact by_ks) | ((with_reducible apply q_block_miss); exact rfl) | (refine And.intro (show chk [] [] _ _ = true by kernel_rfl) ?_))
      refine Stop.go (CW.stut (stut_nilv (i := 0) (k := 1)) ⟨rfl, trivial⟩ ?_)
      repeat (first | ((with_reducible apply s1); exact rfl) | (with_reducible first | apply CW.seq | apply CW.block | apply CW.region | apply CW.draw | apply CW.skip | apply CW.exit | apply CW.ret | apply q_then | apply q_then_exit | apply q_then_ret | apply q_block | apply q_block_ret | apply q_block_hit | apply q_ret | apply q_end | apply q_loop_exit | apply q_loop_ret | apply q_loopT_exit | apply q_loopT_ret | apply RW.nil) | ((with_reducible apply s3); exact rfl; exact by_k) | ((with_reducible apply s2); exact rfl; exact by_k) | ((with_reducible apply s4); exact rfl) | ((with_reducible apply s5); (first | exact by_oa); exact by_g) | ((with_reducible apply CW.cond_t); exact rfl; exact by_ks) | ((with_reducible apply CW.cond_f); exact rfl; exact by_ks) | ((with_reducible apply q_block_miss); exact rfl) | (refine And.intro (show chk [] [] _ _ = true by kernel_rfl) ?_))
      exact RetNew.own rfl rfl rfl
  | cons r rows =>
    have hl2 : rows.length ≤ 536870911 := by simp at hl; omega
    repeat (first | ((with_reducible apply s1); exact rfl) | (with_reducible first | apply CW.seq | apply CW.block | apply CW.region | apply CW.draw | apply CW.skip | apply CW.exit | apply CW.ret | apply q_then | apply q_then_exit | apply q_then_ret | apply q_block | apply q_block_ret | apply q_block_hit | apply q_ret | apply q_end | apply q_loop_exit | apply q_loop_ret | apply q_loopT_exit | apply q_loopT_ret | apply RW.nil) | ((with_reducible apply s3); exact rfl; exact by_k) | ((with_reducible apply s2); exact rfl; exact by_k) | ((with_reducible apply s4); exact rfl) | ((with_reducible apply s5); (first | exact by_oa); exact by_g) | ((with_reducible apply CW.cond_t); exact rfl; exact by_ks) | ((with_reducible apply CW.cond_f); exact rfl; exact by_ks) | ((with_reducible apply q_block_miss); exact rfl) | (refine And.intro (show chk [] [] _ _ = true by kernel_rfl) ?_))
    exact RetNew.own rfl rfl (by simp)
theorem ok_clone_str (rows : List (List D)) (hl : rows.length ≤ 536870912) : FnOk Tryz.prog 69 [.d (.sl 1 rows)] (.one (.sl 1 rows)) := (new_clone_str rows hl).ok

theorem new_clone_ins (rows : List (List D)) (hl : rows.length ≤ 536870912) : FnNew Tryz.prog 74 [.d (.sl 5 rows)] 93 5 rows := by
  refine fnNew_of tbl_ok mixed_ok Tryz.func74 rfl (by kernel_rfl) rfl rfl fun w0 own0 => ?_
  cases rows with
  | nil =>
    refine CW.empty 0 rfl fun p cp => ?_
    cases p with
    | none =>
      repeat (first | ((with_reducible apply s1); exact rfl) | (with_reducible first | apply CW.seq | apply CW.block | apply CW.region | apply CW.draw | apply CW.skip | apply CW.exit | apply CW.ret | apply q_then | apply q_then_exit | apply q_then_ret | apply q_block | apply q_block_ret | apply q_block_hit | apply q_ret | apply q_end | apply q_loop_exit | apply q_loop_ret | apply q_loopT_exit | apply q_loopT_ret | apply RW.nil) | ((with_reducible apply s3); exact rfl; exact by_k) | ((with_reducible apply s2); exact rfl; exact by_k) | ((with_reducible apply s4); exact rfl) | ((with_reducible apply s5); (first | exact by_oa); exact by_g) | ((with_reducible apply CW.cond_t); exact rfl; exact by_ks) | ((with_reducible apply CW.cond_f); exact rfl; exact by_ks) | ((with_reducible apply q_block_miss); exact rfl) | (refine And.intro (show chk [] [] _ _ = true by kernel_rfl) ?_))
      exact RetNew.nil rfl rfl
    | some ad =>
      repeat (first | (with_reducible apply stop_reg 3) | ((with_reducible apply s1); exact rfl) | (with_reducible first | apply CW.seq | apply CW.block | apply CW.region | apply CW.draw | apply CW.skip | apply CW.exit | apply CW.ret | apply q_then | apply q_then_exit | apply q_then_ret | apply q_block | apply q_block_ret | apply q_block_hit | apply q_ret | apply q_end | apply q_loop_exit | apply q_loop_ret | apply q_loopT_exit | apply q_loopT_ret | apply RW.nil) | ((with_reducible apply s3); exact rfl; exact by_k) | ((with_reducible apply s2); exact rfl; exact by_k) | ((with_reducible apply s4); exact rfl) | ((with_reducible apply s5); (first | exact by_oa); exact by_g) | ((with_reducible apply CW.cond_t); exact rfl; exact by_ks) | ((with_reducible apply CW.cond_f); exact rfl; exact by_ks) | ((with_reducible apply q_block_miss); exact rfl) | (refine And.intro (show chk [] [] _ _ = true by kernel_rfl) ?_))
      refine Stop.go (CW.stut (stut_nilv (i := 0) (k := 5)) ⟨rfl, trivial⟩ ?_)
      repeat (first | ((with_reducible apply s1); exact rfl) | (with_reducible first | apply CW.seq | apply CW.block | apply CW.region | apply CW.draw | apply CW.skip | apply CW.exit | apply CW.ret | apply q_then | apply q_then_exit | apply q_then_ret | apply q_block | apply q_block_ret | apply q_block_hit | apply q_ret | apply q_end | apply q_loop_exit | apply q_loop_ret | apply q_loopT_exit | apply q_loopT_ret | apply RW.nil) | ((with_reducible apply s3); exact rfl; exact by_k) | ((with_reducible apply s2); exact rfl; exact by_k) | ((with_reducible apply s4); exact rfl) | ((with_reducible apply s5); (first | exact by_oa); exact by_g) | ((with_reducible apply CW.cond_t); exact rfl; exact by_ks) | ((with_reducible apply CW.cond_f); exact rfl; exact by_ks) | ((with_reducible apply q_block_miss); exact rfl) | (refine And.intro (show chk [] [] _ _ = true by kernel_rfl) ?_))
      exact RetNew.own rfl rfl rfl
  | cons r rows =>
    have hl2 : rows.length ≤ 536870911 := by simp at hl; omega
    repeat (first | ((with_reducible apply s1); exact rfl) | (with_reducible first | apply CW.seq | apply CW.block | apply CW.region | apply CW.draw | apply CW.skip | apply CW.exit | apply CW.ret | apply q_then | apply q_then_exit | apply q_then_ret | apply q_block | apply q_block_ret | apply q_block_hit | apply q_ret | apply q_end | apply q_loop_exit | apply q_loop_ret | apply q_loopT_exit | apply q_loopT_ret | apply RW.nil) | ((with_reducible apply s3); exact rfl; exact by_k) | ((with_reducible apply s2); exact rfl; exact by_k) | ((with_reducible apply s4); exact rfl) | ((with_reducible apply s5); (first | exact by_oa); exact by_g) | ((with_reducible apply CW.cond_t); exact rfl; exact by_ks) | ((with_reducible apply CW.cond_f); exact rfl; exact by_ks) | ((with_reducible apply q_block_miss); exact rfl) | (refine And.intro (show chk [] [] _ _ = true by kernel_rfl) ?_))
    exact RetNew.own rfl rfl (by simp)
theorem ok_clone_ins (rows : List (List D)) (hl : rows.length ≤ 536870912) : FnOk Tryz.prog 74 [.d (.sl 5 rows)] (.one (.sl 5 rows)) := (new_clone_ins rows hl).ok

end Go.Proofs.YtembfadhnkabhaaGreatDoor

/-! G3 -/
/-
  Contracts of the program's copies, and of what it counts in engines.
-/
namespace Go.Proofs.YtembfadhnkabhaaGreatDoor
open Go.AX Go.RF

set_option maxRecDepth 100000
set_option maxHeartbeats 4000000

theorem ok_chainOwn (l : List Chain) (hl : l.length ≤ 268435456) (hv : ∀ c ∈ l, c.vs.length ≤ 268435456) : FnOk Tryz.prog 52 [.d (encChains l)] (.one (encChains l)) := by
  refine fnOk_of tbl_ok mixed_ok Tryz.func52 rfl (by kernel_rfl) rfl rfl fun w0 own0 => ?_
  repeat (first | ((with_reducible apply s1); exact rfl) | (with_reducible first | apply CW.seq | apply CW.block | apply CW.region | apply CW.draw | apply CW.skip | apply CW.exit | apply CW.ret | apply q_then | apply q_then_exit | apply q_then_ret | apply q_block | apply q_block_ret | apply q_block_hit | apply q_ret | apply q_end | apply q_loop_exit | apply q_loop_ret | apply q_loopT_exit | apply q_loopT_ret | apply RW.nil) | ((with_reducible apply s3); exact rfl; exact by_k) | ((with_reducible apply s2); exact rfl; exact by_k) | ((with_reducible apply s4); exact rfl) | ((with_reducible apply s5); (first | exact by_oa); exact by_g) | ((with_reducible apply CW.cond_t); exact rfl; exact by_ks) | ((with_reducible apply CW.cond_f); exact rfl; exact by_ks) | ((with_reducible apply q_block_miss); exact rfl) | (refine And.intro (show chk [] [] _ _ = true by kernel_rfl) ?_))
  refine CW.stut (stut_promote (i := 3) 56 2) ⟨rfl, rfl, trivial⟩ ?_
  refine CW.loopT (fun i : Nat => [sd 6 (encChains l), sd 7 (dint l.length), sd 8 (dint i), so 3 0 i, oa 0 56 2 ((l.take i).map Chain.enc), nxt 1]) (fun i => i ≤ l.length) (fun i => l.length - i) 0 (by omega) ?_ ?_
  ·
    exact by_less
  · rintro i hi
    rcases drop_case hi with ⟨h1, h2⟩ | ⟨c, h1, h2, h3⟩
    ·
      repeat (first | ((with_reducible apply s1); exact rfl) | (with_reducible first | apply CW.seq | apply CW.block | apply CW.region | apply CW.draw | apply CW.skip | apply CW.exit | apply CW.ret | apply q_then | apply q_then_exit | apply q_then_ret | apply q_block | apply q_block_ret | apply q_block_hit | apply q_ret | apply q_end | apply q_loop_exit | apply q_loop_ret | apply q_loopT_exit | apply q_loopT_ret | apply RW.nil) | ((with_reducible apply s3); exact rfl; exact by_k) | ((with_reducible apply s2); exact rfl; exact by_k) | ((with_reducible apply s4); exact rfl) | ((with_reducible apply s5); (first | exact by_oa); exact by_g) | ((with_reducible apply CW.cond_t); exact rfl; exact by_ks) | ((with_reducible apply CW.cond_f); exact rfl; exact by_ks) | ((with_reducible apply q_block_miss); exact rfl) | (refine And.intro (show chk [] [] _ _ = true by kernel_rfl) ?_))
      exact .one (.tmp rfl (.one (.own rfl (by simp; omega) (dle_eq (by rw [h2, List.take_length]; rfl)))))
    · have h4 : (l.take i).map Chain.enc ++ [c.enc] = (l.take (i + 1)).map Chain.enc := by rw [List.take_add_one, h2]; simp
      have hcv := hv c (List.mem_of_getElem? h2)
      have hc := ok_clone_version (c.vs.map Version.enc) (by simp; omega)
      repeat (first | ((with_reducible apply s1); exact rfl) | (with_reducible first | apply CW.seq | apply CW.block | apply CW.region | apply CW.draw | apply CW.skip | apply CW.exit | apply CW.ret | apply q_then | apply q_then_exit | apply q_then_ret | apply q_block | apply q_block_ret | apply q_block_hit | apply q_ret | apply q_end | apply q_loop_exit | apply q_loop_ret | apply q_loopT_exit | apply q_loopT_ret | apply RW.nil) | ((with_reducible apply s3); exact rfl; exact by_k) | ((with_reducible apply s2); exact rfl; exact by_k) | ((with_reducible apply s4); exact rfl) | ((with_reducible apply s5); (first | (focus ((with_reducible apply a_call); exact hc; exact rfl; (repeat (first | exact SubsE.nil | (apply SubsE.cons; exact rfl; (first | exact .d (.refl _) | exact .d (.nil _) | exact .agg rfl (.refl _) | exact .pd | exact .ptr rfl); (first | exact trivial | exact ⟨rfl, trivial⟩)))); done)) | exact by_oa); exact by_g) | ((with_reducible apply CW.cond_t); exact rfl; exact by_ks) | ((with_reducible apply CW.cond_f); exact rfl; exact by_ks) | ((with_reducible apply q_block_miss); exact rfl) | (refine And.intro (show chk [] [] _ _ = true by kernel_rfl) ?_))
      refine q_loopT (i + 1) (by omega) (by omega) ?_
      exact by_less

theorem ok_deedOwn (d : Deed) (hs : d.Sm) : FnOk Tryz.prog 46 [.d (.agg d.enc)] (.one (.agg d.enc)) := by
  refine fnOk_of tbl_ok mixed_ok Tryz.func46 rfl (by kernel_rfl) rfl rfl fun w0 own0 => ?_
  have h1 := hs.r
  have h2 := hs.w
  have h3 := hs.c
  have c1 := ok_clone_str (d.reads.map encStr1) (by simp; omega)
  have c2 := ok_clone_str (d.writes.map encStr1) (by simp; omega)
  have c3 := ok_clone_ins (d.code.map Ins.enc) (by simp; omega)
  repeat (first | ((with_reducible apply s1); exact rfl) | (with_reducible first | apply CW.seq | apply CW.block | apply CW.region | apply CW.draw | apply CW.skip | apply CW.exit | apply CW.ret | apply q_then | apply q_then_exit | apply q_then_ret | apply q_block | apply q_block_ret | apply q_block_hit | apply q_ret | apply q_end | apply q_loop_exit | apply q_loop_ret | apply q_loopT_exit | apply q_loopT_ret | apply RW.nil) | ((with_reducible apply s3); exact rfl; exact by_k) | ((with_reducible apply s2); exact rfl; exact by_k) | ((with_reducible apply s4); exact rfl) | ((with_reducible apply s5); (first | (focus ((with_reducible apply a_call); exact c1; exact rfl; (repeat (first | exact SubsE.nil | (apply SubsE.cons; exact rfl; (first | exact .d (.refl _) | exact .d (.nil _) | exact .agg rfl (.refl _) | exact .pd | exact .ptr rfl); (first | exact trivial | exact ⟨rfl, trivial⟩)))); done)) | (focus ((with_reducible apply a_call); exact c2; exact rfl; (repeat (first | exact SubsE.nil | (apply SubsE.cons; exact rfl; (first | exact .d (.refl _) | exact .d (.nil _) | exact .agg rfl (.refl _) | exact .pd | exact .ptr rfl); (first | exact trivial | exact ⟨rfl, trivial⟩)))); done)) | (focus ((with_reducible apply a_call); exact c3; exact rfl; (repeat (first | exact SubsE.nil | (apply SubsE.cons; exact rfl; (first | exact .d (.refl _) | exact .d (.nil _) | exact .agg rfl (.refl _) | exact .pd | exact .ptr rfl); (first | exact trivial | exact ⟨rfl, trivial⟩)))); done)) | exact by_oa); exact by_g) | ((with_reducible apply CW.cond_t); exact rfl; exact by_ks) | ((with_reducible apply CW.cond_f); exact rfl; exact by_ks) | ((with_reducible apply q_block_miss); exact rfl) | (refine And.intro (show chk [] [] _ _ = true by kernel_rfl) ?_))
  exact .one (.cell rfl rfl rfl rfl (.aggd (ds := d.enc) rfl (.refl _)))

theorem ok_planOwn (e : Engine) (hs : e.Sm) : FnOk Tryz.prog 31 [.d (.agg e.enc)] (.one (.agg e.enc)) := by
  refine fnOk_of tbl_ok mixed_ok Tryz.func31 rfl (by kernel_rfl) rfl rfl fun w0 own0 => ?_
  have h1 := hs.c
  have h2 := hs.s
  have h3 := hs.n
  have h4 := hs.d
  have c1 := ok_chainOwn e.chains (by omega) (fun c hc => by have := hs.v c hc; omega)
  have c2 := ok_clone_int (e.state.map encInt1) (by simp; omega)
  have c3 := ok_clone_done (e.ends.map Done.enc) (by simp; omega)
  repeat (first | ((with_reducible apply s1); exact rfl) | (with_reducible first | apply CW.seq | apply CW.block | apply CW.region | apply CW.draw | apply CW.skip | apply CW.exit | apply CW.ret | apply q_then | apply q_then_exit | apply q_then_ret | apply q_block | apply q_block_ret | apply q_block_hit | apply q_ret | apply q_end | apply q_loop_exit | apply q_loop_ret | apply q_loopT_exit | apply q_loopT_ret | apply RW.nil) | ((with_reducible apply s3); exact rfl; exact by_k) | ((with_reducible apply s2); exact rfl; exact by_k) | ((with_reducible apply s4); exact rfl) | ((with_reducible apply s5); (first | (focus ((with_reducible apply a_call); exact c1; exact rfl; (repeat (first | exact SubsE.nil | (apply SubsE.cons; exact rfl; (first | exact .d (.refl _) | exact .d (.nil _) | exact .agg rfl (.refl _) | exact .pd | exact .ptr rfl); (first | exact trivial | exact ⟨rfl, trivial⟩)))); done)) | (focus ((with_reducible apply a_call); exact c2; exact rfl; (repeat (first | exact SubsE.nil | (apply SubsE.cons; exact rfl; (first | exact .d (.refl _) | exact .d (.nil _) | exact .agg rfl (.refl _) | exact .pd | exact .ptr rfl); (first | exact trivial | exact ⟨rfl, trivial⟩)))); done)) | (focus ((with_reducible apply a_call); exact c3; exact rfl; (repeat (first | exact SubsE.nil | (apply SubsE.cons; exact rfl; (first | exact .d (.refl _) | exact .d (.nil _) | exact .agg rfl (.refl _) | exact .pd | exact .ptr rfl); (first | exact trivial | exact ⟨rfl, trivial⟩)))); done)) | exact by_oa); exact by_g) | ((with_reducible apply CW.cond_t); exact rfl; exact by_ks) | ((with_reducible apply CW.cond_f); exact rfl; exact by_ks) | ((with_reducible apply q_block_miss); exact rfl) | (refine And.intro (show chk [] [] _ _ = true by kernel_rfl) ?_))
  refine CW.stut (stut_promote_cell (id := 2) (j := 1) 69 3 rfl) ⟨rfl, rfl, trivial⟩ ?_
  refine CW.loopT (fun i : Nat => [sp 2 1, ob 1 noE.enc0, sp 3 2, (.o 2, .ob (.box [.d (encChains e.chains), .own 3 i, .d (encInts e.state), .d (encEnds e.ends), .d (dint e.base)])), sd 19 (encDeeds e.deeds), sd 20 (dint e.deeds.length), sd 21 (dint i),
      oa 3 69 3 ((e.deeds.take i).map Deed.enc), nxt 4]) (fun i => i ≤ e.deeds.length) (fun i => e.deeds.length - i) 0 (by omega) ?_ ?_
  ·
    exact by_less
  · rintro i hi
    rcases drop_case hi with ⟨h5, h6⟩ | ⟨d, h5, h6, h7⟩
    · have h8 : (e.deeds.take i).map Deed.enc = e.deeds.map Deed.enc := by rw [h6, List.take_length]
      repeat (first | (with_reducible apply stop_reg 7) | ((with_reducible apply s1); exact rfl) | (with_reducible first | apply CW.seq | apply CW.block | apply CW.region | apply CW.draw | apply CW.skip | apply CW.exit | apply CW.ret | apply q_then | apply q_then_exit | apply q_then_ret | apply q_block | apply q_block_ret | apply q_block_hit | apply q_ret | apply q_end | apply q_loop_exit | apply q_loop_ret | apply q_loopT_exit | apply q_loopT_ret | apply RW.nil) | ((with_reducible apply s3); exact rfl; exact by_k) | ((with_reducible apply s2); exact rfl; exact by_k) | ((with_reducible apply s4); exact rfl) | ((with_reducible apply s5); (first | exact by_oa); exact by_g) | ((with_reducible apply CW.cond_t); exact rfl; exact by_ks) | ((with_reducible apply CW.cond_f); exact rfl; exact by_ks) | ((with_reducible apply q_block_miss); exact rfl) | (refine And.intro (show chk [] [] _ _ = true by kernel_rfl) ?_))
      refine Stop.go (CW.stut (stut_freeze_cell (id := 2) (j := 1) (i := 3) rfl (by simp; omega)) ⟨rfl, rfl, trivial⟩ ?_)
      repeat (first | ((with_reducible apply s1); exact rfl) | (with_reducible first | apply CW.seq | apply CW.block | apply CW.region | apply CW.draw | apply CW.skip | apply CW.exit | apply CW.ret | apply q_then | apply q_then_exit | apply q_then_ret | apply q_block | apply q_block_ret | apply q_block_hit | apply q_ret | apply q_end | apply q_loop_exit | apply q_loop_ret | apply q_loopT_exit | apply q_loopT_ret | apply RW.nil) | ((with_reducible apply s3); exact rfl; exact by_k) | ((with_reducible apply s2); exact rfl; exact by_k) | ((with_reducible apply s4); exact rfl) | ((with_reducible apply s5); (first | exact by_oa); exact by_g) | ((with_reducible apply CW.cond_t); exact rfl; exact by_ks) | ((with_reducible apply CW.cond_f); exact rfl; exact by_ks) | ((with_reducible apply q_block_miss); exact rfl) | (refine And.intro (show chk [] [] _ _ = true by kernel_rfl) ?_))
      exact .one (.cell rfl rfl rfl rfl (.aggd (ds := [encChains e.chains, .sl 3 ((e.deeds.take i).map Deed.enc), encInts e.state, encEnds e.ends, dint e.base]) rfl (dle_eq (by rw [h8]; rfl))))
    · have h8 : (e.deeds.take i).map Deed.enc ++ [d.enc] = (e.deeds.take (i + 1)).map Deed.enc := by rw [List.take_add_one, h6]; simp
      have hd := ok_deedOwn d (hs.dd d (List.mem_of_getElem? h6))
      repeat (first | ((with_reducible apply s1); exact rfl) | (with_reducible first | apply CW.seq | apply CW.block | apply CW.region | apply CW.draw | apply CW.skip | apply CW.exit | apply CW.ret | apply q_then | apply q_then_exit | apply q_then_ret | apply q_block | apply q_block_ret | apply q_block_hit | apply q_ret | apply q_end | apply q_loop_exit | apply q_loop_ret | apply q_loopT_exit | apply q_loopT_ret | apply RW.nil) | ((with_reducible apply s3); exact rfl; exact by_k) | ((with_reducible apply s2); exact rfl; exact by_k) | ((with_reducible apply s4); exact rfl) | ((with_reducible apply s5); (first | (focus ((with_reducible apply a_call); exact hd; exact rfl; (repeat (first | exact SubsE.nil | (apply SubsE.cons; exact rfl; (first | exact .d (.refl _) | exact .d (.nil _) | exact .agg rfl (.refl _) | exact .pd | exact .ptr rfl); (first | exact trivial | exact ⟨rfl, trivial⟩)))); done)) | exact by_oa); exact by_g) | ((with_reducible apply CW.cond_t); exact rfl; exact by_ks) | ((with_reducible apply CW.cond_f); exact rfl; exact by_ks) | ((with_reducible apply q_block_miss); exact rfl) | (refine And.intro (show chk [] [] _ _ = true by kernel_rfl) ?_))
      refine q_loopT (i + 1) (by omega) (by omega) ?_
      exact by_less

end Go.Proofs.YtembfadhnkabhaaGreatDoor

/-! G4 -/
/-
  Contracts of the program's Clear of chains, Of, Size, Mark.
-/
namespace Go.Proofs.YtembfadhnkabhaaGreatDoor
open Go.AX Go.RF

set_option maxRecDepth 100000
set_option maxHeartbeats 8000000

theorem ok_of (l : List Pair) (hl : l.length ≤ 134217728) : FnOk Tryz.prog 68 [.d (encRows l)] (.one (encChains (l.map rowChain))) := by
  refine fnOk_of tbl_ok mixed_ok Tryz.func68 rfl (by kernel_rfl) rfl rfl fun w0 own0 => ?_
  repeat (first | ((with_reducible apply s1); exact rfl) | (with_reducible first | apply CW.seq | apply CW.block | apply CW.region | apply CW.draw | apply CW.skip | apply CW.exit | apply CW.ret | apply q_then | apply q_then_exit | apply q_then_ret | apply q_block | apply q_block_ret | apply q_block_hit | apply q_ret | apply q_end | apply q_loop_exit | apply q_loop_ret | apply q_loopT_exit | apply q_loopT_ret | apply RW.nil) | ((with_reducible apply s3); exact rfl; exact by_k) | ((with_reducible apply s2); exact rfl; exact by_k) | ((with_reducible apply s4); exact rfl) | ((with_reducible apply s5); (first | exact by_oa); exact by_g) | ((with_reducible apply CW.cond_t); exact rfl; exact by_ks) | ((with_reducible apply CW.cond_f); exact rfl; exact by_ks) | ((with_reducible apply q_block_miss); exact rfl) | (refine And.intro (show chk [] [] _ _ = true by kernel_rfl) ?_))
  refine CW.stut (stut_promote (i := 3) 56 2) ⟨rfl, rfl, trivial⟩ ?_
  refine CW.loopT (fun i : Nat => [sd 6 (encRows l), sd 7 (dint l.length), sd 8 (dint i), so 3 0 i, oa 0 56 2 ((l.take i).map fun p => (rowChain p).enc), nxt 1]) (fun i => i ≤ l.length) (fun i => l.length - i) 0 (by omega) ?_ ?_
  ·
    exact by_less
  · rintro i hi
    rcases drop_case hi with ⟨h1, h2⟩ | ⟨p, h1, h2, h3⟩
    ·
      repeat (first | ((with_reducible apply s1); exact rfl) | (with_reducible first | apply CW.seq | apply CW.block | apply CW.region | apply CW.draw | apply CW.skip | apply CW.exit | apply CW.ret | apply q_then | apply q_then_exit | apply q_then_ret | apply q_block | apply q_block_ret | apply q_block_hit | apply q_ret | apply q_end | apply q_loop_exit | apply q_loop_ret | apply q_loopT_exit | apply q_loopT_ret | apply RW.nil) | ((with_reducible apply s3); exact rfl; exact by_k) | ((with_reducible apply s2); exact rfl; exact by_k) | ((with_reducible apply s4); exact rfl) | ((with_reducible apply s5); (first | exact by_oa); exact by_g) | ((with_reducible apply CW.cond_t); exact rfl; exact by_ks) | ((with_reducible apply CW.cond_f); exact rfl; exact by_ks) | ((with_reducible apply q_block_miss); exact rfl) | (refine And.intro (show chk [] [] _ _ = true by kernel_rfl) ?_))
      exact .one (.tmp rfl (.one (.own rfl (by simp; omega) (dle_eq (by rw [h2, List.take_length]; simp [encChains])))))
    · have h4 : (l.take i).map (fun p => (rowChain p).enc) ++ [(rowChain p).enc] = (l.take (i + 1)).map fun p => (rowChain p).enc := by rw [List.take_add_one, h2]; simp
      repeat (first | ((with_reducible apply s1); exact rfl) | (with_reducible first | apply CW.seq | apply CW.block | apply CW.region | apply CW.draw | apply CW.skip | apply CW.exit | apply CW.ret | apply q_then | apply q_then_exit | apply q_then_ret | apply q_block | apply q_block_ret | apply q_block_hit | apply q_ret | apply q_end | apply q_loop_exit | apply q_loop_ret | apply q_loopT_exit | apply q_loopT_ret | apply RW.nil) | ((with_reducible apply s3); exact rfl; exact by_k) | ((with_reducible apply s2); exact rfl; exact by_k) | ((with_reducible apply s4); exact rfl) | ((with_reducible apply s5); (first | exact by_oa); exact by_g) | ((with_reducible apply CW.cond_t); exact rfl; exact by_ks) | ((with_reducible apply CW.cond_f); exact rfl; exact by_ks) | ((with_reducible apply q_block_miss); exact rfl) | (refine And.intro (show chk [] [] _ _ = true by kernel_rfl) ?_))
      refine q_loopT (i + 1) (by omega) (by omega) ?_
      exact by_less

end Go.Proofs.YtembfadhnkabhaaGreatDoor

/-! P1 -/
/-
  Engines as they are built have chains in order, and versions in order: plain facts; what forgetting comes to.
-/
namespace Go.Proofs.YtembfadhnkabhaaGreatDoor
open Go.AX Go.RF

def VSrt (l : List Version) : Prop := l.Pairwise fun a b => a.by_ < b.by_
theorem VSrt.cons {v : Version} {l : List Version} : VSrt (v :: l) ↔ (∀ w ∈ l, v.by_ < w.by_) ∧ VSrt l := List.pairwise_cons

/-! ### Rows that are right -/
theorem wrongRowsGo_srt : ∀ {l : List Pair} {i : Nat} {last : Str}, wrongRowsGo (i + 1) last l = 0 → (∀ p ∈ l, slt last p.key = true ∧ key p.key = true ∧ nOk p.n) ∧ Srt Pair.key l
  | [], i, last, _ => ⟨by simp, List.Pairwise.nil⟩
  | p :: l, i, last, h => by
    simp only [wrongRowsGo] at h
    by_cases h1 : key p.key = false
    · rw [if_pos h1] at h; simp at h
    rw [if_neg h1] at h
    by_cases h2 : 0 < i + 1 ∧ sle p.key last = true
    · rw [if_pos h2] at h; simp at h
    rw [if_neg h2] at h
    by_cases h3 : 1073741824 < p.n ∨ p.n < -1073741824
    · rw [if_pos h3] at h; simp at h
    rw [if_neg h3] at h
    obtain ⟨h4, h5⟩ := wrongRowsGo_srt h
    have h6 : slt last p.key = true := by
      have h7 : ¬ sle p.key last = true := fun e => h2 ⟨by omega, e⟩
      simp only [sle, Bool.or_eq_true, decide_eq_true_eq, not_or] at h7
      rcases slt_tri last p.key with h | h | h
      · exact h
      · exact absurd h.symm h7.2
      · exact absurd h h7.1
    refine ⟨fun q hq => ?_, List.pairwise_cons.2 ⟨fun q hq => (h4 q hq).1, h5⟩⟩
    rcases List.mem_cons.1 hq with rfl | hq
    · exact ⟨h6, by simpa using h1, by unfold nOk; omega⟩
    · exact ⟨slt_trans h6 (h4 q hq).1, (h4 q hq).2⟩
theorem wrongRows_srt {l : List Pair} (h : wrongRows l = 0) : Srt Pair.key l ∧ (∀ p ∈ l, key p.key = true) ∧ rowsOk l := by
  cases l with
  | nil => exact ⟨List.Pairwise.nil, by simp, by simp [rowsOk]⟩
  | cons p l =>
    simp only [wrongRows, wrongRowsGo] at h
    by_cases h1 : key p.key = false
    · rw [if_pos h1] at h; simp at h
    rw [if_neg h1, if_neg (by simp)] at h
    by_cases h3 : 1073741824 < p.n ∨ p.n < -1073741824
    · rw [if_pos h3] at h; simp at h
    rw [if_neg h3] at h
    obtain ⟨h4, h5⟩ := wrongRowsGo_srt h
    refine ⟨List.pairwise_cons.2 ⟨fun q hq => (h4 q hq).1, h5⟩, fun q hq => ?_, fun q hq => ?_⟩
    · rcases List.mem_cons.1 hq with rfl | hq
      · simpa using h1
      · exact (h4 q hq).2.1
    · rcases List.mem_cons.1 hq with rfl | hq
      · unfold nOk; omega
      · exact (h4 q hq).2.2

/-! ### A version more, in order -/
def newV (b : Int) : Version := ⟨b, false, false, 0⟩
def addS (k : Str) (b : Int) : List Chain → List Chain
  | [] => [⟨k, [newV b]⟩]
  | c :: r => if c.key = k then ⟨c.key, c.vs ++ [newV b]⟩ :: r else if slt c.key k = true then c :: addS k b r else ⟨k, [newV b]⟩ :: c :: r
theorem addGo_done {k : Str} {b : Int} : ∀ {l out : List Chain}, (∀ c ∈ l, c.key ≠ k) → addGo k b true out l = out ++ l
  | [], out, _ => by simp [addGo]
  | c :: l, out, h => by
    simp only [addGo]
    rw [if_neg (h c (List.mem_cons_self ..))]
    simp only [Bool.not_true, Bool.false_and, Bool.true_or]
    rw [addGo_done fun d hd => h d (List.mem_cons_of_mem _ hd)]
    simp
theorem addGo_srt {k : Str} {b : Int} : ∀ {l out : List Chain}, Srt Chain.key l → addGo k b false out l = out ++ addS k b l
  | [], out, _ => by simp [addGo, addS, newV]
  | c :: l, out, hs => by
    obtain ⟨h1, h2⟩ := List.pairwise_cons.1 hs
    simp only [addGo, addS]
    by_cases hk : c.key = k
    · rw [if_pos hk, if_pos hk]
      simp only [hk, slt_irrefl, decide_true, Bool.or_true, Bool.not_true, Bool.and_false]
      rw [addGo_done fun d hd => ?_]
      · simp [newV]
      · have := h1 d hd
        rw [hk] at this
        exact fun e => slt_ne this e.symm
    · rw [if_neg hk, if_neg hk]
      cases hl : slt c.key k with
      | true =>
        simp only [Bool.true_or, Bool.not_true, Bool.and_false, Bool.or_false]
        rw [addGo_srt h2]
        simp
      | false =>
        simp only [hk, decide_false, Bool.or_false, Bool.not_false, Bool.and_true, Bool.false_or]
        rw [addGo_done fun d hd => ?_]
        · simp [newV]
        · have h3 := h1 d hd
          intro e
          rcases slt_tri c.key k with h | h | h
          · rw [hl] at h; cases h
          · exact hk h
          · rw [e] at h3
            have := slt_trans h h3
            rw [slt_irrefl] at this; cases this
theorem addC_srt {k : Str} {b : Int} {l : List Chain} (hs : Srt Chain.key l) : addC l k b = addS k b l := by
  unfold addC
  rw [addGo_srt hs]
  rfl
theorem addS_mem {k : Str} {b : Int} : ∀ {l : List Chain} {c : Chain}, c ∈ addS k b l → c ∈ l ∨ c = ⟨k, [newV b]⟩ ∨ ∃ c0 ∈ l, c0.key = k ∧ c = ⟨k, c0.vs ++ [newV b]⟩
  | [], c, h => by simp [addS] at h; exact .inr (.inl h)
  | x :: l, c, h => by
    simp only [addS] at h
    by_cases hk : x.key = k
    · rw [if_pos hk] at h
      rcases List.mem_cons.1 h with rfl | h
      · exact .inr (.inr ⟨x, List.mem_cons_self .., hk, by rw [hk]⟩)
      · exact .inl (List.mem_cons_of_mem _ h)
    · rw [if_neg hk] at h
      split at h
      · rcases List.mem_cons.1 h with rfl | h
        · exact .inl (List.mem_cons_self ..)
        · rcases addS_mem h with h | h | ⟨c0, h0, h⟩
          · exact .inl (List.mem_cons_of_mem _ h)
          · exact .inr (.inl h)
          · exact .inr (.inr ⟨c0, List.mem_cons_of_mem _ h0, h⟩)
      · rcases List.mem_cons.1 h with rfl | h
        · exact .inr (.inl rfl)
        · exact .inl h
theorem addS_srt {k : Str} {b : Int} : ∀ {l : List Chain}, Srt Chain.key l → Srt Chain.key (addS k b l)
  | [], _ => List.pairwise_singleton ..
  | c :: l, hs => by
    obtain ⟨h1, h2⟩ := List.pairwise_cons.1 hs
    simp only [addS]
    by_cases hk : c.key = k
    · rw [if_pos hk]; exact List.pairwise_cons.2 ⟨h1, h2⟩
    · rw [if_neg hk]
      cases hl : slt c.key k with
      | true =>
        rw [if_pos rfl]
        refine List.pairwise_cons.2 ⟨fun d hd => ?_, addS_srt h2⟩
        rcases addS_mem hd with h | rfl | ⟨c0, h0, h3, rfl⟩
        · exact h1 d h
        · exact hl
        · exact hl
      | false =>
        rw [if_neg (by simp)]
        have hkc : slt k c.key = true := by
          rcases slt_tri c.key k with h | h | h
          · rw [hl] at h; cases h
          · exact absurd h hk
          · exact h
        refine List.pairwise_cons.2 ⟨fun d hd => ?_, hs⟩
        rcases List.mem_cons.1 hd with rfl | hd
        · exact hkc
        · exact slt_trans hkc (h1 d hd)

/-! ### Engines -/
structure SInv (e : Engine) : Prop where
  k : Srt Chain.key e.chains
  v : ∀ c ∈ e.chains, VSrt c.vs
  b : ∀ c ∈ e.chains, ∀ v ∈ c.vs, v.by_ < e.base + e.deeds.length

theorem newE_srt {r : List Pair} (h : Srt Pair.key r) : SInv (newE r) := by
  refine ⟨List.pairwise_map.2 h, fun c hc => ?_, fun c hc v hv => ?_⟩
  · obtain ⟨p, _, rfl⟩ := List.mem_map.1 hc
    exact List.pairwise_singleton ..
  · obtain ⟨p, _, rfl⟩ := List.mem_map.1 hc
    simp [rowChain] at hv
    subst hv
    simp [newE]

theorem isIn_false {s : Str} : ∀ {l : List Str}, isIn l s = false → s ∉ l
  | [], _, h => by simp at h
  | x :: l, h, hm => by
    simp only [isIn] at h
    by_cases hx : x = s
    · rw [if_pos hx] at h; cases h
    · rw [if_neg hx] at h
      rcases List.mem_cons.1 hm with rfl | hm
      · exact hx rfl
      · exact isIn_false h hm
theorem keysGo_nodup {l : List Str} : ∀ {r : List Str} {i : Nat}, l.drop i = r → (l.take i).Nodup → keysGo l i r = 0 → l.Nodup ∧ ∀ k ∈ r, key k = true
  | [], i, hr, hn, _ => by
    have : l.length ≤ i := by simpa using hr
    rw [List.take_of_length_le this] at hn
    exact ⟨hn, by simp⟩
  | k :: r, i, hr, hn, h => by
    simp only [keysGo] at h
    by_cases h1 : key k = false
    · rw [if_pos h1] at h; simp at h
    rw [if_neg h1] at h
    by_cases h2 : isIn (l.take i) k = true
    · rw [if_pos h2] at h; simp at h
    rw [if_neg h2] at h
    have hk : l[i]? = some k := by
      have : (l.drop i)[0]? = some k := by rw [hr]; rfl
      simpa using this
    have h3 : l.take (i + 1) = l.take i ++ [k] := by rw [List.take_add_one, hk]; rfl
    have hni : k ∉ l.take i := isIn_false (by simpa using h2)
    have := keysGo_nodup (l := l) (r := r) (i := i + 1) (by rw [← List.drop_drop, hr]; rfl) (by
      rw [h3]
      refine List.nodup_append.2 ⟨hn, by simp, fun a ha b hb => ?_⟩
      simp at hb; subst hb
      exact fun e => hni (e ▸ ha)) h
    exact ⟨this.1, fun x hx => by
      rcases List.mem_cons.1 hx with rfl | hx
      · simpa using h1
      · exact this.2 x hx⟩
theorem keysWrong_nodup {l : List Str} (h : keysWrong l = 0) : l.Nodup ∧ (∀ k ∈ l, key k = true) ∧ l.length ≤ 5 := by
  unfold keysWrong at h
  by_cases h1 : 5 < l.length
  · rw [if_pos h1] at h; simp at h
  · rw [if_neg h1] at h
    have := keysGo_nodup (l := l) (r := l) (i := 0) rfl (by simp) h
    exact ⟨this.1, this.2, by omega⟩
theorem wrong_keys {d : Deed} (h : wrongDeed d = 0) : d.reads.Nodup ∧ d.writes.Nodup := by
  unfold wrongDeed at h
  by_cases h0 : lsGo [d.reads, d.writes] = 0
  · simp only [lsGo] at h0
    by_cases h1 : keysWrong d.reads = 0
    · rw [if_pos h1] at h0
      by_cases h2 : keysWrong d.writes = 0
      · exact ⟨(keysWrong_nodup h1).1, (keysWrong_nodup h2).1⟩
      · rw [if_neg h2] at h0; exact absurd h0 h2
    · rw [if_neg h1] at h0; exact absurd h0 h1
  · rw [if_neg h0] at h; exact absurd h h0

theorem addKeys_srt {b : Int} : ∀ {ks : List Str} {l : List Chain}, ks.Nodup → Srt Chain.key l → (∀ c ∈ l, VSrt c.vs ∧ (∀ v ∈ c.vs, v.by_ ≤ b) ∧ (c.key ∈ ks → ∀ v ∈ c.vs, v.by_ < b)) →
    Srt Chain.key (addKeys b l ks) ∧ ∀ c ∈ addKeys b l ks, VSrt c.vs ∧ ∀ v ∈ c.vs, v.by_ ≤ b
  | [], l, _, hs, h => ⟨hs, fun c hc => ⟨(h c hc).1, (h c hc).2.1⟩⟩
  | k :: ks, l, hn, hs, h => by
    obtain ⟨hk, hn⟩ := List.nodup_cons.1 hn
    simp only [addKeys]
    rw [addC_srt hs]
    refine addKeys_srt hn (addS_srt hs) fun c hc => ?_
    rcases addS_mem hc with h0 | rfl | ⟨c0, h0, h1, rfl⟩
    · obtain ⟨h1, h2, h3⟩ := h c h0
      exact ⟨h1, h2, fun hm => h3 (List.mem_cons_of_mem _ hm)⟩
    · exact ⟨List.pairwise_singleton .., fun v hv => by simp at hv; subst hv; exact Int.le_refl _, fun hm => absurd hm hk⟩
    · obtain ⟨h2, h3, h4⟩ := h c0 h0
      have h5 := h4 (by rw [h1]; exact List.mem_cons_self ..)
      refine ⟨List.pairwise_append.2 ⟨h2, List.pairwise_singleton .., fun a ha x hx => ?_⟩, fun v hv => ?_, fun hm => absurd hm hk⟩
      · simp at hx; subst hx; exact h5 a ha
      · rcases List.mem_append.1 hv with hv | hv
        · exact h3 v hv
        · simp at hv; subst hv; exact Int.le_refl _
theorem SInv.add1 {e : Engine} (h : SInv e) {d : Deed} (hw : d.writes.Nodup) : SInv (add1 e d) := by
  have := addKeys_srt (b := e.base + e.deeds.length) hw h.k fun c hc => ⟨h.v c hc, fun v hv => by have := h.b c hc v hv; omega, fun _ v hv => h.b c hc v hv⟩
  refine ⟨this.1, fun c hc => (this.2 c hc).1, fun c hc v hv => ?_⟩
  have := (this.2 c hc).2 v hv
  show v.by_ < e.base + ((e.deeds ++ [d]).length : Nat)
  rw [List.length_append]
  simp only [List.length_singleton]
  omega
theorem SInv.addAll : ∀ {l : List Deed} {e : Engine}, SInv e → (∀ d ∈ l, d.writes.Nodup) → SInv (addAll e l)
  | [], e, h, _ => h
  | d :: l, e, h, hl => by
    simp only [RF.addAll]
    exact SInv.addAll (h.add1 (hl d (List.mem_cons_self ..))) fun x hx => hl x (List.mem_cons_of_mem _ hx)
theorem SInv.addE {e : Engine} (h : SInv e) {l : List Deed} (hw : (addE e l).2 = 0) : SInv (addE e l).1 := by
  unfold RF.addE at hw ⊢
  by_cases h0 : wrongs l = 0
  · rw [if_pos h0]
    exact h.addAll fun d hd => (wrong_keys (wrongs_mem h0 d hd)).2
  · rw [if_neg h0] at hw; exact absurd hw h0

/-- Chains whose keys, and whose versions' deeds, are others' in turn. -/
theorem set_srt {l : List Chain} {k : Str} {v : Version} {N : Int} (hs : Srt Chain.key l) (hv : ∀ c ∈ l, VSrt c.vs ∧ ∀ w ∈ c.vs, w.by_ < N) :
    Srt Chain.key (setChains l k v) ∧ ∀ c ∈ setChains l k v, VSrt c.vs ∧ ∀ w ∈ c.vs, w.by_ < N := by
  have hb : ∀ (h : Bool) (w : Version), (setV h v w).by_ = w.by_ := fun h w => by
    unfold setV
    split
    · next hh => exact hh.2.symm
    · rfl
  refine ⟨List.pairwise_map.2 hs, fun c hc => ?_⟩
  obtain ⟨c0, h0, rfl⟩ := List.mem_map.1 hc
  obtain ⟨h1, h2⟩ := hv c0 h0
  refine ⟨List.pairwise_map.2 (h1.imp fun hab => by rw [hb, hb]; exact hab), fun w hw => ?_⟩
  obtain ⟨w0, hw0, rfl⟩ := List.mem_map.1 hw
  rw [hb]; exact h2 w0 hw0
theorem goSets_srt {r : List Pair} {b N : Int} : ∀ {ks : List Str} {l : List Chain}, Srt Chain.key l → (∀ c ∈ l, VSrt c.vs ∧ ∀ w ∈ c.vs, w.by_ < N) →
    Srt Chain.key (goSets r b l ks) ∧ ∀ c ∈ goSets r b l ks, VSrt c.vs ∧ ∀ w ∈ c.vs, w.by_ < N
  | [], l, hs, hv => ⟨hs, hv⟩
  | k :: ks, l, hs, hv => by
    simp only [goSets]
    have := set_srt (k := k) (v := ⟨b, true, (RF.get r k).2, (RF.get r k).1⟩) hs hv
    exact goSets_srt this.1 this.2
theorem SInv.goNew {e : Engine} (h : SInv e) (A : Nat) (d : Deed) : SInv (goNew e A d) := by
  have := goSets_srt (r := (goDone e A d).1) (b := e.base + A) (ks := d.writes) (N := e.base + e.deeds.length) h.k fun c hc => ⟨h.v c hc, h.b c hc⟩
  exact ⟨this.1, fun c hc => (this.2 c hc).1, fun c hc => (this.2 c hc).2⟩
theorem SInv.goE {e : Engine} (h : SInv e) (at_ : Int) : SInv (goE e at_).1 := by
  unfold Proofs.YtembfadhnkabhaaGreatDoor.goE
  split
  · exact h
  unfold goAt
  cases hA : e.deeds[at_.toNat]? with
  | none => exact h
  | some d =>
    dsimp only
    split
    · exact h
    split
    · exact h.goNew _ _
    · exact h
theorem clrV_sublist {b : Int} : ∀ l : List Version, (clrV b l).Sublist l
  | [] => List.Sublist.slnil
  | v :: l => by
    simp only [clrV]
    split
    · exact (clrV_sublist l).cons _
    · exact (clrV_sublist l).cons_cons _
theorem clear_srt {b : Int} : ∀ {l : List Chain}, Srt Chain.key l → Srt Chain.key (clear b l)
  | [], _ => List.Pairwise.nil
  | c :: l, hs => by
    obtain ⟨h1, h2⟩ := List.pairwise_cons.1 hs
    simp only [clear]
    split
    · exact clear_srt h2
    · refine List.pairwise_cons.2 ⟨fun d hd => ?_, clear_srt h2⟩
      obtain ⟨c0, h0, rfl⟩ := clear_mem hd
      exact h1 c0 h0
theorem SInv.clearE {e : Engine} (h : SInv e) : SInv (clearE e) := by
  have hm := markN_le e.state
  refine ⟨clear_srt h.k, fun c hc => ?_, fun c hc v hv => ?_⟩
  · obtain ⟨c0, h0, rfl⟩ := clear_mem hc
    exact List.Pairwise.sublist (clrV_sublist _) (h.v c0 h0)
  · obtain ⟨c0, h0, rfl⟩ := clear_mem hc
    have := h.b c0 h0 v (clrV_sub hv)
    simp only [RF.clearE, List.length_drop]
    omega
theorem SInv.pickE {e : Engine} (h : SInv e) (n : Int) : SInv (pickE e n) := by
  unfold Proofs.YtembfadhnkabhaaGreatDoor.pickE
  split
  · exact h.clearE
  split
  · exact h
  split
  · exact h.goE _
  · exact h
theorem SInv.batchE {e : Engine} (h : SInv e) (b : List Deed) : SInv (batchE e b) := by
  unfold Proofs.YtembfadhnkabhaaGreatDoor.batchE
  split
  · next hw => exact h.addE hw
  · exact h
theorem SInv.pickGo : ∀ {k : Nat} {e : Engine} {p : List Int}, SInv e → SInv (pickGo k e p).1
  | 0, e, p, h => h
  | k + 1, e, [], h => h
  | k + 1, e, n :: p, h => by
    simp only [Proofs.YtembfadhnkabhaaGreatDoor.pickGo]
    exact SInv.pickGo (h.pickE n)
theorem SInv.buildGo : ∀ {bs : List (List Deed)} {e : Engine} {p : List Int}, SInv e → SInv (buildGo e bs p)
  | [], e, p, h => h
  | b :: bs, e, p, h => by
    simp only [Proofs.YtembfadhnkabhaaGreatDoor.buildGo]
    exact SInv.buildGo ((h.batchE b).pickGo)
end Go.Proofs.YtembfadhnkabhaaGreatDoor

/-! P2 -/
/-
  Right chains: in order; rows made into chains, and read again. Plain facts.
-/
namespace Go.Proofs.YtembfadhnkabhaaGreatDoor
open Go.AX Go.RF

/-! ### Rows made into chains -/
theorem before_row {r : List Pair} (h : Srt Pair.key r) {p : Pair} (hp : p ∈ r) {b : Int} (hb : -1 < b) : before (r.map rowChain) p.key b = ⟨-1, true, true, p.n⟩ := by
  obtain ⟨i, hi⟩ := List.getElem?_of_mem hp
  unfold before
  have hil := (List.getElem?_eq_some_iff.1 hi).1
  have hsp : r = r.take i ++ p :: r.drop (i + 1) := by
    have h1 := List.take_append_drop i r
    rw [List.drop_eq_getElem_cons hil, (List.getElem?_eq_some_iff.1 hi).2] at h1
    exact h1.symm
  have hne : ∀ q ∈ r.take i ++ r.drop (i + 1), q.key ≠ p.key := by
    intro q hq
    rcases List.mem_append.1 hq with hq | hq
    · obtain ⟨j, hj⟩ := List.getElem?_of_mem hq
      rw [List.getElem?_take] at hj
      split at hj
      · exact h.ne hj hi (by omega)
      · cases hj
    · obtain ⟨j, hj⟩ := List.getElem?_of_mem hq
      rw [List.getElem?_drop] at hj
      exact h.ne hj hi (by omega)
  have n1 : ∀ out, beforeGo p.key b out ((r.take i).map rowChain) = out := fun out => beforeGo_none fun c hc => by
    obtain ⟨q, hq, rfl⟩ := List.mem_map.1 hc
    exact hne q (List.mem_append_left _ hq)
  have n2 : ∀ out, beforeGo p.key b out ((r.drop (i + 1)).map rowChain) = out := fun out => beforeGo_none fun c hc => by
    obtain ⟨q, hq, rfl⟩ := List.mem_map.1 hc
    exact hne q (List.mem_append_right _ hq)
  rw [hsp, List.map_append, beforeGo_append, n1, List.map_cons]
  simp only [beforeGo]
  rw [n2]
  simp [rowChain, bvs, hb]
theorem addS_len {k : Str} {b : Int} : ∀ l : List Chain, (addS k b l).length ≤ l.length + 1
  | [] => by simp [addS]
  | c :: l => by
    have := addS_len (k := k) (b := b) l
    simp only [addS]
    split
    · simp
    · split
      · simp; omega
      · simp
theorem addS_vs {k : Str} {b : Int} {l : List Chain} {N : Nat} (h : ∀ c ∈ l, c.vs.length ≤ N) : ∀ c ∈ addS k b l, c.vs.length ≤ N + 1 := by
  intro c hc
  rcases addS_mem hc with h0 | rfl | ⟨c0, h0, _, rfl⟩
  · have := h c h0; omega
  · simp
  · have := h c0 h0; simp; omega
end Go.Proofs.YtembfadhnkabhaaGreatDoor

/-! P3 -/
/-
  A version more, set, forgotten: what is seen. Plain facts.
-/
namespace Go.Proofs.YtembfadhnkabhaaGreatDoor
open Go.AX Go.RF

/-! ### Ahead of it, and of other keys: nothing seen -/
theorem before_addS {k k' : Str} {b b' : Int} (h : k = k' → b ≤ b') : ∀ {l : List Chain} {out : Version}, beforeGo k b out (addS k' b' l) = beforeGo k b out l
  | [], out => by
    simp only [addS, beforeGo, bvs, newV]
    by_cases hk : k' = k
    · have := h hk.symm
      simp; omega
    · simp [hk]
  | c :: l, out => by
    simp only [addS]
    by_cases hk : c.key = k'
    · rw [if_pos hk]
      simp only [beforeGo, bvs_append, bvs, newV]
      by_cases hc : c.key = k
      · have := h (by rw [← hc, hk])
        rw [if_neg (by simp; omega)]
      · simp [hc]
    · rw [if_neg hk]
      split
      · simp only [beforeGo]
        exact before_addS h
      · have h1 : bvs (decide (k' = k)) b out [newV b'] = out := by
          simp only [bvs]
          by_cases hc : k' = k
          · have := h hc.symm
            have h2 : ¬ (newV b').by_ < b := by show ¬ b' < b; omega
            rw [decide_eq_false h2]; simp
          · simp [hc]
        show beforeGo k b (bvs (decide (k' = k)) b out [newV b']) (c :: l) = _
        rw [h1]
/-! ### Behind it: it is seen -/
theorem ne_tail {c : Chain} {l : List Chain} (hs : Srt Chain.key (c :: l)) {k : Str} (h : slt k c.key = true ∨ c.key = k) : ∀ d ∈ l, d.key ≠ k := by
  intro d hd e
  have h1 := (List.pairwise_cons.1 hs).1 d hd
  rw [e] at h1
  rcases h with h | h
  · have := slt_trans h h1; rw [slt_irrefl] at this; cases this
  · rw [h, slt_irrefl] at h1; cases h1
theorem slt_flip {a b : Str} (h : ¬ slt a b = true) (hn : a ≠ b) : slt b a = true := by
  rcases slt_tri a b with h1 | h1 | h1
  · exact absurd h1 h
  · exact absurd h1 hn
  · exact h1
theorem behind_set {k : Str} {b b' : Int} {v : Version} (hv : v.by_ = b') (hb : b' < b) : ∀ {l : List Chain} {out : Version}, Srt Chain.key l → beforeGo k b out (setChains (addS k b' l) k v) = v
  | [], out, _ => by
    simp [addS, setChains, setC, setV, newV, beforeGo, bvs, hv, hb]
  | c :: l, out, hs => by
    simp only [addS]
    by_cases hk : c.key = k
    · rw [if_pos hk]
      have hn := ne_tail hs (.inr hk)
      have h0 : ∀ o, beforeGo k b o (setChains l k v) = o := fun o => beforeGo_none fun d hd => by
        obtain ⟨d0, h1, rfl⟩ := List.mem_map.1 hd
        exact hn d0 h1
      show beforeGo k b (bvs (decide (c.key = k)) b out ((c.vs ++ [newV b']).map (setV (decide (c.key = k)) v))) (setChains l k v) = v
      rw [h0, List.map_append, bvs_append]
      simp [hk, setV, newV, bvs, hv, hb]
    · rw [if_neg hk]
      split
      · show beforeGo k b _ (setChains (addS k b' l) k v) = v
        exact behind_set hv hb (List.pairwise_cons.1 hs).2
      · next h2 =>
        have hn := ne_tail hs (.inl (slt_flip h2 hk))
        have h0 : ∀ o, beforeGo k b o (setChains (c :: l) k v) = o := fun o => beforeGo_none fun d hd => by
          obtain ⟨d0, h1, rfl⟩ := List.mem_map.1 hd
          rcases List.mem_cons.1 h1 with rfl | h1
          · exact hk
          · exact hn d0 h1
        show beforeGo k b (bvs (decide (k = k)) b out ([newV b'].map (setV (decide (k = k)) v))) (setChains (c :: l) k v) = v
        rw [h0]
        simp [setV, newV, bvs, hv, hb]
theorem behind_add {k : Str} {b b' : Int} (hb : b' < b) {l : List Chain} {out : Version} (hs : Srt Chain.key l) : beforeGo k b out (addS k b' l) = newV b' := by
  have h := behind_set (k := k) (v := newV b') (b' := b') rfl hb (l := l) (out := out) hs
  have h1 : ∀ w : Version, ∀ hit, w.by_ = b' → setV hit (newV b') w = w ∨ setV hit (newV b') w = newV b' := fun w hit _ => by
    unfold setV; split
    · exact .inr rfl
    · exact .inl rfl
  clear h1 h
  revert out
  induction l with
  | nil => intro out; simp [addS, beforeGo, bvs, newV, hb]
  | cons c l ih =>
    intro out
    simp only [addS]
    by_cases hk : c.key = k
    · rw [if_pos hk]
      have hn := ne_tail hs (.inr hk)
      simp only [beforeGo]
      rw [beforeGo_none hn, bvs_append]
      simp [hk, newV, bvs, hb]
    · rw [if_neg hk]
      split
      · simp only [beforeGo]
        exact ih (List.pairwise_cons.1 hs).2
      · next h2 =>
        have hn := ne_tail hs (.inl (slt_flip h2 hk))
        have h0 : ∀ o, beforeGo k b o (c :: l) = o := fun o => beforeGo_none fun d hd => by
          rcases List.mem_cons.1 hd with rfl | h1
          · exact hk
          · exact hn d h1
        show beforeGo k b (bvs (decide (k = k)) b out [newV b']) (c :: l) = _
        rw [h0]
        simp [newV, bvs, hb]

/-! ### What is old, forgotten -/
theorem clrV_ge {b : Int} : ∀ {l : List Version}, (∀ v ∈ l, b ≤ v.by_) → clrV b l = l
  | [], _ => rfl
  | v :: l, h => by
    have := h v (List.mem_cons_self ..)
    have h1 : decide (v.by_ < b) = false := by simp; omega
    simp only [clrV]
    rw [if_neg (by simp [old, h1]), clrV_ge fun w hw => h w (List.mem_cons_of_mem _ hw)]
theorem seen_clr2 {b at_ : Int} (hba : b ≤ at_) : ∀ {l : List Version} {out : Version}, VSrt l →
    bvs true at_ out (clrV b l) = bvs true at_ out l ∨ ((bvs true at_ out l).made = true ∧ (bvs true at_ out l).has = false ∧ bvs true at_ out (clrV b l) = out ∧ (bvs true at_ out l).by_ < b)
  | [], out, _ => .inl rfl
  | v :: l, out, hs => by
    obtain ⟨h1, h2⟩ := VSrt.cons.1 hs
    by_cases hva : v.by_ < at_
    · have hge : b ≤ v.by_ → clrV b l = l := fun h => clrV_ge fun w hw => by have := h1 w hw; omega
      by_cases hlt : later b l = true
      · cases l with
        | nil => simp [later] at hlt
        | cons w l' =>
          have hw : w.by_ < b := by simpa [later] using hlt
          have hvb : v.by_ < b := by have := h1 w (List.mem_cons_self ..); omega
          have hold : old b (w :: l') v = true := by simp [old, later, hw, hvb]
          have ih := seen_clr2 hba (out := out) h2
          have hsame : bvs true at_ v (w :: l') = bvs true at_ out (w :: l') := by
            simp only [bvs]
            rw [if_pos (by simp; omega), if_pos (by simp; omega)]
          have h5 : clrV b (v :: w :: l') = clrV b (w :: l') := by rw [clrV, if_pos hold]
          rw [h5]
          have h4 : bvs true at_ out (v :: w :: l') = bvs true at_ (if (true && decide (v.by_ < at_)) = true then v else out) (w :: l') := rfl
          rw [if_pos (by simp; omega)] at h4
          rw [h4, hsame]
          exact ih
      · have hl : ∀ w ∈ l, b ≤ w.by_ := by
          cases l with
          | nil => simp
          | cons w l' =>
            have hw : ¬ w.by_ < b := by simpa [later] using hlt
            intro x hx
            rcases List.mem_cons.1 hx with rfl | hx
            · omega
            · have := (VSrt.cons.1 h2).1 x hx; omega
        have hl0 : later b l = false := by simpa using hlt
        have hc := clrV_ge hl
        simp only [clrV]
        rw [hc]
        by_cases hold : old b l v = true
        · rw [if_pos hold]
          have h3 : v.made = true ∧ v.has = false ∧ v.by_ < b := by
            simp [old, hl0] at hold
            exact ⟨hold.2.1, hold.2.2, hold.1⟩
          have h4 : bvs true at_ out (v :: l) = bvs true at_ v l := by simp only [bvs]; rw [if_pos (by simp; omega)]
          rw [h4]
          cases l with
          | nil => exact .inr ⟨h3.1, h3.2.1, rfl, h3.2.2⟩
          | cons w l' =>
            by_cases hw : w.by_ < at_
            · left
              simp only [bvs]
              rw [if_pos (by simp; omega), if_pos (by simp; omega)]
            · have h5 : ∀ x ∈ w :: l', at_ ≤ x.by_ := fun x hx => by
                rcases List.mem_cons.1 hx with rfl | hx
                · omega
                · have := (VSrt.cons.1 h2).1 x hx; omega
              rw [bvs_ge h5, bvs_ge h5]
              exact .inr ⟨h3.1, h3.2.1, rfl, h3.2.2⟩
        · rw [if_neg hold]
          exact .inl rfl
    · have h3 : ∀ x ∈ v :: l, at_ ≤ x.by_ := fun x hx => by
        rcases List.mem_cons.1 hx with rfl | hx
        · omega
        · have := h1 x hx; omega
      rw [clrV_ge fun x hx => by have := h3 x hx; omega]
      exact .inl rfl
theorem seen_clear2 {b at_ : Int} {k : Str} (hba : b ≤ at_) : ∀ {l : List Chain} {out : Version}, Srt Chain.key l → (∀ c ∈ l, VSrt c.vs) →
    beforeGo k at_ out (clear b l) = beforeGo k at_ out l ∨ ((beforeGo k at_ out l).made = true ∧ (beforeGo k at_ out l).has = false ∧ beforeGo k at_ out (clear b l) = out ∧ (beforeGo k at_ out l).by_ < b)
  | [], out, _, _ => .inl rfl
  | c :: l, out, hs, hv => by
    have h2 := (List.pairwise_cons.1 hs).2
    by_cases hk : c.key = k
    · have hn := ne_tail hs (.inr hk)
      have n1 : ∀ o, beforeGo k at_ o l = o := fun o => beforeGo_none hn
      have n2 : ∀ o, beforeGo k at_ o (clear b l) = o := fun o => beforeGo_none fun d hd => by
        obtain ⟨d0, h0, rfl⟩ := clear_mem hd
        exact hn d0 h0
      have h3 : beforeGo k at_ out (c :: l) = bvs true at_ out c.vs := by
        simp only [beforeGo]; rw [n1]; simp [hk]
      have h4 : beforeGo k at_ out (clear b (c :: l)) = bvs true at_ out (clrV b c.vs) := by
        simp only [clear]
        split
        · next h => rw [n2, h]; rfl
        · simp only [beforeGo]; rw [n2]; simp [hk]
      rw [h3, h4]
      exact seen_clr2 hba (hv c (List.mem_cons_self ..))
    · have h3 : beforeGo k at_ out (c :: l) = beforeGo k at_ out l := by
        simp only [beforeGo]; simp [hk, bvs_false]
      have h4 : beforeGo k at_ out (clear b (c :: l)) = beforeGo k at_ out (clear b l) := by
        simp only [clear]
        split
        · rfl
        · simp only [beforeGo]; simp [hk, bvs_false]
      rw [h3, h4]
      exact seen_clear2 hba h2 fun d hd => hv d (List.mem_cons_of_mem _ hd)

/-! ### Right chains stay right -/
/-! ### How many versions -/
end Go.Proofs.YtembfadhnkabhaaGreatDoor

/-! AxFam -/
/-
  A region in whatever order, one of whose operations may leave one of many states: all that stand behind it in the text wait for it.
-/
namespace Go.AX
open Go.RowKit

variable {cx : Cx} {σ σ' : St} {a a' : Act} {w w' : World} {ops : Array Oper}

theorem wpAny_but {ts : List Tr} {s0 : Nat} {Q : Exit → Act → World → Prop} (hA : ∀ i o, ops[i]? = some o → i ≠ s0 → ∃ t, ts[i]? = some t ∧ TrOk cx ops o t) (hlen : ts.length = ops.size) (hfit : Fit ops.toList ts) :
    ∀ (fuel : Nat) (listed : Array Bool) (σ : St) (a : Act) (w : World), listed.size = ops.size → listed.getD s0 true = true → Closed ops listed → Run (left ts listed 0) σ → (left ts listed 0).length = fuel → Sim cx σ a w →
      (∀ a' w', Sim cx (fin (left ts listed 0) σ) a' w' → Q .normal a' w') → wpAny cx.P .any ops Q fuel listed a w := by
  intro fuel
  induction fuel with
  | zero =>
    intro listed σ a w hsz hls hcl hrun hl hs hq
    have hnil : left ts listed 0 = [] := List.eq_nil_of_length_eq_zero hl
    refine ⟨?_, hq a w (by rw [hnil]; exact hs)⟩
    refine List.eq_nil_iff_forall_not_mem.2 fun i hi => ?_
    obtain ⟨h1, o, ho, _⟩ := mem_ready.1 hi
    have := left_nil hnil i (by rw [hlen]; exact (Array.getElem?_eq_some_iff.1 ho).1)
    rw [Nat.zero_add, h1] at this
    cases this
  | succ fuel ih =>
    intro listed σ a w hsz hls hcl hrun hl hs hq
    refine ⟨fun hr => ?_, fun i hi => ?_⟩
    · have hne : left ts listed 0 ≠ [] := by intro e; rw [e] at hl; simp at hl
      obtain ⟨i, h1, h2, h3⟩ := left_ne hne
      rw [Nat.zero_add] at h2
      have hi : i < ops.size := by omega
      have hm : i ∈ Region.ready .any ops listed := mem_ready.2 ⟨h2, ops[i], Array.getElem?_eq_getElem hi, fun j hj => by
        have hj' := hfit.down i ops[i] (by simp [hi]) j hj
        have := h3 j hj'
        rw [Nat.zero_add] at this
        rw [← getD_tf (by omega)]; exact this⟩
      rw [hr] at hm
      cases hm
    · obtain ⟨h1, o, ho, h2⟩ := mem_ready.1 hi
      have hi' : i < ops.size := (Array.getElem?_eq_some_iff.1 ho).1
      have his : i ≠ s0 := fun e => by subst e; rw [hls] at h1; cases h1
      obtain ⟨t, ht, htr⟩ := hA i o ho his
      obtain ⟨pre, post, h3, h4, h5⟩ := left_split (k := 0) ht (by rw [Nat.zero_add]; exact h1) (by omega)
      rw [Nat.zero_add] at h4
      rw [h3] at hrun hq hl
      have hap : ∀ s ∈ pre, Apart s t := by
        intro s hsm
        obtain ⟨j, h6, h7, h8⟩ := h5 s hsm
        rw [Nat.zero_add] at h8
        rcases hfit.apart i j s t h6 h7 ht with h9 | h9
        · exfalso
          have hanc : ∀ m, m ∈ edges o → Anc ops.toList j m → False := fun m hm hma => by
            have hml : listed.getD m false = true := h2 m hm
            have hms := hfit.down i o (by simpa using ho) m hm
            have := hcl.anc hsz hma (by rw [getD_tf (by omega)]; exact hml) (by omega)
            rw [← getD_tf (by omega)] at this
            rw [h8] at this; cases this
          cases h9 with
          | one ho' h =>
            rw [show ops.toList[i]? = some o by simpa using ho] at ho'
            cases ho'
            have := h2 j h
            rw [← getD_tf (by omega)] at this
            rw [h8] at this; cases this
          | step ho' h hm =>
            rw [show ops.toList[i]? = some o by simpa using ho] at ho'
            cases ho'
            exact hanc _ h hm
        · exact h9
      obtain ⟨h6, h7⟩ := Run.front hap hrun
      unfold wpOp
      rw [ho]
      have hstep := htr σ a w (wpAny cx.P .any ops Q fuel (listed.setIfInBounds i true)) Q hs h6.1 fun a' w' hs' => by
        refine ih _ _ a' w' (by simp [hsz]) (by simpa only [Array.getD_eq_getD_getElem?, Array.getElem?_setIfInBounds, if_neg his] using hls) (fun i' o' ho' hi2 hli j hj => ?_) (by rw [h4]; exact h6.2) (by rw [h4]; simp at hl ⊢; omega) hs' (fun a2 w2 hs2 => hq a2 w2 ?_)
        · by_cases he : i' = i
          · subst he
            rw [ho] at ho'
            cases ho'
            have hne : j ≠ i' := fun e => by have := hfit.down i' o (by simpa using ho) j hj; omega
            simp only [Array.getD_eq_getD_getElem?, Array.getElem?_setIfInBounds, if_neg (show ¬ i' = j from fun e => hne e.symm)]
            simpa only [Array.getD_eq_getD_getElem?] using h2 j hj
          · have hli' : listed.getD i' true = true := by
              simpa only [Array.getD_eq_getD_getElem?, Array.getElem?_setIfInBounds, if_neg (show ¬ i = i' from fun e => he e.symm)] using hli
            have hjl := hcl i' o' ho' (by simpa using hi2) hli' j hj
            by_cases hji : i = j
            · subst hji
              simp [Array.getD_eq_getD_getElem?, hsz, hi']
            · simpa only [Array.getD_eq_getD_getElem?, Array.getElem?_setIfInBounds, if_neg hji] using hjl
        · rw [h4] at hs2
          exact hs2.eqv h7.symm
      dsimp only
      split
      · rename_i hw; rw [if_pos hw] at hstep; exact .inl hstep
      · rename_i hw; rw [if_neg hw] at hstep; exact hstep


theorem wpAny_fam {ι : Type} {ts : ι → List Tr} {s0 : Nat} {os : Oper} {rs : List (Key × Val)} {Q : Exit → Act → World → Prop} (x0 : ι) (hA : ∀ x i o, ops[i]? = some o → i ≠ s0 → ∃ t, (ts x)[i]? = some t ∧ TrOk cx ops o t)
    (hpre : ∀ x i, i < s0 → (ts x)[i]? = (ts x0)[i]?) (hlen : ∀ x, (ts x).length = ops.size) (hfit : ∀ x, Fit ops.toList (ts x))
    (hos : ops[s0]? = some os) (hgs : os.guard = none) (hrs : ∀ x, ∃ t, (ts x)[s0]? = some t ∧ t.rd = rs)
    (hsp : ∀ (σ : St) (a : Act) (w : World) (K : Act → World → Prop) (Q : Exit → Act → World → Prop), Sim cx σ a w → App σ rs → (∀ x t a' w', (ts x)[s0]? = some t → Sim cx (t.wr ++ σ) a' w' → K a' w') → os.wp cx.P a w K Q)
    (hanc : ∀ i, s0 < i → i < ops.size → Anc ops.toList s0 i) :
    ∀ (fuel : Nat) (listed : Array Bool) (σ : St) (a : Act) (w : World), listed.size = ops.size → listed.getD s0 true = false → Closed ops listed → (∀ x, Run (left (ts x) listed 0) σ) → (∀ x, (left (ts x) listed 0).length = fuel) → Sim cx σ a w →
      (∀ x a' w', Sim cx (fin (left (ts x) listed 0) σ) a' w' → Q .normal a' w') → wpAny cx.P .any ops Q fuel listed a w := by
  intro fuel
  induction fuel with
  | zero =>
    intro listed σ a w hsz hls hcl hrun hl hs hq
    have hnil : left (ts x0) listed 0 = [] := List.eq_nil_of_length_eq_zero (hl x0)
    have := left_nil hnil s0 (by rw [hlen]; exact (Array.getElem?_eq_some_iff.1 hos).1)
    rw [Nat.zero_add, hls] at this
    cases this
  | succ fuel ih =>
    intro listed σ a w hsz hls hcl hrun hl hs hq
    refine ⟨fun hr => ?_, fun i hi => ?_⟩
    · have hne : left (ts x0) listed 0 ≠ [] := by intro e; have := hl x0; rw [e] at this; simp at this
      obtain ⟨i, h1, h2, h3⟩ := left_ne hne
      rw [Nat.zero_add] at h2
      have hi : i < ops.size := by have := hlen x0; omega
      have hm : i ∈ Region.ready .any ops listed := mem_ready.2 ⟨h2, ops[i], Array.getElem?_eq_getElem hi, fun j hj => by
        have hj' := (hfit x0).down i ops[i] (by simp [hi]) j hj
        have := h3 j hj'
        rw [Nat.zero_add] at this
        rw [← getD_tf (by omega)]; exact this⟩
      rw [hr] at hm
      cases hm
    · obtain ⟨h1, o, ho, h2⟩ := mem_ready.1 hi
      have hi' : i < ops.size := (Array.getElem?_eq_some_iff.1 ho).1
      -- the listed places are closed still
      have hcl' : Closed ops (listed.setIfInBounds i true) := fun i' o' ho' hi2 hli j hj => by
        by_cases he : i' = i
        · subst he
          rw [ho] at ho'
          cases ho'
          have hne : j ≠ i' := fun e => by have := (hfit x0).down i' o (by simpa using ho) j hj; omega
          simp only [Array.getD_eq_getD_getElem?, Array.getElem?_setIfInBounds, if_neg (show ¬ i' = j from fun e => hne e.symm)]
          simpa only [Array.getD_eq_getD_getElem?] using h2 j hj
        · have hli' : listed.getD i' true = true := by
            simpa only [Array.getD_eq_getD_getElem?, Array.getElem?_setIfInBounds, if_neg (show ¬ i = i' from fun e => he e.symm)] using hli
          have hjl := hcl i' o' ho' (by simpa using hi2) hli' j hj
          by_cases hji : i = j
          · subst hji
            simp [Array.getD_eq_getD_getElem?, hsz, hi']
          · simpa only [Array.getD_eq_getD_getElem?, Array.getElem?_setIfInBounds, if_neg hji] using hjl
      -- what stands ahead of it in the text, and is still to come, is apart from it
      have hapx : ∀ (x : ι) (t : Tr) (pre : List Tr), (ts x)[i]? = some t → (∀ s ∈ pre, ∃ j, j < i ∧ (ts x)[j]? = some s ∧ listed.getD (0 + j) true = false) → ∀ s ∈ pre, Apart s t := by
        intro x t pre ht h5 s hsm
        obtain ⟨j, h6, h7, h8⟩ := h5 s hsm
        rw [Nat.zero_add] at h8
        rcases (hfit x).apart i j s t h6 h7 ht with h9 | h9
        · exfalso
          have hanc2 : ∀ m, m ∈ edges o → Anc ops.toList j m → False := fun m hm hma => by
            have hml : listed.getD m false = true := h2 m hm
            have hms := (hfit x).down i o (by simpa using ho) m hm
            have := hcl.anc hsz hma (by rw [getD_tf (by omega)]; exact hml) (by omega)
            rw [← getD_tf (by omega)] at this
            rw [h8] at this; cases this
          cases h9 with
          | one ho' h =>
            rw [show ops.toList[i]? = some o by simpa using ho] at ho'
            cases ho'
            have := h2 j h
            rw [← getD_tf (by omega)] at this
            rw [h8] at this; cases this
          | step ho' h hm =>
            rw [show ops.toList[i]? = some o by simpa using ho] at ho'
            cases ho'
            exact hanc2 _ h hm
        · exact h9
      by_cases his : i = s0
      · -- the special one
        subst his
        rw [hos] at ho
        cases ho
        unfold wpOp
        rw [hos]
        have hrs0 : App σ rs := by
          obtain ⟨t, ht, htr⟩ := hrs x0
          obtain ⟨pre, post, h3, h4, h5⟩ := left_split (k := 0) ht (by rw [Nat.zero_add]; exact h1) (by omega)
          have hr0 := hrun x0
          rw [h3] at hr0
          have := (Run.front (hapx x0 t pre ht h5) hr0).1.1
          rwa [htr] at this
        have hstep := hsp σ a w (wpAny cx.P .any ops Q fuel (listed.setIfInBounds i true)) Q hs hrs0 fun x t a' w' ht hs' => by
          obtain ⟨pre, post, h3, h4, h5⟩ := left_split (k := 0) ht (by rw [Nat.zero_add]; exact h1) (by omega)
          rw [Nat.zero_add] at h4
          have hr0 := hrun x
          have hl0 := hl x
          rw [h3] at hr0 hl0
          obtain ⟨h6, h7⟩ := Run.front (hapx x t pre ht h5) hr0
          refine wpAny_but (s0 := i) (hA x) (hlen x) (hfit x) fuel _ _ a' w' (by simp [hsz]) (by simp [Array.getD_eq_getD_getElem?, hsz, hi']) hcl' (by rw [h4]; exact h6.2) (by rw [h4]; simp at hl0 ⊢; omega) hs' fun a2 w2 hs2 => hq x a2 w2 ?_
          rw [h4] at hs2
          rw [h3]
          exact hs2.eqv h7.symm
        dsimp only
        rw [if_pos (by simp [Region.wanted, hgs])]
        exact .inl hstep
      · -- one ahead of it
        have hlt : i < s0 := by
          rcases Nat.lt_or_ge i s0 with h | h
          · exact h
          · exfalso
            have ha := hanc i (by omega) hi'
            cases ha with
            | one ho' h =>
              rw [show ops.toList[i]? = some o by simpa using ho] at ho'
              cases ho'
              have := h2 s0 h
              have hs0 : s0 < ops.size := (Array.getElem?_eq_some_iff.1 hos).1
              rw [← getD_tf (by omega), hls] at this; cases this
            | @step _ _ m _ ho' h hm =>
              rw [show ops.toList[i]? = some o by simpa using ho] at ho'
              cases ho'
              have hml : listed.getD m false = true := h2 m h
              have hms := (hfit x0).down i o (by simpa using ho) m h
              have := hcl.anc hsz hm (by rw [getD_tf (by omega)]; exact hml) (by omega)
              have hs0 : s0 < ops.size := (Array.getElem?_eq_some_iff.1 hos).1
              rw [← getD_tf (by omega), hls] at this; cases this
        obtain ⟨t, ht, htr⟩ := hA x0 i o ho his
        have htx : ∀ x, (ts x)[i]? = some t := fun x => (hpre x i hlt).trans ht
        have hspl : ∀ x, App σ t.rd ∧ Run (left (ts x) (listed.setIfInBounds i true) 0) (t.wr ++ σ) ∧ (left (ts x) (listed.setIfInBounds i true) 0).length = fuel ∧
            Eqv (fin (left (ts x) listed 0) σ) (fin (left (ts x) (listed.setIfInBounds i true) 0) (t.wr ++ σ)) := by
          intro x
          obtain ⟨pre, post, h3, h4, h5⟩ := left_split (k := 0) (htx x) (by rw [Nat.zero_add]; exact h1) (by omega)
          rw [Nat.zero_add] at h4
          have hr0 := hrun x
          have hl0 := hl x
          rw [h3] at hr0 hl0
          obtain ⟨h6, h7⟩ := Run.front (hapx x t pre (htx x) h5) hr0
          rw [h3, h4]
          exact ⟨h6.1, h6.2, by simp at hl0 ⊢; omega, h7⟩
        unfold wpOp
        rw [ho]
        have hstep := htr σ a w (wpAny cx.P .any ops Q fuel (listed.setIfInBounds i true)) Q hs (hspl x0).1 fun a' w' hs' =>
          ih _ _ a' w' (by simp [hsz]) (by simpa only [Array.getD_eq_getD_getElem?, Array.getElem?_setIfInBounds, if_neg his] using hls) hcl' (fun x => (hspl x).2.1) (fun x => (hspl x).2.2.1) hs' fun x a2 w2 hs2 => hq x a2 w2 (hs2.eqv (hspl x).2.2.2.symm)
        dsimp only
        split
        · rename_i hw; rw [if_pos hw] at hstep; exact .inl hstep
        · rename_i hw; rw [if_neg hw] at hstep; exact hstep

end Go.AX

/-! AxFam2 -/
/-
  The same, for a walk.
-/
namespace Go.AX
open Go.RowKit

variable {cx : Cx} {σ σ' : St} {a a' : Act} {w w' : World} {ops : Array Oper} {Q : Exit → St → Prop}
variable {ty : TypeId} {pos : String} {af : Array Edge} {gd : Option (Nat × Bool)} {d nx : Nat} {g : Nat → Value}

theorem Run.append : ∀ {t1 t2 : List Tr} {σ : St}, Run t1 σ → Run t2 (fin t1 σ) → Run (t1 ++ t2) σ ∧ fin (t1 ++ t2) σ = fin t2 (fin t1 σ)
  | [], t2, σ, _, h => ⟨h, rfl⟩
  | t :: t1, t2, σ, h1, h2 => by
    obtain ⟨h3, h4⟩ := Run.append h1.2 h2
    exact ⟨⟨h1.1, h3⟩, h4⟩

/-- All that stand behind the place in the text wait for it. -/
def ancB (s0 : Nat) : Nat → List Oper → Bool
  | _, [] => true
  | i, o :: l => (Nat.ble i s0 || (edges o).any fun j => Nat.ble s0 j && Nat.blt j i) && ancB s0 (i + 1) l
theorem ancB_at {s0 : Nat} : ∀ {l : List Oper} {k i : Nat} {o : Oper}, ancB s0 k l = true → l[i]? = some o → s0 < k + i → ∃ j ∈ edges o, s0 ≤ j ∧ j < k + i
  | [], k, i, o, _, h, _ => by simp at h
  | o' :: l, k, i, o, h, ho, hs => by
    simp only [ancB, Bool.and_eq_true, Bool.or_eq_true] at h
    cases i with
    | zero =>
      obtain rfl : o' = o := by simpa using ho
      rcases h.1 with h1 | h1
      · have := Nat.le_of_ble_eq_true h1; omega
      · obtain ⟨j, hj, hb⟩ := List.any_eq_true.1 h1
        simp only [Bool.and_eq_true] at hb
        exact ⟨j, hj, Nat.le_of_ble_eq_true hb.1, by have := hb.2; simp [Nat.blt_eq] at this; omega⟩
    | succ i =>
      obtain ⟨j, h1, h2, h3⟩ := ancB_at (k := k + 1) (i := i) h.2 (by simpa using ho) (by omega)
      exact ⟨j, h1, h2, by omega⟩
theorem anc_of {s0 : Nat} {l : List Oper} (h : ancB s0 0 l = true) : ∀ (n i : Nat), i < n → s0 < i → i < l.length → Anc l s0 i
  | 0, i, hn, _, _ => by omega
  | n + 1, i, hn, hs, hl => by
    obtain ⟨j, h1, h2, h3⟩ := ancB_at (k := 0) (i := i) h (List.getElem?_eq_getElem hl) (by omega)
    rcases Nat.lt_or_ge s0 j with h4 | h4
    · exact .step (List.getElem?_eq_getElem hl) h1 (anc_of h n j (by omega) h4 (by omega))
    · obtain rfl : j = s0 := by omega
      exact .one (List.getElem?_eq_getElem hl) h1

theorem CW.drawF {ι : Type} (x0 : ι) {id : Nat} {l l1 l2 : List Oper} {os : Oper} {tS : ι → Tr} {rs : List (Key × Val)} (hl : l = l1 ++ os :: l2) (hgs : os.guard = none) (hrs : ∀ x, (tS x).rd = rs)
    (hsp : ∀ (σ : St) (a : Act) (w : World) (K : Act → World → Prop) (Q : Exit → Act → World → Prop), Sim cx σ a w → App σ rs → (∀ x a' w', Sim cx ((tS x).wr ++ σ) a' w' → K a' w') → os.wp cx.P a w K Q)
    (hanc : ancB l1.length 0 l = true)
    (h : RW cx l.toArray (fun ts1 σ1 => App σ1 rs ∧ ∀ x, RW cx l.toArray (fun ts2 σ2 => chk [] [] l (ts1 ++ tS x :: ts2) = true ∧ Q .normal σ2) [] l2 ((tS x).wr ++ σ1)) [] l1 σ) : CW cx (.region id l.toArray true) Q σ := by
  obtain ⟨ts1, σ1, h1, h2, h3⟩ := h
  rw [List.nil_append] at h3
  obtain ⟨F, hF⟩ : ∃ F : ι → List Tr × St, ∀ x, Steps' cx l.toArray l2 ((tS x).wr ++ σ1) (F x).1 (F x).2 ∧ chk [] [] l (ts1 ++ tS x :: (F x).1) = true ∧ Q .normal (F x).2 := by
    refine ⟨fun x => (Classical.choose (h3 x), Classical.choose (Classical.choose_spec (h3 x))), fun x => ?_⟩
    have := Classical.choose_spec (Classical.choose_spec (h3 x))
    exact ⟨this.1, by simpa using this.2.1, this.2.2⟩
  have hlenA : ∀ {ops : Array Oper} {l : List Oper} {ts : List Tr}, All2 cx ops l ts → ts.length = l.length := by
    intro ops l
    induction l with
    | nil => intro ts h; cases ts with
      | nil => rfl
      | cons t ts => exact h.elim
    | cons o l ih => intro ts h; cases ts with
      | nil => exact h.elim
      | cons t ts => simp [ih h.2]
  have hA1 := h1.trs
  have hl1 := hlenA hA1
  have hl2 : ∀ x, (F x).1.length = l2.length := fun x => hlenA (hF x).1.trs
  have hleft : ∀ (ts : List Tr) (n k : Nat), k + ts.length ≤ n → left ts (Array.replicate n false) k = ts := by
    intro ts
    induction ts with
    | nil => intro n k _; rfl
    | cons t ts ih =>
      intro n k hk
      simp at hk
      have h0 : (Array.replicate n false).getD k true = false := by simp [Array.getD, show k < n by omega]
      simp only [left, h0]
      rw [if_neg (by simp), ih n (k + 1) (by omega)]
  have hsz : l.toArray.size = l1.length + (l2.length + 1) := by subst hl; simp
  have hl0 : ∀ x, left (ts1 ++ tS x :: (F x).1) (Array.replicate l.toArray.size false) 0 = ts1 ++ tS x :: (F x).1 := fun x => hleft _ _ _ (by have := hl2 x; rw [hsz]; simp; omega)
  have hrun : ∀ x, Run (ts1 ++ tS x :: (F x).1) σ ∧ fin (ts1 ++ tS x :: (F x).1) σ = (F x).2 := fun x => by
    obtain ⟨r1, r2⟩ := h1.run
    obtain ⟨r3, r4⟩ := (hF x).1.run
    obtain ⟨r5, r6⟩ := Run.append (t2 := tS x :: (F x).1) r1 (by rw [r2]; exact ⟨by rw [hrs]; exact h2, r3⟩)
    exact ⟨r5, by rw [r6, r2]; exact r4⟩
  intro a w hs
  refine wp_region_any cx.mixed (wpAny_fam (ts := fun x => ts1 ++ tS x :: (F x).1) (s0 := l1.length) (os := os) (rs := rs) x0 (fun x i o ho hne => ?_) (fun x i hi => ?_) (fun x => by have := hl2 x; rw [hsz]; simp; omega) (fun x => fit_of_chk (hF x).2.1) (by subst hl; simp) hgs (fun x => ⟨tS x, by simp [← hl1], hrs x⟩)
    (fun σ a w K Q hs ha hK => hsp σ a w K Q hs ha fun x a' w' hs' => hK x (tS x) a' w' (by simp [← hl1]) hs') (fun i hi hil => anc_of hanc (i + 1) i (by omega) hi (by simpa using hil)) l.toArray.size _ σ a _ (by simp) ?_ (fun i o _ hi hli => ?_) (fun x => by rw [hl0]; exact (hrun x).1) (fun x => by rw [hl0]; have := hl2 x; rw [hsz]; simp; omega) hs.drawn fun x a' w' hs' => ⟨(F x).2, by rw [hl0, (hrun x).2] at hs'; exact hs', (hF x).2.2⟩)
  · have ho' : l[i]? = some o := by simpa using ho
    rw [hl] at ho'
    rcases Nat.lt_or_ge i l1.length with hi | hi
    · rw [List.getElem?_append_left hi] at ho'
      obtain ⟨t, h4, h5⟩ := hA1.at ho'
      exact ⟨t, by rw [List.getElem?_append_left (by omega)]; exact h4, h5⟩
    · rw [List.getElem?_append_right hi] at ho'
      obtain ⟨j, rfl⟩ : ∃ j, i = l1.length + (j + 1) := ⟨i - l1.length - 1, by omega⟩
      rw [show l1.length + (j + 1) - l1.length = j + 1 by omega, List.getElem?_cons_succ] at ho'
      obtain ⟨t, h4, h5⟩ := (hF x).1.trs.at ho'
      exact ⟨t, by rw [List.getElem?_append_right (by omega), hl1, show l1.length + (j + 1) - l1.length = j + 1 by omega, List.getElem?_cons_succ]; exact h4, h5⟩
  · show (ts1 ++ tS x :: (F x).1)[i]? = (ts1 ++ tS x0 :: (F x0).1)[i]?
    rw [List.getElem?_append_left (by omega), List.getElem?_append_left (by omega)]
  · simp [Array.getD, hsz]
  · have h9 : i < l.length := by simpa using hi
    simp [Array.getD] at hli
    omega

/-- A call whose result is new, and whose handle is known at once. -/
theorem fam_newpin {f : FuncId} {xs : List Operand} {avs : List AV} {ys : List Arg} {l : List (Key × Val)} {e k : Nat} {rows : List (List D)} {ats : Array TypeId} (hd : Nat.blt d cx.n = true) (hc : FnNew cx.P f ys e k rows) (hsub : Subs xs avs ys l)
    (σ : St) (a : Act) (w : World) (K : Act → World → Prop) (Q : Exit → Act → World → Prop) (hs : Sim cx σ a w) (hr : App σ (l ++ [(.nx, .num nx)]))
    (hK : ∀ (x : Option Addr × Nat × Nat) a' w', Sim cx ([(.s d, .av (.d (.v (.slice x.1 x.2.1 x.2.2)))), (.o nx, .ob (.pin e k rows (.slice x.1 x.2.1 x.2.2))), (.nx, .num (nx + 1))] ++ σ) a' w' → K a' w') :
    Oper.wp cx.P ⟨some d, .call { callee := .value (.func f), args := ⟨xs⟩, argTypes := ats }, ty, pos, af, gd⟩ a w K Q := by
  obtain ⟨g, n', hs⟩ := hs
  have hnx : n' = nx := by
    have h2 := hr.right.1
    rw [hs.hnx] at h2
    simpa using h2
  subst hnx
  have hcall := hc.calls w (cx.own g σ) (xs.map a.eval) (fun b hb => own_lt hs hb) (hsub.ok hs hr.left)
  unfold Oper.wp
  rw [call_run hc.run]
  refine hcall.mono fun r w' he => ?_
  obtain ⟨v, rfl, hb, hres⟩ := he
  have hG := SimG.join hs hb hres (.inr rfl)
  have hsl : ∃ p n c, v = .slice p n c := by
    obtain ⟨xs, h1, _⟩ := hres
    rcases h1.2 with ⟨h, _⟩ | ⟨g, cap, cur, h, _⟩
    · exact ⟨_, _, _, h⟩
    · exact ⟨_, _, _, h⟩
  obtain ⟨p, n, c, rfl⟩ := hsl
  exact hK (p, n, c) _ _ (Sim.put hG (lt_of_blt hd) (Below.refl _ _) (av := .d (.v (.slice p n c))) (Rd.v _) trivial)

theorem own2_ret {t e k e2 k2 id n id2 : Nat} {rowsF : Value → List (List D)} {rows2 : List (List D)} {x : Value} (h1 : get σ (.s t) = .av (.own id n)) (h2 : get σ (.o id) = .ob (.arr e k (rowsF x))) (h3 : n = (rowsF x).length)
    (h4 : get σ (.o id2) = .ob (.pin e2 k2 rows2 x)) : own2Q t e k rowsF e2 k2 rows2 .ret σ := ⟨id, n, id2, x, h1, h2, h3, h4⟩

end Go.AX

/-! AxPin4 -/
/-
  Stutters between a region's operations; facts out of a state; a slice whose handle is known, read and written in place.
-/
namespace Go.AX
open Go.RowKit

variable {cx : Cx} {g : Nat → Value} {σ σ' : St} {a : Act} {w w' : World} {nx : Nat} {c : Code} {Q : Exit → St → Prop}
variable {ty : TypeId} {pos : String} {af : Array Edge} {gd : Option (Nat × Bool)} {d : Nat}
variable {ops : Array Oper} {rest : List Oper} {o : Oper}

theorem SW.s1 {rd wr : List (Key × Val)} (ha : autA cx σ o = some ⟨rd, wr⟩) (h : SW cx ops Q rest (wr ++ σ)) : SW cx ops Q (o :: rest) σ := by
  obtain ⟨dst, op, ty, pos, af, gd⟩ := o
  cases gd with
  | some p => cases ha
  | none =>
    simp only [autA] at ha
    split at ha
    · next hd => 
      obtain ⟨h1, h2⟩ := trA_ok (cx := cx) (ty := ty) (pos := pos) (af := af) (gd := none) hd ha
      exact SW.step rfl ⟨h1, h2⟩ h
    · cases ha
theorem SW.s5 {rd wr : List (Key × Val)} (ho : OA cx σ o ⟨rd, wr⟩) (hg : o.guard = none) (h : SW cx ops Q rest (wr ++ σ)) : SW cx ops Q (o :: rest) σ := SW.step hg ho h
theorem SW.nil (h : Q .normal σ) : SW cx ops Q [] σ := fun a w hs => wpList_nil ⟨σ, hs, h⟩
theorem SW.stut {t : Tr} {l : List Oper} (hs : Stut cx t) (ha : App σ t.rd) (h : SW cx ops Q l (t.wr ++ σ)) : SW cx ops Q l σ := fun a w hsim => h a w (hs σ a w hsim ha)
theorem stut_unpin {i id e k : Nat} {rows : List (List D)} {x : Value} :
    Stut cx ⟨[(.s i, .av (.d (.v x))), (.o id, .ob (.pin e k rows x)), (.nx, .num nx)], [(.s i, .av (.own nx rows.length)), (.o nx, .ob (.arr e k rows)), (.nx, .num (nx + 1)), (.o id, .none)]⟩ := by
  intro σ a w hs hr
  exact sim_unpin i id e k nx rows x hr.1 hr.2.1 hr.2.2.1 hs

end Go.AX

/-! AxPin5 -/
/-
  A slice's length where its handle is known; a slice of ours within another's element, told as data there.
-/
namespace Go.AX
open Go.RowKit

variable {cx : Cx} {g : Nat → Value} {σ σ' : St} {a : Act} {w w' : World} {nx : Nat} {c : Code} {Q : Exit → St → Prop}
variable {ty : TypeId} {pos : String} {af : Array Edge} {gd : Option (Nat × Bool)} {d : Nat}

theorem SimG.drop (hG : SimG cx σ a w g nx) (id : Nat) : SimG cx ((.o id, .none) :: σ) a w g nx := by
  have hl := Less.drop ⟨g, nx, hG⟩ id
  have hlat : Later cx g g σ ((.o id, .none) :: σ) w w nx := by
    refine ⟨Ext.refl _ _, Below.refl _ _, fun b hb => ?_, fun j o' _ h => ⟨o', hl.o _ _ h, ?_⟩⟩
    · rcases hb with hb | ⟨j, o, h5, h6⟩
      · exact .inl (.inl hb)
      · exact .inl (.inr ⟨j, o, hl.o _ _ h5, h6⟩)
    · cases o' <;> simp [ObLe]
  exact hG.next hlat ((get_cons_ne (by simp)).trans hG.hnx) (Nat.le_refl _) hG.size hG.defers (Below.refl _ _) (fun j av hj => .inl ⟨hl.s _ _ hj, rfl⟩) (fun j o hj => .inl ⟨hl.o _ _ hj, rfl, fun _ _ => rfl⟩)
    (fun j j' o o' b h1 h2 => hG.sep j j' o o' b (hl.o _ _ h1) (hl.o _ _ h2))

end Go.AX

/-! AxFnD -/
/-
  Pointers, maps and closures told as data; closures made and called.
-/
namespace Go.AX
open Go.RowKit

variable {cx : Cx} {g : Nat → Value} {σ σ' : St} {a : Act} {w w' : World} {nx : Nat}
variable {ty : TypeId} {pos : String} {af : Array Edge} {gd : Option (Nat × Bool)} {d : Nat}

/-! ### As data -/
/-- A pointer to cells that stay. -/
def refP (ds : List D) (w : World) (own : Nat → Prop) (v : Value) : Prop := ∃ ad : Addr, v = .pointer (some ad) ∧ ¬ own ad.block ∧ ad.block < w.heap.size ∧ RdCells w own ad ds
def refD (ds : List D) : D := .x (refP ds)
/-- A map that stays. -/
def mapP (M : List (List UInt8 × Value)) (w : World) (own : Nat → Prop) (v : Value) : Prop := ∃ b es clock, v = .map (some b) ∧ ¬ own b ∧ b < w.heap.size ∧ w.heap[b]? = some (.map es clock) ∧ MapIs es M
def mapD (M : List (List UInt8 × Value)) : D := .x (mapP M)
theorem rd_x {own : Nat → Prop} {v : Value} {p : World → (Nat → Prop) → Value → Prop} (h : Rd w own v (.x p)) : p w own v := by
  generalize hD : D.x p = D0 at h
  cases h with
  | v => cases hD
  | sl => cases hD
  | agg => cases hD
  | nil => cases hD
  | x p v h1 hst hp => cases hD; exact hp
/-! ### A pointer to cells that stay -/
/-! ### Closures -/
/-- What is captured, as a function's arguments. -/
inductive Caps : List D → List Arg → Prop
  | nil : Caps [] []
  | ref {cs ds : List D} {zs : List Arg} (h : Caps ds zs) : Caps (refD cs :: ds) (.pd cs :: zs)
  | d {x : D} {ds : List D} {zs : List Arg} (h : Caps ds zs) : Caps (x :: ds) (.d x :: zs)
theorem Caps.ok {own : Nat → Prop} {ds : List D} {zs : List Arg} (h : Caps ds zs) : ∀ {vs : List Value}, vs.length = ds.length → (∀ (j : Nat) (x : D) (c : Value), ds[j]? = some x → vs[j]? = some c → Rd w own c x) → ArgsOk w own vs zs := by
  induction h with
  | nil =>
    intro vs hl _
    obtain rfl : vs = [] := List.eq_nil_of_length_eq_zero hl
    trivial
  | @ref cs ds zs h ih =>
    intro vs hl hr
    cases vs with
    | nil => simp at hl
    | cons v vs =>
      obtain ⟨ad, h1, _, h2, h3⟩ := rd_x (hr 0 _ v rfl rfl)
      exact ⟨⟨ad, h1, h2, h3⟩, ih (by simpa using hl) fun j x c hj hc => hr (j + 1) x c (by simpa using hj) (by simpa using hc)⟩
  | @d x ds zs h ih =>
    intro vs hl hr
    cases vs with
    | nil => simp at hl
    | cons v vs => exact ⟨hr 0 _ v rfl rfl, ih (by simpa using hl) fun j x c hj hc => hr (j + 1) x c (by simpa using hj) (by simpa using hc)⟩
/-- The same, where a map of ours lies in a captured box: told as data to who is called. -/
inductive CapsM (x0 : Value) (M : List (List UInt8 × Value)) : List D → List Arg → Prop
  | nil : CapsM x0 M [] []
  | map {ds : List D} {zs : List Arg} (h : CapsM x0 M ds zs) : CapsM x0 M (refD [.v x0] :: ds) (.pd [mapD M] :: zs)
  | ref {cs ds : List D} {zs : List Arg} (h : CapsM x0 M ds zs) : CapsM x0 M (refD cs :: ds) (.pd cs :: zs)
theorem CapsM.ok {own own' : Nat → Prop} {x0 : Value} {M : List (List UInt8 × Value)} (ho : ∀ b, own' b → own b) (hm : Rd w own' x0 (mapD M)) {ds : List D} {zs : List Arg} (h : CapsM x0 M ds zs) :
    ∀ {vs : List Value}, vs.length = ds.length → (∀ (j : Nat) (x : D) (c : Value), ds[j]? = some x → vs[j]? = some c → Rd w own c x) → ArgsOk w own' vs zs := by
  induction h with
  | nil =>
    intro vs hl _
    obtain rfl : vs = [] := List.eq_nil_of_length_eq_zero hl
    trivial
  | @map ds zs h ih =>
    intro vs hl hr
    cases vs with
    | nil => simp at hl
    | cons v vs =>
      obtain ⟨ad, h1, _, h2, h3⟩ := rd_x (hr 0 _ v rfl rfl)
      refine ⟨⟨ad, h1, h2, fun j z hz => ?_⟩, ih (by simpa using hl) fun j x c hj hc => hr (j + 1) x c (by simpa using hj) (by simpa using hc)⟩
      cases j with
      | zero =>
        simp at hz; subst hz
        obtain ⟨u, h4, h5, h6⟩ := h3 0 _ rfl
        rw [rd_v h6] at h4 h5
        exact ⟨x0, h4, h5, hm⟩
      | succ j => simp at hz
  | @ref cs ds zs h ih =>
    intro vs hl hr
    cases vs with
    | nil => simp at hl
    | cons v vs =>
      obtain ⟨ad, h1, _, h2, h3⟩ := rd_x (hr 0 _ v rfl rfl)
      exact ⟨⟨ad, h1, h2, fun j z hz => by obtain ⟨u, h4, h5, h6⟩ := h3 j z hz; exact ⟨u, h4, h5, h6.less ho⟩⟩, ih (by simpa using hl) fun j x c hj hc => hr (j + 1) x c (by simpa using hj) (by simpa using hc)⟩
/-! ### Maps of ours -/
end Go.AX

/-! Rn -/
/-
  What the program's Run of a deed computes, on data.
-/
namespace Go.RF
open Go.AX

abbrev Mk := List (Str × (Bool × Int))
def mG : Mk → Str → Option (Bool × Int)
  | [], _ => none
  | (s, c) :: r, k => if s = k then some c else mG r k
def mS : Mk → Str → Bool × Int → Mk
  | [], k, c => [(k, c)]
  | (s, u) :: r, k, c => if s = k then (s, c) :: r else (s, u) :: mS r k c
theorem mG_mS (m : Mk) (k k' : Str) (c : Bool × Int) : mG (mS m k c) k' = if k = k' then some c else mG m k' := by
  induction m with
  | nil => simp [mS, mG]
  | cons p m ih =>
    obtain ⟨s, u⟩ := p
    simp only [mS]
    by_cases hs : s = k
    · rw [if_pos hs]
      simp only [mG]
      by_cases h : k = k'
      · simp [hs, h]
      · rw [if_neg (by rw [hs]; exact h), if_neg h, if_neg (by rw [hs]; exact h)]
    · rw [if_neg hs]
      simp only [mG, ih]
      by_cases h : s = k'
      · rw [if_pos h, if_neg (fun e => hs (by rw [h, e])), if_pos h]
      · rw [if_neg h, if_neg h]

def seeM (view : Str → Int × Bool) (m : Mk) (k : Str) : Int := match mG m k with
  | some c => c.2
  | none => (view k).1

/-- A deed's instructions, one by one: what keys have been given, the registers. -/
def runGo (view : Str → Int × Bool) : Int → Mk → Done → List Ins → Mk × Done
  | _, m, e, [] => (m, e)
  | sk, m, e, i :: r =>
    if 0 < sk then runGo view (sk - 1) m e r
    else if i.kind = 1 then runGo view sk m (rset e i.a.toNat (seeM view m i.key)) r
    else if i.kind = 2 then runGo view sk m (rset e i.a.toNat i.n) r
    else if i.kind = 3 then runGo view sk m (rset e i.a.toNat (round (rget e i.a.toNat + rget e i.b.toNat))) r
    else if i.kind = 4 then runGo view sk m (rset e i.a.toNat (round (rget e i.a.toNat - rget e i.b.toNat))) r
    else if i.kind = 5 then runGo view sk m (rset e i.a.toNat (round (rget e i.a.toNat * rget e i.b.toNat))) r
    else if i.kind = 6 then runGo view sk (mS m i.key (true, rget e i.a.toNat)) e r
    else if i.kind = 7 then runGo view sk (mS m i.key (false, 0)) e r
    else if i.kind = 8 then runGo view (if rget e i.a.toNat < 1 then i.n else sk) m e r
    else if rget e i.a.toNat < 0 then (m, bustE e) else runGo view sk m e r
def chg (m : Mk) : List Str → List (Str × (Bool × Int))
  | [] => []
  | k :: r => match mG m k with
    | some c => (k, c) :: chg m r
    | none => chg m r
def runM (view : Str → Int × Bool) (d : Deed) : Mk × Done := runGo view 0 [] done0 d.code
def runC (view : Str → Int × Bool) (d : Deed) : List (Str × (Bool × Int)) := if (runM view d).2.failed = true then [] else chg (runM view d).1 d.writes
end Go.RF

/-! Sh -/
/-
  The library's comparison of texts, at this program's numbers.
-/
namespace Go.Proofs
open Go.Shelf Go.RowKit
def Tryz.lays106_ren : Go.Shelf.Ren := ⟨fun | 106 => 86 | 213 => 106 | 265 => 118 | n => n, fun | 9 => 9 | 3 => 3 | n => n, fun | n => n⟩
theorem Tryz.lays106 : Go.Proofs.Lays.n106 Tryz.prog Tryz.lays106_ren := {
  mixed := by kernel_rfl
  f106 := Tryz.func86.trans (congrArg some (by kernel_rfl))
  f213 := Tryz.func106.trans (congrArg some (by kernel_rfl))
  f265 := Tryz.func118.trans (congrArg some (by kernel_rfl))
  t3 := Tryz.underlying3
  a3 := Tryz.isAgg3
  z3 := Tryz.sizeOf3
  v3 := Tryz.zeroValue3
  t9 := Tryz.underlying9
  a9 := Tryz.isAgg9
  z9 := Tryz.sizeOf9
  v9 := Tryz.zeroValue9 }
theorem Tryz.strings_Compare (a b : ByteArray) (w : World) :
    Calls Tryz.prog 86 #[.string a, .string b] w fun e w' => e = .returned (.int .i64 (Lib.compareBytes a.data.toList b.data.toList)) ∧ w' = w := Any.strings_Compare Tryz.lays106 a b w
end Go.Proofs

/-! G2 -/
/-
  Contracts of the program's find in chains: texts held against each other, and the library's search by halves.
-/
namespace Go.Proofs.YtembfadhnkabhaaGreatDoor
open Go.AX Go.RF Go.RowKit

set_option maxRecDepth 100000
set_option maxHeartbeats 4000000

def cmpT (a b : Str) : Int := if slt a b = true then -1 else if a = b then 0 else 1

theorem compare_eq : ∀ (a b : Str), Lib.compareBytes a b = cmpT a b
  | [], [] => by simp [Lib.compareBytes, cmpT, bl_nil]
  | [], b :: r => by simp [Lib.compareBytes, cmpT, bl_nil_cons]
  | a :: l, [] => by simp [Lib.compareBytes, cmpT, bl_nil]
  | a :: l, b :: r => by
    simp only [Lib.compareBytes, cmpT, bl_cons]
    by_cases h1 : a < b
    · simp [h1]
    · by_cases h2 : b < a
      · have h3 : ¬ a = b := fun h => by subst h; exact h1 h2
        simp [h1, h2, h3]
      · have h3 : a = b := UInt8.le_antisymm (UInt8.not_lt.1 h2) (UInt8.not_lt.1 h1)
        subst h3
        rw [compare_eq l r]
        simp [h1, cmpT]
theorem cmpT_lt {a b : Str} : cmpT a b < 0 ↔ slt a b = true := by
  unfold cmpT
  split
  · next h => simp [h]
  · next h => split <;> simp [h]
theorem cmpT_zero {a b : Str} : cmpT a b = 0 ↔ a = b := by
  unfold cmpT
  split
  · next h =>
    constructor
    · intro h0; simp at h0
    · intro h0; subst h0; rw [slt_irrefl] at h; cases h
  · split <;> simp_all

theorem ok_compare (a b : Str) : FnOk Tryz.prog 86 [.d (dstr a), .d (dstr b)] (.one (dint (cmpT a b))) := by
  refine ⟨⟨_, Tryz.func86, rfl, rfl⟩, fun w own vs hown ha => ?_⟩
  match vs, ha with
  | [x, y], ⟨h1, h2, _⟩ =>
    obtain rfl : x = str a := rd_v h1
    obtain rfl : y = str b := rd_v h2
    refine (Tryz.strings_Compare ⟨a.toArray⟩ ⟨b.toArray⟩ w).mono fun e w' he => ?_
    obtain ⟨rfl, rfl⟩ := he
    exact ⟨_, rfl, Below.refl _ _, by rw [← compare_eq]; exact Rd.v _⟩

theorem ok_find1 (c : Chain) (k : Str) : FnOk Tryz.prog 85 [.d (.agg c.enc), .d (dstr k)] (.one (dint (cmpT c.key k))) := by
  refine fnOk_of tbl_ok mixed_ok Tryz.func85 rfl (by kernel_rfl) rfl rfl fun w0 own0 => ?_
  have hc := ok_compare c.key k
  repeat (first | ((with_reducible apply s1); exact rfl) | (with_reducible first | apply CW.seq | apply CW.block | apply CW.region | apply CW.draw | apply CW.skip | apply CW.exit | apply CW.ret | apply q_then | apply q_then_exit | apply q_then_ret | apply q_block | apply q_block_ret | apply q_block_hit | apply q_ret | apply q_end | apply q_loop_exit | apply q_loop_ret | apply q_loopT_exit | apply q_loopT_ret | apply RW.nil) | ((with_reducible apply s3); exact rfl; exact by_k) | ((with_reducible apply s2); exact rfl; exact by_k) | ((with_reducible apply s4); exact rfl) | ((with_reducible apply s5); (first | (focus ((with_reducible apply a_call); exact hc; exact rfl; (repeat (first | exact SubsE.nil | (apply SubsE.cons; exact rfl; (first | exact .d (.refl _) | exact .d (.nil _) | exact .agg rfl (.refl _) | exact .pd | exact .ptr rfl); (first | exact trivial | exact ⟨rfl, trivial⟩)))); done)) | exact by_oa); exact by_g) | ((with_reducible apply CW.cond_t); exact rfl; exact by_ks) | ((with_reducible apply CW.cond_f); exact rfl; exact by_ks) | ((with_reducible apply q_block_miss); exact rfl) | (refine And.intro (show chk [] [] _ _ = true by kernel_rfl) ?_))
  exact .one (.tmp rfl (.one (.d (.refl _))))

abbrev At (l : List Chain) (k : Str) (m : Nat) : Prop := AtK Chain.key l k m
abbrev isAt (l : List Chain) (k : Str) (m : Nat) : Bool := isAtK Chain.key l k m

theorem ok_bsearch (l : List Chain) (k : Str) (m : Nat) (hl : l.length ≤ 268435456) (hm : At l k m) :
    FnOk Tryz.prog 84 [.d (encChains l), .d (dstr k), .d (.v (.func (.func 85) #[] #[]))] (.tup [dint m, dbool (isAt l k m)]) := by
  refine fnOk_of tbl_ok mixed_ok Tryz.func84 rfl (by kernel_rfl) rfl rfl fun w0 own0 => ?_
  have hml := hm.le
  repeat (first | ((with_reducible apply s1); exact rfl) | (with_reducible first | apply CW.seq | apply CW.block | apply CW.region | apply CW.draw | apply CW.skip | apply CW.exit | apply CW.ret | apply q_then | apply q_then_exit | apply q_then_ret | apply q_block | apply q_block_ret | apply q_block_hit | apply q_ret | apply q_end | apply q_loop_exit | apply q_loop_ret | apply q_loopT_exit | apply q_loopT_ret | apply RW.nil) | ((with_reducible apply s3); exact rfl; exact by_k) | ((with_reducible apply s2); exact rfl; exact by_k) | ((with_reducible apply s4); exact rfl) | ((with_reducible apply s5); (first | exact by_oa); exact by_g) | ((with_reducible apply CW.cond_t); exact rfl; exact by_ks) | ((with_reducible apply CW.cond_f); exact rfl; exact by_ks) | ((with_reducible apply q_block_miss); exact rfl) | (refine And.intro (show chk [] [] _ _ = true by kernel_rfl) ?_))
  refine CW.loopT (fun t : Nat × Nat => [sd 0 (encChains l), sd 1 (dstr k), sd 2 (.v (.func (.func 85) #[] #[])), sd 8 (dint l.length), sd 9 (dint t.1), sd 10 (dint t.2), nxt 0])
    (fun t => t.1 ≤ m ∧ m ≤ t.2 ∧ t.2 ≤ l.length) (fun t => t.2 - t.1) (0, l.length) ⟨by omega, hm.le, by omega⟩ ?_ ?_
  ·
    exact by_less
  · rintro ⟨i, j⟩ ⟨h1, h2, h3⟩
    dsimp only at h1 h2 h3 ⊢
    by_cases h4 : i < j
    · obtain ⟨c, hc⟩ : ∃ c, l[(i + j) / 2]? = some c := ⟨l[(i + j) / 2]'(by omega), List.getElem?_eq_getElem (by omega)⟩
      have hcall := ok_find1 c k
      repeat (first | (with_reducible apply stop_reg 4) | ((with_reducible apply s1); exact rfl) | (with_reducible first | apply CW.seq | apply CW.block | apply CW.region | apply CW.draw | apply CW.skip | apply CW.exit | apply CW.ret | apply q_then | apply q_then_exit | apply q_then_ret | apply q_block | apply q_block_ret | apply q_block_hit | apply q_ret | apply q_end | apply q_loop_exit | apply q_loop_ret | apply q_loopT_exit | apply q_loopT_ret | apply RW.nil) | ((with_reducible apply s3); exact rfl; exact by_k) | ((with_reducible apply s2); exact rfl; exact by_k) | ((with_reducible apply s4); exact rfl) | ((with_reducible apply s5); (first | exact by_oa); exact by_g) | ((with_reducible apply CW.cond_t); exact rfl; exact by_ks) | ((with_reducible apply CW.cond_f); exact rfl; exact by_ks) | ((with_reducible apply q_block_miss); exact rfl) | (refine And.intro (show chk [] [] _ _ = true by kernel_rfl) ?_))
      refine Stop.cutk [sd 11 (dint ((i + j) / 2 : Nat))] [.s 0, .s 1, .s 2, .s 8, .s 9, .s 10, .nx] ?_ ?_
      ·
        repeat (first | ((with_reducible apply s1); exact rfl) | (with_reducible first | apply CW.seq | apply CW.block | apply CW.region | apply CW.draw | apply CW.skip | apply CW.exit | apply CW.ret | apply q_then | apply q_then_exit | apply q_then_ret | apply q_block | apply q_block_ret | apply q_block_hit | apply q_ret | apply q_end | apply q_loop_exit | apply q_loop_ret | apply q_loopT_exit | apply q_loopT_ret | apply RW.nil) | ((with_reducible apply s3); exact rfl; exact by_k) | ((with_reducible apply s2); exact rfl; exact by_k) | ((with_reducible apply s4); exact rfl) | ((with_reducible apply s5); (first | ((with_reducible apply a_bin); (iterate 2 exact rfl); exact bin_half; exact rfl) | exact by_oa); exact by_g) | ((with_reducible apply CW.cond_t); exact rfl; exact by_ks) | ((with_reducible apply CW.cond_f); exact rfl; exact by_ks) | ((with_reducible apply q_block_miss); exact rfl) | (refine And.intro (show chk [] [] _ _ = true by kernel_rfl) ?_))
        refine q_cut ?_
        exact by_less
      have hcz := @cmpT_lt c.key k
      by_cases h5 : cmpT c.key k < 0
      · have h6 : (i + j) / 2 < m := by
          rcases Nat.lt_or_ge ((i + j) / 2) m with h | h
          · exact h
          · have := hm.ge _ c hc h
            rw [hcz.1 h5] at this; cases this
        repeat (first | ((with_reducible apply s1); exact rfl) | (with_reducible first | apply CW.seq | apply CW.block | apply CW.region | apply CW.draw | apply CW.skip | apply CW.exit | apply CW.ret | apply q_then | apply q_then_exit | apply q_then_ret | apply q_block | apply q_block_ret | apply q_block_hit | apply q_ret | apply q_end | apply q_loop_exit | apply q_loop_ret | apply q_loopT_exit | apply q_loopT_ret | apply RW.nil) | ((with_reducible apply s3); exact rfl; exact by_k) | ((with_reducible apply s2); exact rfl; exact by_k) | ((with_reducible apply s4); exact rfl) | ((with_reducible apply s5); (first | (focus ((with_reducible apply a_callv); exact hcall; (iterate 2 exact rfl); (repeat (first | exact SubsE.nil | (apply SubsE.cons; exact rfl; (first | exact .d (.refl _) | exact .d (.nil _) | exact .agg rfl (.refl _) | exact .pd | exact .ptr rfl); (first | exact trivial | exact ⟨rfl, trivial⟩)))); done)) | exact by_oa); exact by_g) | ((with_reducible apply CW.cond_t); exact rfl; exact by_ks) | ((with_reducible apply CW.cond_f); exact rfl; exact by_ks) | ((with_reducible apply q_block_miss); exact rfl) | (refine And.intro (show chk [] [] _ _ = true by kernel_rfl) ?_))
        refine q_loopT ((i + j) / 2 + 1, j) ⟨by dsimp only; omega, h2, h3⟩ (by dsimp only; omega) ?_
        exact by_less
      · have h6 : m ≤ (i + j) / 2 := by
          rcases Nat.lt_or_ge ((i + j) / 2) m with h | h
          · exact absurd (hcz.2 (hm.lt _ c hc h)) h5
          · exact h
        repeat (first | ((with_reducible apply s1); exact rfl) | (with_reducible first | apply CW.seq | apply CW.block | apply CW.region | apply CW.draw | apply CW.skip | apply CW.exit | apply CW.ret | apply q_then | apply q_then_exit | apply q_then_ret | apply q_block | apply q_block_ret | apply q_block_hit | apply q_ret | apply q_end | apply q_loop_exit | apply q_loop_ret | apply q_loopT_exit | apply q_loopT_ret | apply RW.nil) | ((with_reducible apply s3); exact rfl; exact by_k) | ((with_reducible apply s2); exact rfl; exact by_k) | ((with_reducible apply s4); exact rfl) | ((with_reducible apply s5); (first | (focus ((with_reducible apply a_callv); exact hcall; (iterate 2 exact rfl); (repeat (first | exact SubsE.nil | (apply SubsE.cons; exact rfl; (first | exact .d (.refl _) | exact .d (.nil _) | exact .agg rfl (.refl _) | exact .pd | exact .ptr rfl); (first | exact trivial | exact ⟨rfl, trivial⟩)))); done)) | exact by_oa); exact by_g) | ((with_reducible apply CW.cond_t); exact rfl; exact by_ks) | ((with_reducible apply CW.cond_f); exact rfl; exact by_ks) | ((with_reducible apply q_block_miss); exact rfl) | (refine And.intro (show chk [] [] _ _ = true by kernel_rfl) ?_))
        refine q_loopT (i, (i + j) / 2) ⟨h1, h6, by dsimp only; omega⟩ (by dsimp only; omega) ?_
        exact by_less
    · obtain rfl : i = m := by omega
      cases hc : l[i]? with
      | none =>
        have h5 : l.length ≤ i := by
          rcases Nat.lt_or_ge i l.length with h | h
          · rw [List.getElem?_eq_getElem h] at hc; cases hc
          · exact h
        repeat (first | ((with_reducible apply s1); exact rfl) | (with_reducible first | apply CW.seq | apply CW.block | apply CW.region | apply CW.draw | apply CW.skip | apply CW.exit | apply CW.ret | apply q_then | apply q_then_exit | apply q_then_ret | apply q_block | apply q_block_ret | apply q_block_hit | apply q_ret | apply q_end | apply q_loop_exit | apply q_loop_ret | apply q_loopT_exit | apply q_loopT_ret | apply RW.nil) | ((with_reducible apply s3); exact rfl; exact by_k) | ((with_reducible apply s2); exact rfl; exact by_k) | ((with_reducible apply s4); exact rfl) | ((with_reducible apply s5); (first | exact by_oa); exact by_g) | ((with_reducible apply CW.cond_t); exact rfl; exact by_ks) | ((with_reducible apply CW.cond_f); exact rfl; exact by_ks) | ((with_reducible apply q_block_miss); exact rfl) | (refine And.intro (show chk [] [] _ _ = true by kernel_rfl) ?_))
        exact .two (.tmp rfl (.one (.d (.refl _)))) (.tmp rfl (.one (.d (dle_bool (by simp [isAtK, hc])))))
      | some c =>
        have h5 : i < l.length := (List.getElem?_eq_some_iff.1 hc).1
        have hcall := ok_find1 c k
        repeat (first | ((with_reducible apply s1); exact rfl) | (with_reducible first | apply CW.seq | apply CW.block | apply CW.region | apply CW.draw | apply CW.skip | apply CW.exit | apply CW.ret | apply q_then | apply q_then_exit | apply q_then_ret | apply q_block | apply q_block_ret | apply q_block_hit | apply q_ret | apply q_end | apply q_loop_exit | apply q_loop_ret | apply q_loopT_exit | apply q_loopT_ret | apply RW.nil) | ((with_reducible apply s3); exact rfl; exact by_k) | ((with_reducible apply s2); exact rfl; exact by_k) | ((with_reducible apply s4); exact rfl) | ((with_reducible apply s5); (first | (focus ((with_reducible apply a_callv); exact hcall; (iterate 2 exact rfl); (repeat (first | exact SubsE.nil | (apply SubsE.cons; exact rfl; (first | exact .d (.refl _) | exact .d (.nil _) | exact .agg rfl (.refl _) | exact .pd | exact .ptr rfl); (first | exact trivial | exact ⟨rfl, trivial⟩)))); done)) | exact by_oa); exact by_g) | ((with_reducible apply CW.cond_t); exact rfl; exact by_ks) | ((with_reducible apply CW.cond_f); exact rfl; exact by_ks) | ((with_reducible apply q_block_miss); exact rfl) | (refine And.intro (show chk [] [] _ _ = true by kernel_rfl) ?_))
        refine .two (.tmp rfl (.one (.d (.refl _)))) (.tmp rfl (.one (.d (dle_bool ?_))))
        rw [show isAt l k i = decide (c.key = k) by simp [isAt, isAtK, hc]]
        show decide (cmpT c.key k = 0) = decide (c.key = k)
        rw [decide_eq_decide]
        exact cmpT_zero

theorem ok_find (l : List Chain) (k : Str) (m : Nat) (hl : l.length ≤ 268435456) (hm : At l k m) : FnOk Tryz.prog 63 [.d (encChains l), .d (dstr k)] (.tup [dint m, dbool (isAt l k m)]) := by
  refine fnOk_of tbl_ok mixed_ok Tryz.func63 rfl (by kernel_rfl) rfl rfl fun w0 own0 => ?_
  have hc := ok_bsearch l k m hl hm
  repeat (first | ((with_reducible apply s1); exact rfl) | (with_reducible first | apply CW.seq | apply CW.block | apply CW.region | apply CW.draw | apply CW.skip | apply CW.exit | apply CW.ret | apply q_then | apply q_then_exit | apply q_then_ret | apply q_block | apply q_block_ret | apply q_block_hit | apply q_ret | apply q_end | apply q_loop_exit | apply q_loop_ret | apply q_loopT_exit | apply q_loopT_ret | apply RW.nil) | ((with_reducible apply s3); exact rfl; exact by_k) | ((with_reducible apply s2); exact rfl; exact by_k) | ((with_reducible apply s4); exact rfl) | ((with_reducible apply s5); (first | (focus ((with_reducible apply a_call); exact hc; exact rfl; (repeat (first | exact SubsE.nil | (apply SubsE.cons; exact rfl; (first | exact .d (.refl _) | exact .d (.nil _) | exact .agg rfl (.refl _) | exact .pd | exact .ptr rfl); (first | exact trivial | exact ⟨rfl, trivial⟩)))); done)) | exact by_oa); exact by_g) | ((with_reducible apply CW.cond_t); exact rfl; exact by_ks) | ((with_reducible apply CW.cond_f); exact rfl; exact by_ks) | ((with_reducible apply q_block_miss); exact rfl) | (refine And.intro (show chk [] [] _ _ = true by kernel_rfl) ?_))
  exact .two (.tmp rfl (.one (.d (.refl _)))) (.tmp rfl (.one (.d (.refl _))))

end Go.Proofs.YtembfadhnkabhaaGreatDoor

/-! G8 -/
/-
  Contracts of the program's copies of chains: what comes back is the caller's own, and one chain's versions, too.
-/
namespace Go.Proofs.YtembfadhnkabhaaGreatDoor
open Go.AX Go.RF

set_option maxRecDepth 100000
set_option maxHeartbeats 8000000

theorem new_chainOwn (l : List Chain) (hl : l.length ≤ 268435456) (hv : ∀ c ∈ l, c.vs.length ≤ 268435456) : FnNew Tryz.prog 52 [.d (encChains l)] 56 2 (l.map Chain.enc) := by
  refine fnNew_of tbl_ok mixed_ok Tryz.func52 rfl (by kernel_rfl) rfl rfl fun w0 own0 => ?_
  repeat (first | ((with_reducible apply s1); exact rfl) | (with_reducible first | apply CW.seq | apply CW.block | apply CW.region | apply CW.draw | apply CW.skip | apply CW.exit | apply CW.ret | apply q_then | apply q_then_exit | apply q_then_ret | apply q_block | apply q_block_ret | apply q_block_hit | apply q_ret | apply q_end | apply q_loop_exit | apply q_loop_ret | apply q_loopT_exit | apply q_loopT_ret | apply RW.nil) | ((with_reducible apply s3); exact rfl; exact by_k) | ((with_reducible apply s2); exact rfl; exact by_k) | ((with_reducible apply s4); exact rfl) | ((with_reducible apply s5); (first | exact by_oa); exact by_g) | ((with_reducible apply CW.cond_t); exact rfl; exact by_ks) | ((with_reducible apply CW.cond_f); exact rfl; exact by_ks) | ((with_reducible apply q_block_miss); exact rfl) | (refine And.intro (show chk [] [] _ _ = true by kernel_rfl) ?_))
  refine CW.stut (stut_promote (i := 3) 56 2) ⟨rfl, rfl, trivial⟩ ?_
  refine CW.loopT (fun i : Nat => [sd 6 (encChains l), sd 7 (dint l.length), sd 8 (dint i), so 3 0 i, oa 0 56 2 ((l.take i).map Chain.enc), nxt 1]) (fun i => i ≤ l.length) (fun i => l.length - i) 0 (by omega) ?_ ?_
  ·
    exact by_less
  · rintro i hi
    rcases drop_case hi with ⟨h1, h2⟩ | ⟨c, h1, h2, h3⟩
    · subst h2
      rw [List.take_length]
      repeat (first | ((with_reducible apply s1); exact rfl) | (with_reducible first | apply CW.seq | apply CW.block | apply CW.region | apply CW.draw | apply CW.skip | apply CW.exit | apply CW.ret | apply q_then | apply q_then_exit | apply q_then_ret | apply q_block | apply q_block_ret | apply q_block_hit | apply q_ret | apply q_end | apply q_loop_exit | apply q_loop_ret | apply q_loopT_exit | apply q_loopT_ret | apply RW.nil) | ((with_reducible apply s3); exact rfl; exact by_k) | ((with_reducible apply s2); exact rfl; exact by_k) | ((with_reducible apply s4); exact rfl) | ((with_reducible apply s5); (first | exact by_oa); exact by_g) | ((with_reducible apply CW.cond_t); exact rfl; exact by_ks) | ((with_reducible apply CW.cond_f); exact rfl; exact by_ks) | ((with_reducible apply q_block_miss); exact rfl) | (refine And.intro (show chk [] [] _ _ = true by kernel_rfl) ?_))
      exact RetNew.own rfl rfl (by simp)
    · have h4 : (l.take i).map Chain.enc ++ [c.enc] = (l.take (i + 1)).map Chain.enc := by rw [List.take_add_one, h2]; simp
      have hcv := hv c (List.mem_of_getElem? h2)
      have hc := ok_clone_version (c.vs.map Version.enc) (by simp; omega)
      repeat (first | ((with_reducible apply s1); exact rfl) | (with_reducible first | apply CW.seq | apply CW.block | apply CW.region | apply CW.draw | apply CW.skip | apply CW.exit | apply CW.ret | apply q_then | apply q_then_exit | apply q_then_ret | apply q_block | apply q_block_ret | apply q_block_hit | apply q_ret | apply q_end | apply q_loop_exit | apply q_loop_ret | apply q_loopT_exit | apply q_loopT_ret | apply RW.nil) | ((with_reducible apply s3); exact rfl; exact by_k) | ((with_reducible apply s2); exact rfl; exact by_k) | ((with_reducible apply s4); exact rfl) | ((with_reducible apply s5); (first | (focus ((with_reducible apply a_call); exact hc; exact rfl; (repeat (first | exact SubsE.nil | (apply SubsE.cons; exact rfl; (first | exact .d (.refl _) | exact .d (.nil _) | exact .agg rfl (.refl _) | exact .pd | exact .ptr rfl); (first | exact trivial | exact ⟨rfl, trivial⟩)))); done)) | exact by_oa); exact by_g) | ((with_reducible apply CW.cond_t); exact rfl; exact by_ks) | ((with_reducible apply CW.cond_f); exact rfl; exact by_ks) | ((with_reducible apply q_block_miss); exact rfl) | (refine And.intro (show chk [] [] _ _ = true by kernel_rfl) ?_))
      refine q_loopT (i + 1) (by omega) (by omega) ?_
      exact by_less

def keptRows (l : List Chain) (m : Nat) (c : Chain) (x : Value) : List (List D) := (l.map Chain.enc).set m [dstr c.key, .v x]

theorem own2_chain (l : List Chain) (m : Nat) (c0 : Chain) (h0 : l[m]? = some c0) (hl : l.length ≤ 268435456) (hv : ∀ c ∈ l, c.vs.length ≤ 268435456) :
    FnOwn2 Tryz.prog 52 [.d (encChains l)] 56 2 (keptRows l m c0) 58 4 (c0.vs.map Version.enc) := by
  refine fnOwn2_of tbl_ok mixed_ok Tryz.func52 rfl (by kernel_rfl) rfl rfl fun w0 own0 => ?_
  have hml : m < l.length := (List.getElem?_eq_some_iff.1 h0).1
  repeat (first | ((with_reducible apply s1); exact rfl) | (with_reducible first | apply CW.seq | apply CW.block | apply CW.region | apply CW.draw | apply CW.skip | apply CW.exit | apply CW.ret | apply q_then | apply q_then_exit | apply q_then_ret | apply q_block | apply q_block_ret | apply q_block_hit | apply q_ret | apply q_end | apply q_loop_exit | apply q_loop_ret | apply q_loopT_exit | apply q_loopT_ret | apply RW.nil) | ((with_reducible apply s3); exact rfl; exact by_k) | ((with_reducible apply s2); exact rfl; exact by_k) | ((with_reducible apply s4); exact rfl) | ((with_reducible apply s5); (first | exact by_oa); exact by_g) | ((with_reducible apply CW.cond_t); exact rfl; exact by_ks) | ((with_reducible apply CW.cond_f); exact rfl; exact by_ks) | ((with_reducible apply q_block_miss); exact rfl) | (refine And.intro (show chk [] [] _ _ = true by kernel_rfl) ?_))
  refine CW.stut (stut_promote (i := 3) 56 2) ⟨rfl, rfl, trivial⟩ ?_
  refine CW.loopT (fun t : Nat × Option Value => match t.2 with
      | none => [sd 6 (encChains l), sd 7 (dint l.length), sd 8 (dint t.1), so 3 0 t.1, oa 0 56 2 ((l.take t.1).map Chain.enc), nxt 1]
      | some x => [sd 6 (encChains l), sd 7 (dint l.length), sd 8 (dint t.1), so 3 0 t.1, oa 0 56 2 ((keptRows l m c0 x).take t.1), (.o 2, .ob (.pin 58 4 (c0.vs.map Version.enc) x)), nxt 3])
    (fun t => t.1 ≤ l.length ∧ (t.2 = none → t.1 ≤ m) ∧ (t.2 ≠ none → m < t.1)) (fun t => l.length - t.1) (0, none) ⟨by omega, fun _ => Nat.zero_le _, fun h => absurd rfl h⟩ ?_ ?_
  ·
    exact by_less
  · rintro ⟨i, o⟩ ⟨hi, hn, hs⟩
    dsimp only at hi hn hs ⊢
    have hkl : ∀ x, (keptRows l m c0 x).length = l.length := fun x => by simp [keptRows]
    cases o with
    | none =>
      have him := hn rfl
      dsimp only
      rcases drop_case hi with ⟨h1, h2⟩ | ⟨c, h1, h2, h3⟩
      · omega
      · have hcv := hv c (List.mem_of_getElem? h2)
        rcases Nat.lt_or_ge i m with hlt | hge
        · have h4 : (l.take i).map Chain.enc ++ [c.enc] = (l.take (i + 1)).map Chain.enc := by rw [List.take_add_one, h2]; simp
          have hc := ok_clone_version (c.vs.map Version.enc) (by simp; omega)
          repeat (first | ((with_reducible apply s1); exact rfl) | (with_reducible first | apply CW.seq | apply CW.block | apply CW.region | apply CW.draw | apply CW.skip | apply CW.exit | apply CW.ret | apply q_then | apply q_then_exit | apply q_then_ret | apply q_block | apply q_block_ret | apply q_block_hit | apply q_ret | apply q_end | apply q_loop_exit | apply q_loop_ret | apply q_loopT_exit | apply q_loopT_ret | apply RW.nil) | ((with_reducible apply s3); exact rfl; exact by_k) | ((with_reducible apply s2); exact rfl; exact by_k) | ((with_reducible apply s4); exact rfl) | ((with_reducible apply s5); (first | (focus ((with_reducible apply a_call); exact hc; exact rfl; (repeat (first | exact SubsE.nil | (apply SubsE.cons; exact rfl; (first | exact .d (.refl _) | exact .d (.nil _) | exact .agg rfl (.refl _) | exact .pd | exact .ptr rfl); (first | exact trivial | exact ⟨rfl, trivial⟩)))); done)) | exact by_oa); exact by_g) | ((with_reducible apply CW.cond_t); exact rfl; exact by_ks) | ((with_reducible apply CW.cond_f); exact rfl; exact by_ks) | ((with_reducible apply q_block_miss); exact rfl) | (refine And.intro (show chk [] [] _ _ = true by kernel_rfl) ?_))
          refine q_loopT (i + 1, none) ⟨by dsimp only; omega, fun _ => by dsimp only; omega, fun h => absurd rfl h⟩ (by dsimp only; omega) ?_
          exact by_less
        · obtain rfl : i = m := by omega
          obtain rfl : c0 = c := by rw [h0] at h2; exact Option.some.inj h2
          have h4 : ∀ x, (l.take i).map Chain.enc ++ [[dstr c0.key, .v x]] = (keptRows l i c0 x).take (i + 1) := fun x => by
            rw [keptRows, List.take_add_one, List.getElem?_set_self (by simpa using hml), List.take_set_of_le (Nat.le_refl _), List.map_take]; rfl
          have hc := new_clone_version (c0.vs.map Version.enc) (by simp; omega)
          repeat (first | (with_reducible apply stop_region 5) | ((with_reducible apply s1); exact rfl) | (with_reducible first | apply CW.seq | apply CW.block | apply CW.region | apply CW.draw | apply CW.skip | apply CW.exit | apply CW.ret | apply q_then | apply q_then_exit | apply q_then_ret | apply q_block | apply q_block_ret | apply q_block_hit | apply q_ret | apply q_end | apply q_loop_exit | apply q_loop_ret | apply q_loopT_exit | apply q_loopT_ret | apply RW.nil) | ((with_reducible apply s3); exact rfl; exact by_k) | ((with_reducible apply s2); exact rfl; exact by_k) | ((with_reducible apply s4); exact rfl) | ((with_reducible apply s5); (first | exact by_oa); exact by_g) | ((with_reducible apply CW.cond_t); exact rfl; exact by_ks) | ((with_reducible apply CW.cond_f); exact rfl; exact by_ks) | ((with_reducible apply q_block_miss); exact rfl) | (refine And.intro (show chk [] [] _ _ = true by kernel_rfl) ?_))
          refine Stop.go ?_
          apply CW.drawF (x0 := ((none, 0, 0) : Option Addr × Nat × Nat)) (l1 := [_, _, _, _, _]) (l2 := [_, _, _, _]) (tS := fun x => ⟨(rdOf (.tmp 16) (.d (encVs c0.vs)) ++ ([] ++ [])) ++ [(.nx, .num 2)], [(.s 17, .av (.d (.v (.slice x.1 x.2.1 x.2.2)))), (.o 2, .ob (.pin 58 4 (c0.vs.map Version.enc) (.slice x.1 x.2.1 x.2.2))), (.nx, .num 3)]⟩)
            (rs := (rdOf (.tmp 16) (.d (encVs c0.vs)) ++ ([] ++ [])) ++ [(.nx, .num 2)]) 
          · rfl
          · rfl
          · exact fun _ => rfl
          · exact fam_newpin rfl hc (.cons (x := .tmp 16) (av := .d (encVs c0.vs)) trivial (.d (.refl _)) .nil)
          · rfl
          repeat (first | ((with_reducible apply s1); exact rfl) | (with_reducible first | apply CW.seq | apply CW.block | apply CW.region | apply CW.draw | apply CW.skip | apply CW.exit | apply CW.ret | apply q_then | apply q_then_exit | apply q_then_ret | apply q_block | apply q_block_ret | apply q_block_hit | apply q_ret | apply q_end | apply q_loop_exit | apply q_loop_ret | apply q_loopT_exit | apply q_loopT_ret | apply RW.nil) | ((with_reducible apply s3); exact rfl; exact by_k) | ((with_reducible apply s2); exact rfl; exact by_k) | ((with_reducible apply s4); exact rfl) | ((with_reducible apply s5); (first | exact by_oa); exact by_g) | ((with_reducible apply CW.cond_t); exact rfl; exact by_ks) | ((with_reducible apply CW.cond_f); exact rfl; exact by_ks) | ((with_reducible apply q_block_miss); exact rfl) | (refine And.intro (show chk [] [] _ _ = true by kernel_rfl) ?_))
          refine And.intro ⟨rfl, rfl, trivial⟩ fun x => ?_
          obtain ⟨p, n, cp⟩ := x
          have h4' := h4 (.slice p n cp)
          have hk := hkl (.slice p n cp)
          dsimp only
          repeat (first | ((with_reducible apply s1); exact rfl) | (with_reducible first | apply CW.seq | apply CW.block | apply CW.region | apply CW.draw | apply CW.skip | apply CW.exit | apply CW.ret | apply q_then | apply q_then_exit | apply q_then_ret | apply q_block | apply q_block_ret | apply q_block_hit | apply q_ret | apply q_end | apply q_loop_exit | apply q_loop_ret | apply q_loopT_exit | apply q_loopT_ret | apply RW.nil) | ((with_reducible apply s3); exact rfl; exact by_k) | ((with_reducible apply s2); exact rfl; exact by_k) | ((with_reducible apply s4); exact rfl) | ((with_reducible apply s5); (first | exact by_oa); exact by_g) | ((with_reducible apply CW.cond_t); exact rfl; exact by_ks) | ((with_reducible apply CW.cond_f); exact rfl; exact by_ks) | ((with_reducible apply q_block_miss); exact rfl) | (refine And.intro (show chk [] [] _ _ = true by kernel_rfl) ?_))
          refine q_loopT (i + 1, some (.slice p n cp)) ⟨by dsimp only; omega, fun h => (by cases h), fun _ => by dsimp only; omega⟩ (by dsimp only; omega) ?_
          exact by_less
    | some x =>
      have him := hs (by simp)
      have hk := hkl x
      dsimp only
      rcases drop_case hi with ⟨h1, h2⟩ | ⟨c, h1, h2, h3⟩
      · subst h2
        rw [List.take_of_length_le (by rw [hkl]; exact Nat.le_refl _)]
        repeat (first | ((with_reducible apply s1); exact rfl) | (with_reducible first | apply CW.seq | apply CW.block | apply CW.region | apply CW.draw | apply CW.skip | apply CW.exit | apply CW.ret | apply q_then | apply q_then_exit | apply q_then_ret | apply q_block | apply q_block_ret | apply q_block_hit | apply q_ret | apply q_end | apply q_loop_exit | apply q_loop_ret | apply q_loopT_exit | apply q_loopT_ret | apply RW.nil) | ((with_reducible apply s3); exact rfl; exact by_k) | ((with_reducible apply s2); exact rfl; exact by_k) | ((with_reducible apply s4); exact rfl) | ((with_reducible apply s5); (first | exact by_oa); exact by_g) | ((with_reducible apply CW.cond_t); exact rfl; exact by_ks) | ((with_reducible apply CW.cond_f); exact rfl; exact by_ks) | ((with_reducible apply q_block_miss); exact rfl) | (refine And.intro (show chk [] [] _ _ = true by kernel_rfl) ?_))
        exact own2_ret (id2 := 2) rfl rfl (hkl x).symm rfl
      · have hcv := hv c (List.mem_of_getElem? h2)
        have h4 : (keptRows l m c0 x).take i ++ [c.enc] = (keptRows l m c0 x).take (i + 1) := by
          rw [List.take_add_one, keptRows, List.getElem?_set_ne (by omega)]; simp [h2]
        have hc := ok_clone_version (c.vs.map Version.enc) (by simp; omega)
        repeat (first | ((with_reducible apply s1); exact rfl) | (with_reducible first | apply CW.seq | apply CW.block | apply CW.region | apply CW.draw | apply CW.skip | apply CW.exit | apply CW.ret | apply q_then | apply q_then_exit | apply q_then_ret | apply q_block | apply q_block_ret | apply q_block_hit | apply q_ret | apply q_end | apply q_loop_exit | apply q_loop_ret | apply q_loopT_exit | apply q_loopT_ret | apply RW.nil) | ((with_reducible apply s3); exact rfl; exact by_k) | ((with_reducible apply s2); exact rfl; exact by_k) | ((with_reducible apply s4); exact rfl) | ((with_reducible apply s5); (first | (focus ((with_reducible apply a_call); exact hc; exact rfl; (repeat (first | exact SubsE.nil | (apply SubsE.cons; exact rfl; (first | exact .d (.refl _) | exact .d (.nil _) | exact .agg rfl (.refl _) | exact .pd | exact .ptr rfl); (first | exact trivial | exact ⟨rfl, trivial⟩)))); done)) | exact by_oa); exact by_g) | ((with_reducible apply CW.cond_t); exact rfl; exact by_ks) | ((with_reducible apply CW.cond_f); exact rfl; exact by_ks) | ((with_reducible apply q_block_miss); exact rfl) | (refine And.intro (show chk [] [] _ _ = true by kernel_rfl) ?_))
        refine q_loopT (i + 1, some x) ⟨by dsimp only; omega, fun h => (by cases h), fun _ => by dsimp only; omega⟩ (by dsimp only; omega) ?_
        exact by_less

end Go.Proofs.YtembfadhnkabhaaGreatDoor

/-! G11 -/
/-
  Contract of the library's Insert, of one element of two cells.
-/
namespace Go.Proofs.YtembfadhnkabhaaGreatDoor
open Go.AX Go.RF Go.RowKit Go.Shelf Go.Lib

theorem run_copy_k {P : Program} (w : World) (dT sT ty elem : TypeId) (k g o dLen dCap : Nat) (a : Addr) (sLen sCap q : Nat) (cur : Array Value) (t : TypeId) (cs : List Value)
    (hu : P.underlying dT = some (.slice elem)) (hs : (P.info? elem).map (·.size) = some k)
    (hg : w.heap[g]? = some (.cells cur t (0, 0))) (hq : Nat.min sLen dLen = q) (hn : cs.length = q * k)
    (hsrc : ∀ j v, cs[j]? = some v → w.cell? (a.add j) = some v) (hfit : o + cs.length ≤ cur.size) (h1 : ∀ v ∈ cs, v.oneCell' = true) :
    (Builtin.copy_ #[dT, sT] ty #[.slice (some ⟨g, o, none⟩) dLen dCap, .slice (some a) sLen sCap]).run P w =
      .ok (goInt q) (w.setRow g (cur.toList.take o ++ cs ++ cur.toList.drop (o + cs.length)).toArray) := by
  have hl := run_loadCells_list (P := P) w a cs hsrc
  have hst := run_storeCells_at P g o t cs 0 cur w hg (by simpa using hfit) h1
  cases hq' : P.info? elem with
  | none => simp [hq'] at hs
  | some i =>
    have hi : i.size = k := by simpa [hq'] using hs
    simp [Builtin.copy_, run_underlying hu, Builtin.lenOf, Builtin.firstCells, sizeOf, typeInfo, hq', hi, hq, ← hn, hl, hst]

theorem run_overlaps_b {P : Program} (w : World) (tS tR e : TypeId) (ht : P.underlying tS = some (.slice e)) (size : Nat) (hz : ∀ w, (Go.sizeOf e).run P w = .ok size w)
    (a b : Addr) (la ca lb cb : Nat) (hne : a.block ≠ b.block) (tA tB : TypeId) (kA kB : Nat)
    (hsa : w.shape? a.block = some (tA, kA + 1)) (hsb : w.shape? b.block = some (tB, kB + 1)) (hfb : w.frozen? b = false) (hfe : w.frozen? { block := b.block, off := kB + 1 } = false) :
    (Extern.SlicesOverlaps.overlaps #[tS, tS] #[tR] #[.slice (some a) la ca, .slice (some b) lb cb]).run P w = .ok (.bool false) w := by
  have hnb : (a.block != b.block) = true := by simpa using hne
  have hnb' : (a.block == b.block) = false := by simpa using hne
  change Sem.run P (α := Value) (do
    let some t := (#[tS, tS] : Array TypeId)[0]? | stuck "slices.overlaps: no parameter types"
    let .slice elem ← underlying t | stuck "slices.overlaps: slice type expected"
    let size ← sizeOf elem
    match (some a : Option Addr), (some b : Option Addr) with
    | some a, some b =>
      if la = 0 ∨ lb = 0 ∨ size = 0 then pure (Value.bool false)
      else if a.block != b.block && (← frozen a) && (← frozen b) then unsupported .addressObserved
      else do
        if a.block != b.block then do
          noView a; noView b
          if ← mayBeOne a b then return Value.bool ((← choose (.extern "sameAddr.stringBytes" 2)) == 1)
        pure (Value.bool (a.block == b.block && a.off < b.off + lb * size && b.off < a.off + la * size))
    | _, _ => pure (Value.bool false)) w = _
  by_cases h0 : la = 0 ∨ lb = 0 ∨ size = 0
  · simp [run_underlying ht, hz, h0]
  · cases hfa : w.frozen? a <;> cases hfa2 : w.frozen? { block := a.block, off := kA + 1 } <;>
      simp [run_underlying ht, hz, h0, hnb, hnb', frozen, noView, viewAt, mayBeOne, stringish, shape, Sem.run, hsa, hsb, hfb, hfe, hfa, hfa2]

theorem alloc_new_at (w : World) (o : Obj) : (w.alloc o).heap[w.heap.size]? = some o := heap_alloc_new w o

theorem append_ty {P : Program} (ts : Array TypeId) (ty : TypeId) (args : Array Value) (w : World) : (Builtin.append_ ts ty args).run P w = (Builtin.append_ ts 0 args).run P w := rfl
theorem append_types {P : Program} {t u e e' : TypeId} (ht : P.underlying t = some (.slice e)) (hu : P.underlying u = some (.slice e')) (ty : TypeId) (args : Array Value) (w : World) :
    (Builtin.append_ #[t, u] ty args).run P w = (Builtin.append_ #[t, t] ty args).run P w := by
  cases h0 : args[0]? with
  | none => simp [Builtin.append_, h0]
  | some s =>
    cases h1 : args[1]? with
    | none => simp [Builtin.append_, h0, h1]
    | some x => cases s <;> simp [Builtin.append_, h0, h1, run_underlying ht, run_underlying hu]

/-- What Insert leaves in a row: the pieces. -/
theorem room_cells {cur : List Value} {n i : Nat} {c0 c1 : Value} (hi : i < n) (hl : (n + 1) * 2 ≤ cur.length) :
    let mid := cur.take ((i + 1) * 2) ++ (cur.drop (i * 2)).take ((n - i) * 2) ++ cur.drop ((i + 1) * 2 + (n - i) * 2)
    (mid.take (i * 2) ++ [c0, c1] ++ mid.drop (i * 2 + 2)).take ((n + 1) * 2) = (cur.take (n * 2)).take (i * 2) ++ [c0, c1] ++ (cur.take (n * 2)).drop (i * 2) := by
  intro mid
  have hm : mid = cur.take ((i + 1) * 2) ++ (cur.drop (i * 2)).take ((n - i) * 2) ++ cur.drop ((i + 1) * 2 + (n - i) * 2) := rfl
  have hml : mid.length = cur.length := by rw [hm]; simp; omega
  have h1 : (cur.take ((i + 1) * 2)).length = (i + 1) * 2 := by simp; omega
  have h2 : ((cur.drop (i * 2)).take ((n - i) * 2)).length = (n - i) * 2 := by simp; omega
  have e1 : mid.take (i * 2) = cur.take (i * 2) := by
    rw [hm, List.append_assoc, List.take_append_of_le_length (by rw [h1]; omega), List.take_take, Nat.min_eq_left (by omega)]
  have e2 : mid.drop (i * 2 + 2) = (cur.drop (i * 2)).take ((n - i) * 2) ++ cur.drop ((i + 1) * 2 + (n - i) * 2) := by
    rw [hm, List.append_assoc, List.drop_append_of_le_length (by rw [h1]; omega), List.drop_eq_nil_of_le (by rw [h1]; omega), List.nil_append]
  rw [e1, e2, List.take_take, Nat.min_eq_left (show i * 2 ≤ n * 2 by omega), List.drop_take]
  have h3 : (cur.take (i * 2)).length = i * 2 := by simp; omega
  rw [List.take_append, List.take_of_length_le (by simp; omega)]
  congr 1
  rw [List.take_append_of_le_length (by simp; omega), List.take_of_length_le (by simp; omega)]
  congr 1
  omega

theorem shape_of {w : World} {ad : Addr} {c : Value} (h : w.cell? (ad.add 0) = some c) : ∃ t k, w.shape? ad.block = some (t, k + 1) := by
  rw [AX.add_zero] at h
  unfold World.cell? at h
  unfold World.shape?
  split at h
  · next cs e fr hh =>
    split at h
    · cases h
    · have := (Array.getElem?_eq_some_iff.1 h).1
      exact ⟨e, cs.size - 1, by simp; omega⟩
  · cases h

set_option maxHeartbeats 4000000 in
set_option maxRecDepth 100000 in
theorem insert_room (g n cap i : Nat) (ad : Addr) (cp : Nat) (w : World) (cur : Array Value) (c0 c1 : Value) (hg : w.heap[g]? = some (.cells cur 56 (0, 0))) (hsz : cur.size = cap * 2) (hi : i < n) (hn : n ≤ 268435456) (hc : n + 1 ≤ cap) (hcm : cap ≤ maxLen)
    (had : ad.block ≠ g) (h0 : w.cell? (ad.add 0) = some c0) (h1 : w.cell? (ad.add 1) = some c1) (hone : ∀ v ∈ cur.toList.take (n * 2), v.oneCell' = true) (hc0 : c0.oneCell' = true) (hc1 : c1.oneCell' = true) :
    Calls Tryz.prog 73 #[.slice (some ⟨g, 0, none⟩) n cap, .int .i64 (i : Int), .slice (some ad) 1 cp] w fun e w' =>
      e = .returned (.slice (some ⟨g, 0, none⟩) (n + 1) cap) ∧ ∃ m1 cs', w' = (w.drew.setRow g m1).setRow g cs' ∧ cs'.size = cap * 2 ∧ cs'.toList.take ((n + 1) * 2) = (cur.toList.take (n * 2)).take (i * 2) ++ [c0, c1] ++ (cur.toList.take (n * 2)).drop (i * 2) := by
  have mixed := mixed_ok
  have hz1 : ¬ ((1 : Int) = 0) := by omega
  have hz2 : ¬ ((i : Int) = (n : Int)) := by omega
  have hz3 : ¬ ((cap : Int) < (n : Int) + 1) := by omega
  have hb2 : ¬ (cap = i + 1) := by omega
  have hb4 : ¬ (cap = i) := by omega
  have hin : i ≤ n := by omega
  have hw1 : IntKind.i64.wrap ((i : Int) + 1) = (i : Int) + 1 := by rw [IntKind.wrap_i64]; omega
  have hb1 : (0 : Int) ≤ (i : Int) + 1 := by omega
  have htn : ((i : Int) + 1).toNat = i + 1 := by omega
  have hb3 : (i : Int) ≤ (n : Int) + 1 := by omega
  have hov : ∀ lb cb, (callFunc 91 #[.slice (some ad) 1 cp, .slice (some ⟨g, (i + 1) * 2, none⟩) lb cb]).run Tryz.prog w = .ok (.value (.bool false)) w := fun lb cb => by
    obtain ⟨tA, kA, hsa⟩ := shape_of h0
    have hsb : w.shape? g = some (56, (cap * 2 - 1) + 1) := by
      simp [World.shape?, hg, hsz]; omega
    rw [run_callFunc_extern Tryz.func91 (by kernel_rfl) (by kernel_rfl) (by kernel_rfl) (e := Extern.SlicesOverlaps.overlaps #[30, 30] #[4]) (by kernel_rfl),
      run_overlaps_b w 30 4 56 Tryz.underlying30 2 Tryz.sizeOf56 ad ⟨g, (i + 1) * 2, none⟩ 1 cp lb cb had tA 56 kA (cap * 2 - 1) hsa hsb (by simp [World.frozen?, hg]) (by simp [World.frozen?, hg])]
    rfl
  have hin2 : (Tryz.prog.info? 56).map (·.size) = some 2 := by kernel_rfl
  have hT : Tryz.prog.underlying 30 = some (.slice 56) := Tryz.underlying30
  have hcl : (n + 1) * 2 ≤ cur.size := by rw [hsz]; exact Nat.mul_le_mul_right 2 hc
  have hgd : w.drew.heap[g]? = some (.cells cur 56 (0, 0)) := hg
  have htl : ((cur.toList.drop (i * 2)).take ((n - i) * 2)).length = (n - i) * 2 := by simp; omega
  have hcp1 : ∀ ty dc sc, (Builtin.copy_ #[30, 30] ty #[.slice (some ⟨g, (i + 1) * 2, none⟩) (n - i) dc, .slice (some ⟨g, i * 2, none⟩) (n + 1 - i) sc]).run Tryz.prog w.drew =
      .ok (goInt (n - i : Nat)) (w.drew.setRow g (cur.toList.take ((i + 1) * 2) ++ (cur.toList.drop (i * 2)).take ((n - i) * 2) ++ cur.toList.drop ((i + 1) * 2 + (n - i) * 2)).toArray) := fun ty dc sc => by
    have h := run_copy_k (P := Tryz.prog) w.drew 30 30 ty 56 2 g ((i + 1) * 2) (n - i) dc ⟨g, i * 2, none⟩ (n + 1 - i) sc (n - i) cur 56 ((cur.toList.drop (i * 2)).take ((n - i) * 2)) hT hin2 hgd
      (Nat.min_eq_right (by omega)) htl (fun j v hj => by
        rw [List.getElem?_take] at hj
        split at hj
        · rw [List.getElem?_drop] at hj
          rw [Addr.add_lit]
          simp [World.cell?, hgd]
          simpa using hj
        · cases hj) (by rw [htl]; omega) (fun v hv => ?_)
    · rw [htl] at h
      exact h
    · obtain ⟨j, hj⟩ := List.getElem?_of_mem hv
      rw [List.getElem?_take] at hj
      split at hj
      · rw [List.getElem?_drop] at hj
        refine hone v (List.mem_of_getElem? (i := i * 2 + j) ?_)
        rw [List.getElem?_take, if_pos (by omega)]; exact hj
      · cases hj
  generalize hmid : cur.toList.take ((i + 1) * 2) ++ (cur.toList.drop (i * 2)).take ((n - i) * 2) ++ cur.toList.drop ((i + 1) * 2 + (n - i) * 2) = mid at hcp1
  have hml : mid.length = cur.size := by rw [← hmid]; simp; omega
  have hg1 : (w.drew.setRow g mid.toArray).heap[g]? = some (.cells mid.toArray 56 (0, 0)) := setRow_heap _ _ _ _ _ _ hgd
  have hadc : ∀ j v, [c0, c1][j]? = some v → (w.drew.setRow g mid.toArray).cell? (ad.add j) = some v := fun j v hj => by
    have hk : ∀ q, (w.drew.setRow g mid.toArray).cell? (ad.add q) = w.cell? (ad.add q) := fun q => by
      have hb : (ad.add q).block = ad.block := add_block ad q
      simp only [World.cell?, hb]
      rw [setRow_other _ _ _ _ had]
      rfl
    match j, hj with
    | 0, hj => simp at hj; subst hj; rw [hk]; exact h0
    | 1, hj => simp at hj; subst hj; rw [hk]; exact h1
  have hcp2 : ∀ ty dc, (Builtin.copy_ #[30, 30] ty #[.slice (some ⟨g, i * 2, none⟩) (n + 1 - i) dc, .slice (some ad) 1 cp]).run Tryz.prog (w.drew.setRow g mid.toArray) =
      .ok (goInt (1 : Nat)) ((w.drew.setRow g mid.toArray).setRow g (mid.take (i * 2) ++ [c0, c1] ++ mid.drop (i * 2 + 2)).toArray) := fun ty dc => by
    have h := run_copy_k (P := Tryz.prog) (w.drew.setRow g mid.toArray) 30 30 ty 56 2 g (i * 2) (n + 1 - i) dc ad 1 cp 1 mid.toArray 56 [c0, c1] hT hin2 hg1
      (Nat.min_eq_left (by omega)) rfl hadc (by simp; omega) (by simp [hc0, hc1])
    simpa using h
  go_enter Tryz.func73, Tryz.ntmps73
  go_wp2_with (simp only [hov])
  go_region_law_o (refine step_copy_runI rfl _ _ 30 30 rfl _ _ (by simp [Act.eval, Act.put]) (by simp [Act.eval, Act.put]) (hcp1 _ _ _) ?_)
  go_wp2_with (at_builtin; refine wpList_copy_runI _ rfl _ _ 30 30 rfl _ _ rfl rfl (hcp2 _ _) ?_)
  go_ret
  refine ⟨rfl, _, _, rfl, by simp; omega, ?_⟩
  have := room_cells (cur := cur.toList) (n := n) (i := i) (c0 := c0) (c1 := c1) hi (by simpa using hcl)
  rw [hmid] at this
  simpa using this

/-- What Insert leaves in a new row. -/
theorem grow_cells {xs zs : List Value} {n i : Nat} {c0 c1 : Value} (hi : i < n) (hl : xs.length = n * 2) (hz : (n + 1 - i) * 2 ≤ zs.length) :
    let row := xs.take (i * 2) ++ zs
    let mid := row.take (i * 2) ++ [c0, c1] ++ row.drop (i * 2 + 2)
    (mid.take ((i + 1) * 2) ++ xs.drop (i * 2) ++ mid.drop ((i + 1) * 2 + (n - i) * 2)).take ((n + 1) * 2) = xs.take (i * 2) ++ [c0, c1] ++ xs.drop (i * 2) := by
  intro row mid
  have h3 : (xs.take (i * 2)).length = i * 2 := by simp; omega
  have hr : row.take (i * 2) = xs.take (i * 2) := by
    show (xs.take (i * 2) ++ zs).take (i * 2) = _
    rw [List.take_append_of_le_length (by omega), List.take_of_length_le (by omega)]
  have hm : mid.take ((i + 1) * 2) = xs.take (i * 2) ++ [c0, c1] := by
    show (row.take (i * 2) ++ [c0, c1] ++ row.drop (i * 2 + 2)).take ((i + 1) * 2) = _
    rw [hr, List.take_append_of_le_length (by simp; omega), List.take_of_length_le (by simp; omega)]
  rw [hm, List.take_append_of_le_length (by simp; omega), List.take_of_length_le (by simp; omega)]

set_option maxHeartbeats 4000000 in
set_option maxRecDepth 100000 in
theorem insert_grow (g n cap i : Nat) (ad : Addr) (cp : Nat) (w : World) (cur : Array Value) (c0 c1 : Value) (hg : w.heap[g]? = some (.cells cur 56 (0, 0))) (hsz : cur.size = cap * 2) (hi : i < n) (hn : n ≤ 268435456) (hnc : n ≤ cap) (hc : cap < n + 1) (hcm : cap ≤ maxLen)
    (hadw : ad.block < w.heap.size) (h0 : w.cell? (ad.add 0) = some c0) (h1 : w.cell? (ad.add 1) = some c1) (hone : ∀ v ∈ cur.toList.take (n * 2), v.oneCell' = true) (hc0 : c0.oneCell' = true) (hc1 : c1.oneCell' = true) :
    Calls Tryz.prog 73 #[.slice (some ⟨g, 0, none⟩) n cap, .int .i64 (i : Int), .slice (some ad) 1 cp] w fun e w' =>
      ∃ G, e = .returned (.slice (some ⟨w.heap.size, 0, none⟩) (n + 1) G) ∧ n + 1 ≤ G ∧ G ≤ maxLen ∧ Below w.heap.size w w' ∧ ∃ cs', w'.heap[w.heap.size]? = some (.cells cs' 56 (0, 0)) ∧ cs'.size = G * 2 ∧
        cs'.toList.take ((n + 1) * 2) = (cur.toList.take (n * 2)).take (i * 2) ++ [c0, c1] ++ (cur.toList.take (n * 2)).drop (i * 2) := by
  have mixed := mixed_ok
  have hz1 : ¬ ((1 : Int) = 0) := by omega
  have hz2 : ¬ ((i : Int) = (n : Int)) := by omega
  have hz3 : (cap : Int) < (n : Int) + 1 := by omega
  have hin : i ≤ n := by omega
  have hw1 : IntKind.i64.wrap ((i : Int) + 1) = (i : Int) + 1 := by rw [IntKind.wrap_i64]; omega
  have hb1 : (0 : Int) ≤ (i : Int) + 1 := by omega
  have htn : ((i : Int) + 1).toNat = i + 1 := by omega
  have hb3 : (i : Int) ≤ (n : Int) := by omega
  have hci : ¬ (cap = i) := by omega
  have hin2 : (Tryz.prog.info? 56).map (·.size) = some 2 := by kernel_rfl
  have hT : Tryz.prog.underlying 30 = some (.slice 56) := Tryz.underlying30
  have hcl : n * 2 ≤ cur.size := by rw [hsz]; exact Nat.mul_le_mul_right 2 hnc
  have hgw : g < w.heap.size := by
    rcases Nat.lt_or_ge g w.heap.size with h | h
    · exact h
    · rw [Array.getElem?_eq_none h] at hg; cases hg
  generalize hxs : cur.toList.take (n * 2) = xs at hone
  have hxl : xs.length = n * 2 := by rw [← hxs]; simp; omega
  have hcell : ∀ (W : World), W.heap[g]? = w.heap[g]? → ∀ j v, xs[j]? = some v → W.cell? ⟨g, j, none⟩ = some v := fun W hW j v hj => by
    rw [← hxs, List.getElem?_take] at hj
    split at hj
    · simp [World.cell?, hW, hg]
      simpa using hj
    · cases hj
  have htb : ∃ ti, tget tbl 56 = some ti ∧ ti.n = 2 ∧ ti.bytes = 40 ∧ ti.zero = [.string ⟨#[]⟩, .slice none 0 0] := ⟨_, rfl, rfl, rfl, rfl⟩
  obtain ⟨ti, ht1, ht2, ht3, ht4⟩ := htb
  obtain ⟨i0, hi0, hzs, hzb, z, hz0, hzc⟩ := (tbl_ok _ _ ht1).info
  rw [ht2] at hzs
  rw [ht3] at hzb
  rw [ht4] at hzc
  have hzz : z.cells.size = 2 := by rw [← Array.length_toList, hzc]; rfl
  have hold : (Builtin.firstCells i0.size i (.slice (some ⟨g, 0, none⟩) i cap)).run Tryz.prog w.drew = .ok (xs.take (i * 2)).toArray w.drew := by
    rw [hzs]
    exact run_firstCells_some w.drew 2 i ⟨g, 0, none⟩ i cap (xs.take (i * 2)) (by rw [List.length_take]; omega) (fun j v hj => by
      rw [Addr.add_lit, Nat.zero_add]
      rw [List.getElem?_take] at hj
      split at hj
      · exact hcell w.drew rfl j v hj
      · cases hj)
  obtain ⟨G, hG⟩ : ∃ G, G = grownCap w (n + 1) cap 56 := ⟨_, rfl⟩
  have hGn : n + 1 ≤ G := by rw [hG]; exact grownCap_ge w _ _ _
  have hGm : G ≤ maxLen := by rw [hG]; exact grownCap_le_maxLen w (n + 1) cap 56 (by unfold maxLen; omega)
  have hG63 : G ≤ 9223372036854775807 := by unfold maxLen at hGm; omega
  obtain ⟨zs, hzs2⟩ : ∃ zs : Array Value, zs = Builtin.zeroCells z.cells (n + 1 - i) ++ Builtin.zeroCells z.cells (G - (n + 1)) := ⟨_, rfl⟩
  have hzl : zs.size = (G - i) * 2 := by rw [hzs2]; simp [size_zeroCells, hzz]; omega
  obtain ⟨ROW, hROW⟩ : ∃ ROW : Array Value, ROW = (xs.take (i * 2)).toArray ++ zs := ⟨_, rfl⟩
  have hRl : ROW.size = G * 2 := by rw [hROW]; simp [hzl]; omega
  have hrz : ∀ ty, (Builtin.append_ #[30, 3] ty #[.slice (some ⟨g, 0, none⟩) i cap, .int .i64 ((n : Int) + 1 - (i : Int))]).run Tryz.prog w =
      .ok (.slice (some ⟨w.heap.size, 0, none⟩) (n + 1) G) (w.drew.alloc (.cells ROW 56)) := fun ty => by
    have h := Lib.run_append_grow_zeros (P := Tryz.prog) w 30 3 ty 56 i0 z .i64 .i64 hT Tryz.underlying3 hi0 hz0 (some ⟨g, 0, none⟩) i cap (xs.take (i * 2)) hold (n + 1 - i) (by omega) (by omega) (by omega) (by omega) (by rw [hzb]; omega)
      (by rw [hzb, show i + (n + 1 - i) = n + 1 by omega]; exact growslice_fits hc (by omega))
    rw [show i + (n + 1 - i) = n + 1 by omega, ← hG, Array.append_assoc, ← hzs2, ← hROW] at h
    rw [show (n : Int) + 1 - (i : Int) = ((n + 1 - i : Nat) : Int) by omega]
    exact h
  have hGi : ¬ (G = i) := by omega
  have hGim : ¬ (G = i + 1) := by omega
  have hgs : ¬ w.heap.size = g := by omega
  obtain ⟨mid, hmid⟩ : ∃ mid : List Value, mid = ROW.toList.take (i * 2) ++ [c0, c1] ++ ROW.toList.drop (i * 2 + 2) := ⟨_, rfl⟩
  have hml : mid.length = G * 2 := by rw [hmid]; simp; omega
  obtain ⟨fin, hfin⟩ : ∃ fin : List Value, fin = mid.take ((i + 1) * 2) ++ xs.drop (i * 2) ++ mid.drop ((i + 1) * 2 + (n - i) * 2) := ⟨_, rfl⟩
  have hfl : fin.length = G * 2 := by rw [hfin]; simp; omega
  have hN : (w.alloc (.cells ROW 56)).heap[w.heap.size]? = some (.cells ROW 56 (0, 0)) := alloc_new_at w _
  have hadc : ∀ (W : World), W.heap = (w.alloc (.cells ROW 56)).heap → ∀ j v, [c0, c1][j]? = some v → W.cell? (ad.add j) = some v := fun W hW j v hj => by
    have hk : ∀ q, W.cell? (ad.add q) = w.cell? (ad.add q) := fun q => by
      have hb : (ad.add q).block = ad.block := add_block ad q
      simp only [World.cell?, hb, hW]
      rw [Below.heap_alloc w _ _ hadw]
    match j, hj with
    | 0, hj => simp at hj; subst hj; rw [hk]; exact h0
    | 1, hj => simp at hj; subst hj; rw [hk]; exact h1
  have hcpA : ∀ (W : World), W.heap = (w.alloc (.cells ROW 56)).heap → ∀ ty dc, (Builtin.copy_ #[30, 30] ty #[.slice (some ⟨w.heap.size, i * 2, none⟩) (n + 1 - i) dc, .slice (some ad) 1 cp]).run Tryz.prog W =
      .ok (goInt (1 : Nat)) (W.setRow w.heap.size mid.toArray) := fun W hW ty dc => by
    have h := run_copy_k (P := Tryz.prog) W 30 30 ty 56 2 w.heap.size (i * 2) (n + 1 - i) dc ad 1 cp 1 ROW 56 [c0, c1] hT hin2 (by rw [hW]; exact hN)
      (Nat.min_eq_left (by omega)) rfl (hadc W hW) (by simp; omega) (by simp [hc0, hc1])
    rw [hmid]
    simpa using h
  have hdl : (xs.drop (i * 2)).length = (n - i) * 2 := by rw [List.length_drop, hxl]; omega
  have hcpB : ∀ (W : World), W.heap[w.heap.size]? = some (.cells mid.toArray 56 (0, 0)) → W.heap[g]? = w.heap[g]? → ∀ ty dc sc, (Builtin.copy_ #[30, 30] ty #[.slice (some ⟨w.heap.size, (i + 1) * 2, none⟩) (n - i) dc, .slice (some ⟨g, i * 2, none⟩) (n - i) sc]).run Tryz.prog W =
      .ok (goInt (n - i : Nat)) (W.setRow w.heap.size fin.toArray) := fun W hW hWg ty dc sc => by
    have h := run_copy_k (P := Tryz.prog) W 30 30 ty 56 2 w.heap.size ((i + 1) * 2) (n - i) dc ⟨g, i * 2, none⟩ (n - i) sc (n - i) mid.toArray 56 (xs.drop (i * 2)) hT hin2 hW
      (Nat.min_self _) hdl (fun j v hj => by
        rw [Addr.add_lit]
        rw [List.getElem?_drop] at hj
        exact hcell W hWg _ v hj) (by rw [hdl]; simp; omega) (fun v hv => hone v (List.mem_of_mem_drop hv))
    rw [hdl] at h
    rw [hfin]
    simpa using h
  have hE : ((w.alloc (.cells ROW 56)).drew).heap = (w.alloc (.cells ROW 56)).heap := rfl
  have hB1 : ∀ (W : World), W.heap = (w.alloc (.cells ROW 56)).heap → (W.setRow w.heap.size mid.toArray).drew.heap[w.heap.size]? = some (.cells mid.toArray 56 (0, 0)) := fun W hW => setRow_heap W _ _ _ _ _ (by rw [hW]; exact hN)
  have hB2 : ∀ (W : World), W.heap = (w.alloc (.cells ROW 56)).heap → (W.setRow w.heap.size mid.toArray).drew.heap[g]? = w.heap[g]? := fun W hW => by
    show (W.setRow w.heap.size mid.toArray).heap[g]? = _
    rw [setRow_other _ _ _ _ (by omega), hW]
    exact Below.heap_alloc w _ _ hgw
  have hlast : fin.take ((n + 1) * 2) = xs.take (i * 2) ++ [c0, c1] ++ xs.drop (i * 2) := by
    have h := grow_cells (xs := xs) (zs := zs.toList) (n := n) (i := i) (c0 := c0) (c1 := c1) hi hxl (by rw [Array.length_toList, hzl]; exact Nat.mul_le_mul_right 2 (by omega))
    rw [hfin, hmid, hROW]
    simpa using h
  clear hzs2 hROW hmid hfin hG
  go_enter Tryz.func73, Tryz.ntmps73
  go_wp2_with (first
    | (at_builtin; refine Lib.wpList_append_run _ rfl _ _ _ _ rfl _ _ rfl rfl _ _ (hrz _) ?_)
    | (at_builtin; refine wpList_copy_runI _ rfl _ _ 30 30 rfl _ _ rfl rfl (hcpA _ rfl _ _) ?_))
  go_region_law_o (refine step_copy_runI rfl _ _ 30 30 rfl (.slice (some ⟨w.heap.size, (i + 1) * 2, none⟩) (n - i) (G - (i + 1))) (.slice (some ⟨g, i * 2, none⟩) (n - i) (cap - i)) (by simp [Act.eval, Act.put]) (by simp [Act.eval, Act.put]) (hcpB ((w.alloc (.cells ROW 56)).drew.setRow w.heap.size mid.toArray).drew (hB1 _ hE) (hB2 _ hE) _ _ _) ?_)
  go_wp2
  go_ret
  refine ⟨G, rfl, hGn, hGm, ⟨rfl, rfl, rfl, by simp [setRow_size], fun k hk => ?_⟩, fin.toArray, setRow_heap _ _ _ _ _ _ (hB1 _ hE), by simp [hfl], by simpa using hlast⟩
  rw [setRow_other _ _ _ _ (by omega)]
  show ((w.alloc (.cells ROW 56)).drew.setRow w.heap.size mid.toArray).heap[k]? = _
  rw [setRow_other _ _ _ _ (by omega)]
  exact Below.heap_alloc w _ _ hk

set_option maxHeartbeats 4000000 in
set_option maxRecDepth 100000 in
theorem insert_end (v : Value) (n : Nat) (xs : List Value) (ad : Addr) (cp : Nat) (w : World) (c0 c1 : Value) (hown : w.ownsRow 0 56 2 v n xs) (hn : n ≤ 268435456)
    (h0 : w.cell? (ad.add 0) = some c0) (h1 : w.cell? (ad.add 1) = some c1) (hc0 : c0.oneCell' = true) (hc1 : c1.oneCell' = true) :
    Calls Tryz.prog 73 #[v, .int .i64 (n : Int), .slice (some ad) 1 cp] w fun e w' =>
      ∃ v', e = .returned v' ∧ w'.ownsRow 0 56 2 v' (n + 1) (xs ++ [c0, c1]) ∧ w.grownBy w' v.ownBlock ∧ (v'.ownBlock = v.ownBlock ∨ v'.ownBlock = some w.heap.size) := by
  have mixed := mixed_ok
  have hz1 : ¬ ((1 : Int) = 0) := by omega
  have hT : Tryz.prog.underlying 30 = some (.slice 56) := Tryz.underlying30
  have htb : ∃ ti, tget tbl 56 = some ti ∧ ti.n = 2 ∧ ti.bytes = 40 ∧ ti.zero = [.string ⟨#[]⟩, .slice none 0 0] := ⟨_, rfl, rfl, rfl, rfl⟩
  obtain ⟨ti, ht1, ht2, ht3, ht4⟩ := htb
  obtain ⟨i0, hi0, hzs, hzb, z, hz0, hzc⟩ := (tbl_ok _ _ ht1).info
  rw [ht2] at hzs
  rw [ht3] at hzb
  rw [ht4] at hzc
  have hzz : z.cells.size = 2 := by rw [← Array.length_toList, hzc]; rfl
  have hnews : ∀ j u, [c0, c1][j]? = some u → w.cell? (ad.add j) = some u := fun j u hj => by
    match j, hj with
    | 0, hj => simp at hj; subst hj; exact h0
    | 1, hj => simp at hj; subst hj; exact h1
  have hone : ∀ u ∈ [c0, c1], u.oneCell' = true := by simp [hc0, hc1]
  obtain ⟨R, hR⟩ : ∃ R : Value → World → Prop, R = fun v' w' => w'.ownsRow 0 56 2 v' (n + 1) (xs ++ [c0, c1]) ∧ w.grownBy w' v.ownBlock ∧ (v'.ownBlock = v.ownBlock ∨ v'.ownBlock = some w.heap.size) := ⟨_, rfl⟩
  have hmk : ∀ v' w', w'.ownsRow 0 56 2 v' (n + 1) (xs ++ [c0, c1]) → w.grownBy w' v.ownBlock → (v'.ownBlock = v.ownBlock ∨ v'.ownBlock = some w.heap.size) → R v' w' := fun v' w' a b c => by rw [hR]; exact ⟨a, b, c⟩
  suffices h : Calls Tryz.prog 73 #[v, .int .i64 (n : Int), .slice (some ad) 1 cp] w fun e w' => ∃ v', e = .returned v' ∧ R v' w' by
    refine h.mono fun e w' => ?_
    rintro ⟨v', a, b⟩
    rw [hR] at b
    exact ⟨v', a, b⟩
  clear hR
  have hb : n + 1 ≤ maxLen := by unfold maxLen; omega
  have hv : (v = .slice none 0 0 ∧ n = 0) ∨ ∃ g cap, v = .slice (some ⟨g, 0, none⟩) n cap ∧ n ≤ cap := by
    rcases hown.2 with h | ⟨g, cap, cur, e, _, _, h, _⟩
    · exact .inl h
    · exact .inr ⟨g, cap, e, h⟩
  obtain ⟨v', w', hr, q1, q2, _, q4⟩ := run_append_own_at (P := Tryz.prog) w 0 30 0 56 i0 z 2 40 hT hi0 hz0 hzs hzb hzz (by decide) v n xs hown ad 1 cp [c0, c1] rfl hnews hone hb (by omega) (Nat.zero_le _)
  have hR := hmk v' w' q1 q2 q4
  have hap : ∀ ty, (Builtin.append_ #[30, 30] ty #[v, .slice (some ad) 1 cp]).run Tryz.prog w = .ok v' w' := fun ty => (append_types hT Tryz.underlying30 ty _ w).trans ((append_ty _ _ _ w).trans hr)
  clear hmk q1 q2 q4 hr hown hnews
  rcases hv with ⟨rfl, rfl⟩ | ⟨g, cap, rfl, hnc⟩
  · go_enter Tryz.func73, Tryz.ntmps73
    go_wp2_with (at_builtin; refine Lib.wpList_append_run _ rfl _ _ 30 30 rfl _ _ rfl rfl _ _ (hap _) ?_)
    go_ret
    exact ⟨_, rfl, hR⟩
  · go_enter Tryz.func73, Tryz.ntmps73
    go_wp2_with (at_builtin; refine Lib.wpList_append_run _ rfl _ _ 30 30 rfl _ _ rfl rfl _ _ (hap _) ?_)
    all_goals
      go_ret
      exact ⟨_, rfl, hR⟩

end Go.Proofs.YtembfadhnkabhaaGreatDoor

/-! AxIns -/
/-
  What Insert leaves, as rows of data.
-/
namespace Go.AX
open Go.RowKit

theorem getElem?_ins {α : Type} {l : List α} {m : Nat} {x : α} (hm : m ≤ l.length) (i : Nat) :
    (l.take m ++ x :: l.drop m)[i]? = if i < m then l[i]? else if i = m then some x else l[i - 1]? := by
  have hl : (l.take m).length = m := by simp; omega
  by_cases h1 : i < m
  · rw [if_pos h1, List.getElem?_append_left (by omega), List.getElem?_take, if_pos h1]
  · rw [if_neg h1, List.getElem?_append_right (by omega), hl]
    by_cases h2 : i = m
    · subst h2; simp
    · rw [if_neg h2]
      obtain ⟨j, rfl⟩ : ∃ j, i = m + (j + 1) := ⟨i - m - 1, by omega⟩
      rw [show m + (j + 1) - m = j + 1 by omega, List.getElem?_cons_succ, List.getElem?_drop]
      congr 1
theorem getElem?_ins2 {α : Type} {l : List α} {m n : Nat} {a b : α} (hl : l.length = n * 2) (hm : m ≤ n) (i j : Nat) (hj : j < 2) :
    (l.take (m * 2) ++ [a, b] ++ l.drop (m * 2))[i * 2 + j]? = if i < m then l[i * 2 + j]? else if i = m then [a, b][j]? else l[(i - 1) * 2 + j]? := by
  have hm2 : m * 2 ≤ n * 2 := Nat.mul_le_mul_right 2 hm
  have h1 : (l.take (m * 2)).length = m * 2 := by simp; omega
  rw [List.append_assoc]
  by_cases hi : i < m
  · have : (i + 1) * 2 ≤ m * 2 := Nat.mul_le_mul_right 2 hi
    rw [if_pos hi, List.getElem?_append_left (by omega), List.getElem?_take, if_pos (by omega)]
  · rw [if_neg hi, List.getElem?_append_right (by omega), h1]
    by_cases he : i = m
    · subst he
      rw [if_pos rfl, show i * 2 + j - i * 2 = j by omega, List.getElem?_append_left (by simpa using hj)]
    · rw [if_neg he]
      have : (m + 1) * 2 ≤ i * 2 := Nat.mul_le_mul_right 2 (by omega)
      rw [List.getElem?_append_right (by simp; omega), List.getElem?_drop]
      congr 1
      simp; omega

/-- Behind an Insert. -/
theorem rows_ins {w w' : World} {own : Nat → Prop} {v v' : Value} {e m : Nat} {rows : List (List D)} {xs : List Value} {c0 c1 : Value} {d0 d1 : D}
    (hm : m ≤ rows.length) (hb : BelowBut v w w') (hp : ∀ b, blk v' = some b → blk v = some b ∨ w.heap.size ≤ b)
    (hlen : xs.length = rows.length * 2) (hone : ∀ x ∈ xs, Value.oneCell' x = true) (hrl : ∀ r ∈ rows, r.length = 2)
    (hrd : ∀ (i j : Nat) (r : List D) (d : D) (x : Value), rows[i]? = some r → r[j]? = some d → xs[i * 2 + j]? = some x → Rd w (with1 own v) x d)
    (h0 : Rd w (with1 own v) c0 d0) (h1 : Rd w (with1 own v) c1 d1) (o0 : c0.oneCell' = true) (o1 : c1.oneCell' = true)
    (hown : w'.ownsRow 0 e 2 v' (rows.length + 1) (xs.take (m * 2) ++ [c0, c1] ++ xs.drop (m * 2))) :
    RowsAt w' 0 (with1 own v') e 2 v' (rows.take m ++ [d0, d1] :: rows.drop m) := by
  have hext : Ext (with1 own v) w w' := ⟨hb.size, fun b h1 h2 => hb.block b h1 fun h => h2 (.inr h)⟩
  have ho : ∀ b, with1 own v' b → with1 own v b ∨ w.heap.size ≤ b := by
    rintro b (h | h)
    · exact .inl (.inl h)
    · rcases hp b h with h | h
      · exact .inl (.inr h)
      · exact .inr h
  refine ⟨xs.take (m * 2) ++ [c0, c1] ++ xs.drop (m * 2), ?_, fun x hx => ?_, fun r hr => ?_, fun i j r d x hi hj hx => ?_⟩
  · have : (rows.take m ++ [d0, d1] :: rows.drop m).length = rows.length + 1 := by simp; omega
    rw [this]; exact hown
  · rcases List.mem_append.1 hx with hx | hx
    · rcases List.mem_append.1 hx with hx | hx
      · exact hone x (List.mem_of_mem_take hx)
      · simp at hx; rcases hx with rfl | rfl
        · exact o0
        · exact o1
    · exact hone x (List.mem_of_mem_drop hx)
  · rcases List.mem_append.1 hr with h | h
    · exact hrl r (List.mem_of_mem_take h)
    · rcases List.mem_cons.1 h with rfl | h
      · rfl
      · exact hrl r (List.mem_of_mem_drop h)
  · refine Rd.step hext ho ?_
    rw [getElem?_ins hm] at hi
    have hj2 : j < 2 := by
      have hjl := (List.getElem?_eq_some_iff.1 hj).1
      split at hi
      · rw [hrl r (List.mem_of_getElem? hi)] at hjl; exact hjl
      · split at hi
        · cases hi; simpa using hjl
        · rw [hrl r (List.mem_of_getElem? hi)] at hjl; exact hjl
    rw [getElem?_ins2 hlen hm i j hj2] at hx
    split at hi
    · next h => rw [if_pos h] at hx; exact hrd i j r d x hi hj hx
    · next h =>
      rw [if_neg h] at hx
      split at hi
      · next h' =>
        rw [if_pos h'] at hx
        cases hi
        match j, hj2, hj, hx with
        | 0, _, hj, hx => simp at hj hx; subst hj; subst hx; exact h0
        | 1, _, hj, hx => simp at hj hx; subst hj; subst hx; exact h1
      · next h' => rw [if_neg h'] at hx; exact hrd (i - 1) j r d x hi hj hx

/-- A slice of one element of two cells, read. -/
theorem rd_pair {w : World} {own : Nat → Prop} {v : Value} {d0 d1 : D} (h : Rd w own v (.sl 2 [[d0, d1]])) :
    ∃ ad cp c0 c1, v = .slice (some ad) 1 cp ∧ ¬ own ad.block ∧ ad.block < w.heap.size ∧ w.cell? (ad.add 0) = some c0 ∧ w.cell? (ad.add 1) = some c1 ∧
      c0.oneCell' = true ∧ c1.oneCell' = true ∧ Rd w own c0 d0 ∧ Rd w own c1 d1 := by
  cases h with
  | sl ad cap k rows f hb hs hcap hk hc h1 hr =>
    exact ⟨ad, cap, f 0 0, f 0 1, rfl, hb, hs, by simpa using hc 0 0 _ d0 rfl rfl, by simpa using hc 0 1 _ d1 rfl rfl, h1 0 0 _ d0 rfl rfl, h1 0 1 _ d1 rfl rfl, hr 0 0 _ d0 rfl rfl, hr 0 1 _ d1 rfl rfl⟩

end Go.AX

/-! G12 -/
/-
  Contract of the library's Insert, put together.
-/
namespace Go.Proofs.YtembfadhnkabhaaGreatDoor
open Go.AX Go.RF

theorem upd_insert (rows : List (List D)) (m : Nat) (d0 d1 : D) (hm : m ≤ rows.length) (hl : rows.length ≤ 268435456) :
    FnUpd Tryz.prog 73 56 2 rows [.d (dint m), .d (.sl 2 [[d0, d1]])] (rows.take m ++ [d0, d1] :: rows.drop m) := by
  refine ⟨⟨_, Tryz.func73, by kernel_rfl, by kernel_rfl⟩, fun w own v vs hown hR hsep ha => ?_⟩
  match vs, ha with
  | [v1, v2], ⟨h1, h2, _⟩ =>
    have e1 := rd_v h1
    subst e1
    obtain ⟨ad, cp, c0, c1, rfl, hnb, hadw, hc0, hc1, o0, o1, r0, r1⟩ := rd_pair h2
    obtain ⟨xs, hrow, hone, hrl, hrd⟩ := hR
    have hbv : blk v = v.ownBlock := blk_own hrow
    have hxl := hrow.1
    by_cases hmn : m = rows.length
    · subst hmn
      refine (insert_end v rows.length xs ad cp w c0 c1 hrow hl hc0 hc1 o0 o1).mono fun e w' => ?_
      rintro ⟨v', rfl, q1, q2, q3⟩
      have hp : ∀ b, blk v' = some b → blk v = some b ∨ w.heap.size ≤ b := fun b hb => by
        rw [blk_own q1] at hb
        rw [hbv]
        rcases q3 with h | h
        · rw [h] at hb; exact .inl hb
        · rw [h] at hb; cases hb; exact .inr (Nat.le_refl _)
      have hbb : BelowBut v w w' := ⟨q2.os, q2.tape, q2.output, q2.size, fun b hb hn => q2.block b hb fun h => hn (by rw [hbv, h])⟩
      refine ⟨v', rfl, hbb, hp, rows_ins (Nat.le_refl _) hbb hp hxl hone hrl hrd r0 r1 o0 o1 ?_⟩
      rw [List.take_of_length_le (by omega), List.drop_eq_nil_of_le (by omega), List.append_nil]
      exact q1
    · rcases hrow.2 with ⟨_, h0⟩ | ⟨g, cap, cur, rfl, _, hg, hnc, hcm, hsz, htk⟩
      · omega
      · have hadg : ad.block ≠ g := fun h => hnb (.inr (by rw [h]; rfl))
        by_cases hroom : rows.length + 1 ≤ cap
        · refine (insert_room g rows.length cap m ad cp w cur c0 c1 hg hsz (by omega) hl hroom hcm hadg hc0 hc1 (by rw [htk]; exact hone) o0 o1).mono fun e w' => ?_
          rintro ⟨rfl, m1, cs', rfl, q1, q2⟩
          have hp : ∀ b, blk (.slice (some ⟨g, 0, none⟩) (rows.length + 1) cap) = some b → blk (.slice (some ⟨g, 0, none⟩) rows.length cap) = some b ∨ w.heap.size ≤ b := fun b hb => .inl hb
          have hbb : BelowBut (.slice (some ⟨g, 0, none⟩) rows.length cap) w ((w.drew.setRow g m1).setRow g cs') := ⟨rfl, rfl, rfl, by simp [setRow_size], fun b hb hn => by
            have hbg : b ≠ g := fun h => hn (by rw [h]; rfl)
            rw [setRow_other _ _ _ _ hbg, setRow_other _ _ _ _ hbg]; rfl⟩
          refine ⟨_, rfl, hbb, hp, rows_ins hm hbb hp hxl hone hrl hrd r0 r1 o0 o1 ⟨by simp; omega, .inr ⟨g, cap, cs', rfl, Nat.zero_le _, setRow_heap _ _ _ _ _ _ (setRow_heap _ _ _ _ _ _ hg), hroom, hcm, q1, ?_⟩⟩⟩
          rw [q2, htk]
        · refine (insert_grow g rows.length cap m ad cp w cur c0 c1 hg hsz (by omega) hl hnc (by omega) hcm hadw hc0 hc1 (by rw [htk]; exact hone) o0 o1).mono fun e w' => ?_
          rintro ⟨G, rfl, q1, q2, hB, cs', q3, q4, q5⟩
          have hp : ∀ b, blk (.slice (some ⟨w.heap.size, 0, none⟩) (rows.length + 1) G) = some b → blk (.slice (some ⟨g, 0, none⟩) rows.length cap) = some b ∨ w.heap.size ≤ b := fun b hb => .inr (by cases hb; exact Nat.le_refl _)
          have hbb : BelowBut (.slice (some ⟨g, 0, none⟩) rows.length cap) w w' := ⟨hB.os, hB.tape, hB.output, hB.size, fun b hb _ => hB.block b hb⟩
          refine ⟨_, rfl, hbb, hp, rows_ins hm hbb hp hxl hone hrl hrd r0 r1 o0 o1 ⟨by simp; omega, .inr ⟨_, G, cs', rfl, Nat.zero_le _, q3, q1, q2, q4, ?_⟩⟩⟩
          rw [q5, htk]

end Go.Proofs.YtembfadhnkabhaaGreatDoor

/-! R2 -/
/-
  Contracts of the program's Get, Put, Drop and Round of rows.
-/
namespace Go.Proofs.YtembfadhnkabhaaGreatDoor
open Go.AX Go.RF Go.RowKit

set_option maxRecDepth 100000
set_option maxHeartbeats 8000000

/-! ### Rows in order: what a key has, given, taken -/
def putS (k : Str) (n : Int) : List Pair → List Pair
  | [] => [⟨k, n⟩]
  | p :: r => if p.key = k then ⟨k, n⟩ :: r else if slt p.key k = true then p :: putS k n r else ⟨k, n⟩ :: p :: r
def dropS (k : Str) : List Pair → List Pair
  | [] => []
  | p :: r => if p.key = k then r else p :: dropS k r

theorem dropS_none {k : Str} : ∀ {l : List Pair}, (∀ p ∈ l, p.key ≠ k) → dropS k l = l
  | [], _ => rfl
  | d :: l, h => by
    simp only [dropS]
    rw [if_neg (h d (List.mem_cons_self ..)), dropS_none fun p hp => h p (List.mem_cons_of_mem _ hp)]
theorem putGo_done {k : Str} {n : Int} {h : Bool} : ∀ {l out : List Pair}, (∀ p ∈ l, p.key ≠ k) → putGo k n h true out l = out ++ l
  | [], out, _ => by simp [putGo]
  | p :: l, out, hl => by
    simp only [putGo]
    rw [if_neg (hl p (List.mem_cons_self ..))]
    simp only [Bool.true_or, Bool.not_true, Bool.false_and, Bool.false_eq_true, if_false]
    rw [putGo_done fun q hq => hl q (List.mem_cons_of_mem _ hq)]
    simp
theorem putGo_srt {k : Str} {n : Int} {h : Bool} : ∀ {l out : List Pair}, Srt Pair.key l → putGo k n h false out l = out ++ (if h = true then putS k n l else dropS k l)
  | [], out, _ => by cases h <;> simp [putGo, putS, dropS]
  | p :: l, out, hs => by
    obtain ⟨h1, h2⟩ := List.pairwise_cons.1 hs
    cases hl : slt p.key k with
    | true =>
      have hk : p.key ≠ k := slt_ne hl
      simp only [putGo, hl]
      rw [if_neg hk]
      simp only [Bool.not_true, Bool.or_false, Bool.not_false, Bool.and_false, Bool.false_and, Bool.false_eq_true, if_false]
      rw [putGo_srt h2]
      cases h <;> simp [putS, dropS, hk, hl]
    | false =>
      have hne : ∀ q ∈ l, q.key ≠ k := fun q hq e => by
        have h3 := h1 q hq
        rw [e] at h3
        rw [h3] at hl; cases hl
      simp only [putGo, hl]
      simp only [Bool.not_false, Bool.or_true, Bool.true_and, Bool.and_true]
      rw [putGo_done hne]
      by_cases hk : p.key = k
      · cases h <;> simp [putS, dropS, hk]
      · cases h <;> simp [putS, dropS, hk, hl, dropS_none hne]
theorem put_true {l : List Pair} (hs : Srt Pair.key l) (k : Str) (n : Int) : put l k n true = putS k n l := by
  unfold put; rw [putGo_srt hs]; rfl
theorem put_false {l : List Pair} (hs : Srt Pair.key l) (k : Str) (n : Int) : put l k n false = dropS k l := by
  unfold put; rw [putGo_srt hs]; rfl
theorem putS_mem {k : Str} {n : Int} : ∀ {l : List Pair} {p : Pair}, p ∈ putS k n l → p ∈ l ∨ p = ⟨k, n⟩
  | [], p, h => by simp [putS] at h; exact .inr h
  | q :: l, p, h => by
    simp only [putS] at h
    split at h
    · rcases List.mem_cons.1 h with h | h
      · exact .inr h
      · exact .inl (List.mem_cons_of_mem _ h)
    · split at h
      · rcases List.mem_cons.1 h with h | h
        · exact .inl (h ▸ List.mem_cons_self ..)
        · rcases putS_mem h with h | h
          · exact .inl (List.mem_cons_of_mem _ h)
          · exact .inr h
      · rcases List.mem_cons.1 h with h | h
        · exact .inr h
        · exact .inl h
theorem dropS_sub {k : Str} : ∀ l : List Pair, (dropS k l).Sublist l
  | [] => List.Sublist.slnil
  | p :: l => by
    simp only [dropS]
    split
    · exact List.sublist_cons_self ..
    · exact (dropS_sub l).cons_cons _
theorem putS_srt {k : Str} {n : Int} : ∀ {l : List Pair}, Srt Pair.key l → Srt Pair.key (putS k n l)
  | [], _ => List.pairwise_singleton ..
  | c :: l, hs => by
    obtain ⟨h1, h2⟩ := List.pairwise_cons.1 hs
    simp only [putS]
    by_cases hk : c.key = k
    · rw [if_pos hk]
      exact List.pairwise_cons.2 ⟨fun d hd => by show slt k d.key = true; rw [← hk]; exact h1 d hd, h2⟩
    · rw [if_neg hk]
      split
      · next h3 =>
        refine List.pairwise_cons.2 ⟨fun d hd => ?_, putS_srt h2⟩
        rcases putS_mem hd with h | rfl
        · exact h1 d h
        · exact h3
      · next h3 =>
        have h4 : slt k c.key = true := by
          rcases slt_tri c.key k with h | h | h
          · exact absurd h h3
          · exact absurd h hk
          · exact h
        refine List.pairwise_cons.2 ⟨fun d hd => ?_, hs⟩
        rcases List.mem_cons.1 hd with rfl | hd
        · exact h4
        · exact slt_trans h4 (h1 d hd)
theorem dropS_srt {k : Str} {l : List Pair} (hs : Srt Pair.key l) : Srt Pair.key (dropS k l) := hs.sublist (dropS_sub l)
/-! ### The walks -/
end Go.Proofs.YtembfadhnkabhaaGreatDoor

/-! P4 -/
/-
  Rows given and taken: plain laws. Keys by Trim.
-/
namespace Go.Proofs.YtembfadhnkabhaaGreatDoor
open Go.AX Go.RF

/-! ### What a key has, behind -/
theorem get_put {k k' : Str} {n : Int} : ∀ {l : List Pair}, RF.get (putS k n l) k' = if k = k' then (n, true) else RF.get l k'
  | [] => by simp [putS, RF.get]
  | p :: l => by
    simp only [putS]
    by_cases hk : p.key = k
    · rw [if_pos hk]
      simp only [RF.get]
      by_cases h : k = k'
      · simp [h]
      · rw [if_neg h, if_neg h, if_neg (by rw [hk]; exact h)]
    · rw [if_neg hk]
      split
      · simp only [RF.get]
        rw [get_put]
        by_cases h : p.key = k'
        · rw [if_pos h, if_neg (fun e => hk (by rw [h, e])), if_pos h]
        · rw [if_neg h, if_neg h]
      · simp only [RF.get]
theorem get_absent {k : Str} : ∀ {l : List Pair}, (∀ p ∈ l, p.key ≠ k) → RF.get l k = (0, false)
  | [], _ => rfl
  | p :: l, h => by
    simp only [RF.get]
    rw [if_neg (h p (List.mem_cons_self ..)), get_absent fun q hq => h q (List.mem_cons_of_mem _ hq)]
theorem srt_absent {p : Pair} {l : List Pair} (hs : Srt Pair.key (p :: l)) : ∀ q ∈ l, q.key ≠ p.key := fun q hq e => by
  have := (List.pairwise_cons.1 hs).1 q hq
  rw [e, slt_irrefl] at this; cases this
theorem get_drop {k k' : Str} : ∀ {l : List Pair}, Srt Pair.key l → RF.get (dropS k l) k' = if k = k' then (0, false) else RF.get l k'
  | [], _ => by simp [dropS, RF.get]
  | p :: l, hs => by
    simp only [dropS]
    by_cases hk : p.key = k
    · rw [if_pos hk]
      by_cases h : k = k'
      · rw [if_pos h]
        exact get_absent fun q hq => by rw [← h, ← hk]; exact srt_absent hs q hq
      · rw [if_neg h]
        simp only [RF.get]
        rw [if_neg (by rw [hk]; exact h)]
    · rw [if_neg hk]
      simp only [RF.get]
      rw [get_drop (List.pairwise_cons.1 hs).2]
      by_cases h : p.key = k'
      · rw [if_pos h, if_neg (fun e => hk (by rw [h, e])), if_pos h]
      · rw [if_neg h, if_neg h]

/-! ### In order, and the same members: the same -/
theorem srt_ext : ∀ {l r : List Pair}, Srt Pair.key l → Srt Pair.key r → (∀ p, p ∈ l ↔ p ∈ r) → l = r
  | [], [], _, _, _ => rfl
  | [], q :: r, _, _, h => by have := (h q).2 (List.mem_cons_self ..); simp at this
  | p :: l, [], _, _, h => by have := (h p).1 (List.mem_cons_self ..); simp at this
  | p :: l, q :: r, hl, hr, h => by
    obtain ⟨l1, l2⟩ := List.pairwise_cons.1 hl
    obtain ⟨r1, r2⟩ := List.pairwise_cons.1 hr
    have hpq : p = q := by
      rcases List.mem_cons.1 ((h p).1 (List.mem_cons_self ..)) with e | e
      · exact e
      · rcases List.mem_cons.1 ((h q).2 (List.mem_cons_self ..)) with e' | e'
        · exact e'.symm
        · have := slt_trans (l1 q e') (r1 p e)
          rw [slt_irrefl] at this; cases this
    subst hpq
    congr 1
    refine srt_ext l2 r2 fun x => ⟨fun hx => ?_, fun hx => ?_⟩
    · rcases List.mem_cons.1 ((h x).1 (List.mem_cons_of_mem _ hx)) with e | e
      · subst e; have := l1 x hx; rw [slt_irrefl] at this; cases this
      · exact e
    · rcases List.mem_cons.1 ((h x).2 (List.mem_cons_of_mem _ hx)) with e | e
      · subst e; have := r1 x hx; rw [slt_irrefl] at this; cases this
      · exact e
/-! ### Right rows stay right -/
/-! ### Keys, by Trim -/
def alpha : List UInt8 := [97, 98, 99, 100, 101, 102, 103, 104, 105, 106, 107, 108, 109, 110, 111, 112, 113, 114, 115, 116, 117, 118, 119, 120, 121, 122]
theorem alpha_bad (c : UInt8) : alpha.contains c = !bad c := by
  have h : ∀ n : Fin 256, alpha.contains (UInt8.ofFin n) = !bad (UInt8.ofFin n) := by decide +kernel
  have := h c.toFin
  rwa [UInt8.ofFin_toFin] at this
theorem dropWhile_nil {p : UInt8 → Bool} : ∀ {l : List UInt8}, l.dropWhile p = [] ↔ ∀ x ∈ l, p x = true
  | [] => by simp
  | x :: l => by
    cases h : p x with
    | true => rw [List.dropWhile_cons_of_pos h, dropWhile_nil]; simp [h]
    | false => rw [List.dropWhile_cons_of_neg (by simp [h])]; simp [h]
theorem dropWhile_head {p : UInt8 → Bool} : ∀ {l r : List UInt8} {x : UInt8}, l.dropWhile p = x :: r → p x = false
  | [], r, x, h => by simp at h
  | y :: l, r, x, h => by
    cases hy : p y with
    | true => rw [List.dropWhile_cons_of_pos hy] at h; exact dropWhile_head h
    | false => rw [List.dropWhile_cons_of_neg (by simp [hy])] at h; cases h; exact hy
theorem trim_nil {l cs : List UInt8} : Lib.trimS l cs = [] ↔ ∀ x ∈ l, cs.contains x = true := by
  unfold Lib.trimS Lib.trimLeftS Lib.trimRightS
  rw [dropWhile_nil]
  constructor
  · intro h
    have h1 : l.reverse.dropWhile (cs.contains ·) = [] := by
      cases h2 : l.reverse.dropWhile (cs.contains ·) with
      | nil => rfl
      | cons x r =>
        have h3 := dropWhile_head h2
        have h4 := h x (by rw [h2]; simp)
        rw [h3] at h4; cases h4
    intro x hx
    exact dropWhile_nil.1 h1 x (by simpa using hx)
  · intro h x hx
    have h1 : l.reverse.dropWhile (cs.contains ·) = [] := dropWhile_nil.2 fun x hx => h x (by simpa using hx)
    rw [h1] at hx; simp at hx
theorem keyGo_eq {s : Str} : ∀ {r : Str}, keyGo s r = ((r.all fun c => !bad c) && (decide (0 < s.length) && decide (s.length < 7)))
  | [] => by simp [keyGo]
  | c :: r => by
    simp only [keyGo, List.all_cons]
    rw [keyGo_eq]
    cases bad c <;> simp
theorem key_trim (s : Str) : key s = (decide (1 ≤ s.length) && (decide (s.length ≤ 6) && decide (Lib.trimS s alpha = []))) := by
  unfold key
  rw [keyGo_eq]
  have h1 : (s.all fun c => !bad c) = decide (Lib.trimS s alpha = []) := by
    rw [Bool.eq_iff_iff, decide_eq_true_eq, trim_nil, List.all_eq_true]
    simp only [alpha_bad]
  rw [h1]
  have h2 : decide (0 < s.length) = decide (1 ≤ s.length) := by congr 1
  have h3 : decide (s.length < 7) = decide (s.length ≤ 6) := by congr 1; exact propext ⟨fun h => by omega, fun h => by omega⟩
  rw [h2, h3]
  cases decide (Lib.trimS s alpha = []) <;> cases decide (1 ≤ s.length) <;> cases decide (s.length ≤ 6) <;> rfl
end Go.Proofs.YtembfadhnkabhaaGreatDoor

/-! P5 -/
/-
  The program's way of doing a deed comes to the references'.
-/
namespace Go.Proofs.YtembfadhnkabhaaGreatDoor
open Go.AX Go.RF

theorem get_mem_some {k : Str} : ∀ {l : List Pair} {n : Int}, RF.get l k = (n, true) → (⟨k, n⟩ : Pair) ∈ l
  | [], n, h => by simp [RF.get] at h
  | p :: l, n, h => by
    simp only [RF.get] at h
    by_cases hk : p.key = k
    · rw [if_pos hk] at h
      cases h
      rw [← hk]
      exact List.mem_cons_self ..
    · rw [if_neg hk] at h
      exact List.mem_cons_of_mem _ (get_mem_some h)
theorem get_of_mem {p : Pair} : ∀ {l : List Pair}, Srt Pair.key l → p ∈ l → RF.get l p.key = (p.n, true)
  | q :: l, hs, h => by
    simp only [RF.get]
    rcases List.mem_cons.1 h with rfl | h
    · rw [if_pos rfl]
    · have := srt_absent hs p h
      rw [if_neg (fun e => this e.symm), get_of_mem (List.pairwise_cons.1 hs).2 h]
theorem get_ext {l r : List Pair} (hl : Srt Pair.key l) (hr : Srt Pair.key r) (h : ∀ k, RF.get l k = RF.get r k) : l = r :=
  srt_ext hl hr fun p => ⟨fun hp => get_mem_some (by rw [← h, get_of_mem hl hp]), fun hp => get_mem_some (by rw [h, get_of_mem hr hp])⟩

/-! ### What has been made, given to rows -/
def chOf (c : Bool × Int) : Int × Bool := if c.1 = true then (c.2, true) else (0, false)
def chAt (r : List Pair) (m : Mk) (k : Str) : Int × Bool := match mG m k with
  | some c => chOf c
  | none => RF.get r k
def app1 (out : List Pair) (k : Str) (c : Bool × Int) : List Pair := if c.1 = true then putS k c.2 out else dropS k out
def appC : List Pair → List (Str × (Bool × Int)) → List Pair
  | out, [] => out
  | out, x :: r => appC (app1 out x.1 x.2) r
theorem app1_srt {out : List Pair} (h : Srt Pair.key out) (k : Str) (c : Bool × Int) : Srt Pair.key (app1 out k c) := by
  unfold app1; split
  · exact putS_srt h
  · exact dropS_srt h
theorem app1_get {out : List Pair} (h : Srt Pair.key out) (k k' : Str) (c : Bool × Int) : RF.get (app1 out k c) k' = if k = k' then chOf c else RF.get out k' := by
  unfold app1 chOf; split
  · exact get_put
  · exact get_drop h
theorem appC_srt : ∀ {l : List (Str × (Bool × Int))} {out : List Pair}, Srt Pair.key out → Srt Pair.key (appC out l)
  | [], out, h => h
  | x :: l, out, h => appC_srt (l := l) (app1_srt h _ _)
theorem appC_get {m : Mk} {k : Str} : ∀ {l : List Str} {out : List Pair}, Srt Pair.key out → RF.get (appC out (chg m l)) k = if k ∈ l then chAt out m k else RF.get out k
  | [], out, h => by simp [chg, appC]
  | x :: l, out, h => by
    simp only [chg]
    cases hx : mG m x with
    | none =>
      simp only
      rw [appC_get h]
      by_cases hk : k ∈ l
      · rw [if_pos hk, if_pos (List.mem_cons_of_mem _ hk)]
      · rw [if_neg hk]
        by_cases he : k = x
        · subst he
          rw [if_pos (List.mem_cons_self ..), chAt, hx]
        · rw [if_neg (by simp [he, hk])]
    | some c =>
      simp only [appC]
      rw [appC_get (app1_srt h _ _)]
      by_cases he : x = k
      · subst he
        rw [if_pos (List.mem_cons_self ..), app1_get h, if_pos rfl]
        simp only [chAt, hx, ite_self]
      · have hne : ¬ k = x := fun e => he e.symm
        by_cases hk : k ∈ l
        · rw [if_pos hk, if_pos (List.mem_cons_of_mem _ hk)]
          unfold chAt
          rw [app1_get h, if_neg he]
        · rw [if_neg hk, if_neg (by simp [hne, hk]), app1_get h, if_neg he]

def plainD (r : List Pair) (d : Deed) : List Pair × Done := (appC r (runC (RF.get r) d), (runM (RF.get r) d).2)

theorem see_at {r now : List Pair} {m : Mk} (h : ∀ k, RF.get now k = chAt r m k) (hf : ∀ k c, mG m k = some c → c.1 = false → c.2 = 0) (k : Str) : seeM (RF.get r) m k = (RF.get now k).1 := by
  rw [h k]
  unfold seeM chAt chOf
  cases hm : mG m k with
  | none => rfl
  | some c =>
    dsimp only
    by_cases hc : c.1 = true
    · rw [if_pos hc]
    · rw [if_neg hc]
      exact hf k c hm (by simpa using hc)

structure MInv (r : List Pair) (W : List Str) (m : Mk) (now : List Pair) : Prop where
  s : Srt Pair.key now
  a : ∀ k, RF.get now k = chAt r m k
  f : ∀ k c, mG m k = some c → c.1 = false → c.2 = 0
  w : ∀ k c, mG m k = some c → k ∈ W
theorem MInv.set {r now : List Pair} {W : List Str} {m : Mk} (h : MInv r W m now) {k : Str} (hk : k ∈ W) (c : Bool × Int) (hc : c.1 = false → c.2 = 0) : MInv r W (mS m k c) (app1 now k c) := by
  refine ⟨app1_srt h.s k c, fun k' => ?_, fun k' c' hm => ?_, fun k' c' hm => ?_⟩
  · rw [app1_get h.s]
    unfold chAt
    rw [mG_mS]
    by_cases he : k = k'
    · rw [if_pos he, if_pos he]
    · rw [if_neg he, if_neg he]
      exact h.a k'
  · rw [mG_mS] at hm
    split at hm
    · cases hm; exact hc
    · exact h.f k' c' hm
  · rw [mG_mS] at hm
    split at hm
    · next he => rw [← he]; exact hk
    · exact h.w k' c' hm
theorem run_do {r : List Pair} {W : List Str} : ∀ {l : List Ins} {sk : Int} {m : Mk} {e : Done} {now : List Pair}, MInv r W m now → e.failed = false → (∀ i ∈ l, (i.kind = 6 ∨ i.kind = 7) → i.key ∈ W) →
    (runGo (RF.get r) sk m e l).2 = (doGo r sk now e l).2 ∧ ((doGo r sk now e l).2.failed = true → (doGo r sk now e l).1 = r) ∧ ((doGo r sk now e l).2.failed = false → MInv r W (runGo (RF.get r) sk m e l).1 (doGo r sk now e l).1)
  | [], sk, m, e, now, h, he, hw => by
    simp only [runGo, doGo]
    exact ⟨trivial, fun hf => by rw [he] at hf; exact absurd hf (by simp), fun _ => h⟩
  | i :: l, sk, m, e, now, h, he, hw => by
    have hl : ∀ i ∈ l, (i.kind = 6 ∨ i.kind = 7) → i.key ∈ W := fun j hj => hw j (List.mem_cons_of_mem _ hj)
    simp only [runGo, doGo]
    rw [see_at h.a h.f]
    by_cases h0 : 0 < sk
    · rw [if_pos h0, if_pos h0]; exact run_do h he hl
    rw [if_neg h0, if_neg h0]
    have hr : ∀ k x, (rset e k x).failed = false := fun k x => by rw [rset_failed]; exact he
    by_cases h1 : i.kind = 1
    · rw [if_pos h1, if_pos h1]; exact run_do h (hr _ _) hl
    rw [if_neg h1, if_neg h1]
    by_cases h2 : i.kind = 2
    · rw [if_pos h2, if_pos h2]; exact run_do h (hr _ _) hl
    rw [if_neg h2, if_neg h2]
    by_cases h3 : i.kind = 3
    · rw [if_pos h3, if_pos h3]; exact run_do h (hr _ _) hl
    rw [if_neg h3, if_neg h3]
    by_cases h4 : i.kind = 4
    · rw [if_pos h4, if_pos h4]; exact run_do h (hr _ _) hl
    rw [if_neg h4, if_neg h4]
    by_cases h5 : i.kind = 5
    · rw [if_pos h5, if_pos h5]; exact run_do h (hr _ _) hl
    rw [if_neg h5, if_neg h5]
    by_cases h6 : i.kind = 6
    · rw [if_pos h6, if_pos h6, put_true h.s]
      have := h.set (hw i (List.mem_cons_self ..) (.inl h6)) (true, rget e i.a.toNat) (by simp)
      exact run_do this he hl
    rw [if_neg h6, if_neg h6]
    by_cases h7 : i.kind = 7
    · rw [if_pos h7, if_pos h7, put_false h.s]
      have := h.set (hw i (List.mem_cons_self ..) (.inr h7)) (false, 0) (by simp)
      exact run_do this he hl
    rw [if_neg h7, if_neg h7]
    by_cases h8 : i.kind = 8
    · rw [if_pos h8, if_pos h8]; exact run_do h he hl
    rw [if_neg h8, if_neg h8]
    by_cases h9 : rget e i.a.toNat < 0
    · rw [if_pos h9, if_pos h9]
      exact ⟨rfl, fun _ => rfl, fun hf => by simp [bustE] at hf⟩
    · rw [if_neg h9, if_neg h9]; exact run_do h he hl
theorem plain_do {r : List Pair} {d : Deed} (hs : Srt Pair.key r) (hw : ∀ i ∈ d.code, (i.kind = 6 ∨ i.kind = 7) → i.key ∈ d.writes) : plainD r d = doD r d := by
  obtain ⟨h1, h2, h3⟩ := run_do (r := r) (W := d.writes) (l := d.code) (sk := 0) (m := []) (e := done0) (now := r) ⟨hs, fun k => rfl, fun k c h => by simp [mG] at h, fun k c h => by simp [mG] at h⟩ rfl hw
  unfold plainD doD
  refine Prod.ext ?_ h1
  dsimp only
  unfold runC
  by_cases hf : (runM (RF.get r) d).2.failed = true
  · rw [if_pos hf]
    have hf' : (doGo r 0 r done0 d.code).2.failed = true := by rw [← h1]; exact hf
    rw [h2 hf']; rfl
  · rw [if_neg hf]
    have hf' : (doGo r 0 r done0 d.code).2.failed = false := by rw [← h1]; exact Bool.eq_false_iff.2 hf
    have h := h3 hf'
    refine get_ext (appC_srt hs) h.s fun k => ?_
    rw [appC_get hs, h.a k]
    by_cases hk : k ∈ d.writes
    · rw [if_pos hk]; rfl
    · rw [if_neg hk]
      unfold chAt
      cases hm : mG (runGo (RF.get r) 0 [] done0 d.code).1 k with
      | none => rfl
      | some c => exact absurd (h.w k c hm) hk
theorem doD_srt {r : List Pair} {d : Deed} (hs : Srt Pair.key r) (hw : ∀ i ∈ d.code, (i.kind = 6 ∨ i.kind = 7) → i.key ∈ d.writes) : Srt Pair.key (doD r d).1 := by
  rw [← plain_do hs hw]; exact appC_srt hs
theorem isIn_true {s : Str} : ∀ {l : List Str}, isIn l s = true → s ∈ l
  | [], h => by cases h
  | x :: l, h => by
    simp only [isIn] at h
    by_cases hx : x = s
    · rw [hx]; exact List.mem_cons_self ..
    · rw [if_neg hx] at h
      exact List.mem_cons_of_mem _ (isIn_true h)
theorem wrongIns_keyed {d : Deed} {m : Int} {i : Ins} (h : wrongIns d m i = 0) (hk : i.kind = 6 ∨ i.kind = 7) : i.key ∈ d.writes := by
  unfold wrongIns at h
  have hkk : ¬ (i.kind < 1 ∨ 9 < i.kind) := by omega
  rw [if_neg hkk] at h
  have hh : has i.kind.toNat 107 = true := by rcases hk with e | e <;> rw [e] <;> decide
  split at h
  · simp at h
  · rw [if_neg (by rw [hh]; simp), if_neg (show ¬ i.kind = 1 by omega)] at h
    split at h
    · next hi => exact isIn_true hi
    · simp at h
theorem wrong_keyed {d : Deed} (h : wrongDeed d = 0) : ∀ i ∈ d.code, (i.kind = 6 ∨ i.kind = 7) → i.key ∈ d.writes := by
  intro i hi
  unfold wrongDeed at h
  by_cases h0 : lsGo [d.reads, d.writes] = 0
  · rw [if_pos h0] at h
    by_cases hc : 12 < d.code.length
    · rw [if_pos hc] at h; simp at h
    · rw [if_neg hc] at h
      obtain ⟨j, hj⟩ := List.getElem?_of_mem hi
      exact wrongIns_keyed (codeGo_mem h j i hj)
  · rw [if_neg h0] at h; exact absurd h h0

theorem runGo_congr {v v' : Str → Int × Bool} : ∀ {l : List Ins} {sk : Int} {m : Mk} {e : Done}, (∀ i ∈ l, i.kind = 1 → (v i.key).1 = (v' i.key).1) → runGo v sk m e l = runGo v' sk m e l
  | [], sk, m, e, _ => rfl
  | i :: l, sk, m, e, h => by
    have ih := fun {sk : Int} {m : Mk} {e : Done} => runGo_congr (v := v) (v' := v') (l := l) (sk := sk) (m := m) (e := e) fun j hj => h j (List.mem_cons_of_mem _ hj)
    have hs : i.kind = 1 → seeM v m i.key = seeM v' m i.key := fun hk => by
      unfold seeM
      split
      · rfl
      · exact h i (List.mem_cons_self ..) hk
    simp only [runGo, ih]
    by_cases hk : i.kind = 1
    · rw [hs hk]
    · simp only [if_neg hk]

end Go.Proofs.YtembfadhnkabhaaGreatDoor

/-! AxNews -/
/-
  Functions whose result is a struct of slices of the caller's own, and of data.
-/
namespace Go.AX
open Go.RowKit

variable {cx : Cx} {g : Nat → Value} {σ σ' : St} {a : Act} {w w' : World} {nx : Nat} {c : Code} {Q : Exit → St → Prop}
variable {ty : TypeId} {pos : String} {af : Array Edge} {gd : Option (Nat × Bool)} {d : Nat}

/-- What a cell of the result is: data, or a slice that is the caller's own. -/
inductive Part where
  | d (x : D)
  | own (e k : Nat) (rows : List (List D))
def withL (own : Nat → Prop) (ps : List Part) (cs : Array Value) : Nat → Prop := fun b => own b ∨ ∃ j e k rows, ps[j]? = some (.own e k rows) ∧ blk (cs.getD j undef) = some b

structure PartsAt (w : World) (base : Nat) (own : Nat → Prop) (ps : List Part) (cs : Array Value) : Prop where
  size : cs.size = ps.length
  one : ∀ (j : Nat) (c : Value), cs[j]? = some c → c.oneCell' = true
  data : ∀ j x, ps[j]? = some (.d x) → Rd w (withL own ps cs) (cs.getD j undef) x
  rows : ∀ j e k rows, ps[j]? = some (.own e k rows) → RowsAt w base (withL own ps cs) e k (cs.getD j undef) rows
  sep : ∀ j j' e k rows e' k' rows' b, ps[j]? = some (.own e k rows) → ps[j']? = some (.own e' k' rows') → blk (cs.getD j undef) = some b → blk (cs.getD j' undef) = some b → j = j'

structure FnNews (P : Program) (f : FuncId) (args : List Arg) (ps : List Part) : Prop where
  run : ∃ fn, P.funcs[f]? = some fn ∧ (fn.name == "runtime.NumGoroutine") = false ∧ fn.body.isNone = false
  calls : ∀ (w : World) (own : Nat → Prop) (vs : List Value), (∀ b, own b → b < w.heap.size) → ArgsOk w own vs args →
    Calls P f vs.toArray w fun r w' => ∃ cs, r = .returned (.agg cs) ∧ Below w.heap.size w w' ∧ PartsAt w' w.heap.size own ps cs

/-- As the state has it, told as a part. -/
inductive PartE (σ : St) : AV → Part → Prop
  | d {x : D} : PartE σ (.d x) (.d x)
  | own {id n e k : Nat} {rows : List (List D)} (ho : get σ (.o id) = .ob (.arr e k rows)) (hn : n = rows.length) : PartE σ (.own id n) (.own e k rows)
def ids : List AV → List Nat
  | [] => []
  | .own id _ :: r => id :: ids r
  | _ :: r => ids r
inductive PartsL (σ : St) : List AV → List Part → Prop
  | nil : PartsL σ [] []
  | cons {av : AV} {p : Part} {avs : List AV} {ps : List Part} (h : PartE σ av p) (t : PartsL σ avs ps) : PartsL σ (av :: avs) (p :: ps)
theorem PartsL.at {avs : List AV} {ps : List Part} (h : PartsL σ avs ps) : avs.length = ps.length ∧ ∀ (j : Nat) (p : Part), ps[j]? = some p → ∃ av : AV, avs[j]? = some av ∧ PartE σ av p := by
  induction h with
  | nil => exact ⟨rfl, fun j p h => by simp at h⟩
  | cons h t ih =>
    refine ⟨by simp [ih.1], fun j p hj => ?_⟩
    cases j with
    | zero => simp at hj; subst hj; exact ⟨_, rfl, h⟩
    | succ j => simpa using ih.2 j p (by simpa using hj)
theorem ids_mem {id n : Nat} : ∀ {avs : List AV} {j : Nat}, avs[j]? = some (.own id n) → id ∈ ids avs
  | x :: avs, 0, h => by
    obtain rfl : x = .own id n := by simpa using h
    exact List.mem_cons_self ..
  | x :: avs, j + 1, h => by
    have := ids_mem (avs := avs) (j := j) (by simpa using h)
    cases x <;> simp [ids, this]
theorem ids_inj {id n m : Nat} : ∀ {avs : List AV} {i j : Nat}, (ids avs).Nodup → avs[i]? = some (.own id n) → avs[j]? = some (.own id m) → i = j
  | x :: avs, 0, 0, _, _, _ => rfl
  | x :: avs, 0, j + 1, h, hi, hj => by
    obtain rfl : x = .own id n := by simpa using hi
    simp only [ids, List.nodup_cons] at h
    exact absurd (ids_mem (by simpa using hj)) h.1
  | x :: avs, i + 1, 0, h, hi, hj => by
    obtain rfl : x = .own id m := by simpa using hj
    simp only [ids, List.nodup_cons] at h
    exact absurd (ids_mem (by simpa using hi)) h.1
  | x :: avs, i + 1, j + 1, h, hi, hj => by
    have h' : (ids avs).Nodup := by
      cases x <;> simp only [ids, List.nodup_cons] at h <;> first | exact h.2 | exact h
    exact congrArg (· + 1) (ids_inj (n := n) (m := m) h' (by simpa using hi) (by simpa using hj))
theorem parts_at (hs : SimG cx σ a w g nx) {avs : List AV} {ps : List Part} {v : Value} (hr : Rep cx g σ w v (.agg avs)) (hp : PartsL σ avs ps) (hn : (ids avs).Nodup) : ∃ cs, v = .agg cs ∧ PartsAt w cx.w0.heap.size cx.own0 ps cs := by
  obtain ⟨cs, h1, h2, h3, h4⟩ := hr
  obtain ⟨hl, hat⟩ := hp.at
  refine ⟨cs, h1, ?_⟩
  have hc : ∀ j p, ps[j]? = some p → ∃ av, avs[j]? = some av ∧ PartE σ av p ∧ Rep1 cx g σ w (cs.getD j undef) av := fun j p hj => by
    obtain ⟨av, h5, h6⟩ := hat j p hj
    have hlt : j < cs.size := by rw [h2]; exact (List.getElem?_eq_some_iff.1 h5).1
    have h7 : cs[j]? = some cs[j] := Array.getElem?_eq_getElem hlt
    refine ⟨av, h5, h6, ?_⟩
    rw [Array.getD_eq_getD_getElem?, h7]
    exact h4 j _ av h5 h7
  have hown : ∀ j e k rows, ps[j]? = some (.own e k rows) → ∃ id n, avs[j]? = some (.own id n) ∧ cs.getD j undef = g id ∧ get σ (.o id) = .ob (.arr e k rows) := fun j e k rows hj => by
    obtain ⟨av, h5, h6, h7⟩ := hc j _ hj
    cases h6 with
    | @own id n _ _ _ ho hn => exact ⟨id, n, h5, (h7.2 e k rows ho).2 hn, ho⟩
  have hle : ∀ b, withL cx.own0 ps cs b → cx.own g σ b := fun b hb => by
    rcases hb with hb | ⟨j, e, k, rows, hj, hb⟩
    · exact .inl hb
    · obtain ⟨id, n, _, h6, h7⟩ := hown j e k rows hj
      exact .inr ⟨id, _, h7, by rw [← h6]; exact hb⟩
  refine ⟨by rw [h2, hl], h3, fun j x hj => ?_, fun j e k rows hj => ?_, fun j j' e k rows e' k' rows' b hj hj' hb hb' => ?_⟩
  · obtain ⟨av, h5, h6, h7⟩ := hc j _ hj
    cases h6 with
    | d => exact Rd.less hle h7
  · obtain ⟨id, n, _, h6, h7⟩ := hown j e k rows hj
    rw [h6]
    exact (objRows hs h7).re (fun b hb => obj_ge hs h7 hb) hle
  · obtain ⟨id, n, h5, h6, h7⟩ := hown j e k rows hj
    obtain ⟨id', n', h5', h6', h7'⟩ := hown j' e' k' rows' hj'
    obtain rfl := hs.sep id id' _ _ b h7 h7' (by rw [← h6]; exact hb) (by rw [← h6']; exact hb')
    exact ids_inj hn h5 h5'
inductive RetNews (T : Tbl) (σ : St) (ps : List Part) : ResultVar → Prop
  | tmp {t : Nat} {avs : List AV} (h : get σ (.s t) = .av (.agg avs)) (hp : PartsL σ avs ps) (hn : (ids avs).Nodup) : RetNews T σ ps (.tmp t)
  | cell {s t id : Nat} {cells avs : List AV} {ti : TI} (h : get σ (.s s) = .av (.ptr id 0)) (ho : get σ (.o id) = .ob (.box cells)) (ht : tget T t = some ti)
      (hl : ldA ti cells = some (.agg avs)) (hp : PartsL σ avs ps) (hn : (ids avs).Nodup) : RetNews T σ ps (.cell s t)
theorem RetNews.ok (hs : SimG cx σ a w g nx) {rv : ResultVar} {ps : List Part} (h : RetNews cx.T σ ps rv) : ∃ cs, (rvRun a.tmps rv).run cx.P w = .ok (.agg cs) w ∧ PartsAt w cx.w0.heap.size cx.own0 ps cs := by
  cases h with
  | @tmp t avs h hp hn =>
    obtain ⟨cs, h1, h2⟩ := parts_at hs (hs.slots t _ h).1 hp hn
    exact ⟨cs, by rw [← h1]; rfl, h2⟩
  | @cell s t id cells avs ti h ho ht hl hp hn =>
    obtain ⟨v, h1, h2, _⟩ := load_ptr hs (x := a.tmps.getD s undef) (off := 0) (hs.slots s _ h).1 ho ht (by simpa using hl)
    obtain ⟨b, hg, hv⟩ := (hs.slots s _ h).1.2 cells ho
    obtain ⟨cs, rfl, h3⟩ := parts_at hs h2 hp hn
    refine ⟨cs, ?_, h3⟩
    rw [hv] at h1
    simp only [rvRun, hv, asAddr, Sem.run_bind, Sem.run_pure, Result.andThen_ok]
    simpa [Instr.loadAt, Instr.sureAddr] using h1
def newsQ (T : Tbl) (rv : ResultVar) (ps : List Part) : Exit → St → Prop
  | .normal, σ => RetNews T σ ps rv
  | .ret, σ => RetNews T σ ps rv
  | _, _ => False

theorem fnNews_of {P : Program} {T : Tbl} (hT : TOk P T) (hm : P.follows .mixedOrders = true) {f : FuncId} {fn : Func} {c : Code} {rv : ResultVar} {args : List Arg} {ps : List Part}
    (hf : P.funcs[f]? = some fn) (hb : fn.body = some c) (hname : (fn.name == "runtime.NumGoroutine") = false) (hr : fn.results = #[rv]) (hn : Nat.ble args.length fn.ntmps = true)
    (h : ∀ w0 own0, CW ⟨P, T, hT, hm, fn.ntmps, w0, own0⟩ c (newsQ T rv ps) (argSt 0 args)) : FnNews P f args ps := by
  refine ⟨⟨fn, hf, hname, by rw [hb]; rfl⟩, fun w own vs hown ha => ?_⟩
  have hsim := entry_sim (P := P) (T := T) (hT := hT) (hm := hm) (n := fn.ntmps) hown ha (by simpa using hn)
  refine calls_of_wp hf hb (wp_mono (h w own _ _ hsim) fun x a' w' he => ?_)
  obtain ⟨σ', ⟨g, nx, hg⟩, hq⟩ := he
  have fin : ∀ hq : RetNews T σ' ps rv, a'.defers = [] ∧ ∃ v, (results fn a'.tmps).run P w' = .ok v w' ∧ ∃ cs, Ending.returned v = .returned (.agg cs) ∧ Below w.heap.size w w' ∧ PartsAt w' w.heap.size own ps cs := by
    intro hq
    obtain ⟨cs, h1, h2⟩ := hq.ok hg
    exact ⟨hg.defers, .agg cs, by rw [results_one hr]; exact h1, cs, rfl, hg.below, h2⟩
  cases x with
  | normal => exact fin hq
  | ret => exact fin hq
  | exit j => exact hq.elim
  | goto j => exact hq.elim
  | panic c => exact hq.elim
  | outgrown => exact hq.elim

/-- As data, too. -/
def Part.dt : Part → D
  | .d x => x
  | .own _ k rows => .sl k rows
theorem FnNews.ok {P : Program} {f : FuncId} {args : List Arg} {ps : List Part} (h : FnNews P f args ps) : FnOk P f args (.one (.agg (ps.map Part.dt))) := by
  refine ⟨h.run, fun w own vs hown ha => (h.calls w own vs hown ha).mono fun r w' hr => ?_⟩
  obtain ⟨cs, rfl, h1, h2⟩ := hr
  refine ⟨.agg cs, rfl, h1, ?_⟩
  refine .agg cs _ (by rw [h2.size, List.length_map]) h2.one fun j x c hj hc => ?_
  rw [List.getElem?_map] at hj
  cases hp : ps[j]? with
  | none => rw [hp] at hj; cases hj
  | some p =>
    rw [hp] at hj
    simp at hj; subst hj
    have hcd : cs.getD j undef = c := by rw [Array.getD_eq_getD_getElem?, hc]; rfl
    cases p with
    | d x =>
      have := h2.data j x hp
      rw [hcd] at this
      exact this.less fun b hb => .inl hb
    | own e k rows =>
      have := h2.rows j e k rows hp
      rw [hcd] at this
      refine this.rd fun b hb => ⟨.inl hb, fun he => ?_⟩
      have := (this.lt he).1
      have := hown b hb
      omega

/-! ### Called -/
/-- What joins the state: objects from nx on; the struct's cells. -/
def newObs : Nat → List Part → List (Key × Val)
  | n, [] => [(.nx, .num n)]
  | n, .d _ :: r => newObs n r
  | n, .own e k rows :: r => (.o n, .ob (.arr e k rows)) :: newObs (n + 1) r
def newAvs : Nat → List Part → List AV
  | _, [] => []
  | n, .d x :: r => .d x :: newAvs n r
  | n, .own _ _ rows :: r => .own n rows.length :: newAvs (n + 1) r
def newN : Nat → List Part → Nat
  | n, [] => n
  | n, .d _ :: r => newN n r
  | n, .own _ _ _ :: r => newN (n + 1) r
/-- The id of the object of a place. -/
def idAt : Nat → List Part → Nat → Nat
  | n, [], _ => n
  | n, .d _ :: r, j + 1 => idAt n r j
  | n, .own _ _ _ :: r, j + 1 => idAt (n + 1) r j
  | n, _ :: _, 0 => n
theorem newN_ge : ∀ {ps : List Part} {n : Nat}, n ≤ newN n ps
  | [], n => Nat.le_refl _
  | .d _ :: r, n => newN_ge (ps := r)
  | .own _ _ _ :: r, n => Nat.le_trans (Nat.le_succ n) (newN_ge (ps := r))
theorem newAvs_len : ∀ {ps : List Part} {n : Nat}, (newAvs n ps).length = ps.length
  | [], n => rfl
  | .d _ :: r, n => by simp [newAvs, newAvs_len (ps := r)]
  | .own _ _ _ :: r, n => by simp [newAvs, newAvs_len (ps := r)]
theorem newObs_s {i : Nat} : ∀ {ps : List Part} {n : Nat}, get (newObs n ps ++ σ) (.s i) = get σ (.s i)
  | [], n => get_cons_ne (by simp)
  | .d _ :: r, n => newObs_s (ps := r)
  | .own _ _ _ :: r, n => (get_cons_ne (by simp)).trans (newObs_s (ps := r))
theorem newObs_nx : ∀ {ps : List Part} {n : Nat}, get (newObs n ps ++ σ) .nx = .num (newN n ps)
  | [], n => get_cons_same
  | .d _ :: r, n => newObs_nx (ps := r)
  | .own _ _ _ :: r, n => (get_cons_ne (by simp)).trans (newObs_nx (ps := r))
theorem newObs_lo {i : Nat} : ∀ {ps : List Part} {n : Nat}, i < n → get (newObs n ps ++ σ) (.o i) = get σ (.o i)
  | [], n, _ => get_cons_ne (by simp)
  | .d _ :: r, n, h => newObs_lo (ps := r) h
  | .own _ _ _ :: r, n, h => (get_cons_ne (by simp; omega)).trans (newObs_lo (ps := r) (by omega))
/-- The objects, each of its place. -/
theorem newObs_at {i : Nat} {o : Ob} : ∀ {ps : List Part} {n : Nat}, (∀ j o, n ≤ j → get σ (.o j) ≠ .ob o) → n ≤ i → get (newObs n ps ++ σ) (.o i) = .ob o →
    ∃ j e k rows, ps[j]? = some (.own e k rows) ∧ o = .arr e k rows ∧ idAt n ps j = i ∧ i < newN n ps
  | [], n, h0, hi, h => by
    rw [show get (newObs n [] ++ σ) (.o i) = get σ (.o i) from get_cons_ne (by simp)] at h
    exact absurd h (h0 i o hi)
  | .d _ :: r, n, h0, hi, h => by
    obtain ⟨j, e, k, rows, h1, h2, h3, h4⟩ := newObs_at (ps := r) h0 hi h
    exact ⟨j + 1, e, k, rows, by simpa using h1, h2, h3, h4⟩
  | .own e k rows :: r, n, h0, hi, h => by
    by_cases he : n = i
    · subst he
      rw [show get (newObs n (.own e k rows :: r) ++ σ) (.o n) = .ob (.arr e k rows) from get_cons_same] at h
      cases h
      exact ⟨0, e, k, rows, rfl, rfl, rfl, newN_ge (ps := r)⟩
    · rw [show get (newObs n (.own e k rows :: r) ++ σ) (.o i) = get (newObs (n + 1) r ++ σ) (.o i) from get_cons_ne (by simpa using he)] at h
      obtain ⟨j, e', k', rows', h1, h2, h3, h4⟩ := newObs_at (ps := r) (fun j o hj => h0 j o (by omega)) (by omega) h
      exact ⟨j + 1, e', k', rows', by simpa using h1, h2, h3, h4⟩
theorem idAt_get {e k : Nat} {rows : List (List D)} : ∀ {ps : List Part} {n j : Nat}, ps[j]? = some (.own e k rows) → get (newObs n ps ++ σ) (.o (idAt n ps j)) = .ob (.arr e k rows) ∧ n ≤ idAt n ps j ∧ (newAvs n ps)[j]? = some (.own (idAt n ps j) rows.length) ∧ idAt n ps j < newN n ps
  | .d _ :: r, n, 0, h => by simp at h
  | .own e' k' rows' :: r, n, 0, h => by
    simp at h
    obtain ⟨rfl, rfl, rfl⟩ := h
    exact ⟨get_cons_same, Nat.le_refl _, rfl, newN_ge (ps := r)⟩
  | .d _ :: r, n, j + 1, h => by
    have := idAt_get (ps := r) (n := n) (j := j) (by simpa using h)
    exact ⟨this.1, this.2.1, this.2.2.1, this.2.2.2⟩
  | .own _ _ _ :: r, n, j + 1, h => by
    have := idAt_get (ps := r) (n := n + 1) (j := j) (by simpa using h)
    exact ⟨(get_cons_ne (by simp only [idAt, ne_eq, Key.o.injEq]; omega)).trans this.1, by simp only [idAt]; omega, this.2.2.1, this.2.2.2⟩
theorem newAvs_at {av : AV} : ∀ {ps : List Part} {n j : Nat}, (newAvs n ps)[j]? = some av → ∃ p, ps[j]? = some p ∧ ((∃ x, p = .d x ∧ av = .d x) ∨ ∃ e k rows, p = .own e k rows ∧ av = .own (idAt n ps j) rows.length)
  | .d x :: r, n, 0, h => by
    simp [newAvs] at h
    exact ⟨_, rfl, .inl ⟨x, rfl, h.symm⟩⟩
  | .own e k rows :: r, n, 0, h => by
    simp [newAvs] at h
    exact ⟨_, rfl, .inr ⟨e, k, rows, rfl, h.symm⟩⟩
  | .d _ :: r, n, j + 1, h => newAvs_at (ps := r) (n := n) (j := j) (by simpa [newAvs] using h)
  | .own _ _ _ :: r, n, j + 1, h => newAvs_at (ps := r) (n := n + 1) (j := j) (by simpa [newAvs] using h)
theorem ex_g (g : Nat → Value) : ∀ (ps : List Part) (n : Nat) (c : Nat → Value), ∃ g' : Nat → Value, (∀ i, i < n → g' i = g i) ∧ ∀ j e k rows, ps[j]? = some (.own e k rows) → g' (idAt n ps j) = c j
  | [], n, c => ⟨g, fun _ _ => rfl, fun j e k rows h => by simp at h⟩
  | .d x :: r, n, c => by
    obtain ⟨g', h1, h2⟩ := ex_g g r n fun j => c (j + 1)
    refine ⟨g', h1, fun j e k rows h => ?_⟩
    cases j with
    | zero => simp at h
    | succ j => exact h2 j e k rows (by simpa using h)
  | .own _ _ _ :: r, n, c => by
    obtain ⟨g', h1, h2⟩ := ex_g g r (n + 1) fun j => c (j + 1)
    refine ⟨upd g' n (c 0), fun i hi => by rw [upd_ne (by omega)]; exact h1 i (by omega), fun j e k rows h => ?_⟩
    cases j with
    | zero => exact upd_same _ _ _
    | succ j =>
      have h' : r[j]? = some (.own e k rows) := by simpa using h
      have := (idAt_get (σ := []) (n := n + 1) h').2.1
      show upd g' n (c 0) (idAt (n + 1) r j) = _
      rw [upd_ne (by omega)]
      exact h2 j e k rows h'

theorem SimG.joins (hs : SimG cx σ a w g nx) (hb : Below w.heap.size w w') {ps : List Part} {cs : Array Value} (hr : PartsAt w' w.heap.size (cx.own g σ) ps cs) :
    ∃ g', SimG cx (newObs nx ps ++ σ) a w' g' (newN nx ps) ∧ (∀ j e k rows, ps[j]? = some (.own e k rows) → g' (idAt nx ps j) = cs.getD j undef) ∧ ∀ b, cx.own g' (newObs nx ps ++ σ) b → withL (cx.own g σ) ps cs b := by
  obtain ⟨g', hg1, hg2⟩ := ex_g g ps nx fun j => cs.getD j undef
  have h0 : ∀ j o, nx ≤ j → get σ (.o j) ≠ .ob o := fun j o hj ho => by have := (hs.objs j o ho).1; omega
  have hob : ∀ id o, get (newObs nx ps ++ σ) (.o id) = .ob o → (id < nx ∧ get σ (.o id) = .ob o ∧ g' id = g id) ∨ (nx ≤ id ∧ ∃ j e k rows, ps[j]? = some (.own e k rows) ∧ o = .arr e k rows ∧ idAt nx ps j = id ∧ id < newN nx ps ∧ g' id = cs.getD j undef) := fun id o ho => by
    by_cases hid : id < nx
    · rw [newObs_lo hid] at ho
      exact .inl ⟨hid, ho, hg1 id hid⟩
    · obtain ⟨j, e, k, rows, h1, h2, h3, h4⟩ := newObs_at h0 (by omega) ho
      exact .inr ⟨by omega, j, e, k, rows, h1, h2, h3, h4, by rw [← h3]; exact hg2 j e k rows h1⟩
  have hown : ∀ b, cx.own g' (newObs nx ps ++ σ) b → withL (cx.own g σ) ps cs b := fun b hb => by
    rcases hb with hb | ⟨id, o, h1, h2⟩
    · exact .inl (.inl hb)
    · rcases hob id o h1 with ⟨_, h3, h4⟩ | ⟨_, j, e, k, rows, h3, _, _, _, h4⟩
      · exact .inl (.inr ⟨id, o, h3, by rw [← h4]; exact h2⟩)
      · exact .inr ⟨j, e, k, rows, h3, by rw [← h4]; exact h2⟩
  have hnew : ∀ {j e k rows b}, ps[j]? = some (.own e k rows) → blk (cs.getD j undef) = some b → w.heap.size ≤ b := fun hj hbk => ((hr.rows _ _ _ _ hj).lt hbk).1
  have hge := hs.below.size
  have hl : Later cx g g' σ (newObs nx ps ++ σ) w w' nx := by
    refine ⟨Ext.of_below hb, hb.mono hge, fun b hb' => ?_, fun id o' hid ho => ⟨o', by rw [← newObs_lo (ps := ps) hid]; exact ho, ?_⟩⟩
    · rcases hown b hb' with h | ⟨j, e, k, rows, hj, h⟩
      · exact .inl h
      · exact .inr (hnew hj h)
    · have := hg1 id hid
      cases o' <;> simp [ObLe, this]
  refine ⟨g', ?_, hg2, hown⟩
  refine hs.next hl newObs_nx newN_ge hs.size hs.defers (hb.mono hge) (fun i av hi => ?_) (fun id o ho => ?_) fun id id' o o' b h1 h2 h3 h4 => ?_
  · rw [newObs_s] at hi
    exact .inl ⟨hi, rfl⟩
  · rcases hob id o ho with ⟨h1, h2, h3⟩ | ⟨h1, j, e, k, rows, h2, rfl, h3, h4, h5⟩
    · exact .inl ⟨h2, h3, fun b hbk => hb.block b (own_lt hs (.inr ⟨id, o, h2, hbk⟩))⟩
    · refine .inr ⟨h4, ?_, trivial⟩
      have := (hr.rows j e k rows h2).re (base' := cx.w0.heap.size) (fun b hbk => by have := hnew h2 hbk; omega) hown
      rw [← h5] at this
      exact this
  · have hlo : ∀ {id o b}, get σ (.o id) = .ob o → g' id = g id → blk (g' id) = some b → b < w.heap.size := fun h1 h2 h3 => own_lt hs (.inr ⟨_, _, h1, by rw [← h2]; exact h3⟩)
    rcases hob id o h1 with ⟨_, h5, h6⟩ | ⟨_, j, e, k, rows, h5, _, h6, _, h7⟩
    · rcases hob id' o' h2 with ⟨_, h5', h6'⟩ | ⟨_, j', e', k', rows', h5', _, h6', _, h7'⟩
      · exact hs.sep id id' o o' b h5 h5' (by rw [← h6]; exact h3) (by rw [← h6']; exact h4)
      · have := hlo h5 h6 h3
        have := hnew h5' (by rw [← h7']; exact h4)
        omega
    · rcases hob id' o' h2 with ⟨_, h5', h6'⟩ | ⟨_, j', e', k', rows', h5', _, h6', _, h7'⟩
      · have := hlo h5' h6' h4
        have := hnew h5 (by rw [← h7]; exact h3)
        omega
      · have := hr.sep j j' e k rows e' k' rows' b h5 h5' (by rw [← h7]; exact h3) (by rw [← h7']; exact h4)
        rw [← h6, ← h6', this]

theorem newAvs_bd {ps : List Part} {n : Nat} : ∀ av ∈ newAvs n ps, av.bd1 (newN n ps) := by
  intro av hav
  obtain ⟨j, hj⟩ := List.getElem?_of_mem hav
  obtain ⟨p, hp, h⟩ := newAvs_at hj
  rcases h with ⟨x, _, rfl⟩ | ⟨e, k, rows, rfl, rfl⟩
  · trivial
  · exact (idAt_get (σ := []) (n := n) hp).2.2.2
theorem ok_callnews {f : FuncId} {xs : List Operand} {avs : List AV} {ys : List Arg} {l : List (Key × Val)} {ps : List Part} {ats : Array TypeId} (hn : d < cx.n) (hc : FnNews cx.P f ys ps) (hsub : Subs xs avs ys l) :
    OpOk cx ⟨some d, .call { callee := .value (.func f), args := ⟨xs⟩, argTypes := ats }, ty, pos, af, gd⟩ ⟨l ++ [(.nx, .num nx)], (.s d, .av (.agg (newAvs nx ps))) :: newObs nx ps⟩ := by
  rintro σ a w K Q ⟨g, n', hs⟩ hr hK
  have hnx : n' = nx := by
    have h2 := hr.right.1
    rw [hs.hnx] at h2
    simpa using h2
  subst hnx
  have hcall := hc.calls w (cx.own g σ) (xs.map a.eval) (fun b hb => own_lt hs hb) (hsub.ok hs hr.left)
  unfold Oper.wp
  rw [call_run hc.run]
  refine hcall.mono fun r w' he => ?_
  obtain ⟨cs, rfl, hb, hres⟩ := he
  obtain ⟨g', hG, hg2, hown⟩ := SimG.joins hs hb hres
  refine hK _ _ (Sim.put hG hn (Below.refl _ _) ?_ newAvs_bd)
  refine ⟨cs, rfl, by rw [newAvs_len, hres.size], hres.one, fun j c av hj hcj => ?_⟩
  obtain ⟨p, hp, h⟩ := newAvs_at hj
  have hcd : cs.getD j undef = c := by rw [Array.getD_eq_getD_getElem?, hcj]; rfl
  rcases h with ⟨x, rfl, rfl⟩ | ⟨e, k, rows, rfl, rfl⟩
  · have := hres.data j x hp
    rw [hcd] at this
    exact Rd.less hown this
  · refine ⟨.of (idAt_get hp).1, fun e' k' rows' hg => ?_⟩
    rw [(idAt_get hp).1] at hg
    cases hg
    exact ⟨Nat.le_refl _, fun _ => by rw [← hcd]; exact (hg2 j e k rows hp).symm⟩
theorem a_callnews {f : FuncId} {xs : List Operand} {avs : List AV} {ys : List Arg} {l : List (Key × Val)} {ps : List Part} {ats : Array TypeId} (hc : FnNews cx.P f ys ps) (hn : get σ .nx = .num nx) (hd : Nat.blt d cx.n = true) (hsub : SubsE σ xs avs ys l) :
    OA cx σ ⟨some d, .call { callee := .value (.func f), args := ⟨xs⟩, argTypes := ats }, ty, pos, af, gd⟩ ⟨l ++ [(.nx, .num nx)], (.s d, .av (.agg (newAvs nx ps))) :: newObs nx ps⟩ :=
  ⟨ok_callnews (lt_of_blt hd) hc hsub.out.1, hsub.out.2.append ⟨hn, trivial⟩⟩

end Go.AX

/-! AxApp -/
/-
  append onto nil.
-/
namespace Go.AX
open Go.RowKit

variable {cx : Cx} {g : Nat → Value} {σ : St} {a : Act} {w : World} {nx : Nat}
variable {ty : TypeId} {pos : String} {af : Array Edge} {gd : Option (Nat × Bool)} {d : Nat}

/-- A pointer to cells that stay is not nil. -/
theorem a_nilpd {x : Operand} {cells : List D} (hx : ev σ x = some (.pd cells)) (hd : Nat.blt d cx.n = true) :
    OA cx σ ⟨some d, .nilCheck x, ty, pos, af, gd⟩ ⟨rdOf x (.pd cells), [(.s d, .av (.pd cells))]⟩ :=
  ⟨ok_nilCheck_pd (lt_of_blt hd) (ev_out hx).1, (ev_out hx).2⟩

end Go.AX

/-! R5 -/
/-
  Contracts of the program's Do and All of deeds one by one, and of the references' All.
-/
namespace Go.Proofs.YtembfadhnkabhaaGreatDoor
open Go.AX Go.RF Go.RowKit

set_option maxRecDepth 100000
set_option maxHeartbeats 8000000

theorem wrong_reads {d : Deed} (h : wrongDeed d = 0) : ∀ i ∈ d.code, i.kind = 1 → i.key ∈ d.reads := by
  intro i hi hk
  unfold wrongDeed at h
  by_cases h0 : lsGo [d.reads, d.writes] = 0
  · rw [if_pos h0] at h
    by_cases hc : 12 < d.code.length
    · rw [if_pos hc] at h; simp at h
    · rw [if_neg hc] at h
      obtain ⟨j, hj⟩ := List.getElem?_of_mem hi
      have h := codeGo_mem h j i hj
      unfold wrongIns at h
      rw [if_neg (show ¬ (i.kind < 1 ∨ 9 < i.kind) by omega)] at h
      have hh : has i.kind.toNat 107 = true := by rw [hk]; decide
      split at h
      · simp at h
      · simp only [hh, hk, Bool.true_eq_false, if_false, if_true] at h
        rw [if_neg (show ¬ has (Int.toNat 1) 107 = false by decide)] at h
        by_cases hi : isIn d.reads i.key = true
        · exact isIn_true hi
        · rw [if_neg hi] at h; simp at h
  · rw [if_neg h0] at h; exact absurd h h0

end Go.Proofs.YtembfadhnkabhaaGreatDoor
