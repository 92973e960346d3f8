/-
  Code, walked in the abstract state; a function's contract out of its body's walk.
-/
import Derived.Test.YtjlfjjigccedjaaAxCall
namespace Go.AX
open Go.RowKit

variable {cx : Cx} {g : Nat → Value} {σ σ' : St} {a : Act} {w : World} {nx : Nat}

def CW (cx : Cx) (c : Code) (Q : Exit → St → Prop) (σ : St) : Prop :=
  ∀ a w, Sim cx σ a w → c.wp cx.P (fun e a' w' => ∃ σ', Sim cx σ' a' w' ∧ Q e σ') a w

/-- A region's operations, from a state on. -/
def RW (cx : Cx) (ops : Array Oper) (K : List Tr → St → Prop) (acc : List Tr) (l : List Oper) (σ : St) : Prop :=
  ∃ ts σ', Steps' cx ops l σ ts σ' ∧ K (acc ++ ts) σ'

variable {ops : Array Oper} {K : List Tr → St → Prop} {acc : List Tr} {rest : List Oper} {o : Oper} {Q : Exit → St → Prop}

theorem RW.nil (h : K acc σ) : RW cx ops K acc [] σ := ⟨[], σ, .nil σ, by simpa using h⟩

/-- What an operation's guard leans on. -/
inductive GOk (ops : Array Oper) (σ : St) (o : Oper) : List (Key × Val) → Prop
  | none (h : o.guard = none) : GOk ops σ o []
  | yes {j d : Nat} {want : Bool} (h : o.guard = some (j, want)) (hj : (ops[j]?).bind (·.dst) = some d) (hb : get σ (.s d) = bv want) : GOk ops σ o [(.s d, bv want)]

theorem RW.step {t : Tr} {pre : List (Key × Val)} (hg : GOk ops σ o pre) (ho : OpOk cx o t) (ha : App σ t.rd)
    (h : RW cx ops K (acc ++ [⟨pre ++ t.rd, t.wr⟩]) rest (t.wr ++ σ)) : RW cx ops K acc (o :: rest) σ := by
  obtain ⟨ts, σ', h1, h2⟩ := h
  rw [List.append_assoc] at h2
  cases hg with
  | none hg => exact ⟨_, σ', .op hg ho ha h1, h2⟩
  | yes hg hj hb => exact ⟨_, σ', .yes hg hj hb ho ha h1, h2⟩

theorem RW.skip {j d : Nat} {want : Bool} (hg : o.guard = some (j, want)) (hj : (ops[j]?).bind (·.dst) = some d) (hb : get σ (.s d) = bv (!want))
    (hx : ∀ x, o.dst = some x → x < cx.n) (h : RW cx ops K (acc ++ [⟨[(.s d, bv (!want))], skipWr o⟩]) rest (skipWr o ++ σ)) : RW cx ops K acc (o :: rest) σ := by
  obtain ⟨ts, σ', h1, h2⟩ := h
  rw [List.append_assoc] at h2
  exact ⟨_, σ', .no hg hj hb hx h1, h2⟩

theorem RW.pre {t : Tr} {rest : List Oper} (hs : Stut cx t) (ha : App σ t.rd) (h : RW cx ops (fun ts σ' => match ts with
    | [] => False
    | t1 :: ts => K (acc ++ mrg t t1 :: ts) σ') [] (o :: rest) (t.wr ++ σ)) : RW cx ops K acc (o :: rest) σ := by
  obtain ⟨ts, σ', h1, h2⟩ := h
  cases ts with
  | nil => exact h2.elim
  | cons t1 ts => exact ⟨_, σ', .pre hs ha h1, h2⟩

theorem RW.pre0 {t : Tr} {rest : List Oper} {R : St → Prop} (hs : Stut cx t) (ha : App σ t.rd) (h : RW cx ops (fun _ σ' => R σ') acc (o :: rest) (t.wr ++ σ)) :
    RW cx ops (fun _ σ' => R σ') acc (o :: rest) σ := by
  obtain ⟨ts, σ', h1, h2⟩ := h
  cases ts with
  | nil => cases h1
  | cons t1 ts => exact ⟨_, σ', .pre hs ha h1, h2⟩

theorem CW.region {id : Nat} {l : List Oper} (h : RW cx l.toArray (fun _ σ' => Q .normal σ') [] l σ) : CW cx (.region id l.toArray false) Q σ := by
  obtain ⟨ts, σ', h1, h2⟩ := h
  intro a w hs
  exact wp_region_lit (wpList_of_steps h1 hs fun a' w' hs' => ⟨σ', hs', h2⟩)

theorem CW.draw {id : Nat} {l : List Oper} (h : RW cx l.toArray (fun ts σ' => chk [] [] l ts = true ∧ Q .normal σ') [] l σ) : CW cx (.region id l.toArray true) Q σ := by
  obtain ⟨ts, σ', h1, h2, h3⟩ := h
  intro a w hs
  exact wp_draw cx.mixed (ops := l.toArray) h1 (by simpa using fit_of_chk h2) hs fun a' w' hs' => ⟨σ', hs', h3⟩

def thenQ (cx : Cx) (y : Code) (Q : Exit → St → Prop) : Exit → St → Prop
  | .normal, σ => CW cx y Q σ
  | e, σ => Q e σ
def blockQ (id : Nat) (Q : Exit → St → Prop) : Exit → St → Prop
  | .exit j, σ => match Nat.beq j id with
    | true => Q .normal σ
    | false => Q (.exit j) σ
  | e, σ => Q e σ

theorem CW.seq {x y : Code} (h : CW cx x (thenQ cx y Q) σ) : CW cx (.seq x y) Q σ := by
  intro a w hs
  refine wp_seq (wp_mono (h a w hs) fun e a' w' he => ?_)
  obtain ⟨σ', h1, h2⟩ := he
  cases e with
  | normal => exact h2 a' w' h1
  | exit j => exact ⟨σ', h1, h2⟩
  | goto j => exact ⟨σ', h1, h2⟩
  | ret => exact ⟨σ', h1, h2⟩
  | panic c => exact ⟨σ', h1, h2⟩
  | outgrown => exact ⟨σ', h1, h2⟩

theorem CW.block {id : Nat} {c : Code} (h : CW cx c (blockQ id Q) σ) : CW cx (.block id c) Q σ := by
  intro a w hs
  refine wp_block (wp_mono (h a w hs) fun e a' w' he => ?_)
  obtain ⟨σ', h1, h2⟩ := he
  cases e with
  | exit j =>
    by_cases hj : j = id
    · subst hj
      simp only [Exit.inBlock, if_true]
      simp only [blockQ, Nat.beq_refl] at h2
      exact ⟨σ', h1, h2⟩
    · simp only [Exit.inBlock, if_neg hj]
      have : Nat.beq j id = false := by
        cases hb : Nat.beq j id
        · rfl
        · exact absurd (by simpa using hb) hj
      simp only [blockQ, this] at h2
      exact ⟨σ', h1, h2⟩
  | normal => exact ⟨σ', h1, h2⟩
  | goto j => exact ⟨σ', h1, h2⟩
  | ret => exact ⟨σ', h1, h2⟩
  | panic c => exact ⟨σ', h1, h2⟩
  | outgrown => exact ⟨σ', h1, h2⟩

theorem CW.skip (h : Q .normal σ) : CW cx .skip Q σ := fun _ _ hs => wp_skip ⟨σ, hs, h⟩
theorem CW.exit {id : Nat} (h : Q (.exit id) σ) : CW cx (.exit id) Q σ := fun _ _ hs => wp_exit ⟨σ, hs, h⟩
theorem CW.ret (h : Q .ret σ) : CW cx .ret Q σ := fun _ _ hs => wp_ret ⟨σ, hs, h⟩

theorem CW.cond {c : Operand} {x y : Code} {b : Bool} (hc : Go.AX.ev σ c = some (.d (.v (.bool b)))) (ht : b = true → CW cx x Q σ) (hf : b = false → CW cx y Q σ) : CW cx (.cond c x y) Q σ := by
  intro a w hs
  obtain ⟨h1, h2⟩ := ev_out hc
  have hs' := hs
  obtain ⟨g, nx, hg⟩ := hs'
  have hv := rep_v (hg.ev h1 h2).1
  exact wp_cond_split hv (fun h => ht h a w hs) (fun h => hf h a w hs)

theorem CW.less {c : Code} (h : CW cx c Q σ') (hl : Less σ σ') : CW cx c Q σ := fun a w hs => h a w (hs.less hl)

/-- Another step of the state's own, ahead of the code. -/
theorem CW.pre {c : Code} (h : CW cx c Q σ') (hl : ∀ a w, Sim cx σ a w → Sim cx σ' a w) : CW cx c Q σ := fun a w hs => h a w (hl a w hs)

def loopQ (S : Nat → St) (m k : Nat) (Q : Exit → St → Prop) : Exit → St → Prop
  | .normal, σ => k < m ∧ Less σ (S (k + 1))
  | e, σ => Q e σ

/-- A loop: the state at the head of its rounds, 0 to m; the m-th leaves it, at the latest. -/
theorem CW.loop {c : Code} (S : Nat → St) (m : Nat) (h0 : Less σ (S 0)) (hr : ∀ k, k ≤ m → CW cx c (loopQ S m k Q) (S k)) : CW cx (.loop c) Q σ := by
  intro a w hs
  have key : ∀ n k, k + n = m → ∀ a w, Sim cx (S k) a w → Code.rounds cx.P c (fun e a' w' => ∃ σ', Sim cx σ' a' w' ∧ Q e σ') (n + 1) a w := by
    intro n
    induction n with
    | zero =>
      intro k hk a w hs
      rw [rounds_succ]
      refine wp_mono (hr k (by omega) a w hs) fun e a' w' he => ?_
      obtain ⟨σ', h1, h2⟩ := he
      cases e with
      | normal => exact absurd h2.1 (by omega)
      | exit j => exact ⟨σ', h1, h2⟩
      | goto j => exact ⟨σ', h1, h2⟩
      | ret => exact ⟨σ', h1, h2⟩
      | panic c => exact ⟨σ', h1, h2⟩
      | outgrown => exact ⟨σ', h1, h2⟩
    | succ n ih =>
      intro k hk a w hs
      rw [rounds_succ]
      refine wp_mono (hr k (by omega) a w hs) fun e a' w' he => ?_
      obtain ⟨σ', h1, h2⟩ := he
      cases e with
      | normal => exact ih (k + 1) (by omega) a' w' (h1.less h2.2)
      | exit j => exact ⟨σ', h1, h2⟩
      | goto j => exact ⟨σ', h1, h2⟩
      | ret => exact ⟨σ', h1, h2⟩
      | panic c => exact ⟨σ', h1, h2⟩
      | outgrown => exact ⟨σ', h1, h2⟩
  exact wp_loop_rounds (m + 1) (key m 0 (by omega) a w (hs.less h0))

/-- What a slot holds, as data of the function's caller. -/
inductive ToD1 (σ : St) : AV → D → Prop
  | d {x y : D} (h : DLe x y) : ToD1 σ (.d x) y
  | own {id n e k : Nat} {rows : List (List D)} {y : D} (ho : get σ (.o id) = .ob (.arr e k rows)) (hn : n = rows.length) (h : DLe (.sl k rows) y) : ToD1 σ (.own id n) y
inductive ToDs (σ : St) : List AV → List D → Prop
  | nil : ToDs σ [] []
  | cons {av : AV} {avs : List AV} {x : D} {xs : List D} (h : ToD1 σ av x) (hr : ToDs σ avs xs) : ToDs σ (av :: avs) (x :: xs)
inductive ToD (σ : St) : AV → D → Prop
  | one {av : AV} {x : D} (h : ToD1 σ av x) : ToD σ av x
  | aggd {cells : List AV} {ds : List D} {x : D} (h : cells = ds.map AV.d) (hl : DLe (.agg ds) x) : ToD σ (.agg cells) x
  | agg {cells : List AV} {ds : List D} (h : ToDs σ cells ds) : ToD σ (.agg cells) (.agg ds)

theorem rd_own (hs : SimG cx σ a w g nx) {id e k : Nat} {rows : List (List D)} (ho : get σ (.o id) = .ob (.arr e k rows)) : Rd w cx.own0 (g id) (.sl k rows) := by
  obtain ⟨_, ⟨xs, h1, h2, h3, h4⟩, _⟩ := hs.objs id _ ho
  rcases h1.2 with ⟨hv, hn⟩ | ⟨b, cap, cur, hv, hb, hh, hle, hcm, hsz, htk⟩
  · obtain rfl : rows = [] := List.eq_nil_of_length_eq_zero hn
    rw [hv]; exact .nil none 0 k
  · rw [hv]
    have hlt : b < w.heap.size := by
      rcases Nat.lt_or_ge b w.heap.size with h | h
      · exact h
      · rw [Array.getElem?_eq_none h] at hh; cases hh
    have hx : ∀ i j r d, rows[i]? = some r → r[j]? = some d → ∃ x, xs[i * k + j]? = some x ∧ w.cell? ((⟨b, 0, none⟩ : Addr).add (i * k + j)) = some x := by
      intro i j r d hi hj
      have hil := (List.getElem?_eq_some_iff.1 hi).1
      have hjl : j < k := by rw [← h3 r (List.mem_of_getElem? hi)]; exact (List.getElem?_eq_some_iff.1 hj).1
      have hlen : i * k + j < xs.length := by
        rw [h1.1]
        have h5 : (i + 1) * k ≤ rows.length * k := Nat.mul_le_mul_right _ hil
        rw [Nat.add_mul, Nat.one_mul] at h5
        omega
      exact ⟨xs[i * k + j], List.getElem?_eq_getElem hlen, h1.cells (g := b) (by rw [hv]; rfl) _ _ (List.getElem?_eq_getElem hlen)⟩
    refine .sl ⟨b, 0, none⟩ cap k rows (fun i j => xs.getD (i * k + j) undef) (fun h0 => ?_) hlt hle h3 (fun i j r d hi hj => ?_) (fun i j r d hi hj => ?_) fun i j r d hi hj => ?_
    · have h6 := hs.own0 b h0
      omega
    · obtain ⟨x, h5, h6⟩ := hx i j r d hi hj
      rw [h6]; simp [h5]
    · obtain ⟨x, h5, h6⟩ := hx i j r d hi hj
      simp only [List.getD_eq_getElem?_getD, h5, Option.getD_some]
      exact h2 x (List.mem_of_getElem? h5)
    · obtain ⟨x, h5, h6⟩ := hx i j r d hi hj
      simp only [List.getD_eq_getElem?_getD, h5, Option.getD_some]
      exact (h4 i j r d x hi hj h5).less fun b hb => .inl hb

theorem ToD1.ok (hs : SimG cx σ a w g nx) {av : AV} {x : D} (h : ToD1 σ av x) {v : Value} (hr : Rep1 cx g σ w v av) : Rd w cx.own0 v x := by
  cases h with
  | d h => exact Rd.le h (Rd.less (fun b hb => .inl hb) hr)
  | own ho hn h =>
    rw [(hr _ _ _ ho).2 hn]
    exact Rd.le h (rd_own hs ho)

theorem ToDs.ok (hs : SimG cx σ a w g nx) {avs : List AV} {xs : List D} (h : ToDs σ avs xs) : avs.length = xs.length ∧
    ∀ (j : Nat) (c : Value) (av : AV) (x : D), avs[j]? = some av → xs[j]? = some x → Rep1 cx g σ w c av → Rd w cx.own0 c x := by
  induction h with
  | nil => exact ⟨rfl, fun j c av x h => by simp at h⟩
  | cons h hr ih =>
    refine ⟨by simp [ih.1], fun j c av x hj hx hrep => ?_⟩
    cases j with
    | zero =>
      simp at hj hx
      subst hj hx
      exact h.ok hs hrep
    | succ j => exact ih.2 j c av x (by simpa using hj) (by simpa using hx) hrep

theorem ToD.ok (hs : SimG cx σ a w g nx) {av : AV} {x : D} (h : ToD σ av x) {v : Value} (hr : Rep cx g σ w v av) : Rd w cx.own0 v x := by
  cases h with
  | one h =>
    refine h.ok hs ?_
    cases h <;> exact hr
  | aggd h hl =>
    subst h
    obtain ⟨cs, rfl, h1, h2, h3⟩ := hr
    refine Rd.le hl (.agg cs _ (by simpa using h1) h2 fun j z c hz hc => ?_)
    exact Rd.less (fun b hb => .inl hb) (h3 j c (.d z) (by rw [List.getElem?_map, hz]; rfl) hc)
  | @agg cells ds h =>
    obtain ⟨cs, rfl, h1, h2, h3⟩ := hr
    obtain ⟨h4, h5⟩ := h.ok hs
    refine .agg cs _ (by omega) h2 fun j z c hz hc => ?_
    obtain ⟨av, hav⟩ := get_pair (a := cells) h4 hz
    exact h5 j c av z hav hz (h3 j c av hav hc)

end Go.AX
