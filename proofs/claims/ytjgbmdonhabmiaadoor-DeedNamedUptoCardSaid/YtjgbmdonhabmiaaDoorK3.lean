/-
  Part 3 of what the claim leans on: Rn R2 F15 F16 F19 F20 P1 P4 P5 AxNews AxApp G15 ShTrim R3 G20 G21 R4 R5 F4 AxBld AxW P8 L9.
-/
import Derived.Test.YtjgbmdonhabmiaaDoorK2
import Derived.Lib.SlTrimSet
import Derived.Shelf.Strings.SlTrimAscii
import Derived.Test.YtjgbmdonhabmiaaDoorProg

/-! Rn -/
/-
  What the program's Run of a deed computes, on data.
-/
namespace Go.RF
open Go.AX

abbrev Mk := List (Str × (Bool × Int))
def mG : Mk → Str → Option (Bool × Int)
  | [], _ => none
  | (s, c) :: r, k => if s = k then some c else mG r k
def mS : Mk → Str → Bool × Int → Mk
  | [], k, c => [(k, c)]
  | (s, u) :: r, k, c => if s = k then (s, c) :: r else (s, u) :: mS r k c
def chV (c : Bool × Int) : List Value := [.bool c.1, .int .i64 c.2]
def chA (c : Bool × Int) : Value := .agg (chV c).toArray
def encM (m : Mk) : List (Str × Value) := m.map fun p => (p.1, chA p.2)
theorem mget_enc (m : Mk) (k : Str) : mget (encM m) k = (mG m k).map chA := by
  induction m with
  | nil => rfl
  | cons p m ih =>
    obtain ⟨s, c⟩ := p
    simp only [encM, List.map_cons, mget, mG]
    by_cases h : s = k
    · rw [if_pos h, if_pos h]; rfl
    · rw [if_neg h, if_neg h]; exact ih
theorem mset_enc (m : Mk) (k : Str) (c : Bool × Int) : mset (encM m) k (chA c) = encM (mS m k c) := by
  induction m with
  | nil => rfl
  | cons p m ih =>
    obtain ⟨s, u⟩ := p
    simp only [encM, List.map_cons, mset, mS]
    by_cases h : s = k
    · rw [if_pos h, if_pos h]; rfl
    · rw [if_neg h, if_neg h]
      show (s, chA u) :: mset (encM m) k (chA c) = _
      rw [ih]; rfl
theorem encM_one (m : Mk) : ∀ p ∈ encM m, flat p.2 := by
  intro p hp
  obtain ⟨q, _, rfl⟩ := List.mem_map.1 hp
  intro u hu
  simp [chV] at hu
  rcases hu with rfl | rfl <;> rfl
theorem mG_mS (m : Mk) (k k' : Str) (c : Bool × Int) : mG (mS m k c) k' = if k = k' then some c else mG m k' := by
  induction m with
  | nil => simp [mS, mG]
  | cons p m ih =>
    obtain ⟨s, u⟩ := p
    simp only [mS]
    by_cases hs : s = k
    · rw [if_pos hs]
      simp only [mG]
      by_cases h : k = k'
      · simp [hs, h]
      · rw [if_neg (by rw [hs]; exact h), if_neg h, if_neg (by rw [hs]; exact h)]
    · rw [if_neg hs]
      simp only [mG, ih]
      by_cases h : s = k'
      · rw [if_pos h, if_neg (fun e => hs (by rw [h, e])), if_pos h]
      · rw [if_neg h, if_neg h]

def seeM (view : Str → Int × Bool) (m : Mk) (k : Str) : Int := match mG m k with
  | some c => c.2
  | none => (view k).1

/-- A deed's instructions, one by one: what keys have been given, the registers. -/
def runGo (view : Str → Int × Bool) : Int → Mk → Done → List Ins → Mk × Done
  | _, m, e, [] => (m, e)
  | sk, m, e, i :: r =>
    if 0 < sk then runGo view (sk - 1) m e r
    else if i.kind = 1 then runGo view sk m (rset e i.a.toNat (seeM view m i.key)) r
    else if i.kind = 2 then runGo view sk m (rset e i.a.toNat i.n) r
    else if i.kind = 3 then runGo view sk m (rset e i.a.toNat (round (rget e i.a.toNat + rget e i.b.toNat))) r
    else if i.kind = 4 then runGo view sk m (rset e i.a.toNat (round (rget e i.a.toNat - rget e i.b.toNat))) r
    else if i.kind = 5 then runGo view sk m (rset e i.a.toNat (round (rget e i.a.toNat * rget e i.b.toNat))) r
    else if i.kind = 6 then runGo view sk (mS m i.key (true, rget e i.a.toNat)) e r
    else if i.kind = 7 then runGo view sk (mS m i.key (false, 0)) e r
    else if i.kind = 8 then runGo view (if rget e i.a.toNat < 1 then i.n else sk) m e r
    else if rget e i.a.toNat < 0 then (m, bustE e) else runGo view sk m e r
theorem runGo_skip (view : Str → Int × Bool) (m : Mk) (e : Done) : ∀ (n : Nat) (l : List Ins), runGo view n m e l = runGo view 0 m e (l.drop n)
  | 0, l => rfl
  | n + 1, [] => by simp [runGo]
  | n + 1, i :: l => by
    simp only [runGo]
    rw [if_pos (by omega), show (((n + 1 : Nat) : Int) - 1) = (n : Int) by omega, runGo_skip view m e n l, List.drop_succ_cons]
def chg (m : Mk) : List Str → List (Str × (Bool × Int))
  | [] => []
  | k :: r => match mG m k with
    | some c => (k, c) :: chg m r
    | none => chg m r
def runM (view : Str → Int × Bool) (d : Deed) : Mk × Done := runGo view 0 [] done0 d.code
def runC (view : Str → Int × Bool) (d : Deed) : List (Str × (Bool × Int)) := if (runM view d).2.failed = true then [] else chg (runM view d).1 d.writes
def chVer (c : Str × (Bool × Int)) : Version := ⟨0, true, c.2.1, c.2.2⟩
def runRes (view : Str → Int × Bool) (d : Deed) : List D := [.agg (runM view d).2.enc, encVs ((runC view d).map chVer), encStrs ((runC view d).map (·.1))]

theorem chg_len (m : Mk) : ∀ l : List Str, (chg m l).length ≤ l.length
  | [] => by simp [chg]
  | k :: r => by
    have := chg_len m r
    simp only [chg]
    split <;> simp <;> omega
def mOk (m : Mk) : Prop := ∀ k c, mG m k = some c → nOk c.2
theorem mOk_nil : mOk [] := by intro k c h; cases h
theorem mOk_set {m : Mk} (h : mOk m) (k : Str) {c : Bool × Int} (hc : nOk c.2) : mOk (mS m k c) := by
  intro k' c' h'
  rw [mG_mS] at h'
  split at h'
  · cases h'; exact hc
  · exact h k' c' h'
theorem see_ok {view : Str → Int × Bool} {m : Mk} {k : Str} (hv : nOk (view k).1) (hm : mOk m) : nOk (seeM view m k) := by
  unfold seeM
  split
  · next c h => exact hm k c h
  · exact hv

end Go.RF

/-! R2 -/
/-
  Contracts of the program's Get, Put, Drop and Round of rows.
-/
namespace Go.Proofs.YtjgbmdonhabmiaaDoor
open Go.AX Go.RF Go.RowKit

set_option maxRecDepth 100000
set_option maxHeartbeats 8000000

/-! ### Rows in order: what a key has, given, taken -/
/-! ### The walks -/
theorem ok_pround (n : Int) (hn : inI n) : FnOk Tryd.prog 27 [.d (dint n)] (.one (dint (round n))) := by
  refine fnOk_of tbl_ok mixed_ok Tryd.func27 rfl (by kernel_rfl) rfl rfl fun w0 own0 => ?_
  repeat (first | ((with_reducible apply s1); exact rfl) | (with_reducible first | apply CW.seq | apply CW.block | apply CW.region | apply CW.draw | apply CW.skip | apply CW.exit | apply CW.ret | apply q_then | apply q_then_exit | apply q_then_ret | apply q_block | apply q_block_ret | apply q_block_hit | apply q_ret | apply q_end | apply q_loop_exit | apply q_loop_ret | apply q_loopT_exit | apply q_loopT_ret | apply RW.nil) | ((with_reducible apply s3); exact rfl; exact by_k) | ((with_reducible apply s2); exact rfl; exact by_k) | ((with_reducible apply s4); exact rfl) | ((with_reducible apply s5); (first | ((with_reducible apply a_bin); (iterate 2 exact rfl); exact bin_rem (by omega); exact rfl) | exact by_oa); exact by_g) | ((with_reducible apply CW.cond_t); exact rfl; exact by_ks) | ((with_reducible apply CW.cond_f); exact rfl; exact by_ks) | ((with_reducible apply q_block_miss); exact rfl) | (refine And.intro (show chk [] [] _ _ = true by kernel_rfl) ?_))
  refine .one (.tmp rfl (.one (.d (dle_eq ?_))))
  have h1 : n.tdiv 1073741825 * 1073741825 + n.tmod 1073741825 = n := Int.tdiv_mul_add_tmod n 1073741825
  show dint _ = dint _
  congr 1
  unfold round
  omega

end Go.Proofs.YtjgbmdonhabmiaaDoor

/-! F15 -/
/-
  Contracts of the references' Keys, Needs, Ready.
-/
namespace Go.Proofs.YtjgbmdonhabmiaaDoor
open Go.AX Go.RF

set_option maxRecDepth 100000
set_option maxHeartbeats 4000000

def orIn (h : Bool) (l : List Str) (s : Str) : Bool := match l with
  | [] => h
  | x :: l => orIn (h || decide (x = s)) l s
theorem orIn_eq : ∀ {l : List Str} {h : Bool} {s : Str}, orIn h l s = (h || isIn l s)
  | [], h, s => by simp [orIn, isIn]
  | x :: l, h, s => by
    simp only [orIn, orIn_eq (l := l), isIn]
    by_cases e : x = s <;> simp [e]

end Go.Proofs.YtjgbmdonhabmiaaDoor

/-! F16 -/
/-
  Contracts of the references' Do and All.
-/
namespace Go.Proofs.YtjgbmdonhabmiaaDoor
open Go.AX Go.RF

set_option maxRecDepth 100000
set_option maxHeartbeats 8000000

theorem ld_reg (e : Done) {A : Nat} (h : A < 4) {ti : TI} (hk : ti.kind = .int .i64) : ldA ti ((e.enc.map AV.d).drop (1 + A * 1)) = some (.d (dint (rget e A))) := by
  have : A = 0 ∨ A = 1 ∨ A = 2 ∨ A = 3 := by omega
  rcases this with rfl | rfl | rfl | rfl <;> simp [ldA, hk, Done.enc, rget]
theorem st_reg (e : Done) {A : Nat} (h : A < 4) (x : Int) : putCells (e.enc.map AV.d) (1 + A * 1) [.d (dint x)] = (rset e A x).enc.map AV.d := by
  have : A = 0 ∨ A = 1 ∨ A = 2 ∨ A = 3 := by omega
  rcases this with rfl | rfl | rfl | rfl <;> rfl
theorem fit_reg (e : Done) {A : Nat} (h : A < 4) : Nat.ble ((1 + A * 1) + 1) (e.enc.map AV.d).length = true := by
  simp [Done.enc]; omega

theorem mul_bound {a b : Int} (ha : -1073741824 ≤ a ∧ a ≤ 1073741824) (hb : -1073741824 ≤ b ∧ b ≤ 1073741824) : -1152921504606846976 ≤ a * b ∧ a * b ≤ 1152921504606846976 := by
  have h1 : (a * b).natAbs ≤ 1073741824 * 1073741824 := by
    rw [Int.natAbs_mul]
    exact Nat.mul_le_mul (by omega) (by omega)
  omega

end Go.Proofs.YtjgbmdonhabmiaaDoor

/-! F19 -/
/-
  Contract of the references' Go of engines.
-/
namespace Go.Proofs.YtjgbmdonhabmiaaDoor
open Go.AX Go.RF

set_option maxRecDepth 100000
set_option maxHeartbeats 8000000

/-- Deeds that may be done. -/
structure Deed.Ok (d : Deed) : Prop where
  i : ∀ i ∈ d.code, i.Ok
  r : d.reads.length ≤ 5
  w : d.writes.length ≤ 5
  c : d.code.length ≤ 12
def chOk (l : List Chain) : Prop := ∀ c ∈ l, ∀ v ∈ c.vs, nOk v.n

end Go.Proofs.YtjgbmdonhabmiaaDoor

/-! F20 -/
/-
  Engines as they are built: what holds of them; plain facts.
-/
namespace Go.Proofs.YtjgbmdonhabmiaaDoor
open Go.AX Go.RF

structure EInv (e : Engine) (N : Nat) : Prop where
  z : Engine.Sz e N
  o : ∀ d ∈ e.deeds, Deed.Ok d
  c : chOk e.chains

theorem EInv.mono {e : Engine} {N M : Nat} (h : EInv e N) (hm : N ≤ M) : EInv e M := by
  obtain ⟨hz, ho, hc⟩ := h
  refine ⟨⟨by have := hz.c; omega, fun c hc => by have := hz.v c hc; omega, by have := hz.d; omega, hz.s, hz.n, by have := hz.b; omega, hz.dd⟩, ho, hc⟩

theorem codeGo_mem {d : Deed} : ∀ {l : List Ins} {k : Nat}, codeGo d k l = 0 → ∀ j i, l[j]? = some i → wrongIns d ((d.code.length : Int) - 1 - ((k + j : Nat) : Int)) i = 0
  | [], k, _, j, i, hj => by simp at hj
  | x :: l, k, h, j, i, hj => by
    simp only [codeGo] at h
    by_cases h0 : wrongIns d ((d.code.length : Int) - 1 - k) x = 0
    · rw [if_pos h0] at h
      cases j with
      | zero => simp at hj; subst hj; simpa using h0
      | succ j =>
        have := codeGo_mem h j i (by simpa using hj)
        rw [show k + (j + 1) = k + 1 + j by omega]
        exact this
    · rw [if_neg h0] at h; exact absurd h h0

theorem has_ins {k : Int} (h : 1 ≤ k ∧ k ≤ 9) : insA k.toNat ≤ 3 ∧ insB k.toNat ≤ 3 := by
  unfold insA insB
  constructor <;> split <;> omega

theorem wrongIns_ok {d : Deed} {m : Int} (hm : m ≤ 11) {i : Ins} (h : wrongIns d m i = 0) : i.Ok := by
  unfold wrongIns at h
  by_cases hk : i.kind < 1 ∨ 9 < i.kind
  · rw [if_pos hk] at h; simp at h
  rw [if_neg hk] at h
  by_cases ho : insOut i.kind.toNat i.a i.b i.n m = true
  · rw [if_pos ho] at h; simp at h
  have hkk : 1 ≤ i.kind ∧ i.kind ≤ 9 := by omega
  have hs := has_ins hkk
  simp only [insOut, Bool.or_eq_true, decide_eq_true_eq, not_or] at ho
  obtain ⟨h1, h2, h3, h4, h5, h6⟩ := ho
  refine ⟨hkk, by omega, by omega, fun hc => ?_, fun hc => ?_⟩
  · rw [hc] at h5 h6
    simp [insLow, insHigh] at h5 h6
    unfold nOk; omega
  · rw [hc] at h5 h6
    simp [insLow, insHigh] at h5 h6
    omega

theorem wrongDeed_ok {d : Deed} (h : wrongDeed d = 0) : Deed.Ok d := by
  obtain ⟨h1, h2, h3⟩ := wrong_writes h
  refine ⟨fun i hi => ?_, h1, h2, h3⟩
  unfold wrongDeed at h
  by_cases h0 : lsGo [d.reads, d.writes] = 0
  · rw [if_pos h0] at h
    by_cases hc : 12 < d.code.length
    · rw [if_pos hc] at h; simp at h
    · rw [if_neg hc] at h
      obtain ⟨j, hj⟩ := List.getElem?_of_mem hi
      exact wrongIns_ok (by omega) (codeGo_mem h j i hj)
  · rw [if_neg h0] at h; exact absurd h h0

end Go.Proofs.YtjgbmdonhabmiaaDoor

/-! P1 -/
/-
  Engines as they are built have chains in order, and versions in order: plain facts; what forgetting comes to.
-/
namespace Go.Proofs.YtjgbmdonhabmiaaDoor
open Go.AX Go.RF

def VSrt (l : List Version) : Prop := l.Pairwise fun a b => a.by_ < b.by_
theorem VSrt.cons {v : Version} {l : List Version} : VSrt (v :: l) ↔ (∀ w ∈ l, v.by_ < w.by_) ∧ VSrt l := List.pairwise_cons

theorem allB_refl {α : Type} {f : α → α → Bool} (hf : ∀ a, f a a = true) : ∀ l : List α, allB f l l = true
  | [] => rfl
  | a :: l => by simp [allB, hf, allB_refl hf l]
/-! ### Rows that are right -/
theorem wrongRowsGo_srt : ∀ {l : List Pair} {i : Nat} {last : Str}, wrongRowsGo (i + 1) last l = 0 → (∀ p ∈ l, slt last p.key = true ∧ key p.key = true ∧ nOk p.n) ∧ Srt Pair.key l
  | [], i, last, _ => ⟨by simp, List.Pairwise.nil⟩
  | p :: l, i, last, h => by
    simp only [wrongRowsGo] at h
    by_cases h1 : key p.key = false
    · rw [if_pos h1] at h; simp at h
    rw [if_neg h1] at h
    by_cases h2 : 0 < i + 1 ∧ sle p.key last = true
    · rw [if_pos h2] at h; simp at h
    rw [if_neg h2] at h
    by_cases h3 : 1073741824 < p.n ∨ p.n < -1073741824
    · rw [if_pos h3] at h; simp at h
    rw [if_neg h3] at h
    obtain ⟨h4, h5⟩ := wrongRowsGo_srt h
    have h6 : slt last p.key = true := by
      have h7 : ¬ sle p.key last = true := fun e => h2 ⟨by omega, e⟩
      simp only [sle, Bool.or_eq_true, decide_eq_true_eq, not_or] at h7
      rcases slt_tri last p.key with h | h | h
      · exact h
      · exact absurd h.symm h7.2
      · exact absurd h h7.1
    refine ⟨fun q hq => ?_, List.pairwise_cons.2 ⟨fun q hq => (h4 q hq).1, h5⟩⟩
    rcases List.mem_cons.1 hq with rfl | hq
    · exact ⟨h6, by simpa using h1, by unfold nOk; omega⟩
    · exact ⟨slt_trans h6 (h4 q hq).1, (h4 q hq).2⟩
theorem wrongRows_srt {l : List Pair} (h : wrongRows l = 0) : Srt Pair.key l ∧ (∀ p ∈ l, key p.key = true) ∧ rowsOk l := by
  cases l with
  | nil => exact ⟨List.Pairwise.nil, by simp, by simp [rowsOk]⟩
  | cons p l =>
    simp only [wrongRows, wrongRowsGo] at h
    by_cases h1 : key p.key = false
    · rw [if_pos h1] at h; simp at h
    rw [if_neg h1, if_neg (by simp)] at h
    by_cases h3 : 1073741824 < p.n ∨ p.n < -1073741824
    · rw [if_pos h3] at h; simp at h
    rw [if_neg h3] at h
    obtain ⟨h4, h5⟩ := wrongRowsGo_srt h
    refine ⟨List.pairwise_cons.2 ⟨fun q hq => (h4 q hq).1, h5⟩, fun q hq => ?_, fun q hq => ?_⟩
    · rcases List.mem_cons.1 hq with rfl | hq
      · simpa using h1
      · exact (h4 q hq).2.1
    · rcases List.mem_cons.1 hq with rfl | hq
      · unfold nOk; omega
      · exact (h4 q hq).2.2

/-! ### A version more, in order -/
/-! ### Engines -/
theorem isIn_false {s : Str} : ∀ {l : List Str}, isIn l s = false → s ∉ l
  | [], _, h => by simp at h
  | x :: l, h, hm => by
    simp only [isIn] at h
    by_cases hx : x = s
    · rw [if_pos hx] at h; cases h
    · rw [if_neg hx] at h
      rcases List.mem_cons.1 hm with rfl | hm
      · exact hx rfl
      · exact isIn_false h hm
theorem keysGo_nodup {l : List Str} : ∀ {r : List Str} {i : Nat}, l.drop i = r → (l.take i).Nodup → keysGo l i r = 0 → l.Nodup ∧ ∀ k ∈ r, key k = true
  | [], i, hr, hn, _ => by
    have : l.length ≤ i := by simpa using hr
    rw [List.take_of_length_le this] at hn
    exact ⟨hn, by simp⟩
  | k :: r, i, hr, hn, h => by
    simp only [keysGo] at h
    by_cases h1 : key k = false
    · rw [if_pos h1] at h; simp at h
    rw [if_neg h1] at h
    by_cases h2 : isIn (l.take i) k = true
    · rw [if_pos h2] at h; simp at h
    rw [if_neg h2] at h
    have hk : l[i]? = some k := by
      have : (l.drop i)[0]? = some k := by rw [hr]; rfl
      simpa using this
    have h3 : l.take (i + 1) = l.take i ++ [k] := by rw [List.take_add_one, hk]; rfl
    have hni : k ∉ l.take i := isIn_false (by simpa using h2)
    have := keysGo_nodup (l := l) (r := r) (i := i + 1) (by rw [← List.drop_drop, hr]; rfl) (by
      rw [h3]
      refine List.nodup_append.2 ⟨hn, by simp, fun a ha b hb => ?_⟩
      simp at hb; subst hb
      exact fun e => hni (e ▸ ha)) h
    exact ⟨this.1, fun x hx => by
      rcases List.mem_cons.1 hx with rfl | hx
      · simpa using h1
      · exact this.2 x hx⟩
theorem keysWrong_nodup {l : List Str} (h : keysWrong l = 0) : l.Nodup ∧ (∀ k ∈ l, key k = true) ∧ l.length ≤ 5 := by
  unfold keysWrong at h
  by_cases h1 : 5 < l.length
  · rw [if_pos h1] at h; simp at h
  · rw [if_neg h1] at h
    have := keysGo_nodup (l := l) (r := l) (i := 0) rfl (by simp) h
    exact ⟨this.1, this.2, by omega⟩
theorem wrong_keys {d : Deed} (h : wrongDeed d = 0) : d.reads.Nodup ∧ d.writes.Nodup := by
  unfold wrongDeed at h
  by_cases h0 : lsGo [d.reads, d.writes] = 0
  · simp only [lsGo] at h0
    by_cases h1 : keysWrong d.reads = 0
    · rw [if_pos h1] at h0
      by_cases h2 : keysWrong d.writes = 0
      · exact ⟨(keysWrong_nodup h1).1, (keysWrong_nodup h2).1⟩
      · rw [if_neg h2] at h0; exact absurd h0 h2
    · rw [if_neg h1] at h0; exact absurd h0 h1
  · rw [if_neg h0] at h; exact absurd h h0

end Go.Proofs.YtjgbmdonhabmiaaDoor

/-! P4 -/
/-
  Rows given and taken: plain laws. Keys by Trim.
-/
namespace Go.Proofs.YtjgbmdonhabmiaaDoor
open Go.AX Go.RF

/-! ### What a key has, behind -/
/-! ### In order, and the same members: the same -/
/-! ### Right rows stay right -/
/-! ### Keys, by Trim -/
def alpha : List UInt8 := [97, 98, 99, 100, 101, 102, 103, 104, 105, 106, 107, 108, 109, 110, 111, 112, 113, 114, 115, 116, 117, 118, 119, 120, 121, 122]
theorem alpha_bad (c : UInt8) : alpha.contains c = !bad c := by
  have h : ∀ n : Fin 256, alpha.contains (UInt8.ofFin n) = !bad (UInt8.ofFin n) := by decide +kernel
  have := h c.toFin
  rwa [UInt8.ofFin_toFin] at this
theorem dropWhile_nil {p : UInt8 → Bool} : ∀ {l : List UInt8}, l.dropWhile p = [] ↔ ∀ x ∈ l, p x = true
  | [] => by simp
  | x :: l => by
    cases h : p x with
    | true => rw [List.dropWhile_cons_of_pos h, dropWhile_nil]; simp [h]
    | false => rw [List.dropWhile_cons_of_neg (by simp [h])]; simp [h]
theorem dropWhile_head {p : UInt8 → Bool} : ∀ {l r : List UInt8} {x : UInt8}, l.dropWhile p = x :: r → p x = false
  | [], r, x, h => by simp at h
  | y :: l, r, x, h => by
    cases hy : p y with
    | true => rw [List.dropWhile_cons_of_pos hy] at h; exact dropWhile_head h
    | false => rw [List.dropWhile_cons_of_neg (by simp [hy])] at h; cases h; exact hy
theorem trim_nil {l cs : List UInt8} : Lib.trimS l cs = [] ↔ ∀ x ∈ l, cs.contains x = true := by
  unfold Lib.trimS Lib.trimLeftS Lib.trimRightS
  rw [dropWhile_nil]
  constructor
  · intro h
    have h1 : l.reverse.dropWhile (cs.contains ·) = [] := by
      cases h2 : l.reverse.dropWhile (cs.contains ·) with
      | nil => rfl
      | cons x r =>
        have h3 := dropWhile_head h2
        have h4 := h x (by rw [h2]; simp)
        rw [h3] at h4; cases h4
    intro x hx
    exact dropWhile_nil.1 h1 x (by simpa using hx)
  · intro h x hx
    have h1 : l.reverse.dropWhile (cs.contains ·) = [] := dropWhile_nil.2 fun x hx => h x (by simpa using hx)
    rw [h1] at hx; simp at hx
theorem keyGo_eq {s : Str} : ∀ {r : Str}, keyGo s r = ((r.all fun c => !bad c) && (decide (0 < s.length) && decide (s.length < 7)))
  | [] => by simp [keyGo]
  | c :: r => by
    simp only [keyGo, List.all_cons]
    rw [keyGo_eq]
    cases bad c <;> simp
theorem key_trim (s : Str) : key s = (decide (1 ≤ s.length) && (decide (s.length ≤ 6) && decide (Lib.trimS s alpha = []))) := by
  unfold key
  rw [keyGo_eq]
  have h1 : (s.all fun c => !bad c) = decide (Lib.trimS s alpha = []) := by
    rw [Bool.eq_iff_iff, decide_eq_true_eq, trim_nil, List.all_eq_true]
    simp only [alpha_bad]
  rw [h1]
  have h2 : decide (0 < s.length) = decide (1 ≤ s.length) := by congr 1
  have h3 : decide (s.length < 7) = decide (s.length ≤ 6) := by congr 1; exact propext ⟨fun h => by omega, fun h => by omega⟩
  rw [h2, h3]
  cases decide (Lib.trimS s alpha = []) <;> cases decide (1 ≤ s.length) <;> cases decide (s.length ≤ 6) <;> rfl
end Go.Proofs.YtjgbmdonhabmiaaDoor

/-! P5 -/
/-
  The program's way of doing a deed comes to the references'.
-/
namespace Go.Proofs.YtjgbmdonhabmiaaDoor
open Go.AX Go.RF

/-! ### What has been made, given to rows -/
theorem isIn_true {s : Str} : ∀ {l : List Str}, isIn l s = true → s ∈ l
  | [], h => by cases h
  | x :: l, h => by
    simp only [isIn] at h
    by_cases hx : x = s
    · rw [hx]; exact List.mem_cons_self ..
    · rw [if_neg hx] at h
      exact List.mem_cons_of_mem _ (isIn_true h)
theorem runGo_congr {v v' : Str → Int × Bool} : ∀ {l : List Ins} {sk : Int} {m : Mk} {e : Done}, (∀ i ∈ l, i.kind = 1 → (v i.key).1 = (v' i.key).1) → runGo v sk m e l = runGo v' sk m e l
  | [], sk, m, e, _ => rfl
  | i :: l, sk, m, e, h => by
    have ih := fun {sk : Int} {m : Mk} {e : Done} => runGo_congr (v := v) (v' := v') (l := l) (sk := sk) (m := m) (e := e) fun j hj => h j (List.mem_cons_of_mem _ hj)
    have hs : i.kind = 1 → seeM v m i.key = seeM v' m i.key := fun hk => by
      unfold seeM
      split
      · rfl
      · exact h i (List.mem_cons_self ..) hk
    simp only [runGo, ih]
    by_cases hk : i.kind = 1
    · rw [hs hk]
    · simp only [if_neg hk]

end Go.Proofs.YtjgbmdonhabmiaaDoor

/-! AxNews -/
/-
  Functions whose result is a struct of slices of the caller's own, and of data.
-/
namespace Go.AX
open Go.RowKit

variable {cx : Cx} {g : Nat → Value} {σ σ' : St} {a : Act} {w w' : World} {nx : Nat} {c : Code} {Q : Exit → St → Prop}
variable {ty : TypeId} {pos : String} {af : Array Edge} {gd : Option (Nat × Bool)} {d : Nat}

/-- What a cell of the result is: data, or a slice that is the caller's own. -/
inductive Part where
  | d (x : D)
  | own (e k : Nat) (rows : List (List D))
def withL (own : Nat → Prop) (ps : List Part) (cs : Array Value) : Nat → Prop := fun b => own b ∨ ∃ j e k rows, ps[j]? = some (.own e k rows) ∧ blk (cs.getD j undef) = some b

structure PartsAt (w : World) (base : Nat) (own : Nat → Prop) (ps : List Part) (cs : Array Value) : Prop where
  size : cs.size = ps.length
  one : ∀ (j : Nat) (c : Value), cs[j]? = some c → c.oneCell' = true
  data : ∀ j x, ps[j]? = some (.d x) → Rd w (withL own ps cs) (cs.getD j undef) x
  rows : ∀ j e k rows, ps[j]? = some (.own e k rows) → RowsAt w base (withL own ps cs) e k (cs.getD j undef) rows
  sep : ∀ j j' e k rows e' k' rows' b, ps[j]? = some (.own e k rows) → ps[j']? = some (.own e' k' rows') → blk (cs.getD j undef) = some b → blk (cs.getD j' undef) = some b → j = j'

structure FnNews (P : Program) (f : FuncId) (args : List Arg) (ps : List Part) : Prop where
  run : ∃ fn, P.funcs[f]? = some fn ∧ (fn.name == "runtime.NumGoroutine") = false ∧ fn.body.isNone = false
  calls : ∀ (w : World) (own : Nat → Prop) (vs : List Value), (∀ b, own b → b < w.heap.size) → ArgsOk w own vs args →
    Calls P f vs.toArray w fun r w' => ∃ cs, r = .returned (.agg cs) ∧ Below w.heap.size w w' ∧ PartsAt w' w.heap.size own ps cs

/-- As the state has it, told as a part. -/
inductive PartE (σ : St) : AV → Part → Prop
  | d {x : D} : PartE σ (.d x) (.d x)
  | own {id n e k : Nat} {rows : List (List D)} (ho : get σ (.o id) = .ob (.arr e k rows)) (hn : n = rows.length) : PartE σ (.own id n) (.own e k rows)
def ids : List AV → List Nat
  | [] => []
  | .own id _ :: r => id :: ids r
  | _ :: r => ids r
inductive PartsL (σ : St) : List AV → List Part → Prop
  | nil : PartsL σ [] []
  | cons {av : AV} {p : Part} {avs : List AV} {ps : List Part} (h : PartE σ av p) (t : PartsL σ avs ps) : PartsL σ (av :: avs) (p :: ps)
theorem PartsL.at {avs : List AV} {ps : List Part} (h : PartsL σ avs ps) : avs.length = ps.length ∧ ∀ (j : Nat) (p : Part), ps[j]? = some p → ∃ av : AV, avs[j]? = some av ∧ PartE σ av p := by
  induction h with
  | nil => exact ⟨rfl, fun j p h => by simp at h⟩
  | cons h t ih =>
    refine ⟨by simp [ih.1], fun j p hj => ?_⟩
    cases j with
    | zero => simp at hj; subst hj; exact ⟨_, rfl, h⟩
    | succ j => simpa using ih.2 j p (by simpa using hj)
theorem ids_mem {id n : Nat} : ∀ {avs : List AV} {j : Nat}, avs[j]? = some (.own id n) → id ∈ ids avs
  | x :: avs, 0, h => by
    obtain rfl : x = .own id n := by simpa using h
    exact List.mem_cons_self ..
  | x :: avs, j + 1, h => by
    have := ids_mem (avs := avs) (j := j) (by simpa using h)
    cases x <;> simp [ids, this]
theorem ids_inj {id n m : Nat} : ∀ {avs : List AV} {i j : Nat}, (ids avs).Nodup → avs[i]? = some (.own id n) → avs[j]? = some (.own id m) → i = j
  | x :: avs, 0, 0, _, _, _ => rfl
  | x :: avs, 0, j + 1, h, hi, hj => by
    obtain rfl : x = .own id n := by simpa using hi
    simp only [ids, List.nodup_cons] at h
    exact absurd (ids_mem (by simpa using hj)) h.1
  | x :: avs, i + 1, 0, h, hi, hj => by
    obtain rfl : x = .own id m := by simpa using hj
    simp only [ids, List.nodup_cons] at h
    exact absurd (ids_mem (by simpa using hi)) h.1
  | x :: avs, i + 1, j + 1, h, hi, hj => by
    have h' : (ids avs).Nodup := by
      cases x <;> simp only [ids, List.nodup_cons] at h <;> first | exact h.2 | exact h
    exact congrArg (· + 1) (ids_inj (n := n) (m := m) h' (by simpa using hi) (by simpa using hj))
theorem parts_at (hs : SimG cx σ a w g nx) {avs : List AV} {ps : List Part} {v : Value} (hr : Rep cx g σ w v (.agg avs)) (hp : PartsL σ avs ps) (hn : (ids avs).Nodup) : ∃ cs, v = .agg cs ∧ PartsAt w cx.w0.heap.size cx.own0 ps cs := by
  obtain ⟨cs, h1, h2, h3, h4⟩ := hr
  obtain ⟨hl, hat⟩ := hp.at
  refine ⟨cs, h1, ?_⟩
  have hc : ∀ j p, ps[j]? = some p → ∃ av, avs[j]? = some av ∧ PartE σ av p ∧ Rep1 cx g σ w (cs.getD j undef) av := fun j p hj => by
    obtain ⟨av, h5, h6⟩ := hat j p hj
    have hlt : j < cs.size := by rw [h2]; exact (List.getElem?_eq_some_iff.1 h5).1
    have h7 : cs[j]? = some cs[j] := Array.getElem?_eq_getElem hlt
    refine ⟨av, h5, h6, ?_⟩
    rw [Array.getD_eq_getD_getElem?, h7]
    exact h4 j _ av h5 h7
  have hown : ∀ j e k rows, ps[j]? = some (.own e k rows) → ∃ id n, avs[j]? = some (.own id n) ∧ cs.getD j undef = g id ∧ get σ (.o id) = .ob (.arr e k rows) := fun j e k rows hj => by
    obtain ⟨av, h5, h6, h7⟩ := hc j _ hj
    cases h6 with
    | @own id n _ _ _ ho hn => exact ⟨id, n, h5, (h7.2 e k rows ho).2 hn, ho⟩
  have hle : ∀ b, withL cx.own0 ps cs b → cx.own g σ b := fun b hb => by
    rcases hb with hb | ⟨j, e, k, rows, hj, hb⟩
    · exact .inl hb
    · obtain ⟨id, n, _, h6, h7⟩ := hown j e k rows hj
      exact .inr ⟨id, _, h7, by rw [← h6]; exact hb⟩
  refine ⟨by rw [h2, hl], h3, fun j x hj => ?_, fun j e k rows hj => ?_, fun j j' e k rows e' k' rows' b hj hj' hb hb' => ?_⟩
  · obtain ⟨av, h5, h6, h7⟩ := hc j _ hj
    cases h6 with
    | d => exact Rd.less hle h7
  · obtain ⟨id, n, _, h6, h7⟩ := hown j e k rows hj
    rw [h6]
    exact (objRows hs h7).re (fun b hb => obj_ge hs h7 hb) hle
  · obtain ⟨id, n, h5, h6, h7⟩ := hown j e k rows hj
    obtain ⟨id', n', h5', h6', h7'⟩ := hown j' e' k' rows' hj'
    obtain rfl := hs.sep id id' _ _ b h7 h7' (by rw [← h6]; exact hb) (by rw [← h6']; exact hb')
    exact ids_inj hn h5 h5'
inductive RetNews (T : Tbl) (σ : St) (ps : List Part) : ResultVar → Prop
  | tmp {t : Nat} {avs : List AV} (h : get σ (.s t) = .av (.agg avs)) (hp : PartsL σ avs ps) (hn : (ids avs).Nodup) : RetNews T σ ps (.tmp t)
  | cell {s t id : Nat} {cells avs : List AV} {ti : TI} (h : get σ (.s s) = .av (.ptr id 0)) (ho : get σ (.o id) = .ob (.box cells)) (ht : tget T t = some ti)
      (hl : ldA ti cells = some (.agg avs)) (hp : PartsL σ avs ps) (hn : (ids avs).Nodup) : RetNews T σ ps (.cell s t)
theorem RetNews.ok (hs : SimG cx σ a w g nx) {rv : ResultVar} {ps : List Part} (h : RetNews cx.T σ ps rv) : ∃ cs, (rvRun a.tmps rv).run cx.P w = .ok (.agg cs) w ∧ PartsAt w cx.w0.heap.size cx.own0 ps cs := by
  cases h with
  | @tmp t avs h hp hn =>
    obtain ⟨cs, h1, h2⟩ := parts_at hs (hs.slots t _ h).1 hp hn
    exact ⟨cs, by rw [← h1]; rfl, h2⟩
  | @cell s t id cells avs ti h ho ht hl hp hn =>
    obtain ⟨v, h1, h2, _⟩ := load_ptr hs (x := a.tmps.getD s undef) (off := 0) (hs.slots s _ h).1 ho ht (by simpa using hl)
    obtain ⟨b, hg, hv⟩ := (hs.slots s _ h).1.2 cells ho
    obtain ⟨cs, rfl, h3⟩ := parts_at hs h2 hp hn
    refine ⟨cs, ?_, h3⟩
    rw [hv] at h1
    simp only [rvRun, hv, asAddr, Sem.run_bind, Sem.run_pure, Result.andThen_ok]
    simpa [Instr.loadAt, Instr.sureAddr] using h1
/-- As data, too. -/
def Part.dt : Part → D
  | .d x => x
  | .own _ k rows => .sl k rows
theorem FnNews.ok {P : Program} {f : FuncId} {args : List Arg} {ps : List Part} (h : FnNews P f args ps) : FnOk P f args (.one (.agg (ps.map Part.dt))) := by
  refine ⟨h.run, fun w own vs hown ha => (h.calls w own vs hown ha).mono fun r w' hr => ?_⟩
  obtain ⟨cs, rfl, h1, h2⟩ := hr
  refine ⟨.agg cs, rfl, h1, ?_⟩
  refine .agg cs _ (by rw [h2.size, List.length_map]) h2.one fun j x c hj hc => ?_
  rw [List.getElem?_map] at hj
  cases hp : ps[j]? with
  | none => rw [hp] at hj; cases hj
  | some p =>
    rw [hp] at hj
    simp at hj; subst hj
    have hcd : cs.getD j undef = c := by rw [Array.getD_eq_getD_getElem?, hc]; rfl
    cases p with
    | d x =>
      have := h2.data j x hp
      rw [hcd] at this
      exact this.less fun b hb => .inl hb
    | own e k rows =>
      have := h2.rows j e k rows hp
      rw [hcd] at this
      refine this.rd fun b hb => ⟨.inl hb, fun he => ?_⟩
      have := (this.lt he).1
      have := hown b hb
      omega

/-! ### Called -/
end Go.AX

/-! AxApp -/
/-
  append onto nil.
-/
namespace Go.AX
open Go.RowKit

variable {cx : Cx} {g : Nat → Value} {σ : St} {a : Act} {w : World} {nx : Nat}
variable {ty : TypeId} {pos : String} {af : Array Edge} {gd : Option (Nat × Bool)} {d : Nat}

/-- A pointer to cells that stay is not nil. -/
theorem a_nilpd {x : Operand} {cells : List D} (hx : ev σ x = some (.pd cells)) (hd : Nat.blt d cx.n = true) :
    OA cx σ ⟨some d, .nilCheck x, ty, pos, af, gd⟩ ⟨rdOf x (.pd cells), [(.s d, .av (.pd cells))]⟩ :=
  ⟨ok_nilCheck_pd (lt_of_blt hd) (ev_out hx).1, (ev_out hx).2⟩

end Go.AX

/-! G15 -/
/-
  Contracts of the library's Index and Contains, of texts and of numbers; of the program's Keys.
-/
namespace Go.Proofs.YtjgbmdonhabmiaaDoor
open Go.AX Go.RF

set_option maxRecDepth 100000
set_option maxHeartbeats 8000000

def idxS : Nat → List Str → Str → Int
  | _, [], _ => -1
  | i, x :: l, s => if x = s then (i : Int) else idxS (i + 1) l s
theorem idxS_in : ∀ {l : List Str} {i : Nat} {s : Str}, decide (0 ≤ idxS i l s) = isIn l s
  | [], i, s => rfl
  | x :: l, i, s => by
    by_cases h : x = s
    · simp only [idxS, isIn, if_pos h]; exact decide_eq_true (by omega)
    · simp only [idxS, isIn, if_neg h]; exact idxS_in
theorem ok_indexS (l : List Str) (s : Str) (hl : l.length ≤ 1073741824) : FnOk Tryd.prog 63 [.d (encStrs l), .d (dstr s)] (.one (dint (idxS 0 l s))) := by
  refine fnOk_of tbl_ok mixed_ok Tryd.func63 rfl (by kernel_rfl) rfl rfl fun w0 own0 => ?_
  repeat (first | ((with_reducible apply s1); exact rfl) | (with_reducible first | apply CW.seq | apply CW.block | apply CW.region | apply CW.draw | apply CW.skip | apply CW.exit | apply CW.ret | apply q_then | apply q_then_exit | apply q_then_ret | apply q_block | apply q_block_ret | apply q_block_hit | apply q_ret | apply q_end | apply q_loop_exit | apply q_loop_ret | apply q_loopT_exit | apply q_loopT_ret | apply RW.nil) | ((with_reducible apply s3); exact rfl; exact by_k) | ((with_reducible apply s2); exact rfl; exact by_k) | ((with_reducible apply s4); exact rfl) | ((with_reducible apply s5); (first | exact by_oa); exact by_g) | ((with_reducible apply CW.cond_t); exact rfl; exact by_ks) | ((with_reducible apply CW.cond_f); exact rfl; exact by_ks) | ((with_reducible apply q_block_miss); exact rfl) | (refine And.intro (show chk [] [] _ _ = true by kernel_rfl) ?_))
  refine CW.loopT (fun t : Nat => [sd 0 (encStrs l), sd 1 (dstr s), sd 6 (encStrs l), sd 7 (dint l.length), sd 8 (dint t), nxt 0])
    (fun t => t ≤ l.length ∧ idxS t (l.drop t) s = idxS 0 l s) (fun t => l.length - t) 0 ⟨by omega, rfl⟩ ?_ ?_
  ·
    exact by_less
  · rintro t ⟨ht, hI⟩
    rcases drop_case ht with ⟨h1, h2⟩ | ⟨x, h1, h2, h3⟩
    · rw [h1, idxS] at hI
      repeat (first | ((with_reducible apply s1); exact rfl) | (with_reducible first | apply CW.seq | apply CW.block | apply CW.region | apply CW.draw | apply CW.skip | apply CW.exit | apply CW.ret | apply q_then | apply q_then_exit | apply q_then_ret | apply q_block | apply q_block_ret | apply q_block_hit | apply q_ret | apply q_end | apply q_loop_exit | apply q_loop_ret | apply q_loopT_exit | apply q_loopT_ret | apply RW.nil) | ((with_reducible apply s3); exact rfl; exact by_k) | ((with_reducible apply s2); exact rfl; exact by_k) | ((with_reducible apply s4); exact rfl) | ((with_reducible apply s5); (first | exact by_oa); exact by_g) | ((with_reducible apply CW.cond_t); exact rfl; exact by_ks) | ((with_reducible apply CW.cond_f); exact rfl; exact by_ks) | ((with_reducible apply q_block_miss); exact rfl) | (refine And.intro (show chk [] [] _ _ = true by kernel_rfl) ?_))
      rw [← hI]
      exact .one (.tmp rfl (.one (.d (.refl _))))
    · rw [h1, idxS] at hI
      by_cases h : x = s
      · rw [if_pos h] at hI
        have h' : s = x := h.symm
        repeat (first | ((with_reducible apply s1); exact rfl) | (with_reducible first | apply CW.seq | apply CW.block | apply CW.region | apply CW.draw | apply CW.skip | apply CW.exit | apply CW.ret | apply q_then | apply q_then_exit | apply q_then_ret | apply q_block | apply q_block_ret | apply q_block_hit | apply q_ret | apply q_end | apply q_loop_exit | apply q_loop_ret | apply q_loopT_exit | apply q_loopT_ret | apply RW.nil) | ((with_reducible apply s3); exact rfl; exact by_k) | ((with_reducible apply s2); exact rfl; exact by_k) | ((with_reducible apply s4); exact rfl) | ((with_reducible apply s5); (first | exact by_oa); exact by_g) | ((with_reducible apply CW.cond_t); exact rfl; exact by_ks) | ((with_reducible apply CW.cond_f); exact rfl; exact by_ks) | ((with_reducible apply q_block_miss); exact rfl) | (refine And.intro (show chk [] [] _ _ = true by kernel_rfl) ?_))
        rw [← hI]
        exact .one (.tmp rfl (.one (.d (.refl _))))
      · rw [if_neg h] at hI
        have h' : ¬ s = x := fun e => h e.symm
        repeat (first | ((with_reducible apply s1); exact rfl) | (with_reducible first | apply CW.seq | apply CW.block | apply CW.region | apply CW.draw | apply CW.skip | apply CW.exit | apply CW.ret | apply q_then | apply q_then_exit | apply q_then_ret | apply q_block | apply q_block_ret | apply q_block_hit | apply q_ret | apply q_end | apply q_loop_exit | apply q_loop_ret | apply q_loopT_exit | apply q_loopT_ret | apply RW.nil) | ((with_reducible apply s3); exact rfl; exact by_k) | ((with_reducible apply s2); exact rfl; exact by_k) | ((with_reducible apply s4); exact rfl) | ((with_reducible apply s5); (first | exact by_oa); exact by_g) | ((with_reducible apply CW.cond_t); exact rfl; exact by_ks) | ((with_reducible apply CW.cond_f); exact rfl; exact by_ks) | ((with_reducible apply q_block_miss); exact rfl) | (refine And.intro (show chk [] [] _ _ = true by kernel_rfl) ?_))
        refine q_loopT (t + 1) ⟨by omega, hI⟩ (by omega) ?_
        exact by_less
theorem ok_containsS (l : List Str) (s : Str) (hl : l.length ≤ 1073741824) : FnOk Tryd.prog 48 [.d (encStrs l), .d (dstr s)] (.one (dbool (isIn l s))) := by
  refine fnOk_of tbl_ok mixed_ok Tryd.func48 rfl (by kernel_rfl) rfl rfl fun w0 own0 => ?_
  have c1 := ok_indexS l s hl
  repeat (first | ((with_reducible apply s1); exact rfl) | (with_reducible first | apply CW.seq | apply CW.block | apply CW.region | apply CW.draw | apply CW.skip | apply CW.exit | apply CW.ret | apply q_then | apply q_then_exit | apply q_then_ret | apply q_block | apply q_block_ret | apply q_block_hit | apply q_ret | apply q_end | apply q_loop_exit | apply q_loop_ret | apply q_loopT_exit | apply q_loopT_ret | apply RW.nil) | ((with_reducible apply s3); exact rfl; exact by_k) | ((with_reducible apply s2); exact rfl; exact by_k) | ((with_reducible apply s4); exact rfl) | ((with_reducible apply s5); (first | (focus ((with_reducible apply a_call); exact c1; exact rfl; (repeat (first | exact SubsE.nil | (apply SubsE.cons; exact rfl; (first | exact .d (.refl _) | exact .d (.nil _) | exact .agg rfl (.refl _) | exact .pd | exact .ptr rfl); (first | exact trivial | exact ⟨rfl, trivial⟩)))); done)) | exact by_oa); exact by_g) | ((with_reducible apply CW.cond_t); exact rfl; exact by_ks) | ((with_reducible apply CW.cond_f); exact rfl; exact by_ks) | ((with_reducible apply q_block_miss); exact rfl) | (refine And.intro (show chk [] [] _ _ = true by kernel_rfl) ?_))
  rw [← idxS_in (i := 0)]
  exact .one (.tmp rfl (.one (.d (.refl _))))

/-! ### Keys -/
end Go.Proofs.YtjgbmdonhabmiaaDoor

/-! ShTrim -/
/-
  The library's Trim, at this program's numbers (printed by tools/mklays.py 160).
-/
namespace Go.Proofs
open Go.Shelf Go.RowKit
set_option maxRecDepth 100000
noncomputable def Tryd.lays160_ren : Go.Shelf.Ren := ⟨fun | 119 => 76 | 120 => 72 | 137 => 75 | 151 => 66 | 152 => 71 | 160 => 43 | 197 => 65 | 217 => 79 | 224 => 77 | 225 => 78 | 227 => 53 | 228 => 64 | 231 => 51 | 232 => 52 | 233 => 54 | 234 => 55 | 235 => 56 | 236 => 57 | 260 => 70 | 266 => 80 | 271 => 67 | n => n, fun | 0 => 0 | 3 => 3 | 4 => 4 | 5 => 5 | 9 => 9 | 21 => 21 | 46 => 102 | 105 => 99 | 116 => 87 | 117 => 88 | 119 => 105 | 124 => 91 | 138 => 107 | 139 => 108 | n => n, fun | 3 => (Tryd.prog.globals.findIdx? (·.name == "unicode/utf8.first")).getD 0 | 4 => (Tryd.prog.globals.findIdx? (·.name == "unicode/utf8.acceptRanges")).getD 0 | n => n⟩
theorem Tryd.lays160 : Go.Proofs.Lays.n160 Tryd.prog Tryd.lays160_ren := {
  mixed := by kernel_rfl
  f119 := Tryd.func76.trans (congrArg some (by kernel_rfl))
  f120 := Tryd.func72.trans (congrArg some (by kernel_rfl))
  f137 := Tryd.func75.trans (congrArg some (by kernel_rfl))
  f151 := Tryd.func66.trans (congrArg some (by kernel_rfl))
  f152 := Tryd.func71.trans (congrArg some (by kernel_rfl))
  f160 := Tryd.func43.trans (congrArg some (by kernel_rfl))
  f197 := Tryd.func65.trans (congrArg some (by kernel_rfl))
  f217 := Tryd.func79.trans (congrArg some (by kernel_rfl))
  f224 := Tryd.func77.trans (congrArg some (by kernel_rfl))
  f225 := Tryd.func78.trans (congrArg some (by kernel_rfl))
  f227 := Tryd.func53.trans (congrArg some (by kernel_rfl))
  f228 := Tryd.func64.trans (congrArg some (by kernel_rfl))
  f231 := Tryd.func51.trans (congrArg some (by kernel_rfl))
  f232 := Tryd.func52.trans (congrArg some (by kernel_rfl))
  f233 := Tryd.func54.trans (congrArg some (by kernel_rfl))
  f234 := Tryd.func55.trans (congrArg some (by kernel_rfl))
  f235 := Tryd.func56.trans (congrArg some (by kernel_rfl))
  f236 := Tryd.func57.trans (congrArg some (by kernel_rfl))
  f260 := Tryd.func70.trans (congrArg some (by kernel_rfl))
  f266 := Tryd.func80.trans (congrArg some (by kernel_rfl))
  f271 := Tryd.func67.trans (congrArg some (by kernel_rfl))
  t0 := Tryd.underlying0
  a0 := Tryd.isAgg0
  z0 := Tryd.sizeOf0
  v0 := Tryd.zeroValue0
  t3 := Tryd.underlying3
  a3 := Tryd.isAgg3
  z3 := Tryd.sizeOf3
  v3 := Tryd.zeroValue3
  t4 := Tryd.underlying4
  a4 := Tryd.isAgg4
  z4 := Tryd.sizeOf4
  v4 := Tryd.zeroValue4
  t5 := Tryd.underlying5
  a5 := Tryd.isAgg5
  z5 := Tryd.sizeOf5
  v5 := Tryd.zeroValue5
  t9 := Tryd.underlying9
  a9 := Tryd.isAgg9
  z9 := Tryd.sizeOf9
  v9 := Tryd.zeroValue9
  t21 := Tryd.underlying21
  a21 := Tryd.isAgg21
  z21 := Tryd.sizeOf21
  v21 := Tryd.zeroValue21
  t46 := Tryd.underlying102
  a46 := Tryd.isAgg102
  z46 := Tryd.sizeOf102
  v46 := Tryd.zeroValue102
  t105 := Tryd.underlying99
  a105 := Tryd.isAgg99
  z105 := Tryd.sizeOf99
  v105 := Tryd.zeroValue99
  t116 := Tryd.underlying87
  a116 := Tryd.isAgg87
  z116 := Tryd.sizeOf87
  t117 := Tryd.underlying88
  a117 := Tryd.isAgg88
  z117 := Tryd.sizeOf88
  v117 := Tryd.zeroValue88
  t119 := Tryd.underlying105
  a119 := Tryd.isAgg105
  z119 := Tryd.sizeOf105
  t124 := Tryd.underlying91
  a124 := Tryd.isAgg91
  z124 := Tryd.sizeOf91
  v124 := Tryd.zeroValue91
  t138 := Tryd.underlying107
  a138 := Tryd.isAgg107
  z138 := Tryd.sizeOf107
  v138 := Tryd.zeroValue107
  t139 := Tryd.underlying108
  a139 := Tryd.isAgg108
  z139 := Tryd.sizeOf108
  v139 := Tryd.zeroValue108
  g3 := by kernel_rfl
  g4 := by kernel_rfl
  }
end Go.Proofs

/-! R3 -/
/-
  Contracts of the program's Key and Wrong of rows, and of the references' Round at whatever number.
-/
namespace Go.Proofs.YtjgbmdonhabmiaaDoor
open Go.AX Go.RF Go.RowKit

set_option maxRecDepth 100000
set_option maxHeartbeats 8000000

theorem ok_trim (s : Str) (hs : s.length ≤ 1073741824) : FnOk Tryd.prog 43 [.d (dstr s), .d (dstr alpha)] (.one (dstr (Lib.trimS s alpha))) := by
  refine ⟨⟨_, Tryd.func43, by kernel_rfl, by kernel_rfl⟩, fun w own vs hown ha => ?_⟩
  match vs, ha with
  | [x, y], ⟨h1, h2, _⟩ =>
    obtain rfl : x = str s := rd_v h1
    obtain rfl : y = str alpha := rd_v h2
    refine (Any.strings_Trim_laid Tryd.lays160 (by kernel_rfl) ⟨s.toArray⟩ ⟨alpha.toArray⟩ w (by show s.toArray.size ≤ _; simp; omega) (by decide) (ascii_of_all (by decide))).mono fun e w' he => ?_
    obtain ⟨rfl, hb⟩ := he
    exact ⟨_, rfl, hb, Rd.v _⟩

theorem ok_pkey (s : Str) (hs : s.length ≤ 1073741824) : FnOk Tryd.prog 24 [.d (dstr s)] (.one (dbool (key s))) := by
  refine fnOk_of tbl_ok mixed_ok Tryd.func24 rfl (by kernel_rfl) rfl rfl fun w0 own0 => ?_
  have ht := ok_trim s hs
  rw [key_trim]
  by_cases h1 : 1 ≤ s.length
  · by_cases h2 : s.length ≤ 6
    ·
      repeat (first | ((with_reducible apply s1); exact rfl) | (with_reducible first | apply CW.seq | apply CW.block | apply CW.region | apply CW.draw | apply CW.skip | apply CW.exit | apply CW.ret | apply q_then | apply q_then_exit | apply q_then_ret | apply q_block | apply q_block_ret | apply q_block_hit | apply q_ret | apply q_end | apply q_loop_exit | apply q_loop_ret | apply q_loopT_exit | apply q_loopT_ret | apply RW.nil) | ((with_reducible apply s3); exact rfl; exact by_k) | ((with_reducible apply s2); exact rfl; exact by_k) | ((with_reducible apply s4); exact rfl) | ((with_reducible apply s5); (first | (focus ((with_reducible apply a_call); exact ht; exact rfl; (repeat (first | exact SubsE.nil | (apply SubsE.cons; exact rfl; (first | exact .d (.refl _) | exact .d (.nil _) | exact .agg rfl (.refl _) | exact .pd | exact .ptr rfl); (first | exact trivial | exact ⟨rfl, trivial⟩)))); done)) | exact by_oa); exact by_g) | ((with_reducible apply CW.cond_t); exact rfl; exact by_ks) | ((with_reducible apply CW.cond_f); exact rfl; exact by_ks) | ((with_reducible apply q_block_miss); exact rfl) | (refine And.intro (show chk [] [] _ _ = true by kernel_rfl) ?_))
      exact .one (.tmp rfl (.one (.d (dle_bool (by simp [h1, h2])))))
    ·
      repeat (first | ((with_reducible apply s1); exact rfl) | (with_reducible first | apply CW.seq | apply CW.block | apply CW.region | apply CW.draw | apply CW.skip | apply CW.exit | apply CW.ret | apply q_then | apply q_then_exit | apply q_then_ret | apply q_block | apply q_block_ret | apply q_block_hit | apply q_ret | apply q_end | apply q_loop_exit | apply q_loop_ret | apply q_loopT_exit | apply q_loopT_ret | apply RW.nil) | ((with_reducible apply s3); exact rfl; exact by_k) | ((with_reducible apply s2); exact rfl; exact by_k) | ((with_reducible apply s4); exact rfl) | ((with_reducible apply s5); (first | exact by_oa); exact by_g) | ((with_reducible apply CW.cond_t); exact rfl; exact by_ks) | ((with_reducible apply CW.cond_f); exact rfl; exact by_ks) | ((with_reducible apply q_block_miss); exact rfl) | (refine And.intro (show chk [] [] _ _ = true by kernel_rfl) ?_))
      exact .one (.tmp rfl (.one (.d (dle_bool (by simp [h2])))))
  ·
    repeat (first | ((with_reducible apply s1); exact rfl) | (with_reducible first | apply CW.seq | apply CW.block | apply CW.region | apply CW.draw | apply CW.skip | apply CW.exit | apply CW.ret | apply q_then | apply q_then_exit | apply q_then_ret | apply q_block | apply q_block_ret | apply q_block_hit | apply q_ret | apply q_end | apply q_loop_exit | apply q_loop_ret | apply q_loopT_exit | apply q_loopT_ret | apply RW.nil) | ((with_reducible apply s3); exact rfl; exact by_k) | ((with_reducible apply s2); exact rfl; exact by_k) | ((with_reducible apply s4); exact rfl) | ((with_reducible apply s5); (first | exact by_oa); exact by_g) | ((with_reducible apply CW.cond_t); exact rfl; exact by_ks) | ((with_reducible apply CW.cond_f); exact rfl; exact by_ks) | ((with_reducible apply q_block_miss); exact rfl) | (refine And.intro (show chk [] [] _ _ = true by kernel_rfl) ?_))
    exact .one (.tmp rfl (.one (.d (dle_bool (by simp [h1])))))

end Go.Proofs.YtjgbmdonhabmiaaDoor

/-! G20 -/
/-
  Contracts of the program's Wrong of deeds.
-/
namespace Go.Proofs.YtjgbmdonhabmiaaDoor
open Go.AX Go.RF

set_option maxRecDepth 100000
set_option maxHeartbeats 8000000

def regsN (k : Int) : Int := if k = 3 ∨ k = 4 ∨ k = 5 then 2 else if k = 7 then 0 else 1
def keyedB (k : Int) : Bool := decide (k = 1 ∨ k = 6 ∨ k = 7)
def loI (k : Int) : Int := if k = 2 then -1073741824 else if k = 8 then 1 else 0
def hiI (k m : Int) : Int := if k = 2 then 1073741824 else if k = 8 then m else 0
def outI (n lo hi a b x : Int) : Bool := decide (a < 0 ∨ 4 ≤ a ∨ (n < 1 ∧ a ≠ 0) ∨ b < 0 ∨ 4 ≤ b ∨ (n < 2 ∧ b ≠ 0) ∨ x < lo ∨ hi < x)
def pwrongIns (d : Deed) (m : Int) (i : Ins) : Int :=
  if i.kind < 1 ∨ 9 < i.kind then 1
  else if outI (regsN i.kind) (loI i.kind) (hiI i.kind m) i.a i.b i.n = true then 3
  else if keyedB i.kind = false ∧ i.key ≠ [] then 2
  else if (i.kind = 1 ∧ isIn d.reads i.key = false) ∨ (keyedB i.kind = true ∧ i.kind ≠ 1 ∧ isIn d.writes i.key = false) then 9 else 0

theorem pwrong_eq (d : Deed) (m : Int) (i : Ins) : pwrongIns d m i = wrongIns d m i := by
  unfold pwrongIns wrongIns
  by_cases h : i.kind < 1 ∨ 9 < i.kind
  · rw [if_pos h, if_pos h]
  rw [if_neg h, if_neg h]
  obtain ⟨kd, a, b, n, key⟩ := i
  dsimp only at h ⊢
  have hout : outI (regsN kd) (loI kd) (hiI kd m) a b n = insOut kd.toNat a b n m := by
    have hkd : kd = 1 ∨ kd = 2 ∨ kd = 3 ∨ kd = 4 ∨ kd = 5 ∨ kd = 6 ∨ kd = 7 ∨ kd = 8 ∨ kd = 9 := by omega
    unfold outI insOut
    rw [Bool.eq_iff_iff]
    simp only [Bool.or_eq_true, decide_eq_true_eq]
    rcases hkd with rfl | rfl | rfl | rfl | rfl | rfl | rfl | rfl | rfl
    · rw [show regsN 1 = 1 from rfl, show loI 1 = 0 from rfl, show hiI 1 m = 0 from rfl, show insA (Int.toNat 1) = 3 from rfl, show insB (Int.toNat 1) = 0 from rfl, show insLow (Int.toNat 1) = 0 from rfl, show insHigh (Int.toNat 1) m = 0 from rfl]
      omega
    · rw [show regsN 2 = 1 from rfl, show loI 2 = -1073741824 from rfl, show hiI 2 m = 1073741824 from rfl, show insA (Int.toNat 2) = 3 from rfl, show insB (Int.toNat 2) = 0 from rfl, show insLow (Int.toNat 2) = -1073741824 from rfl, show insHigh (Int.toNat 2) m = 1073741824 from rfl]
      omega
    · rw [show regsN 3 = 2 from rfl, show loI 3 = 0 from rfl, show hiI 3 m = 0 from rfl, show insA (Int.toNat 3) = 3 from rfl, show insB (Int.toNat 3) = 3 from rfl, show insLow (Int.toNat 3) = 0 from rfl, show insHigh (Int.toNat 3) m = 0 from rfl]
      omega
    · rw [show regsN 4 = 2 from rfl, show loI 4 = 0 from rfl, show hiI 4 m = 0 from rfl, show insA (Int.toNat 4) = 3 from rfl, show insB (Int.toNat 4) = 3 from rfl, show insLow (Int.toNat 4) = 0 from rfl, show insHigh (Int.toNat 4) m = 0 from rfl]
      omega
    · rw [show regsN 5 = 2 from rfl, show loI 5 = 0 from rfl, show hiI 5 m = 0 from rfl, show insA (Int.toNat 5) = 3 from rfl, show insB (Int.toNat 5) = 3 from rfl, show insLow (Int.toNat 5) = 0 from rfl, show insHigh (Int.toNat 5) m = 0 from rfl]
      omega
    · rw [show regsN 6 = 1 from rfl, show loI 6 = 0 from rfl, show hiI 6 m = 0 from rfl, show insA (Int.toNat 6) = 3 from rfl, show insB (Int.toNat 6) = 0 from rfl, show insLow (Int.toNat 6) = 0 from rfl, show insHigh (Int.toNat 6) m = 0 from rfl]
      omega
    · rw [show regsN 7 = 0 from rfl, show loI 7 = 0 from rfl, show hiI 7 m = 0 from rfl, show insA (Int.toNat 7) = 0 from rfl, show insB (Int.toNat 7) = 0 from rfl, show insLow (Int.toNat 7) = 0 from rfl, show insHigh (Int.toNat 7) m = 0 from rfl]
      omega
    · rw [show regsN 8 = 1 from rfl, show loI 8 = 1 from rfl, show hiI 8 m = m from rfl, show insA (Int.toNat 8) = 3 from rfl, show insB (Int.toNat 8) = 0 from rfl, show insLow (Int.toNat 8) = 1 from rfl, show insHigh (Int.toNat 8) m = m from rfl]
      omega
    · rw [show regsN 9 = 1 from rfl, show loI 9 = 0 from rfl, show hiI 9 m = 0 from rfl, show insA (Int.toNat 9) = 3 from rfl, show insB (Int.toNat 9) = 0 from rfl, show insLow (Int.toNat 9) = 0 from rfl, show insHigh (Int.toNat 9) m = 0 from rfl]
      omega
  rw [hout]
  split
  · rfl
  have hkd : kd = 1 ∨ kd = 2 ∨ kd = 3 ∨ kd = 4 ∨ kd = 5 ∨ kd = 6 ∨ kd = 7 ∨ kd = 8 ∨ kd = 9 := by omega
  have hk9 : has kd.toNat 107 = keyedB kd := by rcases hkd with rfl | rfl | rfl | rfl | rfl | rfl | rfl | rfl | rfl <;> decide
  rw [hk9]
  cases hkb : keyedB kd with
  | false =>
    have h1 : ¬ kd = 1 := fun e => by subst e; cases hkb
    by_cases hk0 : key = []
    · simp [hk0, h1]
    · simp [hk0]
  | true =>
    simp only [Bool.true_eq_false, false_and, if_false, true_and]
    by_cases h1 : kd = 1
    · simp only [h1, if_true, ne_eq, not_true_eq_false, false_and, or_false, true_and]
      cases isIn d.reads key <;> rfl
    · simp only [h1, if_false, false_and, ne_eq, not_false_eq_true, true_and, false_or]
      cases isIn d.writes key <;> rfl

theorem ok_regs (k : Int) : FnOk Tryd.prog 49 [.d (dint k)] (.one (dint (regsN k))) := by
  refine fnOk_of tbl_ok mixed_ok Tryd.func49 rfl (by kernel_rfl) rfl rfl fun w0 own0 => ?_
  unfold regsN
  by_cases h3 : k = 3
  · rw [if_pos (.inl h3)]
    repeat (first | ((with_reducible apply s1); exact rfl) | (with_reducible first | apply CW.seq | apply CW.block | apply CW.region | apply CW.draw | apply CW.skip | apply CW.exit | apply CW.ret | apply q_then | apply q_then_exit | apply q_then_ret | apply q_block | apply q_block_ret | apply q_block_hit | apply q_ret | apply q_end | apply q_loop_exit | apply q_loop_ret | apply q_loopT_exit | apply q_loopT_ret | apply RW.nil) | ((with_reducible apply s3); exact rfl; exact by_k) | ((with_reducible apply s2); exact rfl; exact by_k) | ((with_reducible apply s4); exact rfl) | ((with_reducible apply s5); (first | exact by_oa); exact by_g) | ((with_reducible apply CW.cond_t); exact rfl; exact by_ks) | ((with_reducible apply CW.cond_f); exact rfl; exact by_ks) | ((with_reducible apply q_block_miss); exact rfl) | (refine And.intro (show chk [] [] _ _ = true by kernel_rfl) ?_))
    exact .one (.tmp rfl (.one (.d (.refl _))))
  by_cases h4 : k = 4
  · rw [if_pos (.inr (.inl h4))]
    repeat (first | ((with_reducible apply s1); exact rfl) | (with_reducible first | apply CW.seq | apply CW.block | apply CW.region | apply CW.draw | apply CW.skip | apply CW.exit | apply CW.ret | apply q_then | apply q_then_exit | apply q_then_ret | apply q_block | apply q_block_ret | apply q_block_hit | apply q_ret | apply q_end | apply q_loop_exit | apply q_loop_ret | apply q_loopT_exit | apply q_loopT_ret | apply RW.nil) | ((with_reducible apply s3); exact rfl; exact by_k) | ((with_reducible apply s2); exact rfl; exact by_k) | ((with_reducible apply s4); exact rfl) | ((with_reducible apply s5); (first | exact by_oa); exact by_g) | ((with_reducible apply CW.cond_t); exact rfl; exact by_ks) | ((with_reducible apply CW.cond_f); exact rfl; exact by_ks) | ((with_reducible apply q_block_miss); exact rfl) | (refine And.intro (show chk [] [] _ _ = true by kernel_rfl) ?_))
    exact .one (.tmp rfl (.one (.d (.refl _))))
  by_cases h5 : k = 5
  · rw [if_pos (.inr (.inr h5))]
    repeat (first | ((with_reducible apply s1); exact rfl) | (with_reducible first | apply CW.seq | apply CW.block | apply CW.region | apply CW.draw | apply CW.skip | apply CW.exit | apply CW.ret | apply q_then | apply q_then_exit | apply q_then_ret | apply q_block | apply q_block_ret | apply q_block_hit | apply q_ret | apply q_end | apply q_loop_exit | apply q_loop_ret | apply q_loopT_exit | apply q_loopT_ret | apply RW.nil) | ((with_reducible apply s3); exact rfl; exact by_k) | ((with_reducible apply s2); exact rfl; exact by_k) | ((with_reducible apply s4); exact rfl) | ((with_reducible apply s5); (first | exact by_oa); exact by_g) | ((with_reducible apply CW.cond_t); exact rfl; exact by_ks) | ((with_reducible apply CW.cond_f); exact rfl; exact by_ks) | ((with_reducible apply q_block_miss); exact rfl) | (refine And.intro (show chk [] [] _ _ = true by kernel_rfl) ?_))
    exact .one (.tmp rfl (.one (.d (.refl _))))
  rw [if_neg (by omega)]
  by_cases h7 : k = 7
  · rw [if_pos h7]
    repeat (first | ((with_reducible apply s1); exact rfl) | (with_reducible first | apply CW.seq | apply CW.block | apply CW.region | apply CW.draw | apply CW.skip | apply CW.exit | apply CW.ret | apply q_then | apply q_then_exit | apply q_then_ret | apply q_block | apply q_block_ret | apply q_block_hit | apply q_ret | apply q_end | apply q_loop_exit | apply q_loop_ret | apply q_loopT_exit | apply q_loopT_ret | apply RW.nil) | ((with_reducible apply s3); exact rfl; exact by_k) | ((with_reducible apply s2); exact rfl; exact by_k) | ((with_reducible apply s4); exact rfl) | ((with_reducible apply s5); (first | exact by_oa); exact by_g) | ((with_reducible apply CW.cond_t); exact rfl; exact by_ks) | ((with_reducible apply CW.cond_f); exact rfl; exact by_ks) | ((with_reducible apply q_block_miss); exact rfl) | (refine And.intro (show chk [] [] _ _ = true by kernel_rfl) ?_))
    exact .one (.tmp rfl (.one (.d (.refl _))))
  · rw [if_neg h7]
    repeat (first | ((with_reducible apply s1); exact rfl) | (with_reducible first | apply CW.seq | apply CW.block | apply CW.region | apply CW.draw | apply CW.skip | apply CW.exit | apply CW.ret | apply q_then | apply q_then_exit | apply q_then_ret | apply q_block | apply q_block_ret | apply q_block_hit | apply q_ret | apply q_end | apply q_loop_exit | apply q_loop_ret | apply q_loopT_exit | apply q_loopT_ret | apply RW.nil) | ((with_reducible apply s3); exact rfl; exact by_k) | ((with_reducible apply s2); exact rfl; exact by_k) | ((with_reducible apply s4); exact rfl) | ((with_reducible apply s5); (first | exact by_oa); exact by_g) | ((with_reducible apply CW.cond_t); exact rfl; exact by_ks) | ((with_reducible apply CW.cond_f); exact rfl; exact by_ks) | ((with_reducible apply q_block_miss); exact rfl) | (refine And.intro (show chk [] [] _ _ = true by kernel_rfl) ?_))
    exact .one (.tmp rfl (.one (.d (.refl _))))

theorem ok_instr (d : Deed) (i : Ins) (m : Int) (hr : d.reads.length ≤ 268435456) (hw : d.writes.length ≤ 268435456) :
    FnOk Tryd.prog 34 [.pd d.enc, .d (.agg i.enc), .d (dint m)] (.one (dint (wrongIns d m i))) := by
  refine fnOk_of tbl_ok mixed_ok Tryd.func34 rfl (by kernel_rfl) rfl rfl fun w0 own0 => ?_
  rw [← pwrong_eq]
  have cr := ok_regs i.kind
  have c1 := ok_containsS d.reads i.key (by omega)
  have c2 := ok_containsS d.writes i.key (by omega)
  repeat (first | (with_reducible apply stop_reg 1) | ((with_reducible apply s1); exact rfl) | (with_reducible first | apply CW.seq | apply CW.block | apply CW.region | apply CW.draw | apply CW.skip | apply CW.exit | apply CW.ret | apply q_then | apply q_then_exit | apply q_then_ret | apply q_block | apply q_block_ret | apply q_block_hit | apply q_ret | apply q_end | apply q_loop_exit | apply q_loop_ret | apply q_loopT_exit | apply q_loopT_ret | apply RW.nil) | ((with_reducible apply s3); exact rfl; exact by_k) | ((with_reducible apply s2); exact rfl; exact by_k) | ((with_reducible apply s4); exact rfl) | ((with_reducible apply s5); (first | exact by_oa); exact by_g) | ((with_reducible apply CW.cond_t); exact rfl; exact by_ks) | ((with_reducible apply CW.cond_f); exact rfl; exact by_ks) | ((with_reducible apply q_block_miss); exact rfl) | (refine And.intro (show chk [] [] _ _ = true by kernel_rfl) ?_))
  refine Stop.cutk [sd 7 (dbool (keyedB i.kind))] [.s 0, .s 2, .s 4, .o 0, .nx] ?_ ?_
  · by_cases h1 : i.kind = 1
    · rw [show keyedB i.kind = true from decide_eq_true (.inl h1)]
      repeat (first | ((with_reducible apply s1); exact rfl) | (with_reducible first | apply CW.seq | apply CW.block | apply CW.region | apply CW.draw | apply CW.skip | apply CW.exit | apply CW.ret | apply q_then | apply q_then_exit | apply q_then_ret | apply q_block | apply q_block_ret | apply q_block_hit | apply q_ret | apply q_end | apply q_loop_exit | apply q_loop_ret | apply q_loopT_exit | apply q_loopT_ret | apply RW.nil) | ((with_reducible apply s3); exact rfl; exact by_k) | ((with_reducible apply s2); exact rfl; exact by_k) | ((with_reducible apply s4); exact rfl) | ((with_reducible apply s5); (first | exact by_oa); exact by_g) | ((with_reducible apply CW.cond_t); exact rfl; exact by_ks) | ((with_reducible apply CW.cond_f); exact rfl; exact by_ks) | ((with_reducible apply q_block_miss); exact rfl) | (refine And.intro (show chk [] [] _ _ = true by kernel_rfl) ?_))
      refine q_cut ?_
      exact by_less
    by_cases h6 : i.kind = 6
    · rw [show keyedB i.kind = true from decide_eq_true (.inr (.inl h6))]
      repeat (first | ((with_reducible apply s1); exact rfl) | (with_reducible first | apply CW.seq | apply CW.block | apply CW.region | apply CW.draw | apply CW.skip | apply CW.exit | apply CW.ret | apply q_then | apply q_then_exit | apply q_then_ret | apply q_block | apply q_block_ret | apply q_block_hit | apply q_ret | apply q_end | apply q_loop_exit | apply q_loop_ret | apply q_loopT_exit | apply q_loopT_ret | apply RW.nil) | ((with_reducible apply s3); exact rfl; exact by_k) | ((with_reducible apply s2); exact rfl; exact by_k) | ((with_reducible apply s4); exact rfl) | ((with_reducible apply s5); (first | exact by_oa); exact by_g) | ((with_reducible apply CW.cond_t); exact rfl; exact by_ks) | ((with_reducible apply CW.cond_f); exact rfl; exact by_ks) | ((with_reducible apply q_block_miss); exact rfl) | (refine And.intro (show chk [] [] _ _ = true by kernel_rfl) ?_))
      refine q_cut ?_
      exact by_less
    by_cases h7 : i.kind = 7
    · rw [show keyedB i.kind = true from decide_eq_true (.inr (.inr h7))]
      repeat (first | ((with_reducible apply s1); exact rfl) | (with_reducible first | apply CW.seq | apply CW.block | apply CW.region | apply CW.draw | apply CW.skip | apply CW.exit | apply CW.ret | apply q_then | apply q_then_exit | apply q_then_ret | apply q_block | apply q_block_ret | apply q_block_hit | apply q_ret | apply q_end | apply q_loop_exit | apply q_loop_ret | apply q_loopT_exit | apply q_loopT_ret | apply RW.nil) | ((with_reducible apply s3); exact rfl; exact by_k) | ((with_reducible apply s2); exact rfl; exact by_k) | ((with_reducible apply s4); exact rfl) | ((with_reducible apply s5); (first | exact by_oa); exact by_g) | ((with_reducible apply CW.cond_t); exact rfl; exact by_ks) | ((with_reducible apply CW.cond_f); exact rfl; exact by_ks) | ((with_reducible apply q_block_miss); exact rfl) | (refine And.intro (show chk [] [] _ _ = true by kernel_rfl) ?_))
      refine q_cut ?_
      exact by_less
    · rw [show keyedB i.kind = false from decide_eq_false (by omega)]
      repeat (first | ((with_reducible apply s1); exact rfl) | (with_reducible first | apply CW.seq | apply CW.block | apply CW.region | apply CW.draw | apply CW.skip | apply CW.exit | apply CW.ret | apply q_then | apply q_then_exit | apply q_then_ret | apply q_block | apply q_block_ret | apply q_block_hit | apply q_ret | apply q_end | apply q_loop_exit | apply q_loop_ret | apply q_loopT_exit | apply q_loopT_ret | apply RW.nil) | ((with_reducible apply s3); exact rfl; exact by_k) | ((with_reducible apply s2); exact rfl; exact by_k) | ((with_reducible apply s4); exact rfl) | ((with_reducible apply s5); (first | exact by_oa); exact by_g) | ((with_reducible apply CW.cond_t); exact rfl; exact by_ks) | ((with_reducible apply CW.cond_f); exact rfl; exact by_ks) | ((with_reducible apply q_block_miss); exact rfl) | (refine And.intro (show chk [] [] _ _ = true by kernel_rfl) ?_))
      refine q_cut ?_
      exact by_less
  repeat (first | ((with_reducible apply stop_at 3); exact rfl) | ((with_reducible apply s1); exact rfl) | (with_reducible first | apply CW.seq | apply CW.block | apply CW.region | apply CW.draw | apply CW.skip | apply CW.exit | apply CW.ret | apply q_then | apply q_then_exit | apply q_then_ret | apply q_block | apply q_block_ret | apply q_block_hit | apply q_ret | apply q_end | apply q_loop_exit | apply q_loop_ret | apply q_loopT_exit | apply q_loopT_ret | apply RW.nil) | ((with_reducible apply s3); exact rfl; exact by_k) | ((with_reducible apply s2); exact rfl; exact by_k) | ((with_reducible apply s4); exact rfl) | ((with_reducible apply s5); (first | exact by_oa); exact by_g) | ((with_reducible apply CW.cond_t); exact rfl; exact by_ks) | ((with_reducible apply CW.cond_f); exact rfl; exact by_ks) | ((with_reducible apply q_block_miss); exact rfl) | (refine And.intro (show chk [] [] _ _ = true by kernel_rfl) ?_))
  refine Stop.cutk [sd 8 (dint (loI i.kind)), sd 9 (dint (hiI i.kind m))] [.s 0, .s 4, .s 7, .o 0, .nx] ?_ ?_
  · by_cases h2 : i.kind = 2
    · rw [show loI i.kind = -1073741824 from if_pos h2, show hiI i.kind m = 1073741824 from if_pos h2]
      repeat (first | ((with_reducible apply s1); exact rfl) | (with_reducible first | apply CW.seq | apply CW.block | apply CW.region | apply CW.draw | apply CW.skip | apply CW.exit | apply CW.ret | apply q_then | apply q_then_exit | apply q_then_ret | apply q_block | apply q_block_ret | apply q_block_hit | apply q_ret | apply q_end | apply q_loop_exit | apply q_loop_ret | apply q_loopT_exit | apply q_loopT_ret | apply RW.nil) | ((with_reducible apply s3); exact rfl; exact by_k) | ((with_reducible apply s2); exact rfl; exact by_k) | ((with_reducible apply s4); exact rfl) | ((with_reducible apply s5); (first | exact by_oa); exact by_g) | ((with_reducible apply CW.cond_t); exact rfl; exact by_ks) | ((with_reducible apply CW.cond_f); exact rfl; exact by_ks) | ((with_reducible apply q_block_miss); exact rfl) | (refine And.intro (show chk [] [] _ _ = true by kernel_rfl) ?_))
      refine q_cut ?_
      exact by_less
    by_cases h8 : i.kind = 8
    · rw [show loI i.kind = 1 by unfold loI; rw [if_neg h2, if_pos h8], show hiI i.kind m = m by unfold hiI; rw [if_neg h2, if_pos h8]]
      repeat (first | ((with_reducible apply s1); exact rfl) | (with_reducible first | apply CW.seq | apply CW.block | apply CW.region | apply CW.draw | apply CW.skip | apply CW.exit | apply CW.ret | apply q_then | apply q_then_exit | apply q_then_ret | apply q_block | apply q_block_ret | apply q_block_hit | apply q_ret | apply q_end | apply q_loop_exit | apply q_loop_ret | apply q_loopT_exit | apply q_loopT_ret | apply RW.nil) | ((with_reducible apply s3); exact rfl; exact by_k) | ((with_reducible apply s2); exact rfl; exact by_k) | ((with_reducible apply s4); exact rfl) | ((with_reducible apply s5); (first | exact by_oa); exact by_g) | ((with_reducible apply CW.cond_t); exact rfl; exact by_ks) | ((with_reducible apply CW.cond_f); exact rfl; exact by_ks) | ((with_reducible apply q_block_miss); exact rfl) | (refine And.intro (show chk [] [] _ _ = true by kernel_rfl) ?_))
      refine q_cut ?_
      exact by_less
    · rw [show loI i.kind = 0 by unfold loI; rw [if_neg h2, if_neg h8], show hiI i.kind m = 0 by unfold hiI; rw [if_neg h2, if_neg h8]]
      repeat (first | ((with_reducible apply s1); exact rfl) | (with_reducible first | apply CW.seq | apply CW.block | apply CW.region | apply CW.draw | apply CW.skip | apply CW.exit | apply CW.ret | apply q_then | apply q_then_exit | apply q_then_ret | apply q_block | apply q_block_ret | apply q_block_hit | apply q_ret | apply q_end | apply q_loop_exit | apply q_loop_ret | apply q_loopT_exit | apply q_loopT_ret | apply RW.nil) | ((with_reducible apply s3); exact rfl; exact by_k) | ((with_reducible apply s2); exact rfl; exact by_k) | ((with_reducible apply s4); exact rfl) | ((with_reducible apply s5); (first | exact by_oa); exact by_g) | ((with_reducible apply CW.cond_t); exact rfl; exact by_ks) | ((with_reducible apply CW.cond_f); exact rfl; exact by_ks) | ((with_reducible apply q_block_miss); exact rfl) | (refine And.intro (show chk [] [] _ _ = true by kernel_rfl) ?_))
      refine q_cut ?_
      exact by_less
  unfold pwrongIns
  generalize regsN i.kind = n at cr ⊢
  generalize loI i.kind = lo
  generalize hiI i.kind m = hi
  by_cases hk0 : i.kind < 1
  · rw [if_pos (.inl hk0)]
    repeat (first | ((with_reducible apply s1); exact rfl) | (with_reducible first | apply CW.seq | apply CW.block | apply CW.region | apply CW.draw | apply CW.skip | apply CW.exit | apply CW.ret | apply q_then | apply q_then_exit | apply q_then_ret | apply q_block | apply q_block_ret | apply q_block_hit | apply q_ret | apply q_end | apply q_loop_exit | apply q_loop_ret | apply q_loopT_exit | apply q_loopT_ret | apply RW.nil) | ((with_reducible apply s3); exact rfl; exact by_k) | ((with_reducible apply s2); exact rfl; exact by_k) | ((with_reducible apply s4); exact rfl) | ((with_reducible apply s5); (first | (focus ((with_reducible apply a_call); exact cr; exact rfl; (repeat (first | exact SubsE.nil | (apply SubsE.cons; exact rfl; (first | exact .d (.refl _) | exact .d (.nil _) | exact .agg rfl (.refl _) | exact .pd | exact .ptr rfl); (first | exact trivial | exact ⟨rfl, trivial⟩)))); done)) | exact by_oa); exact by_g) | ((with_reducible apply CW.cond_t); exact rfl; exact by_ks) | ((with_reducible apply CW.cond_f); exact rfl; exact by_ks) | ((with_reducible apply q_block_miss); exact rfl) | (refine And.intro (show chk [] [] _ _ = true by kernel_rfl) ?_))
    exact .one (.tmp rfl (.one (.d (.refl _))))
  by_cases hk9 : 9 < i.kind
  · rw [if_pos (.inr hk9)]
    repeat (first | ((with_reducible apply s1); exact rfl) | (with_reducible first | apply CW.seq | apply CW.block | apply CW.region | apply CW.draw | apply CW.skip | apply CW.exit | apply CW.ret | apply q_then | apply q_then_exit | apply q_then_ret | apply q_block | apply q_block_ret | apply q_block_hit | apply q_ret | apply q_end | apply q_loop_exit | apply q_loop_ret | apply q_loopT_exit | apply q_loopT_ret | apply RW.nil) | ((with_reducible apply s3); exact rfl; exact by_k) | ((with_reducible apply s2); exact rfl; exact by_k) | ((with_reducible apply s4); exact rfl) | ((with_reducible apply s5); (first | (focus ((with_reducible apply a_call); exact cr; exact rfl; (repeat (first | exact SubsE.nil | (apply SubsE.cons; exact rfl; (first | exact .d (.refl _) | exact .d (.nil _) | exact .agg rfl (.refl _) | exact .pd | exact .ptr rfl); (first | exact trivial | exact ⟨rfl, trivial⟩)))); done)) | exact by_oa); exact by_g) | ((with_reducible apply CW.cond_t); exact rfl; exact by_ks) | ((with_reducible apply CW.cond_f); exact rfl; exact by_ks) | ((with_reducible apply q_block_miss); exact rfl) | (refine And.intro (show chk [] [] _ _ = true by kernel_rfl) ?_))
    exact .one (.tmp rfl (.one (.d (.refl _))))
  rw [if_neg (by omega)]
  repeat (first | ((with_reducible apply stop_at 11); exact rfl) | ((with_reducible apply s1); exact rfl) | (with_reducible first | apply CW.seq | apply CW.block | apply CW.region | apply CW.draw | apply CW.skip | apply CW.exit | apply CW.ret | apply q_then | apply q_then_exit | apply q_then_ret | apply q_block | apply q_block_ret | apply q_block_hit | apply q_ret | apply q_end | apply q_loop_exit | apply q_loop_ret | apply q_loopT_exit | apply q_loopT_ret | apply RW.nil) | ((with_reducible apply s3); exact rfl; exact by_k) | ((with_reducible apply s2); exact rfl; exact by_k) | ((with_reducible apply s4); exact rfl) | ((with_reducible apply s5); (first | (focus ((with_reducible apply a_call); exact cr; exact rfl; (repeat (first | exact SubsE.nil | (apply SubsE.cons; exact rfl; (first | exact .d (.refl _) | exact .d (.nil _) | exact .agg rfl (.refl _) | exact .pd | exact .ptr rfl); (first | exact trivial | exact ⟨rfl, trivial⟩)))); done)) | exact by_oa); exact by_g) | ((with_reducible apply CW.cond_t); exact rfl; exact by_ks) | ((with_reducible apply CW.cond_f); exact rfl; exact by_ks) | ((with_reducible apply q_block_miss); exact rfl) | (refine And.intro (show chk [] [] _ _ = true by kernel_rfl) ?_))
  refine Stop.cutk [sd 43 (dbool (outI n lo hi i.a i.b i.n))] [.s 0, .s 4, .s 7, .o 0, .nx] ?_ ?_
  · have T : (i.a < 0 ∨ 4 ≤ i.a ∨ (n < 1 ∧ i.a ≠ 0) ∨ i.b < 0 ∨ 4 ≤ i.b ∨ (n < 2 ∧ i.b ≠ 0) ∨ i.n < lo ∨ hi < i.n) → outI n lo hi i.a i.b i.n = true := fun h => decide_eq_true h
    have F : ¬ (i.a < 0 ∨ 4 ≤ i.a ∨ (n < 1 ∧ i.a ≠ 0) ∨ i.b < 0 ∨ 4 ≤ i.b ∨ (n < 2 ∧ i.b ≠ 0) ∨ i.n < lo ∨ hi < i.n) → outI n lo hi i.a i.b i.n = false := fun h => decide_eq_false h
    by_cases ha0 : i.a < 0
    · rw [T (by omega)]
      repeat (first | ((with_reducible apply s1); exact rfl) | (with_reducible first | apply CW.seq | apply CW.block | apply CW.region | apply CW.draw | apply CW.skip | apply CW.exit | apply CW.ret | apply q_then | apply q_then_exit | apply q_then_ret | apply q_block | apply q_block_ret | apply q_block_hit | apply q_ret | apply q_end | apply q_loop_exit | apply q_loop_ret | apply q_loopT_exit | apply q_loopT_ret | apply RW.nil) | ((with_reducible apply s3); exact rfl; exact by_k) | ((with_reducible apply s2); exact rfl; exact by_k) | ((with_reducible apply s4); exact rfl) | ((with_reducible apply s5); (first | exact by_oa); exact by_g) | ((with_reducible apply CW.cond_t); exact rfl; exact by_ks) | ((with_reducible apply CW.cond_f); exact rfl; exact by_ks) | ((with_reducible apply q_block_miss); exact rfl) | (refine And.intro (show chk [] [] _ _ = true by kernel_rfl) ?_))
      refine q_cut ?_
      exact by_less
    by_cases ha4 : 4 ≤ i.a
    · rw [T (by omega)]
      repeat (first | ((with_reducible apply s1); exact rfl) | (with_reducible first | apply CW.seq | apply CW.block | apply CW.region | apply CW.draw | apply CW.skip | apply CW.exit | apply CW.ret | apply q_then | apply q_then_exit | apply q_then_ret | apply q_block | apply q_block_ret | apply q_block_hit | apply q_ret | apply q_end | apply q_loop_exit | apply q_loop_ret | apply q_loopT_exit | apply q_loopT_ret | apply RW.nil) | ((with_reducible apply s3); exact rfl; exact by_k) | ((with_reducible apply s2); exact rfl; exact by_k) | ((with_reducible apply s4); exact rfl) | ((with_reducible apply s5); (first | exact by_oa); exact by_g) | ((with_reducible apply CW.cond_t); exact rfl; exact by_ks) | ((with_reducible apply CW.cond_f); exact rfl; exact by_ks) | ((with_reducible apply q_block_miss); exact rfl) | (refine And.intro (show chk [] [] _ _ = true by kernel_rfl) ?_))
      refine q_cut ?_
      exact by_less
    by_cases hn1 : n < 1
    · by_cases ha : i.a = 0
      · skip
        by_cases hb0 : i.b < 0
        · rw [T (by omega)]
          repeat (first | ((with_reducible apply s1); exact rfl) | (with_reducible first | apply CW.seq | apply CW.block | apply CW.region | apply CW.draw | apply CW.skip | apply CW.exit | apply CW.ret | apply q_then | apply q_then_exit | apply q_then_ret | apply q_block | apply q_block_ret | apply q_block_hit | apply q_ret | apply q_end | apply q_loop_exit | apply q_loop_ret | apply q_loopT_exit | apply q_loopT_ret | apply RW.nil) | ((with_reducible apply s3); exact rfl; exact by_k) | ((with_reducible apply s2); exact rfl; exact by_k) | ((with_reducible apply s4); exact rfl) | ((with_reducible apply s5); (first | exact by_oa); exact by_g) | ((with_reducible apply CW.cond_t); exact rfl; exact by_ks) | ((with_reducible apply CW.cond_f); exact rfl; exact by_ks) | ((with_reducible apply q_block_miss); exact rfl) | (refine And.intro (show chk [] [] _ _ = true by kernel_rfl) ?_))
          refine q_cut ?_
          exact by_less
        by_cases hb4 : 4 ≤ i.b
        · rw [T (by omega)]
          repeat (first | ((with_reducible apply s1); exact rfl) | (with_reducible first | apply CW.seq | apply CW.block | apply CW.region | apply CW.draw | apply CW.skip | apply CW.exit | apply CW.ret | apply q_then | apply q_then_exit | apply q_then_ret | apply q_block | apply q_block_ret | apply q_block_hit | apply q_ret | apply q_end | apply q_loop_exit | apply q_loop_ret | apply q_loopT_exit | apply q_loopT_ret | apply RW.nil) | ((with_reducible apply s3); exact rfl; exact by_k) | ((with_reducible apply s2); exact rfl; exact by_k) | ((with_reducible apply s4); exact rfl) | ((with_reducible apply s5); (first | exact by_oa); exact by_g) | ((with_reducible apply CW.cond_t); exact rfl; exact by_ks) | ((with_reducible apply CW.cond_f); exact rfl; exact by_ks) | ((with_reducible apply q_block_miss); exact rfl) | (refine And.intro (show chk [] [] _ _ = true by kernel_rfl) ?_))
          refine q_cut ?_
          exact by_less
        by_cases hn2 : n < 2
        · by_cases hb : i.b = 0
          · skip
            by_cases hx0 : i.n < lo
            · rw [T (by omega)]
              repeat (first | ((with_reducible apply s1); exact rfl) | (with_reducible first | apply CW.seq | apply CW.block | apply CW.region | apply CW.draw | apply CW.skip | apply CW.exit | apply CW.ret | apply q_then | apply q_then_exit | apply q_then_ret | apply q_block | apply q_block_ret | apply q_block_hit | apply q_ret | apply q_end | apply q_loop_exit | apply q_loop_ret | apply q_loopT_exit | apply q_loopT_ret | apply RW.nil) | ((with_reducible apply s3); exact rfl; exact by_k) | ((with_reducible apply s2); exact rfl; exact by_k) | ((with_reducible apply s4); exact rfl) | ((with_reducible apply s5); (first | exact by_oa); exact by_g) | ((with_reducible apply CW.cond_t); exact rfl; exact by_ks) | ((with_reducible apply CW.cond_f); exact rfl; exact by_ks) | ((with_reducible apply q_block_miss); exact rfl) | (refine And.intro (show chk [] [] _ _ = true by kernel_rfl) ?_))
              refine q_cut ?_
              exact by_less
            by_cases hx1 : hi < i.n
            · rw [T (by omega)]
              repeat (first | ((with_reducible apply s1); exact rfl) | (with_reducible first | apply CW.seq | apply CW.block | apply CW.region | apply CW.draw | apply CW.skip | apply CW.exit | apply CW.ret | apply q_then | apply q_then_exit | apply q_then_ret | apply q_block | apply q_block_ret | apply q_block_hit | apply q_ret | apply q_end | apply q_loop_exit | apply q_loop_ret | apply q_loopT_exit | apply q_loopT_ret | apply RW.nil) | ((with_reducible apply s3); exact rfl; exact by_k) | ((with_reducible apply s2); exact rfl; exact by_k) | ((with_reducible apply s4); exact rfl) | ((with_reducible apply s5); (first | exact by_oa); exact by_g) | ((with_reducible apply CW.cond_t); exact rfl; exact by_ks) | ((with_reducible apply CW.cond_f); exact rfl; exact by_ks) | ((with_reducible apply q_block_miss); exact rfl) | (refine And.intro (show chk [] [] _ _ = true by kernel_rfl) ?_))
              refine q_cut ?_
              exact by_less
            rw [F (by omega)]
            repeat (first | ((with_reducible apply s1); exact rfl) | (with_reducible first | apply CW.seq | apply CW.block | apply CW.region | apply CW.draw | apply CW.skip | apply CW.exit | apply CW.ret | apply q_then | apply q_then_exit | apply q_then_ret | apply q_block | apply q_block_ret | apply q_block_hit | apply q_ret | apply q_end | apply q_loop_exit | apply q_loop_ret | apply q_loopT_exit | apply q_loopT_ret | apply RW.nil) | ((with_reducible apply s3); exact rfl; exact by_k) | ((with_reducible apply s2); exact rfl; exact by_k) | ((with_reducible apply s4); exact rfl) | ((with_reducible apply s5); (first | exact by_oa); exact by_g) | ((with_reducible apply CW.cond_t); exact rfl; exact by_ks) | ((with_reducible apply CW.cond_f); exact rfl; exact by_ks) | ((with_reducible apply q_block_miss); exact rfl) | (refine And.intro (show chk [] [] _ _ = true by kernel_rfl) ?_))
            refine q_cut ?_
            exact by_less
          · rw [T (by omega)]
            repeat (first | ((with_reducible apply s1); exact rfl) | (with_reducible first | apply CW.seq | apply CW.block | apply CW.region | apply CW.draw | apply CW.skip | apply CW.exit | apply CW.ret | apply q_then | apply q_then_exit | apply q_then_ret | apply q_block | apply q_block_ret | apply q_block_hit | apply q_ret | apply q_end | apply q_loop_exit | apply q_loop_ret | apply q_loopT_exit | apply q_loopT_ret | apply RW.nil) | ((with_reducible apply s3); exact rfl; exact by_k) | ((with_reducible apply s2); exact rfl; exact by_k) | ((with_reducible apply s4); exact rfl) | ((with_reducible apply s5); (first | exact by_oa); exact by_g) | ((with_reducible apply CW.cond_t); exact rfl; exact by_ks) | ((with_reducible apply CW.cond_f); exact rfl; exact by_ks) | ((with_reducible apply q_block_miss); exact rfl) | (refine And.intro (show chk [] [] _ _ = true by kernel_rfl) ?_))
            refine q_cut ?_
            exact by_less
        by_cases hx0 : i.n < lo
        · rw [T (by omega)]
          repeat (first | ((with_reducible apply s1); exact rfl) | (with_reducible first | apply CW.seq | apply CW.block | apply CW.region | apply CW.draw | apply CW.skip | apply CW.exit | apply CW.ret | apply q_then | apply q_then_exit | apply q_then_ret | apply q_block | apply q_block_ret | apply q_block_hit | apply q_ret | apply q_end | apply q_loop_exit | apply q_loop_ret | apply q_loopT_exit | apply q_loopT_ret | apply RW.nil) | ((with_reducible apply s3); exact rfl; exact by_k) | ((with_reducible apply s2); exact rfl; exact by_k) | ((with_reducible apply s4); exact rfl) | ((with_reducible apply s5); (first | exact by_oa); exact by_g) | ((with_reducible apply CW.cond_t); exact rfl; exact by_ks) | ((with_reducible apply CW.cond_f); exact rfl; exact by_ks) | ((with_reducible apply q_block_miss); exact rfl) | (refine And.intro (show chk [] [] _ _ = true by kernel_rfl) ?_))
          refine q_cut ?_
          exact by_less
        by_cases hx1 : hi < i.n
        · rw [T (by omega)]
          repeat (first | ((with_reducible apply s1); exact rfl) | (with_reducible first | apply CW.seq | apply CW.block | apply CW.region | apply CW.draw | apply CW.skip | apply CW.exit | apply CW.ret | apply q_then | apply q_then_exit | apply q_then_ret | apply q_block | apply q_block_ret | apply q_block_hit | apply q_ret | apply q_end | apply q_loop_exit | apply q_loop_ret | apply q_loopT_exit | apply q_loopT_ret | apply RW.nil) | ((with_reducible apply s3); exact rfl; exact by_k) | ((with_reducible apply s2); exact rfl; exact by_k) | ((with_reducible apply s4); exact rfl) | ((with_reducible apply s5); (first | exact by_oa); exact by_g) | ((with_reducible apply CW.cond_t); exact rfl; exact by_ks) | ((with_reducible apply CW.cond_f); exact rfl; exact by_ks) | ((with_reducible apply q_block_miss); exact rfl) | (refine And.intro (show chk [] [] _ _ = true by kernel_rfl) ?_))
          refine q_cut ?_
          exact by_less
        rw [F (by omega)]
        repeat (first | ((with_reducible apply s1); exact rfl) | (with_reducible first | apply CW.seq | apply CW.block | apply CW.region | apply CW.draw | apply CW.skip | apply CW.exit | apply CW.ret | apply q_then | apply q_then_exit | apply q_then_ret | apply q_block | apply q_block_ret | apply q_block_hit | apply q_ret | apply q_end | apply q_loop_exit | apply q_loop_ret | apply q_loopT_exit | apply q_loopT_ret | apply RW.nil) | ((with_reducible apply s3); exact rfl; exact by_k) | ((with_reducible apply s2); exact rfl; exact by_k) | ((with_reducible apply s4); exact rfl) | ((with_reducible apply s5); (first | exact by_oa); exact by_g) | ((with_reducible apply CW.cond_t); exact rfl; exact by_ks) | ((with_reducible apply CW.cond_f); exact rfl; exact by_ks) | ((with_reducible apply q_block_miss); exact rfl) | (refine And.intro (show chk [] [] _ _ = true by kernel_rfl) ?_))
        refine q_cut ?_
        exact by_less
      · rw [T (by omega)]
        repeat (first | ((with_reducible apply s1); exact rfl) | (with_reducible first | apply CW.seq | apply CW.block | apply CW.region | apply CW.draw | apply CW.skip | apply CW.exit | apply CW.ret | apply q_then | apply q_then_exit | apply q_then_ret | apply q_block | apply q_block_ret | apply q_block_hit | apply q_ret | apply q_end | apply q_loop_exit | apply q_loop_ret | apply q_loopT_exit | apply q_loopT_ret | apply RW.nil) | ((with_reducible apply s3); exact rfl; exact by_k) | ((with_reducible apply s2); exact rfl; exact by_k) | ((with_reducible apply s4); exact rfl) | ((with_reducible apply s5); (first | exact by_oa); exact by_g) | ((with_reducible apply CW.cond_t); exact rfl; exact by_ks) | ((with_reducible apply CW.cond_f); exact rfl; exact by_ks) | ((with_reducible apply q_block_miss); exact rfl) | (refine And.intro (show chk [] [] _ _ = true by kernel_rfl) ?_))
        refine q_cut ?_
        exact by_less
    by_cases hb0 : i.b < 0
    · rw [T (by omega)]
      repeat (first | ((with_reducible apply s1); exact rfl) | (with_reducible first | apply CW.seq | apply CW.block | apply CW.region | apply CW.draw | apply CW.skip | apply CW.exit | apply CW.ret | apply q_then | apply q_then_exit | apply q_then_ret | apply q_block | apply q_block_ret | apply q_block_hit | apply q_ret | apply q_end | apply q_loop_exit | apply q_loop_ret | apply q_loopT_exit | apply q_loopT_ret | apply RW.nil) | ((with_reducible apply s3); exact rfl; exact by_k) | ((with_reducible apply s2); exact rfl; exact by_k) | ((with_reducible apply s4); exact rfl) | ((with_reducible apply s5); (first | exact by_oa); exact by_g) | ((with_reducible apply CW.cond_t); exact rfl; exact by_ks) | ((with_reducible apply CW.cond_f); exact rfl; exact by_ks) | ((with_reducible apply q_block_miss); exact rfl) | (refine And.intro (show chk [] [] _ _ = true by kernel_rfl) ?_))
      refine q_cut ?_
      exact by_less
    by_cases hb4 : 4 ≤ i.b
    · rw [T (by omega)]
      repeat (first | ((with_reducible apply s1); exact rfl) | (with_reducible first | apply CW.seq | apply CW.block | apply CW.region | apply CW.draw | apply CW.skip | apply CW.exit | apply CW.ret | apply q_then | apply q_then_exit | apply q_then_ret | apply q_block | apply q_block_ret | apply q_block_hit | apply q_ret | apply q_end | apply q_loop_exit | apply q_loop_ret | apply q_loopT_exit | apply q_loopT_ret | apply RW.nil) | ((with_reducible apply s3); exact rfl; exact by_k) | ((with_reducible apply s2); exact rfl; exact by_k) | ((with_reducible apply s4); exact rfl) | ((with_reducible apply s5); (first | exact by_oa); exact by_g) | ((with_reducible apply CW.cond_t); exact rfl; exact by_ks) | ((with_reducible apply CW.cond_f); exact rfl; exact by_ks) | ((with_reducible apply q_block_miss); exact rfl) | (refine And.intro (show chk [] [] _ _ = true by kernel_rfl) ?_))
      refine q_cut ?_
      exact by_less
    by_cases hn2 : n < 2
    · by_cases hb : i.b = 0
      · skip
        by_cases hx0 : i.n < lo
        · rw [T (by omega)]
          repeat (first | ((with_reducible apply s1); exact rfl) | (with_reducible first | apply CW.seq | apply CW.block | apply CW.region | apply CW.draw | apply CW.skip | apply CW.exit | apply CW.ret | apply q_then | apply q_then_exit | apply q_then_ret | apply q_block | apply q_block_ret | apply q_block_hit | apply q_ret | apply q_end | apply q_loop_exit | apply q_loop_ret | apply q_loopT_exit | apply q_loopT_ret | apply RW.nil) | ((with_reducible apply s3); exact rfl; exact by_k) | ((with_reducible apply s2); exact rfl; exact by_k) | ((with_reducible apply s4); exact rfl) | ((with_reducible apply s5); (first | exact by_oa); exact by_g) | ((with_reducible apply CW.cond_t); exact rfl; exact by_ks) | ((with_reducible apply CW.cond_f); exact rfl; exact by_ks) | ((with_reducible apply q_block_miss); exact rfl) | (refine And.intro (show chk [] [] _ _ = true by kernel_rfl) ?_))
          refine q_cut ?_
          exact by_less
        by_cases hx1 : hi < i.n
        · rw [T (by omega)]
          repeat (first | ((with_reducible apply s1); exact rfl) | (with_reducible first | apply CW.seq | apply CW.block | apply CW.region | apply CW.draw | apply CW.skip | apply CW.exit | apply CW.ret | apply q_then | apply q_then_exit | apply q_then_ret | apply q_block | apply q_block_ret | apply q_block_hit | apply q_ret | apply q_end | apply q_loop_exit | apply q_loop_ret | apply q_loopT_exit | apply q_loopT_ret | apply RW.nil) | ((with_reducible apply s3); exact rfl; exact by_k) | ((with_reducible apply s2); exact rfl; exact by_k) | ((with_reducible apply s4); exact rfl) | ((with_reducible apply s5); (first | exact by_oa); exact by_g) | ((with_reducible apply CW.cond_t); exact rfl; exact by_ks) | ((with_reducible apply CW.cond_f); exact rfl; exact by_ks) | ((with_reducible apply q_block_miss); exact rfl) | (refine And.intro (show chk [] [] _ _ = true by kernel_rfl) ?_))
          refine q_cut ?_
          exact by_less
        rw [F (by omega)]
        repeat (first | ((with_reducible apply s1); exact rfl) | (with_reducible first | apply CW.seq | apply CW.block | apply CW.region | apply CW.draw | apply CW.skip | apply CW.exit | apply CW.ret | apply q_then | apply q_then_exit | apply q_then_ret | apply q_block | apply q_block_ret | apply q_block_hit | apply q_ret | apply q_end | apply q_loop_exit | apply q_loop_ret | apply q_loopT_exit | apply q_loopT_ret | apply RW.nil) | ((with_reducible apply s3); exact rfl; exact by_k) | ((with_reducible apply s2); exact rfl; exact by_k) | ((with_reducible apply s4); exact rfl) | ((with_reducible apply s5); (first | exact by_oa); exact by_g) | ((with_reducible apply CW.cond_t); exact rfl; exact by_ks) | ((with_reducible apply CW.cond_f); exact rfl; exact by_ks) | ((with_reducible apply q_block_miss); exact rfl) | (refine And.intro (show chk [] [] _ _ = true by kernel_rfl) ?_))
        refine q_cut ?_
        exact by_less
      · rw [T (by omega)]
        repeat (first | ((with_reducible apply s1); exact rfl) | (with_reducible first | apply CW.seq | apply CW.block | apply CW.region | apply CW.draw | apply CW.skip | apply CW.exit | apply CW.ret | apply q_then | apply q_then_exit | apply q_then_ret | apply q_block | apply q_block_ret | apply q_block_hit | apply q_ret | apply q_end | apply q_loop_exit | apply q_loop_ret | apply q_loopT_exit | apply q_loopT_ret | apply RW.nil) | ((with_reducible apply s3); exact rfl; exact by_k) | ((with_reducible apply s2); exact rfl; exact by_k) | ((with_reducible apply s4); exact rfl) | ((with_reducible apply s5); (first | exact by_oa); exact by_g) | ((with_reducible apply CW.cond_t); exact rfl; exact by_ks) | ((with_reducible apply CW.cond_f); exact rfl; exact by_ks) | ((with_reducible apply q_block_miss); exact rfl) | (refine And.intro (show chk [] [] _ _ = true by kernel_rfl) ?_))
        refine q_cut ?_
        exact by_less
    by_cases hx0 : i.n < lo
    · rw [T (by omega)]
      repeat (first | ((with_reducible apply s1); exact rfl) | (with_reducible first | apply CW.seq | apply CW.block | apply CW.region | apply CW.draw | apply CW.skip | apply CW.exit | apply CW.ret | apply q_then | apply q_then_exit | apply q_then_ret | apply q_block | apply q_block_ret | apply q_block_hit | apply q_ret | apply q_end | apply q_loop_exit | apply q_loop_ret | apply q_loopT_exit | apply q_loopT_ret | apply RW.nil) | ((with_reducible apply s3); exact rfl; exact by_k) | ((with_reducible apply s2); exact rfl; exact by_k) | ((with_reducible apply s4); exact rfl) | ((with_reducible apply s5); (first | exact by_oa); exact by_g) | ((with_reducible apply CW.cond_t); exact rfl; exact by_ks) | ((with_reducible apply CW.cond_f); exact rfl; exact by_ks) | ((with_reducible apply q_block_miss); exact rfl) | (refine And.intro (show chk [] [] _ _ = true by kernel_rfl) ?_))
      refine q_cut ?_
      exact by_less
    by_cases hx1 : hi < i.n
    · rw [T (by omega)]
      repeat (first | ((with_reducible apply s1); exact rfl) | (with_reducible first | apply CW.seq | apply CW.block | apply CW.region | apply CW.draw | apply CW.skip | apply CW.exit | apply CW.ret | apply q_then | apply q_then_exit | apply q_then_ret | apply q_block | apply q_block_ret | apply q_block_hit | apply q_ret | apply q_end | apply q_loop_exit | apply q_loop_ret | apply q_loopT_exit | apply q_loopT_ret | apply RW.nil) | ((with_reducible apply s3); exact rfl; exact by_k) | ((with_reducible apply s2); exact rfl; exact by_k) | ((with_reducible apply s4); exact rfl) | ((with_reducible apply s5); (first | exact by_oa); exact by_g) | ((with_reducible apply CW.cond_t); exact rfl; exact by_ks) | ((with_reducible apply CW.cond_f); exact rfl; exact by_ks) | ((with_reducible apply q_block_miss); exact rfl) | (refine And.intro (show chk [] [] _ _ = true by kernel_rfl) ?_))
      refine q_cut ?_
      exact by_less
    rw [F (by omega)]
    repeat (first | ((with_reducible apply s1); exact rfl) | (with_reducible first | apply CW.seq | apply CW.block | apply CW.region | apply CW.draw | apply CW.skip | apply CW.exit | apply CW.ret | apply q_then | apply q_then_exit | apply q_then_ret | apply q_block | apply q_block_ret | apply q_block_hit | apply q_ret | apply q_end | apply q_loop_exit | apply q_loop_ret | apply q_loopT_exit | apply q_loopT_ret | apply RW.nil) | ((with_reducible apply s3); exact rfl; exact by_k) | ((with_reducible apply s2); exact rfl; exact by_k) | ((with_reducible apply s4); exact rfl) | ((with_reducible apply s5); (first | exact by_oa); exact by_g) | ((with_reducible apply CW.cond_t); exact rfl; exact by_ks) | ((with_reducible apply CW.cond_f); exact rfl; exact by_ks) | ((with_reducible apply q_block_miss); exact rfl) | (refine And.intro (show chk [] [] _ _ = true by kernel_rfl) ?_))
    refine q_cut ?_
    exact by_less
  cases ho : outI n lo hi i.a i.b i.n with
  | true =>
    rw [if_pos rfl]
    repeat (first | ((with_reducible apply s1); exact rfl) | (with_reducible first | apply CW.seq | apply CW.block | apply CW.region | apply CW.draw | apply CW.skip | apply CW.exit | apply CW.ret | apply q_then | apply q_then_exit | apply q_then_ret | apply q_block | apply q_block_ret | apply q_block_hit | apply q_ret | apply q_end | apply q_loop_exit | apply q_loop_ret | apply q_loopT_exit | apply q_loopT_ret | apply RW.nil) | ((with_reducible apply s3); exact rfl; exact by_k) | ((with_reducible apply s2); exact rfl; exact by_k) | ((with_reducible apply s4); exact rfl) | ((with_reducible apply s5); (first | exact by_oa); exact by_g) | ((with_reducible apply CW.cond_t); exact rfl; exact by_ks) | ((with_reducible apply CW.cond_f); exact rfl; exact by_ks) | ((with_reducible apply q_block_miss); exact rfl) | (refine And.intro (show chk [] [] _ _ = true by kernel_rfl) ?_))
    exact .one (.tmp rfl (.one (.d (.refl _))))
  | false =>
    rw [if_neg (by simp)]
    by_cases hkey : i.key = []
    · rw [if_neg (fun h => h.2 hkey)]
      by_cases h1 : i.kind = 1
      · have hk1 : keyedB i.kind = true := decide_eq_true (.inl h1)
        rw [hk1]
        cases hin : isIn d.reads i.key with
        | false =>
          rw [if_pos (.inl ⟨h1, rfl⟩)]
          rw [hin] at c1
          repeat (first | ((with_reducible apply s1); exact rfl) | (with_reducible first | apply CW.seq | apply CW.block | apply CW.region | apply CW.draw | apply CW.skip | apply CW.exit | apply CW.ret | apply q_then | apply q_then_exit | apply q_then_ret | apply q_block | apply q_block_ret | apply q_block_hit | apply q_ret | apply q_end | apply q_loop_exit | apply q_loop_ret | apply q_loopT_exit | apply q_loopT_ret | apply RW.nil) | ((with_reducible apply s3); exact rfl; exact by_k) | ((with_reducible apply s2); exact rfl; exact by_k) | ((with_reducible apply s4); exact rfl) | ((with_reducible apply s5); (first | (focus ((with_reducible apply a_call); exact c1; exact rfl; (repeat (first | exact SubsE.nil | (apply SubsE.cons; exact rfl; (first | exact .d (.refl _) | exact .d (.nil _) | exact .agg rfl (.refl _) | exact .pd | exact .ptr rfl); (first | exact trivial | exact ⟨rfl, trivial⟩)))); done)) | ((with_reducible apply a_nilpd); (iterate 2 exact rfl)) | exact by_oa); exact by_g) | ((with_reducible apply CW.cond_t); exact rfl; exact by_ks) | ((with_reducible apply CW.cond_f); exact rfl; exact by_ks) | ((with_reducible apply q_block_miss); exact rfl) | (refine And.intro (show chk [] [] _ _ = true by kernel_rfl) ?_))
          exact .one (.tmp rfl (.one (.d (.refl _))))
        | true =>
          rw [if_neg (by simp [h1])]
          rw [hin] at c1
          repeat (first | ((with_reducible apply s1); exact rfl) | (with_reducible first | apply CW.seq | apply CW.block | apply CW.region | apply CW.draw | apply CW.skip | apply CW.exit | apply CW.ret | apply q_then | apply q_then_exit | apply q_then_ret | apply q_block | apply q_block_ret | apply q_block_hit | apply q_ret | apply q_end | apply q_loop_exit | apply q_loop_ret | apply q_loopT_exit | apply q_loopT_ret | apply RW.nil) | ((with_reducible apply s3); exact rfl; exact by_k) | ((with_reducible apply s2); exact rfl; exact by_k) | ((with_reducible apply s4); exact rfl) | ((with_reducible apply s5); (first | (focus ((with_reducible apply a_call); exact c1; exact rfl; (repeat (first | exact SubsE.nil | (apply SubsE.cons; exact rfl; (first | exact .d (.refl _) | exact .d (.nil _) | exact .agg rfl (.refl _) | exact .pd | exact .ptr rfl); (first | exact trivial | exact ⟨rfl, trivial⟩)))); done)) | ((with_reducible apply a_nilpd); (iterate 2 exact rfl)) | exact by_oa); exact by_g) | ((with_reducible apply CW.cond_t); exact rfl; exact by_ks) | ((with_reducible apply CW.cond_f); exact rfl; exact by_ks) | ((with_reducible apply q_block_miss); exact rfl) | (refine And.intro (show chk [] [] _ _ = true by kernel_rfl) ?_))
          exact .one (.tmp rfl (.one (.d (.refl _))))
      · cases hkb : keyedB i.kind with
        | false =>
          rw [if_neg (by simp [h1])]
          repeat (first | ((with_reducible apply s1); exact rfl) | (with_reducible first | apply CW.seq | apply CW.block | apply CW.region | apply CW.draw | apply CW.skip | apply CW.exit | apply CW.ret | apply q_then | apply q_then_exit | apply q_then_ret | apply q_block | apply q_block_ret | apply q_block_hit | apply q_ret | apply q_end | apply q_loop_exit | apply q_loop_ret | apply q_loopT_exit | apply q_loopT_ret | apply RW.nil) | ((with_reducible apply s3); exact rfl; exact by_k) | ((with_reducible apply s2); exact rfl; exact by_k) | ((with_reducible apply s4); exact rfl) | ((with_reducible apply s5); (first | exact by_oa); exact by_g) | ((with_reducible apply CW.cond_t); exact rfl; exact by_ks) | ((with_reducible apply CW.cond_f); exact rfl; exact by_ks) | ((with_reducible apply q_block_miss); exact rfl) | (refine And.intro (show chk [] [] _ _ = true by kernel_rfl) ?_))
          exact .one (.tmp rfl (.one (.d (.refl _))))
        | true =>
          cases hin : isIn d.writes i.key with
          | false =>
            rw [if_pos (.inr ⟨rfl, h1, rfl⟩)]
            rw [hin] at c2
            repeat (first | ((with_reducible apply s1); exact rfl) | (with_reducible first | apply CW.seq | apply CW.block | apply CW.region | apply CW.draw | apply CW.skip | apply CW.exit | apply CW.ret | apply q_then | apply q_then_exit | apply q_then_ret | apply q_block | apply q_block_ret | apply q_block_hit | apply q_ret | apply q_end | apply q_loop_exit | apply q_loop_ret | apply q_loopT_exit | apply q_loopT_ret | apply RW.nil) | ((with_reducible apply s3); exact rfl; exact by_k) | ((with_reducible apply s2); exact rfl; exact by_k) | ((with_reducible apply s4); exact rfl) | ((with_reducible apply s5); (first | (focus ((with_reducible apply a_call); exact c2; exact rfl; (repeat (first | exact SubsE.nil | (apply SubsE.cons; exact rfl; (first | exact .d (.refl _) | exact .d (.nil _) | exact .agg rfl (.refl _) | exact .pd | exact .ptr rfl); (first | exact trivial | exact ⟨rfl, trivial⟩)))); done)) | ((with_reducible apply a_nilpd); (iterate 2 exact rfl)) | exact by_oa); exact by_g) | ((with_reducible apply CW.cond_t); exact rfl; exact by_ks) | ((with_reducible apply CW.cond_f); exact rfl; exact by_ks) | ((with_reducible apply q_block_miss); exact rfl) | (refine And.intro (show chk [] [] _ _ = true by kernel_rfl) ?_))
            exact .one (.tmp rfl (.one (.d (.refl _))))
          | true =>
            rw [if_neg (by simp [h1])]
            rw [hin] at c2
            repeat (first | ((with_reducible apply s1); exact rfl) | (with_reducible first | apply CW.seq | apply CW.block | apply CW.region | apply CW.draw | apply CW.skip | apply CW.exit | apply CW.ret | apply q_then | apply q_then_exit | apply q_then_ret | apply q_block | apply q_block_ret | apply q_block_hit | apply q_ret | apply q_end | apply q_loop_exit | apply q_loop_ret | apply q_loopT_exit | apply q_loopT_ret | apply RW.nil) | ((with_reducible apply s3); exact rfl; exact by_k) | ((with_reducible apply s2); exact rfl; exact by_k) | ((with_reducible apply s4); exact rfl) | ((with_reducible apply s5); (first | (focus ((with_reducible apply a_call); exact c2; exact rfl; (repeat (first | exact SubsE.nil | (apply SubsE.cons; exact rfl; (first | exact .d (.refl _) | exact .d (.nil _) | exact .agg rfl (.refl _) | exact .pd | exact .ptr rfl); (first | exact trivial | exact ⟨rfl, trivial⟩)))); done)) | ((with_reducible apply a_nilpd); (iterate 2 exact rfl)) | exact by_oa); exact by_g) | ((with_reducible apply CW.cond_t); exact rfl; exact by_ks) | ((with_reducible apply CW.cond_f); exact rfl; exact by_ks) | ((with_reducible apply q_block_miss); exact rfl) | (refine And.intro (show chk [] [] _ _ = true by kernel_rfl) ?_))
            exact .one (.tmp rfl (.one (.d (.refl _))))
    · by_cases h1 : i.kind = 1
      · have hk1 : keyedB i.kind = true := decide_eq_true (.inl h1)
        rw [hk1, if_neg (by simp)]
        cases hin : isIn d.reads i.key with
        | false =>
          rw [if_pos (.inl ⟨h1, rfl⟩)]
          rw [hin] at c1
          repeat (first | ((with_reducible apply s1); exact rfl) | (with_reducible first | apply CW.seq | apply CW.block | apply CW.region | apply CW.draw | apply CW.skip | apply CW.exit | apply CW.ret | apply q_then | apply q_then_exit | apply q_then_ret | apply q_block | apply q_block_ret | apply q_block_hit | apply q_ret | apply q_end | apply q_loop_exit | apply q_loop_ret | apply q_loopT_exit | apply q_loopT_ret | apply RW.nil) | ((with_reducible apply s3); exact rfl; exact by_k) | ((with_reducible apply s2); exact rfl; exact by_k) | ((with_reducible apply s4); exact rfl) | ((with_reducible apply s5); (first | (focus ((with_reducible apply a_call); exact c1; exact rfl; (repeat (first | exact SubsE.nil | (apply SubsE.cons; exact rfl; (first | exact .d (.refl _) | exact .d (.nil _) | exact .agg rfl (.refl _) | exact .pd | exact .ptr rfl); (first | exact trivial | exact ⟨rfl, trivial⟩)))); done)) | ((with_reducible apply a_nilpd); (iterate 2 exact rfl)) | exact by_oa); exact by_g) | ((with_reducible apply CW.cond_t); exact rfl; exact by_ks) | ((with_reducible apply CW.cond_f); exact rfl; exact by_ks) | ((with_reducible apply q_block_miss); exact rfl) | (refine And.intro (show chk [] [] _ _ = true by kernel_rfl) ?_))
          exact .one (.tmp rfl (.one (.d (.refl _))))
        | true =>
          rw [if_neg (by simp [h1])]
          rw [hin] at c1
          repeat (first | ((with_reducible apply s1); exact rfl) | (with_reducible first | apply CW.seq | apply CW.block | apply CW.region | apply CW.draw | apply CW.skip | apply CW.exit | apply CW.ret | apply q_then | apply q_then_exit | apply q_then_ret | apply q_block | apply q_block_ret | apply q_block_hit | apply q_ret | apply q_end | apply q_loop_exit | apply q_loop_ret | apply q_loopT_exit | apply q_loopT_ret | apply RW.nil) | ((with_reducible apply s3); exact rfl; exact by_k) | ((with_reducible apply s2); exact rfl; exact by_k) | ((with_reducible apply s4); exact rfl) | ((with_reducible apply s5); (first | (focus ((with_reducible apply a_call); exact c1; exact rfl; (repeat (first | exact SubsE.nil | (apply SubsE.cons; exact rfl; (first | exact .d (.refl _) | exact .d (.nil _) | exact .agg rfl (.refl _) | exact .pd | exact .ptr rfl); (first | exact trivial | exact ⟨rfl, trivial⟩)))); done)) | ((with_reducible apply a_nilpd); (iterate 2 exact rfl)) | exact by_oa); exact by_g) | ((with_reducible apply CW.cond_t); exact rfl; exact by_ks) | ((with_reducible apply CW.cond_f); exact rfl; exact by_ks) | ((with_reducible apply q_block_miss); exact rfl) | (refine And.intro (show chk [] [] _ _ = true by kernel_rfl) ?_))
          exact .one (.tmp rfl (.one (.d (.refl _))))
      · cases hkb : keyedB i.kind with
        | false =>
          rw [if_pos ⟨rfl, hkey⟩]
          repeat (first | ((with_reducible apply s1); exact rfl) | (with_reducible first | apply CW.seq | apply CW.block | apply CW.region | apply CW.draw | apply CW.skip | apply CW.exit | apply CW.ret | apply q_then | apply q_then_exit | apply q_then_ret | apply q_block | apply q_block_ret | apply q_block_hit | apply q_ret | apply q_end | apply q_loop_exit | apply q_loop_ret | apply q_loopT_exit | apply q_loopT_ret | apply RW.nil) | ((with_reducible apply s3); exact rfl; exact by_k) | ((with_reducible apply s2); exact rfl; exact by_k) | ((with_reducible apply s4); exact rfl) | ((with_reducible apply s5); (first | exact by_oa); exact by_g) | ((with_reducible apply CW.cond_t); exact rfl; exact by_ks) | ((with_reducible apply CW.cond_f); exact rfl; exact by_ks) | ((with_reducible apply q_block_miss); exact rfl) | (refine And.intro (show chk [] [] _ _ = true by kernel_rfl) ?_))
          exact .one (.tmp rfl (.one (.d (.refl _))))
        | true =>
          rw [if_neg (by simp)]
          cases hin : isIn d.writes i.key with
          | false =>
            rw [if_pos (.inr ⟨rfl, h1, rfl⟩)]
            rw [hin] at c2
            repeat (first | ((with_reducible apply s1); exact rfl) | (with_reducible first | apply CW.seq | apply CW.block | apply CW.region | apply CW.draw | apply CW.skip | apply CW.exit | apply CW.ret | apply q_then | apply q_then_exit | apply q_then_ret | apply q_block | apply q_block_ret | apply q_block_hit | apply q_ret | apply q_end | apply q_loop_exit | apply q_loop_ret | apply q_loopT_exit | apply q_loopT_ret | apply RW.nil) | ((with_reducible apply s3); exact rfl; exact by_k) | ((with_reducible apply s2); exact rfl; exact by_k) | ((with_reducible apply s4); exact rfl) | ((with_reducible apply s5); (first | (focus ((with_reducible apply a_call); exact c2; exact rfl; (repeat (first | exact SubsE.nil | (apply SubsE.cons; exact rfl; (first | exact .d (.refl _) | exact .d (.nil _) | exact .agg rfl (.refl _) | exact .pd | exact .ptr rfl); (first | exact trivial | exact ⟨rfl, trivial⟩)))); done)) | ((with_reducible apply a_nilpd); (iterate 2 exact rfl)) | exact by_oa); exact by_g) | ((with_reducible apply CW.cond_t); exact rfl; exact by_ks) | ((with_reducible apply CW.cond_f); exact rfl; exact by_ks) | ((with_reducible apply q_block_miss); exact rfl) | (refine And.intro (show chk [] [] _ _ = true by kernel_rfl) ?_))
            exact .one (.tmp rfl (.one (.d (.refl _))))
          | true =>
            rw [if_neg (by simp [h1])]
            rw [hin] at c2
            repeat (first | ((with_reducible apply s1); exact rfl) | (with_reducible first | apply CW.seq | apply CW.block | apply CW.region | apply CW.draw | apply CW.skip | apply CW.exit | apply CW.ret | apply q_then | apply q_then_exit | apply q_then_ret | apply q_block | apply q_block_ret | apply q_block_hit | apply q_ret | apply q_end | apply q_loop_exit | apply q_loop_ret | apply q_loopT_exit | apply q_loopT_ret | apply RW.nil) | ((with_reducible apply s3); exact rfl; exact by_k) | ((with_reducible apply s2); exact rfl; exact by_k) | ((with_reducible apply s4); exact rfl) | ((with_reducible apply s5); (first | (focus ((with_reducible apply a_call); exact c2; exact rfl; (repeat (first | exact SubsE.nil | (apply SubsE.cons; exact rfl; (first | exact .d (.refl _) | exact .d (.nil _) | exact .agg rfl (.refl _) | exact .pd | exact .ptr rfl); (first | exact trivial | exact ⟨rfl, trivial⟩)))); done)) | ((with_reducible apply a_nilpd); (iterate 2 exact rfl)) | exact by_oa); exact by_g) | ((with_reducible apply CW.cond_t); exact rfl; exact by_ks) | ((with_reducible apply CW.cond_f); exact rfl; exact by_ks) | ((with_reducible apply q_block_miss); exact rfl) | (refine And.intro (show chk [] [] _ _ = true by kernel_rfl) ?_))
            exact .one (.tmp rfl (.one (.d (.refl _))))

theorem ok_dkeys (l : List Str) (hl : l.length ≤ 268435456) (hk : ∀ s ∈ l, s.length ≤ 1073741824) : FnOk Tryd.prog 33 [.d (encStrs l)] (.one (dint (keysWrong l))) := by
  refine fnOk_of tbl_ok mixed_ok Tryd.func33 rfl (by kernel_rfl) rfl rfl fun w0 own0 => ?_
  unfold keysWrong
  by_cases h4 : 5 < l.length
  · rw [if_pos h4]
    repeat (first | ((with_reducible apply s1); exact rfl) | (with_reducible first | apply CW.seq | apply CW.block | apply CW.region | apply CW.draw | apply CW.skip | apply CW.exit | apply CW.ret | apply q_then | apply q_then_exit | apply q_then_ret | apply q_block | apply q_block_ret | apply q_block_hit | apply q_ret | apply q_end | apply q_loop_exit | apply q_loop_ret | apply q_loopT_exit | apply q_loopT_ret | apply RW.nil) | ((with_reducible apply s3); exact rfl; exact by_k) | ((with_reducible apply s2); exact rfl; exact by_k) | ((with_reducible apply s4); exact rfl) | ((with_reducible apply s5); (first | exact by_oa); exact by_g) | ((with_reducible apply CW.cond_t); exact rfl; exact by_ks) | ((with_reducible apply CW.cond_f); exact rfl; exact by_ks) | ((with_reducible apply q_block_miss); exact rfl) | (refine And.intro (show chk [] [] _ _ = true by kernel_rfl) ?_))
    exact .one (.tmp rfl (.one (.d (.refl _))))
  · rw [if_neg h4]
    repeat (first | ((with_reducible apply s1); exact rfl) | (with_reducible first | apply CW.seq | apply CW.block | apply CW.region | apply CW.draw | apply CW.skip | apply CW.exit | apply CW.ret | apply q_then | apply q_then_exit | apply q_then_ret | apply q_block | apply q_block_ret | apply q_block_hit | apply q_ret | apply q_end | apply q_loop_exit | apply q_loop_ret | apply q_loopT_exit | apply q_loopT_ret | apply RW.nil) | ((with_reducible apply s3); exact rfl; exact by_k) | ((with_reducible apply s2); exact rfl; exact by_k) | ((with_reducible apply s4); exact rfl) | ((with_reducible apply s5); (first | exact by_oa); exact by_g) | ((with_reducible apply CW.cond_t); exact rfl; exact by_ks) | ((with_reducible apply CW.cond_f); exact rfl; exact by_ks) | ((with_reducible apply q_block_miss); exact rfl) | (refine And.intro (show chk [] [] _ _ = true by kernel_rfl) ?_))
    refine CW.loopT (fun t : Nat => [sd 0 (encStrs l), sd 2 (dint 0), sd 8 (encStrs l), sd 9 (dint l.length), sd 10 (dint t), nxt 0])
      (fun t => t ≤ l.length ∧ keysGo l t (l.drop t) = keysGo l 0 l) (fun t => l.length - t) 0 ⟨by omega, rfl⟩ ?_ ?_
    ·
      exact by_less
    · rintro i ⟨hi, hJ⟩
      rcases drop_case hi with ⟨h5, h6⟩ | ⟨k, h5, h6, h7⟩
      · rw [h5, keysGo] at hJ
        repeat (first | ((with_reducible apply s1); exact rfl) | (with_reducible first | apply CW.seq | apply CW.block | apply CW.region | apply CW.draw | apply CW.skip | apply CW.exit | apply CW.ret | apply q_then | apply q_then_exit | apply q_then_ret | apply q_block | apply q_block_ret | apply q_block_hit | apply q_ret | apply q_end | apply q_loop_exit | apply q_loop_ret | apply q_loopT_exit | apply q_loopT_ret | apply RW.nil) | ((with_reducible apply s3); exact rfl; exact by_k) | ((with_reducible apply s2); exact rfl; exact by_k) | ((with_reducible apply s4); exact rfl) | ((with_reducible apply s5); (first | exact by_oa); exact by_g) | ((with_reducible apply CW.cond_t); exact rfl; exact by_ks) | ((with_reducible apply CW.cond_f); exact rfl; exact by_ks) | ((with_reducible apply q_block_miss); exact rfl) | (refine And.intro (show chk [] [] _ _ = true by kernel_rfl) ?_))
        rw [← hJ]
        exact .one (.tmp rfl (.one (.d (.refl _))))
      · rw [h5, keysGo] at hJ
        have hck := ok_pkey k (hk k (List.mem_of_getElem? h6))
        have hin : FnOk Tryd.prog 48 [.d (.sl 1 ((l.map encStr1).take i)), .d (dstr k)] (.one (dbool (isIn (l.take i) k))) := by
          rw [← List.map_take]
          exact ok_containsS (l.take i) k (by rw [List.length_take]; omega)
        cases h8 : key k with
        | false =>
          rw [h8] at hck
          rw [if_pos h8] at hJ
          repeat (first | ((with_reducible apply s1); exact rfl) | (with_reducible first | apply CW.seq | apply CW.block | apply CW.region | apply CW.draw | apply CW.skip | apply CW.exit | apply CW.ret | apply q_then | apply q_then_exit | apply q_then_ret | apply q_block | apply q_block_ret | apply q_block_hit | apply q_ret | apply q_end | apply q_loop_exit | apply q_loop_ret | apply q_loopT_exit | apply q_loopT_ret | apply RW.nil) | ((with_reducible apply s3); exact rfl; exact by_k) | ((with_reducible apply s2); exact rfl; exact by_k) | ((with_reducible apply s4); exact rfl) | ((with_reducible apply s5); (first | (focus ((with_reducible apply a_call); exact hck; exact rfl; (repeat (first | exact SubsE.nil | (apply SubsE.cons; exact rfl; (first | exact .d (.refl _) | exact .d (.nil _) | exact .agg rfl (.refl _) | exact .pd | exact .ptr rfl); (first | exact trivial | exact ⟨rfl, trivial⟩)))); done)) | exact by_oa); exact by_g) | ((with_reducible apply CW.cond_t); exact rfl; exact by_ks) | ((with_reducible apply CW.cond_f); exact rfl; exact by_ks) | ((with_reducible apply q_block_miss); exact rfl) | (refine And.intro (show chk [] [] _ _ = true by kernel_rfl) ?_))
          rw [← hJ]
          exact .one (.tmp rfl (.one (.d (.refl _))))
        | true =>
          rw [h8] at hck
          rw [if_neg (by simp [h8])] at hJ
          cases h9 : isIn (l.take i) k with
          | false =>
            rw [h9] at hin
            rw [if_neg (by simp [h9])] at hJ
            repeat (first | ((with_reducible apply s1); exact rfl) | (with_reducible first | apply CW.seq | apply CW.block | apply CW.region | apply CW.draw | apply CW.skip | apply CW.exit | apply CW.ret | apply q_then | apply q_then_exit | apply q_then_ret | apply q_block | apply q_block_ret | apply q_block_hit | apply q_ret | apply q_end | apply q_loop_exit | apply q_loop_ret | apply q_loopT_exit | apply q_loopT_ret | apply RW.nil) | ((with_reducible apply s3); exact rfl; exact by_k) | ((with_reducible apply s2); exact rfl; exact by_k) | ((with_reducible apply s4); exact rfl) | ((with_reducible apply s5); (first | (focus ((with_reducible apply a_call); exact hck; exact rfl; (repeat (first | exact SubsE.nil | (apply SubsE.cons; exact rfl; (first | exact .d (.refl _) | exact .d (.nil _) | exact .agg rfl (.refl _) | exact .pd | exact .ptr rfl); (first | exact trivial | exact ⟨rfl, trivial⟩)))); done)) | (focus ((with_reducible apply a_call); exact hin; exact rfl; (repeat (first | exact SubsE.nil | (apply SubsE.cons; exact rfl; (first | exact .d (.refl _) | exact .d (.nil _) | exact .agg rfl (.refl _) | exact .pd | exact .ptr rfl); (first | exact trivial | exact ⟨rfl, trivial⟩)))); done)) | exact by_oa); exact by_g) | ((with_reducible apply CW.cond_t); exact rfl; exact by_ks) | ((with_reducible apply CW.cond_f); exact rfl; exact by_ks) | ((with_reducible apply q_block_miss); exact rfl) | (refine And.intro (show chk [] [] _ _ = true by kernel_rfl) ?_))
            refine q_loopT (i + 1) ⟨by omega, hJ⟩ (by omega) ?_
            exact by_less
          | true =>
            rw [h9] at hin
            rw [if_pos h9] at hJ
            repeat (first | ((with_reducible apply s1); exact rfl) | (with_reducible first | apply CW.seq | apply CW.block | apply CW.region | apply CW.draw | apply CW.skip | apply CW.exit | apply CW.ret | apply q_then | apply q_then_exit | apply q_then_ret | apply q_block | apply q_block_ret | apply q_block_hit | apply q_ret | apply q_end | apply q_loop_exit | apply q_loop_ret | apply q_loopT_exit | apply q_loopT_ret | apply RW.nil) | ((with_reducible apply s3); exact rfl; exact by_k) | ((with_reducible apply s2); exact rfl; exact by_k) | ((with_reducible apply s4); exact rfl) | ((with_reducible apply s5); (first | (focus ((with_reducible apply a_call); exact hck; exact rfl; (repeat (first | exact SubsE.nil | (apply SubsE.cons; exact rfl; (first | exact .d (.refl _) | exact .d (.nil _) | exact .agg rfl (.refl _) | exact .pd | exact .ptr rfl); (first | exact trivial | exact ⟨rfl, trivial⟩)))); done)) | (focus ((with_reducible apply a_call); exact hin; exact rfl; (repeat (first | exact SubsE.nil | (apply SubsE.cons; exact rfl; (first | exact .d (.refl _) | exact .d (.nil _) | exact .agg rfl (.refl _) | exact .pd | exact .ptr rfl); (first | exact trivial | exact ⟨rfl, trivial⟩)))); done)) | exact by_oa); exact by_g) | ((with_reducible apply CW.cond_t); exact rfl; exact by_ks) | ((with_reducible apply CW.cond_f); exact rfl; exact by_ks) | ((with_reducible apply q_block_miss); exact rfl) | (refine And.intro (show chk [] [] _ _ = true by kernel_rfl) ?_))
            rw [← hJ]
            exact .one (.tmp rfl (.one (.d (.refl _))))

end Go.Proofs.YtjgbmdonhabmiaaDoor

/-! G21 -/
/-
  Contract of the program's Wrong of deeds.
-/
namespace Go.Proofs.YtjgbmdonhabmiaaDoor
open Go.AX Go.RF

set_option maxRecDepth 100000
set_option maxHeartbeats 8000000

theorem ok_pwrongDeed (d : Deed) (hs : d.Sm) : FnOk Tryd.prog 8 [.d (.agg d.enc)] (.one (dint (wrongDeed d))) := by
  refine fnOk_of tbl_ok mixed_ok Tryd.func8 rfl (by kernel_rfl) rfl rfl fun w0 own0 => ?_
  have hc := hs.c
  repeat (first | ((with_reducible apply s5); ((with_reducible apply a_bs ([d.reads, d.writes].map fun l => [encStrs l])); (iterate 9 exact rfl); (repeat (first | exact PartsE.nil | (apply PartsE.cons; exact rfl; exact rfl)))); exact by_g) | ((with_reducible apply s1); exact rfl) | (with_reducible first | apply CW.seq | apply CW.block | apply CW.region | apply CW.draw | apply CW.skip | apply CW.exit | apply CW.ret | apply q_then | apply q_then_exit | apply q_then_ret | apply q_block | apply q_block_ret | apply q_block_hit | apply q_ret | apply q_end | apply q_loop_exit | apply q_loop_ret | apply q_loopT_exit | apply q_loopT_ret | apply RW.nil) | ((with_reducible apply s3); exact rfl; exact by_k) | ((with_reducible apply s2); exact rfl; exact by_k) | ((with_reducible apply s4); exact rfl) | ((with_reducible apply s5); (first | exact by_oa); exact by_g) | ((with_reducible apply CW.cond_t); exact rfl; exact by_ks) | ((with_reducible apply CW.cond_f); exact rfl; exact by_ks) | ((with_reducible apply q_block_miss); exact rfl) | (refine And.intro (show chk [] [] _ _ = true by kernel_rfl) ?_))
  refine CW.loopT (fun j : Nat => [sp 1 0, ob 0 d.enc, sd 2 (dint 0), sd 13 (.sl 1 ([d.reads, d.writes].map fun l => [encStrs l])), sd 14 (dint 2), sd 15 (dint j), nxt 1])
    (fun j => j ≤ [d.reads, d.writes].length ∧ lsGo ([d.reads, d.writes].drop j) = lsGo [d.reads, d.writes]) (fun j => 2 - j) 0 ⟨by simp, rfl⟩ ?_ ?_
  ·
    exact by_less
  · rintro j ⟨hj, hI⟩
    have hj2 : j ≤ 2 := hj
    rcases drop_case hj with ⟨h1, h2⟩ | ⟨l, h1, h2, h3⟩
    · have h2' : j = 2 := h2
      rw [h1] at hI
      have hI' : lsGo [d.reads, d.writes] = 0 := hI.symm
      unfold wrongDeed
      rw [if_pos hI']
      by_cases h4 : 12 < d.code.length
      · rw [if_pos h4]
        repeat (first | ((with_reducible apply s1); exact rfl) | (with_reducible first | apply CW.seq | apply CW.block | apply CW.region | apply CW.draw | apply CW.skip | apply CW.exit | apply CW.ret | apply q_then | apply q_then_exit | apply q_then_ret | apply q_block | apply q_block_ret | apply q_block_hit | apply q_ret | apply q_end | apply q_loop_exit | apply q_loop_ret | apply q_loopT_exit | apply q_loopT_ret | apply RW.nil) | ((with_reducible apply s3); exact rfl; exact by_k) | ((with_reducible apply s2); exact rfl; exact by_k) | ((with_reducible apply s4); exact rfl) | ((with_reducible apply s5); (first | exact by_oa); exact by_g) | ((with_reducible apply CW.cond_t); exact rfl; exact by_ks) | ((with_reducible apply CW.cond_f); exact rfl; exact by_ks) | ((with_reducible apply q_block_miss); exact rfl) | (refine And.intro (show chk [] [] _ _ = true by kernel_rfl) ?_))
        exact .one (.tmp rfl (.one (.d (.refl _))))
      · rw [if_neg h4]
        repeat (first | ((with_reducible apply s1); exact rfl) | (with_reducible first | apply CW.seq | apply CW.block | apply CW.region | apply CW.draw | apply CW.skip | apply CW.exit | apply CW.ret | apply q_then | apply q_then_exit | apply q_then_ret | apply q_block | apply q_block_ret | apply q_block_hit | apply q_ret | apply q_end | apply q_loop_exit | apply q_loop_ret | apply q_loopT_exit | apply q_loopT_ret | apply RW.nil) | ((with_reducible apply s3); exact rfl; exact by_k) | ((with_reducible apply s2); exact rfl; exact by_k) | ((with_reducible apply s4); exact rfl) | ((with_reducible apply s5); (first | exact by_oa); exact by_g) | ((with_reducible apply CW.cond_t); exact rfl; exact by_ks) | ((with_reducible apply CW.cond_f); exact rfl; exact by_ks) | ((with_reducible apply q_block_miss); exact rfl) | (refine And.intro (show chk [] [] _ _ = true by kernel_rfl) ?_))
        refine CW.loopT (fun k : Nat => [sp 1 0, ob 0 d.enc, sd 2 (dint 0), sd 30 (encCode d.code), sd 31 (dint d.code.length), sd 32 (dint k), nxt 1])
          (fun k => k ≤ d.code.length ∧ codeGo d k (d.code.drop k) = codeGo d 0 d.code) (fun k => d.code.length - k) 0 ⟨by omega, rfl⟩ ?_ ?_
        ·
          exact by_less
        · rintro k ⟨hk, hJ⟩
          rcases drop_case hk with ⟨h5, h6⟩ | ⟨i, h5, h6, h7⟩
          · rw [h5, codeGo] at hJ
            repeat (first | ((with_reducible apply s1); exact rfl) | (with_reducible first | apply CW.seq | apply CW.block | apply CW.region | apply CW.draw | apply CW.skip | apply CW.exit | apply CW.ret | apply q_then | apply q_then_exit | apply q_then_ret | apply q_block | apply q_block_ret | apply q_block_hit | apply q_ret | apply q_end | apply q_loop_exit | apply q_loop_ret | apply q_loopT_exit | apply q_loopT_ret | apply RW.nil) | ((with_reducible apply s3); exact rfl; exact by_k) | ((with_reducible apply s2); exact rfl; exact by_k) | ((with_reducible apply s4); exact rfl) | ((with_reducible apply s5); (first | exact by_oa); exact by_g) | ((with_reducible apply CW.cond_t); exact rfl; exact by_ks) | ((with_reducible apply CW.cond_f); exact rfl; exact by_ks) | ((with_reducible apply q_block_miss); exact rfl) | (refine And.intro (show chk [] [] _ _ = true by kernel_rfl) ?_))
            rw [← hJ]
            exact .one (.tmp rfl (.one (.d (.refl _))))
          · rw [h5, codeGo] at hJ
            have ci : FnOk Tryd.prog 34 [.pd d.enc, .d (.agg i.enc), .d (dint (((d.code.map Ins.enc).length : Int) - 1 - k))] (.one (dint (wrongIns d ((d.code.length : Int) - 1 - k) i))) := by
              rw [List.length_map]; exact ok_instr d i ((d.code.length : Int) - 1 - k) hs.r hs.w
            by_cases h8 : wrongIns d ((d.code.length : Int) - 1 - k) i = 0
            · rw [if_pos h8] at hJ
              rw [h8] at ci
              repeat (first | ((with_reducible apply s1); exact rfl) | (with_reducible first | apply CW.seq | apply CW.block | apply CW.region | apply CW.draw | apply CW.skip | apply CW.exit | apply CW.ret | apply q_then | apply q_then_exit | apply q_then_ret | apply q_block | apply q_block_ret | apply q_block_hit | apply q_ret | apply q_end | apply q_loop_exit | apply q_loop_ret | apply q_loopT_exit | apply q_loopT_ret | apply RW.nil) | ((with_reducible apply s3); exact rfl; exact by_k) | ((with_reducible apply s2); exact rfl; exact by_k) | ((with_reducible apply s4); exact rfl) | ((with_reducible apply s5); (first | (focus ((with_reducible apply a_call); exact ci; exact rfl; (repeat (first | exact SubsE.nil | (apply SubsE.cons; exact rfl; (first | exact .d (.refl _) | exact .d (.nil _) | exact .agg rfl (.refl _) | exact .pd | exact .ptr rfl); (first | exact trivial | exact ⟨rfl, trivial⟩)))); done)) | exact by_oa); exact by_g) | ((with_reducible apply CW.cond_t); exact rfl; exact by_ks) | ((with_reducible apply CW.cond_f); exact rfl; exact by_ks) | ((with_reducible apply q_block_miss); exact rfl) | (refine And.intro (show chk [] [] _ _ = true by kernel_rfl) ?_))
              refine q_loopT (k + 1) ⟨by omega, hJ⟩ (by omega) ?_
              exact by_less
            · rw [if_neg h8] at hJ
              repeat (first | ((with_reducible apply s1); exact rfl) | (with_reducible first | apply CW.seq | apply CW.block | apply CW.region | apply CW.draw | apply CW.skip | apply CW.exit | apply CW.ret | apply q_then | apply q_then_exit | apply q_then_ret | apply q_block | apply q_block_ret | apply q_block_hit | apply q_ret | apply q_end | apply q_loop_exit | apply q_loop_ret | apply q_loopT_exit | apply q_loopT_ret | apply RW.nil) | ((with_reducible apply s3); exact rfl; exact by_k) | ((with_reducible apply s2); exact rfl; exact by_k) | ((with_reducible apply s4); exact rfl) | ((with_reducible apply s5); (first | (focus ((with_reducible apply a_call); exact ci; exact rfl; (repeat (first | exact SubsE.nil | (apply SubsE.cons; exact rfl; (first | exact .d (.refl _) | exact .d (.nil _) | exact .agg rfl (.refl _) | exact .pd | exact .ptr rfl); (first | exact trivial | exact ⟨rfl, trivial⟩)))); done)) | exact by_oa); exact by_g) | ((with_reducible apply CW.cond_t); exact rfl; exact by_ks) | ((with_reducible apply CW.cond_f); exact rfl; exact by_ks) | ((with_reducible apply q_block_miss); exact rfl) | (refine And.intro (show chk [] [] _ _ = true by kernel_rfl) ?_))
              rw [← hJ]
              exact .one (.tmp rfl (.one (.d (.refl _))))
    · rw [h1, lsGo] at hI
      have h3' : j < 2 := h3
      have hl : l.length ≤ 268435456 ∧ ∀ s ∈ l, s.length ≤ 1073741824 := by
        have := List.mem_of_getElem? h2
        simp at this
        rcases this with rfl | rfl
        · exact ⟨hs.r, hs.rk⟩
        · exact ⟨hs.w, hs.wk⟩
      have ck := ok_dkeys l hl.1 hl.2
      by_cases h8 : keysWrong l = 0
      · rw [if_pos h8] at hI
        rw [h8] at ck
        repeat (first | ((with_reducible apply s1); exact rfl) | (with_reducible first | apply CW.seq | apply CW.block | apply CW.region | apply CW.draw | apply CW.skip | apply CW.exit | apply CW.ret | apply q_then | apply q_then_exit | apply q_then_ret | apply q_block | apply q_block_ret | apply q_block_hit | apply q_ret | apply q_end | apply q_loop_exit | apply q_loop_ret | apply q_loopT_exit | apply q_loopT_ret | apply RW.nil) | ((with_reducible apply s3); exact rfl; exact by_k) | ((with_reducible apply s2); exact rfl; exact by_k) | ((with_reducible apply s4); exact rfl) | ((with_reducible apply s5); (first | (focus ((with_reducible apply a_call); exact ck; exact rfl; (repeat (first | exact SubsE.nil | (apply SubsE.cons; exact rfl; (first | exact .d (.refl _) | exact .d (.nil _) | exact .agg rfl (.refl _) | exact .pd | exact .ptr rfl); (first | exact trivial | exact ⟨rfl, trivial⟩)))); done)) | exact by_oa); exact by_g) | ((with_reducible apply CW.cond_t); exact rfl; exact by_ks) | ((with_reducible apply CW.cond_f); exact rfl; exact by_ks) | ((with_reducible apply q_block_miss); exact rfl) | (refine And.intro (show chk [] [] _ _ = true by kernel_rfl) ?_))
        refine q_loopT (j + 1) ⟨by simp; omega, hI⟩ (by omega) ?_
        exact by_less
      · rw [if_neg h8] at hI
        unfold wrongDeed
        rw [if_neg (by rw [← hI]; exact h8)]
        repeat (first | ((with_reducible apply s1); exact rfl) | (with_reducible first | apply CW.seq | apply CW.block | apply CW.region | apply CW.draw | apply CW.skip | apply CW.exit | apply CW.ret | apply q_then | apply q_then_exit | apply q_then_ret | apply q_block | apply q_block_ret | apply q_block_hit | apply q_ret | apply q_end | apply q_loop_exit | apply q_loop_ret | apply q_loopT_exit | apply q_loopT_ret | apply RW.nil) | ((with_reducible apply s3); exact rfl; exact by_k) | ((with_reducible apply s2); exact rfl; exact by_k) | ((with_reducible apply s4); exact rfl) | ((with_reducible apply s5); (first | (focus ((with_reducible apply a_call); exact ck; exact rfl; (repeat (first | exact SubsE.nil | (apply SubsE.cons; exact rfl; (first | exact .d (.refl _) | exact .d (.nil _) | exact .agg rfl (.refl _) | exact .pd | exact .ptr rfl); (first | exact trivial | exact ⟨rfl, trivial⟩)))); done)) | exact by_oa); exact by_g) | ((with_reducible apply CW.cond_t); exact rfl; exact by_ks) | ((with_reducible apply CW.cond_f); exact rfl; exact by_ks) | ((with_reducible apply q_block_miss); exact rfl) | (refine And.intro (show chk [] [] _ _ = true by kernel_rfl) ?_))
        rw [← hI]
        exact .one (.tmp rfl (.one (.d (.refl _))))

end Go.Proofs.YtjgbmdonhabmiaaDoor

/-! R4 -/
/-
  Contract of the program's Run of a deed.
-/
namespace Go.Proofs.YtjgbmdonhabmiaaDoor
open Go.AX Go.RF Go.RowKit

set_option maxRecDepth 100000
set_option maxHeartbeats 8000000

theorem chTy : ∃ ti, tget tbl 76 = some ti ∧ ti.zero = [.bool false, .int .i64 0] := ⟨_, rfl, rfl⟩
theorem mty {n : Nat} {w0 : World} {own0 : Nat → Prop} {ti : TI} (h : tget tbl 76 = some ti) (hz : ti.zero = [.bool false, .int .i64 0]) : MapTy ⟨Tryd.prog, tbl, tbl_ok, mixed_ok, n, w0, own0⟩ 74 76 (chA (false, 0)) := by
  have := MapTy.st (cx := ⟨Tryd.prog, tbl, tbl_ok, mixed_ok, n, w0, own0⟩) (t := 74) ⟨9, Tryd.underlying74, Tryd.underlying9⟩ h (by rw [hz]; decide)
  rw [hz] at this
  exact this
theorem flat0 : flat (chA (false, 0)) := by
  intro c hc
  simp [chV] at hc
  rcases hc with rfl | rfl <;> rfl

theorem ok_see (vf : FuncId) (caps : List D) (zs : List Arg) (view : Str → Int × Bool) (hcap : Caps caps zs) (m : Mk) (k : Str) (hv : FnOk Tryd.prog vf ([.d (dstr k)] ++ zs) (.tup [dint (view k).1, dbool (view k).2])) :
    FnOk Tryd.prog 41 [.d (dstr k), .pd [mapD (encM m)], .pd [fnD vf caps]] (.one (dint (seeM view m k))) := by
  refine fnOk_of tbl_ok mixed_ok Tryd.func41 rfl (by kernel_rfl) rfl rfl fun w0 own0 => ?_
  obtain ⟨ti, h1, h2⟩ := chTy
  have hm := mty (n := Tryd.f41.ntmps) (w0 := w0) (own0 := own0) h1 h2
  have hg := mget_enc m k
  unfold seeM
  cases hk : mG m k with
  | some c =>
    rw [hk] at hg
    have hl : mlook (chA (false, 0)) (encM m) k = chA c := by simp [mlook, hg]
    have ha := fun {d : Nat} {ty : TypeId} {pos : String} {af : Array Edge} {gd : Option (Nat × Bool)} {σ : St} {x y : Operand} (hx) (hy) (hd) => a_mlookd (σ := σ) (d := d) (ty := ty) (pos := pos) (af := af) (gd := gd) (x := x) (y := y) hm flat0 (encM_one m) (k := k) hx hy hd
    rw [hl, hg] at ha
    repeat (first | ((with_reducible apply s1); exact rfl) | (with_reducible first | apply CW.seq | apply CW.block | apply CW.region | apply CW.draw | apply CW.skip | apply CW.exit | apply CW.ret | apply q_then | apply q_then_exit | apply q_then_ret | apply q_block | apply q_block_ret | apply q_block_hit | apply q_ret | apply q_end | apply q_loop_exit | apply q_loop_ret | apply q_loopT_exit | apply q_loopT_ret | apply RW.nil) | ((with_reducible apply s3); exact rfl; exact by_k) | ((with_reducible apply s2); exact rfl; exact by_k) | ((with_reducible apply s4); exact rfl) | ((with_reducible apply s5); (first | ((with_reducible apply ha); (iterate 3 exact rfl)) | exact by_oa); exact by_g) | ((with_reducible apply CW.cond_t); exact rfl; exact by_ks) | ((with_reducible apply CW.cond_f); exact rfl; exact by_ks) | ((with_reducible apply q_block_miss); exact rfl) | (refine And.intro (show chk [] [] _ _ = true by kernel_rfl) ?_))
    exact .one (.tmp rfl (.one (.d (.refl _))))
  | none =>
    rw [hk] at hg
    have hl : mlook (chA (false, 0)) (encM m) k = chA (false, 0) := by simp [mlook, hg]
    have ha := fun {d : Nat} {ty : TypeId} {pos : String} {af : Array Edge} {gd : Option (Nat × Bool)} {σ : St} {x y : Operand} (hx) (hy) (hd) => a_mlookd (σ := σ) (d := d) (ty := ty) (pos := pos) (af := af) (gd := gd) (x := x) (y := y) hm flat0 (encM_one m) (k := k) hx hy hd
    rw [hl, hg] at ha
    repeat (first | ((with_reducible apply s1); exact rfl) | (with_reducible first | apply CW.seq | apply CW.block | apply CW.region | apply CW.draw | apply CW.skip | apply CW.exit | apply CW.ret | apply q_then | apply q_then_exit | apply q_then_ret | apply q_block | apply q_block_ret | apply q_block_hit | apply q_ret | apply q_end | apply q_loop_exit | apply q_loop_ret | apply q_loopT_exit | apply q_loopT_ret | apply RW.nil) | ((with_reducible apply s3); exact rfl; exact by_k) | ((with_reducible apply s2); exact rfl; exact by_k) | ((with_reducible apply s4); exact rfl) | ((with_reducible apply s5); (first | ((with_reducible apply ha); (iterate 3 exact rfl)) | (focus (with_reducible apply (a_callfn (ys := [.d (dstr k)]))); exact hv; exact hcap; exact rfl; exact rfl; apply SubsE.cons; exact rfl; exact .d (.refl _); exact trivial; exact SubsE.nil) | exact by_oa); exact by_g) | ((with_reducible apply CW.cond_t); exact rfl; exact by_ks) | ((with_reducible apply CW.cond_f); exact rfl; exact by_ks) | ((with_reducible apply q_block_miss); exact rfl) | (refine And.intro (show chk [] [] _ _ = true by kernel_rfl) ?_))
    exact .one (.tmp rfl (.one (.d (.refl _))))

theorem ok_run (vf : FuncId) (caps : List D) (zs : List Arg) (view : Str → Int × Bool) (d : Deed) (hcap : Caps caps zs) (hv : ∀ k ∈ d.reads, FnOk Tryd.prog vf ([.d (dstr k)] ++ zs) (.tup [dint (view k).1, dbool (view k).2]))
    (hvn : ∀ k ∈ d.reads, nOk (view k).1) (hc : d.code.length ≤ 134217728) (hw : d.writes.length ≤ 134217728) (hi : ∀ i ∈ d.code, i.Ok) (hk : ∀ i ∈ d.code, i.kind = 1 → i.key ∈ d.reads) :
    FnOk Tryd.prog 14 [.d (.agg d.enc), .d (fnD vf caps)] (.tup (runRes view d)) := by
  refine fnOk_of tbl_ok mixed_ok Tryd.func14 rfl (by kernel_rfl) rfl rfl fun w0 own0 => ?_
  obtain ⟨ti, hti, htz⟩ := chTy
  have hmt := mty (n := Tryd.f14.ntmps) (w0 := w0) (own0 := own0) hti htz
  repeat (first | ((with_reducible apply stop_at 2); exact rfl) | ((with_reducible apply s1); exact rfl) | (with_reducible first | apply CW.seq | apply CW.block | apply CW.region | apply CW.draw | apply CW.skip | apply CW.exit | apply CW.ret | apply q_then | apply q_then_exit | apply q_then_ret | apply q_block | apply q_block_ret | apply q_block_hit | apply q_ret | apply q_end | apply q_loop_exit | apply q_loop_ret | apply q_loopT_exit | apply q_loopT_ret | apply RW.nil) | ((with_reducible apply s3); exact rfl; exact by_k) | ((with_reducible apply s2); exact rfl; exact by_k) | ((with_reducible apply s4); exact rfl) | ((with_reducible apply s5); (first | exact by_oa); exact by_g) | ((with_reducible apply CW.cond_t); exact rfl; exact by_ks) | ((with_reducible apply CW.cond_f); exact rfl; exact by_ks) | ((with_reducible apply q_block_miss); exact rfl) | (refine And.intro (show chk [] [] _ _ = true by kernel_rfl) ?_))
  refine Stop.go (CW.seq (CW.regionS ?_))
  refine SW.fam rfl (fam_mkmap rfl rfl) fun x0 => ?_
  refine SW.fact (p := ∃ b, x0 = .map (some b)) (map_known (id := 4) (M := []) rfl) ?_
  rintro ⟨b0, rfl⟩
  refine SW.rw ?_
  repeat (first | (with_reducible apply stop_reg 3) | ((with_reducible apply s1); exact rfl) | (with_reducible first | apply CW.seq | apply CW.block | apply CW.region | apply CW.draw | apply CW.skip | apply CW.exit | apply CW.ret | apply q_then | apply q_then_exit | apply q_then_ret | apply q_block | apply q_block_ret | apply q_block_hit | apply q_ret | apply q_end | apply q_loop_exit | apply q_loop_ret | apply q_loopT_exit | apply q_loopT_ret | apply RW.nil) | ((with_reducible apply s3); exact rfl; exact by_k) | ((with_reducible apply s2); exact rfl; exact by_k) | ((with_reducible apply s4); exact rfl) | ((with_reducible apply s5); (first | exact by_oa); exact by_g) | ((with_reducible apply CW.cond_t); exact rfl; exact by_ks) | ((with_reducible apply CW.cond_f); exact rfl; exact by_ks) | ((with_reducible apply q_block_miss); exact rfl) | (refine And.intro (show chk [] [] _ _ = true by kernel_rfl) ?_))
  refine Stop.go (CW.stut (stut_freezebox (i := 8) (id := 5) (ds := [.v (.map (some b0))]) rfl) ⟨rfl, rfl, trivial⟩ ?_)
  refine CW.stut (stut_freezebox (i := 3) (id := 1) (ds := [fnD vf caps]) rfl) ⟨rfl, rfl, trivial⟩ ?_
  repeat (first | (with_reducible apply stop_reg 4) | ((with_reducible apply s1); exact rfl) | (with_reducible first | apply CW.seq | apply CW.block | apply CW.region | apply CW.draw | apply CW.skip | apply CW.exit | apply CW.ret | apply q_then | apply q_then_exit | apply q_then_ret | apply q_block | apply q_block_ret | apply q_block_hit | apply q_ret | apply q_end | apply q_loop_exit | apply q_loop_ret | apply q_loopT_exit | apply q_loopT_ret | apply RW.nil) | ((with_reducible apply s3); exact rfl; exact by_k) | ((with_reducible apply s2); exact rfl; exact by_k) | ((with_reducible apply s4); exact rfl) | ((with_reducible apply s5); (first | ((with_reducible apply (a_mkfn (ds := [refD [.v (.map (some b0))], refD [fnD vf caps]]))); exact rfl; apply SubsE.cons; exact rfl; exact .d (.refl _); exact trivial; apply SubsE.cons; exact rfl; exact .d (.refl _); exact trivial; exact SubsE.nil) | exact by_oa); exact by_g) | ((with_reducible apply CW.cond_t); exact rfl; exact by_ks) | ((with_reducible apply CW.cond_f); exact rfl; exact by_ks) | ((with_reducible apply q_block_miss); exact rfl) | (refine And.intro (show chk [] [] _ _ = true by kernel_rfl) ?_))
  refine Stop.go (CW.stut (stut_refpd (i := 8)) ⟨rfl, trivial⟩ ?_)
  repeat (first | ((with_reducible apply s1); exact rfl) | (with_reducible first | apply CW.seq | apply CW.block | apply CW.region | apply CW.draw | apply CW.skip | apply CW.exit | apply CW.ret | apply q_then | apply q_then_exit | apply q_then_ret | apply q_block | apply q_block_ret | apply q_block_hit | apply q_ret | apply q_end | apply q_loop_exit | apply q_loop_ret | apply q_loopT_exit | apply q_loopT_ret | apply RW.nil) | ((with_reducible apply s3); exact rfl; exact by_k) | ((with_reducible apply s2); exact rfl; exact by_k) | ((with_reducible apply s4); exact rfl) | ((with_reducible apply s5); (first | exact by_oa); exact by_g) | ((with_reducible apply CW.cond_t); exact rfl; exact by_ks) | ((with_reducible apply CW.cond_f); exact rfl; exact by_ks) | ((with_reducible apply q_block_miss); exact rfl) | (refine And.intro (show chk [] [] _ _ = true by kernel_rfl) ?_))
  refine CW.loopT (fun t : Nat × Mk × Done => [sp 2 0, ob 0 d.enc, sp 4 2, ob 2 done0.enc, sd 5 (.v nilS), sd 6 (.v nilS), sp 7 3, ob 3 t.2.2.enc, (.s 8, .av (.pd [.v (.map (some b0))])), sd 9 (fnD 41 [refD [.v (.map (some b0))], refD [fnD vf caps]]), (.s 10, .av (.ptr 3 1)), (.o 4, .ob (.mp (encM t.2.1) (.map (some b0)))), sd 11 (dint t.1), nxt 6])
    (fun t => mOk t.2.1 ∧ t.2.2.Ok ∧ t.2.2.failed = false ∧ runGo view 0 t.2.1 t.2.2 (d.code.drop t.1) = runM view d)
    (fun t => d.code.length - t.1) (0, [], done0) ⟨mOk_nil, ⟨by simp [nOk, done0], by simp [nOk, done0], by simp [nOk, done0], by simp [nOk, done0]⟩, rfl, rfl⟩ ?_ ?_
  ·
    exact by_less
  · rintro ⟨x, m, e⟩ ⟨hm, he, hf, hI⟩
    dsimp only at hm he hf hI ⊢
    by_cases hx : x < d.code.length
    · obtain ⟨i, h1, h2⟩ : ∃ i, d.code.drop x = i :: d.code.drop (x + 1) ∧ d.code[x]? = some i := ⟨d.code[x], List.drop_eq_getElem_cons hx, List.getElem?_eq_getElem hx⟩
      rw [h1] at hI
      simp only [runGo] at hI
      rw [if_neg (show ¬ (0 : Int) < 0 by decide)] at hI
      have hio := hi i (List.mem_of_getElem? h2)
      obtain ⟨kd, ia, ib, n, key⟩ := i
      obtain ⟨A, rfl⟩ := Int.eq_ofNat_of_zero_le hio.a.1
      obtain ⟨B, rfl⟩ := Int.eq_ofNat_of_zero_le hio.b.1
      have hA : A < 4 := by have := hio.a.2; dsimp only at this; omega
      have hB : B < 4 := by have := hio.b.2; dsimp only at this; omega
      have hga := rget_ok he A
      have hgb := rget_ok he B
      have hst := fun y => st_reg e hA y
      have hfit := fit_reg e hA
      have hself := rset_self e A
      have hkk := hio.k
      have hcn := hio.c
      have hcs := hio.s
      dsimp only [Int.toNat_natCast] at hI hkk hcn hcs
      have hkd : kd = 1 ∨ kd = 2 ∨ kd = 3 ∨ kd = 4 ∨ kd = 5 ∨ kd = 6 ∨ kd = 7 ∨ kd = 8 ∨ kd = 9 := by omega
      clear hkk hio h1
      unfold nOk at hga hgb
      rcases hkd with rfl | rfl | rfl | rfl | rfl | rfl | rfl | rfl | rfl
      · rw [if_pos rfl] at hI
        have hsee := ok_see vf caps zs view hcap m key (hv key (hk _ (List.mem_of_getElem? h2) rfl))
        have hs := hst (seeM view m key)
        repeat (first | ((with_reducible apply s1); exact rfl) | (with_reducible first | apply CW.seq | apply CW.block | apply CW.region | apply CW.draw | apply CW.skip | apply CW.exit | apply CW.ret | apply q_then | apply q_then_exit | apply q_then_ret | apply q_block | apply q_block_ret | apply q_block_hit | apply q_ret | apply q_end | apply q_loop_exit | apply q_loop_ret | apply q_loopT_exit | apply q_loopT_ret | apply RW.nil) | ((with_reducible apply s3); exact rfl; exact by_k) | ((with_reducible apply s2); exact rfl; exact by_k) | ((with_reducible apply s4); exact rfl) | ((with_reducible apply s5); (first | (focus (with_reducible apply (a_callfnM (ys := [.d (dstr key)]) (id := 4) (x0 := .map (some b0)) (M := encM m))); exact hsee; exact .map (.ref .nil); exact rfl; exact rfl; exact rfl; exact rfl; apply SubsE.cons; exact rfl; exact .d (.refl _); exact trivial; exact SubsE.nil) | ((with_reducible apply a_lptr); (iterate 4 exact rfl); exact ld_reg e hA rfl) | ((with_reducible apply a_lptr); (iterate 4 exact rfl); exact ld_reg e hB rfl) | ((with_reducible apply a_store); (iterate 6 exact rfl); exact hfit; exact ⟨rfl, trivial⟩) | ((with_reducible apply a_nilp); (iterate 3 exact rfl)) | exact by_oa); exact by_g) | ((with_reducible apply CW.cond_t); exact rfl; exact by_ks) | ((with_reducible apply CW.cond_f); exact rfl; exact by_ks) | ((with_reducible apply q_block_miss); exact rfl) | (refine And.intro (show chk [] [] _ _ = true by kernel_rfl) ?_))
        refine q_loopT (x + 1, m, rset e A (seeM view m key)) ⟨hm, rset_ok he A (see_ok (hvn key (hk _ (List.mem_of_getElem? h2) rfl)) hm), by rw [rset_failed]; exact hf, hI⟩ (by dsimp only; omega) ?_
        exact by_less
      · rw [if_neg (show ¬ (2 : Int) = 1 by decide), if_pos rfl] at hI
        have hs := hst n
        repeat (first | ((with_reducible apply s1); exact rfl) | (with_reducible first | apply CW.seq | apply CW.block | apply CW.region | apply CW.draw | apply CW.skip | apply CW.exit | apply CW.ret | apply q_then | apply q_then_exit | apply q_then_ret | apply q_block | apply q_block_ret | apply q_block_hit | apply q_ret | apply q_end | apply q_loop_exit | apply q_loop_ret | apply q_loopT_exit | apply q_loopT_ret | apply RW.nil) | ((with_reducible apply s3); exact rfl; exact by_k) | ((with_reducible apply s2); exact rfl; exact by_k) | ((with_reducible apply s4); exact rfl) | ((with_reducible apply s5); (first | ((with_reducible apply a_lptr); (iterate 4 exact rfl); exact ld_reg e hA rfl) | ((with_reducible apply a_lptr); (iterate 4 exact rfl); exact ld_reg e hB rfl) | ((with_reducible apply a_store); (iterate 6 exact rfl); exact hfit; exact ⟨rfl, trivial⟩) | ((with_reducible apply a_nilp); (iterate 3 exact rfl)) | exact by_oa); exact by_g) | ((with_reducible apply CW.cond_t); exact rfl; exact by_ks) | ((with_reducible apply CW.cond_f); exact rfl; exact by_ks) | ((with_reducible apply q_block_miss); exact rfl) | (refine And.intro (show chk [] [] _ _ = true by kernel_rfl) ?_))
        refine q_loopT (x + 1, m, rset e A n) ⟨hm, rset_ok he A (hcn rfl), by rw [rset_failed]; exact hf, hI⟩ (by dsimp only; omega) ?_
        exact by_less
      · rw [if_neg (show ¬ (3 : Int) = 1 by decide), if_neg (show ¬ (3 : Int) = 2 by decide), if_pos rfl] at hI
        have hs := hst (round (rget e A + rget e B))
        have cr := ok_pround (rget e A + rget e B) (by unfold inI; omega)
        repeat (first | ((with_reducible apply s1); exact rfl) | (with_reducible first | apply CW.seq | apply CW.block | apply CW.region | apply CW.draw | apply CW.skip | apply CW.exit | apply CW.ret | apply q_then | apply q_then_exit | apply q_then_ret | apply q_block | apply q_block_ret | apply q_block_hit | apply q_ret | apply q_end | apply q_loop_exit | apply q_loop_ret | apply q_loopT_exit | apply q_loopT_ret | apply RW.nil) | ((with_reducible apply s3); exact rfl; exact by_k) | ((with_reducible apply s2); exact rfl; exact by_k) | ((with_reducible apply s4); exact rfl) | ((with_reducible apply s5); (first | (focus ((with_reducible apply a_call); exact cr; exact rfl; (repeat (first | exact SubsE.nil | (apply SubsE.cons; exact rfl; (first | exact .d (.refl _) | exact .d (.nil _) | exact .agg rfl (.refl _) | exact .pd | exact .ptr rfl); (first | exact trivial | exact ⟨rfl, trivial⟩)))); done)) | ((with_reducible apply a_lptr); (iterate 4 exact rfl); exact ld_reg e hA rfl) | ((with_reducible apply a_lptr); (iterate 4 exact rfl); exact ld_reg e hB rfl) | ((with_reducible apply a_store); (iterate 6 exact rfl); exact hfit; exact ⟨rfl, trivial⟩) | ((with_reducible apply a_nilp); (iterate 3 exact rfl)) | ((with_reducible apply a_bin); (iterate 2 exact rfl); (apply bin_add; omega); exact rfl) | exact by_oa); exact by_g) | ((with_reducible apply CW.cond_t); exact rfl; exact by_ks) | ((with_reducible apply CW.cond_f); exact rfl; exact by_ks) | ((with_reducible apply q_block_miss); exact rfl) | (refine And.intro (show chk [] [] _ _ = true by kernel_rfl) ?_))
        refine q_loopT (x + 1, m, rset e A (round (rget e A + rget e B))) ⟨hm, rset_ok he A (round_ok _), by rw [rset_failed]; exact hf, hI⟩ (by dsimp only; omega) ?_
        exact by_less
      · rw [if_neg (show ¬ (4 : Int) = 1 by decide), if_neg (show ¬ (4 : Int) = 2 by decide), if_neg (show ¬ (4 : Int) = 3 by decide), if_pos rfl] at hI
        have hs := hst (round (rget e A - rget e B))
        have cr := ok_pround (rget e A - rget e B) (by unfold inI; omega)
        repeat (first | ((with_reducible apply s1); exact rfl) | (with_reducible first | apply CW.seq | apply CW.block | apply CW.region | apply CW.draw | apply CW.skip | apply CW.exit | apply CW.ret | apply q_then | apply q_then_exit | apply q_then_ret | apply q_block | apply q_block_ret | apply q_block_hit | apply q_ret | apply q_end | apply q_loop_exit | apply q_loop_ret | apply q_loopT_exit | apply q_loopT_ret | apply RW.nil) | ((with_reducible apply s3); exact rfl; exact by_k) | ((with_reducible apply s2); exact rfl; exact by_k) | ((with_reducible apply s4); exact rfl) | ((with_reducible apply s5); (first | (focus ((with_reducible apply a_call); exact cr; exact rfl; (repeat (first | exact SubsE.nil | (apply SubsE.cons; exact rfl; (first | exact .d (.refl _) | exact .d (.nil _) | exact .agg rfl (.refl _) | exact .pd | exact .ptr rfl); (first | exact trivial | exact ⟨rfl, trivial⟩)))); done)) | ((with_reducible apply a_lptr); (iterate 4 exact rfl); exact ld_reg e hA rfl) | ((with_reducible apply a_lptr); (iterate 4 exact rfl); exact ld_reg e hB rfl) | ((with_reducible apply a_store); (iterate 6 exact rfl); exact hfit; exact ⟨rfl, trivial⟩) | ((with_reducible apply a_nilp); (iterate 3 exact rfl)) | ((with_reducible apply a_bin); (iterate 2 exact rfl); (apply bin_sub; omega); exact rfl) | exact by_oa); exact by_g) | ((with_reducible apply CW.cond_t); exact rfl; exact by_ks) | ((with_reducible apply CW.cond_f); exact rfl; exact by_ks) | ((with_reducible apply q_block_miss); exact rfl) | (refine And.intro (show chk [] [] _ _ = true by kernel_rfl) ?_))
        refine q_loopT (x + 1, m, rset e A (round (rget e A - rget e B))) ⟨hm, rset_ok he A (round_ok _), by rw [rset_failed]; exact hf, hI⟩ (by dsimp only; omega) ?_
        exact by_less
      · rw [if_neg (show ¬ (5 : Int) = 1 by decide), if_neg (show ¬ (5 : Int) = 2 by decide), if_neg (show ¬ (5 : Int) = 3 by decide), if_neg (show ¬ (5 : Int) = 4 by decide), if_pos rfl] at hI
        have hmul : -1152921504606846976 ≤ rget e A * rget e B ∧ rget e A * rget e B ≤ 1152921504606846976 := mul_bound hga hgb
        have hs := hst (round (rget e A * rget e B))
        have cr := ok_pround (rget e A * rget e B) (by unfold inI; omega)
        repeat (first | ((with_reducible apply s1); exact rfl) | (with_reducible first | apply CW.seq | apply CW.block | apply CW.region | apply CW.draw | apply CW.skip | apply CW.exit | apply CW.ret | apply q_then | apply q_then_exit | apply q_then_ret | apply q_block | apply q_block_ret | apply q_block_hit | apply q_ret | apply q_end | apply q_loop_exit | apply q_loop_ret | apply q_loopT_exit | apply q_loopT_ret | apply RW.nil) | ((with_reducible apply s3); exact rfl; exact by_k) | ((with_reducible apply s2); exact rfl; exact by_k) | ((with_reducible apply s4); exact rfl) | ((with_reducible apply s5); (first | (focus ((with_reducible apply a_call); exact cr; exact rfl; (repeat (first | exact SubsE.nil | (apply SubsE.cons; exact rfl; (first | exact .d (.refl _) | exact .d (.nil _) | exact .agg rfl (.refl _) | exact .pd | exact .ptr rfl); (first | exact trivial | exact ⟨rfl, trivial⟩)))); done)) | ((with_reducible apply a_lptr); (iterate 4 exact rfl); exact ld_reg e hA rfl) | ((with_reducible apply a_lptr); (iterate 4 exact rfl); exact ld_reg e hB rfl) | ((with_reducible apply a_store); (iterate 6 exact rfl); exact hfit; exact ⟨rfl, trivial⟩) | ((with_reducible apply a_nilp); (iterate 3 exact rfl)) | ((with_reducible apply a_bin); (iterate 2 exact rfl); (apply bin_mul; omega); exact rfl) | exact by_oa); exact by_g) | ((with_reducible apply CW.cond_t); exact rfl; exact by_ks) | ((with_reducible apply CW.cond_f); exact rfl; exact by_ks) | ((with_reducible apply q_block_miss); exact rfl) | (refine And.intro (show chk [] [] _ _ = true by kernel_rfl) ?_))
        refine q_loopT (x + 1, m, rset e A (round (rget e A * rget e B))) ⟨hm, rset_ok he A (round_ok _), by rw [rset_failed]; exact hf, hI⟩ (by dsimp only; omega) ?_
        exact by_less
      · rw [if_neg (show ¬ (6 : Int) = 1 by decide), if_neg (show ¬ (6 : Int) = 2 by decide), if_neg (show ¬ (6 : Int) = 3 by decide), if_neg (show ¬ (6 : Int) = 4 by decide), if_neg (show ¬ (6 : Int) = 5 by decide), if_pos rfl] at hI
        have hms := mset_enc m key (true, rget e A)
        repeat (first | ((with_reducible apply s1); exact rfl) | (with_reducible first | apply CW.seq | apply CW.block | apply CW.region | apply CW.draw | apply CW.skip | apply CW.exit | apply CW.ret | apply q_then | apply q_then_exit | apply q_then_ret | apply q_block | apply q_block_ret | apply q_block_hit | apply q_ret | apply q_end | apply q_loop_exit | apply q_loop_ret | apply q_loopT_exit | apply q_loopT_ret | apply RW.nil) | ((with_reducible apply s3); exact rfl; exact by_k) | ((with_reducible apply s2); exact rfl; exact by_k) | ((with_reducible apply s4); exact rfl) | ((with_reducible apply s5); (first | ((with_reducible apply a_lptr); (iterate 4 exact rfl); exact ld_reg e hA rfl) | ((with_reducible apply a_lptr); (iterate 4 exact rfl); exact ld_reg e hB rfl) | ((with_reducible apply a_store); (iterate 6 exact rfl); exact hfit; exact ⟨rfl, trivial⟩) | ((with_reducible apply a_nilp); (iterate 3 exact rfl)) | ((with_reducible apply (a_mset (us := chA (true, rget e A)) 4 hmt)); (iterate 3 exact rfl); exact .agg (.d rfl); exact rfl) | exact by_oa); exact by_g) | ((with_reducible apply CW.cond_t); exact rfl; exact by_ks) | ((with_reducible apply CW.cond_f); exact rfl; exact by_ks) | ((with_reducible apply q_block_miss); exact rfl) | (refine And.intro (show chk [] [] _ _ = true by kernel_rfl) ?_))
        rw [hms]
        refine q_loopT (x + 1, mS m key (true, rget e A), e) ⟨mOk_set hm key (rget_ok he A), he, hf, hI⟩ (by dsimp only; omega) ?_
        exact by_less
      · rw [if_neg (show ¬ (7 : Int) = 1 by decide), if_neg (show ¬ (7 : Int) = 2 by decide), if_neg (show ¬ (7 : Int) = 3 by decide), if_neg (show ¬ (7 : Int) = 4 by decide), if_neg (show ¬ (7 : Int) = 5 by decide), if_neg (show ¬ (7 : Int) = 6 by decide), if_pos rfl] at hI
        have hms := mset_enc m key (false, 0)
        repeat (first | ((with_reducible apply s1); exact rfl) | (with_reducible first | apply CW.seq | apply CW.block | apply CW.region | apply CW.draw | apply CW.skip | apply CW.exit | apply CW.ret | apply q_then | apply q_then_exit | apply q_then_ret | apply q_block | apply q_block_ret | apply q_block_hit | apply q_ret | apply q_end | apply q_loop_exit | apply q_loop_ret | apply q_loopT_exit | apply q_loopT_ret | apply RW.nil) | ((with_reducible apply s3); exact rfl; exact by_k) | ((with_reducible apply s2); exact rfl; exact by_k) | ((with_reducible apply s4); exact rfl) | ((with_reducible apply s5); (first | ((with_reducible apply a_lptr); (iterate 4 exact rfl); exact ld_reg e hA rfl) | ((with_reducible apply a_lptr); (iterate 4 exact rfl); exact ld_reg e hB rfl) | ((with_reducible apply a_store); (iterate 6 exact rfl); exact hfit; exact ⟨rfl, trivial⟩) | ((with_reducible apply a_nilp); (iterate 3 exact rfl)) | ((with_reducible apply (a_mset (us := chA (false, 0)) 4 hmt)); (iterate 3 exact rfl); exact .agg (.d rfl); exact rfl) | exact by_oa); exact by_g) | ((with_reducible apply CW.cond_t); exact rfl; exact by_ks) | ((with_reducible apply CW.cond_f); exact rfl; exact by_ks) | ((with_reducible apply q_block_miss); exact rfl) | (refine And.intro (show chk [] [] _ _ = true by kernel_rfl) ?_))
        rw [hms]
        refine q_loopT (x + 1, mS m key (false, 0), e) ⟨mOk_set hm key (by simp [nOk]), he, hf, hI⟩ (by dsimp only; omega) ?_
        exact by_less
      · rw [if_neg (show ¬ (8 : Int) = 1 by decide), if_neg (show ¬ (8 : Int) = 2 by decide), if_neg (show ¬ (8 : Int) = 3 by decide), if_neg (show ¬ (8 : Int) = 4 by decide), if_neg (show ¬ (8 : Int) = 5 by decide), if_neg (show ¬ (8 : Int) = 6 by decide), if_neg (show ¬ (8 : Int) = 7 by decide), if_pos rfl] at hI
        obtain ⟨N, rfl⟩ := Int.eq_ofNat_of_zero_le (hcs rfl).1
        have hN := (hcs rfl).2
        by_cases h5 : rget e A < 1
        · rw [if_pos h5, runGo_skip, List.drop_drop] at hI
          repeat (first | ((with_reducible apply s1); exact rfl) | (with_reducible first | apply CW.seq | apply CW.block | apply CW.region | apply CW.draw | apply CW.skip | apply CW.exit | apply CW.ret | apply q_then | apply q_then_exit | apply q_then_ret | apply q_block | apply q_block_ret | apply q_block_hit | apply q_ret | apply q_end | apply q_loop_exit | apply q_loop_ret | apply q_loopT_exit | apply q_loopT_ret | apply RW.nil) | ((with_reducible apply s3); exact rfl; exact by_k) | ((with_reducible apply s2); exact rfl; exact by_k) | ((with_reducible apply s4); exact rfl) | ((with_reducible apply s5); (first | ((with_reducible apply a_lptr); (iterate 4 exact rfl); exact ld_reg e hA rfl) | ((with_reducible apply a_lptr); (iterate 4 exact rfl); exact ld_reg e hB rfl) | ((with_reducible apply a_store); (iterate 6 exact rfl); exact hfit; exact ⟨rfl, trivial⟩) | ((with_reducible apply a_nilp); (iterate 3 exact rfl)) | exact by_oa); exact by_g) | ((with_reducible apply CW.cond_t); exact rfl; exact by_ks) | ((with_reducible apply CW.cond_f); exact rfl; exact by_ks) | ((with_reducible apply q_block_miss); exact rfl) | (refine And.intro (show chk [] [] _ _ = true by kernel_rfl) ?_))
          refine q_loopT (x + N + 1, m, e) ⟨hm, he, hf, by dsimp only; rw [← hI]; congr 2; omega⟩ (by dsimp only; omega) ?_
          exact by_less
        · rw [if_neg h5] at hI
          repeat (first | ((with_reducible apply s1); exact rfl) | (with_reducible first | apply CW.seq | apply CW.block | apply CW.region | apply CW.draw | apply CW.skip | apply CW.exit | apply CW.ret | apply q_then | apply q_then_exit | apply q_then_ret | apply q_block | apply q_block_ret | apply q_block_hit | apply q_ret | apply q_end | apply q_loop_exit | apply q_loop_ret | apply q_loopT_exit | apply q_loopT_ret | apply RW.nil) | ((with_reducible apply s3); exact rfl; exact by_k) | ((with_reducible apply s2); exact rfl; exact by_k) | ((with_reducible apply s4); exact rfl) | ((with_reducible apply s5); (first | ((with_reducible apply a_lptr); (iterate 4 exact rfl); exact ld_reg e hA rfl) | ((with_reducible apply a_lptr); (iterate 4 exact rfl); exact ld_reg e hB rfl) | ((with_reducible apply a_store); (iterate 6 exact rfl); exact hfit; exact ⟨rfl, trivial⟩) | ((with_reducible apply a_nilp); (iterate 3 exact rfl)) | exact by_oa); exact by_g) | ((with_reducible apply CW.cond_t); exact rfl; exact by_ks) | ((with_reducible apply CW.cond_f); exact rfl; exact by_ks) | ((with_reducible apply q_block_miss); exact rfl) | (refine And.intro (show chk [] [] _ _ = true by kernel_rfl) ?_))
          refine q_loopT (x + 1, m, e) ⟨hm, he, hf, hI⟩ (by dsimp only; omega) ?_
          exact by_less
      · rw [if_neg (show ¬ (9 : Int) = 1 by decide), if_neg (show ¬ (9 : Int) = 2 by decide), if_neg (show ¬ (9 : Int) = 3 by decide), if_neg (show ¬ (9 : Int) = 4 by decide), if_neg (show ¬ (9 : Int) = 5 by decide), if_neg (show ¬ (9 : Int) = 6 by decide), if_neg (show ¬ (9 : Int) = 7 by decide), if_neg (show ¬ (9 : Int) = 8 by decide)] at hI
        by_cases h5 : rget e A < 0
        · rw [if_pos h5] at hI
          repeat (first | ((with_reducible apply s1); exact rfl) | (with_reducible first | apply CW.seq | apply CW.block | apply CW.region | apply CW.draw | apply CW.skip | apply CW.exit | apply CW.ret | apply q_then | apply q_then_exit | apply q_then_ret | apply q_block | apply q_block_ret | apply q_block_hit | apply q_ret | apply q_end | apply q_loop_exit | apply q_loop_ret | apply q_loopT_exit | apply q_loopT_ret | apply RW.nil) | ((with_reducible apply s3); exact rfl; exact by_k) | ((with_reducible apply s2); exact rfl; exact by_k) | ((with_reducible apply s4); exact rfl) | ((with_reducible apply s5); (first | ((with_reducible apply a_lptr); (iterate 4 exact rfl); exact ld_reg e hA rfl) | ((with_reducible apply a_lptr); (iterate 4 exact rfl); exact ld_reg e hB rfl) | ((with_reducible apply a_store); (iterate 6 exact rfl); exact hfit; exact ⟨rfl, trivial⟩) | ((with_reducible apply a_nilp); (iterate 3 exact rfl)) | exact by_oa); exact by_g) | ((with_reducible apply CW.cond_t); exact rfl; exact by_ks) | ((with_reducible apply CW.cond_f); exact rfl; exact by_ks) | ((with_reducible apply q_block_miss); exact rfl) | (refine And.intro (show chk [] [] _ _ = true by kernel_rfl) ?_))
          unfold runRes runC
          rw [← hI]
          exact .three (.cell rfl rfl rfl rfl (.aggd rfl (.refl _))) (.tmp rfl (.one (.d (.nil _)))) (.tmp rfl (.one (.d (.nil _))))
        · rw [if_neg h5] at hI
          repeat (first | ((with_reducible apply s1); exact rfl) | (with_reducible first | apply CW.seq | apply CW.block | apply CW.region | apply CW.draw | apply CW.skip | apply CW.exit | apply CW.ret | apply q_then | apply q_then_exit | apply q_then_ret | apply q_block | apply q_block_ret | apply q_block_hit | apply q_ret | apply q_end | apply q_loop_exit | apply q_loop_ret | apply q_loopT_exit | apply q_loopT_ret | apply RW.nil) | ((with_reducible apply s3); exact rfl; exact by_k) | ((with_reducible apply s2); exact rfl; exact by_k) | ((with_reducible apply s4); exact rfl) | ((with_reducible apply s5); (first | ((with_reducible apply a_lptr); (iterate 4 exact rfl); exact ld_reg e hA rfl) | ((with_reducible apply a_lptr); (iterate 4 exact rfl); exact ld_reg e hB rfl) | ((with_reducible apply a_store); (iterate 6 exact rfl); exact hfit; exact ⟨rfl, trivial⟩) | ((with_reducible apply a_nilp); (iterate 3 exact rfl)) | exact by_oa); exact by_g) | ((with_reducible apply CW.cond_t); exact rfl; exact by_ks) | ((with_reducible apply CW.cond_f); exact rfl; exact by_ks) | ((with_reducible apply q_block_miss); exact rfl) | (refine And.intro (show chk [] [] _ _ = true by kernel_rfl) ?_))
          refine q_loopT (x + 1, m, e) ⟨hm, he, hf, hI⟩ (by dsimp only; omega) ?_
          exact by_less
    · rw [List.drop_eq_nil_of_le (by omega)] at hI
      simp only [runGo] at hI
      have hchl : ∀ j, j ≤ d.writes.length → (chg m (d.writes.drop j)).length ≤ d.writes.length - j := fun j _ => by
        have := chg_len m (d.writes.drop j); simpa using this
      repeat (first | ((with_reducible apply stop_at 33); exact rfl) | ((with_reducible apply s1); exact rfl) | (with_reducible first | apply CW.seq | apply CW.block | apply CW.region | apply CW.draw | apply CW.skip | apply CW.exit | apply CW.ret | apply q_then | apply q_then_exit | apply q_then_ret | apply q_block | apply q_block_ret | apply q_block_hit | apply q_ret | apply q_end | apply q_loop_exit | apply q_loop_ret | apply q_loopT_exit | apply q_loopT_ret | apply RW.nil) | ((with_reducible apply s3); exact rfl; exact by_k) | ((with_reducible apply s2); exact rfl; exact by_k) | ((with_reducible apply s4); exact rfl) | ((with_reducible apply s5); (first | exact by_oa); exact by_g) | ((with_reducible apply CW.cond_t); exact rfl; exact by_ks) | ((with_reducible apply CW.cond_f); exact rfl; exact by_ks) | ((with_reducible apply q_block_miss); exact rfl) | (refine And.intro (show chk [] [] _ _ = true by kernel_rfl) ?_))
      refine Stop.go (CW.stut (stut_promote (i := 13) 45 4) ⟨rfl, rfl, trivial⟩ ?_)
      refine CW.stut (stut_promote (i := 14) 9 1) ⟨rfl, rfl, trivial⟩ ?_
      repeat (first | ((with_reducible apply s1); exact rfl) | (with_reducible first | apply CW.seq | apply CW.block | apply CW.region | apply CW.draw | apply CW.skip | apply CW.exit | apply CW.ret | apply q_then | apply q_then_exit | apply q_then_ret | apply q_block | apply q_block_ret | apply q_block_hit | apply q_ret | apply q_end | apply q_loop_exit | apply q_loop_ret | apply q_loopT_exit | apply q_loopT_ret | apply RW.nil) | ((with_reducible apply s3); exact rfl; exact by_k) | ((with_reducible apply s2); exact rfl; exact by_k) | ((with_reducible apply s4); exact rfl) | ((with_reducible apply s5); (first | exact by_oa); exact by_g) | ((with_reducible apply CW.cond_t); exact rfl; exact by_ks) | ((with_reducible apply CW.cond_f); exact rfl; exact by_ks) | ((with_reducible apply q_block_miss); exact rfl) | (refine And.intro (show chk [] [] _ _ = true by kernel_rfl) ?_))
      refine CW.loopT (fun t : Nat × List (Str × (Bool × Int)) => [sp 4 2, ob 2 done0.enc, sd 5 (.v nilS), sd 6 (.v nilS), sp 7 3, ob 3 e.enc, (.s 8, .av (.pd [.v (.map (some b0))])), (.o 4, .ob (.mp (encM m) (.map (some b0)))),
        so 13 6 t.2.length, oa 6 45 4 ((t.2.map chVer).map Version.enc), so 14 7 t.2.length, oa 7 9 1 ((t.2.map (·.1)).map encStr1), sd 162 (encStrs d.writes), sd 163 (dint d.writes.length), sd 164 (dint t.1), nxt 8])
        (fun t => t.1 ≤ d.writes.length ∧ t.2.length ≤ t.1 ∧ t.2 ++ chg m (d.writes.drop t.1) = chg m d.writes) (fun t => d.writes.length - t.1) (0, []) ⟨by omega, by simp, rfl⟩ ?_ ?_
      ·
        exact by_less
      · rintro ⟨j, acc⟩ ⟨hj, hacc, hJ⟩
        dsimp only at hj hacc hJ ⊢
        rcases drop_case hj with ⟨h1, h2⟩ | ⟨k, h1, h2, h3⟩
        · rw [h1, chg, List.append_nil] at hJ
          repeat (first | ((with_reducible apply s1); exact rfl) | (with_reducible first | apply CW.seq | apply CW.block | apply CW.region | apply CW.draw | apply CW.skip | apply CW.exit | apply CW.ret | apply q_then | apply q_then_exit | apply q_then_ret | apply q_block | apply q_block_ret | apply q_block_hit | apply q_ret | apply q_end | apply q_loop_exit | apply q_loop_ret | apply q_loopT_exit | apply q_loopT_ret | apply RW.nil) | ((with_reducible apply s3); exact rfl; exact by_k) | ((with_reducible apply s2); exact rfl; exact by_k) | ((with_reducible apply s4); exact rfl) | ((with_reducible apply s5); (first | exact by_oa); exact by_g) | ((with_reducible apply CW.cond_t); exact rfl; exact by_ks) | ((with_reducible apply CW.cond_f); exact rfl; exact by_ks) | ((with_reducible apply q_block_miss); exact rfl) | (refine And.intro (show chk [] [] _ _ = true by kernel_rfl) ?_))
          have hrc : runC view d = acc := by
            unfold runC
            rw [← hI]
            dsimp only
            rw [if_neg (by rw [hf]; simp), hJ]
          unfold runRes
          rw [hrc, ← hI]
          exact .three (.cell rfl rfl rfl rfl (.aggd rfl (.refl _))) (.tmp rfl (.one (.own rfl (by simp) (.refl _)))) (.tmp rfl (.one (.own rfl (by simp) (.refl _))))
        · rw [h1, chg] at hJ
          have hg := mget_enc m k
          cases hmk : mG m k with
          | none =>
            rw [hmk] at hJ hg
            dsimp only at hJ
            have hl : mlook (chA (false, 0)) (encM m) k = chA (false, 0) := by simp [mlook, hg]
            have ha := fun {d : Nat} {ty : TypeId} {pos : String} {af : Array Edge} {gd : Option (Nat × Bool)} {σ : St} {x y : Operand} {x0 : Value} (hx) (hy) (ho) (hd) => a_mlook (σ := σ) (d := d) (ty := ty) (pos := pos) (af := af) (gd := gd) (x := x) (y := y) (x0 := x0) 4 hmt flat0 (encM_one m) (k := k) hx hy ho hd
            rw [hl, hg] at ha
            repeat (first | ((with_reducible apply s1); exact rfl) | (with_reducible first | apply CW.seq | apply CW.block | apply CW.region | apply CW.draw | apply CW.skip | apply CW.exit | apply CW.ret | apply q_then | apply q_then_exit | apply q_then_ret | apply q_block | apply q_block_ret | apply q_block_hit | apply q_ret | apply q_end | apply q_loop_exit | apply q_loop_ret | apply q_loopT_exit | apply q_loopT_ret | apply RW.nil) | ((with_reducible apply s3); exact rfl; exact by_k) | ((with_reducible apply s2); exact rfl; exact by_k) | ((with_reducible apply s4); exact rfl) | ((with_reducible apply s5); (first | ((with_reducible apply ha); (iterate 4 exact rfl)) | exact by_oa); exact by_g) | ((with_reducible apply CW.cond_t); exact rfl; exact by_ks) | ((with_reducible apply CW.cond_f); exact rfl; exact by_ks) | ((with_reducible apply q_block_miss); exact rfl) | (refine And.intro (show chk [] [] _ _ = true by kernel_rfl) ?_))
            refine q_loopT (j + 1, acc) ⟨by dsimp only; omega, by dsimp only; omega, hJ⟩ (by dsimp only; omega) ?_
            exact by_less
          | some c =>
            rw [hmk] at hJ hg
            dsimp only at hJ
            have hl : mlook (chA (false, 0)) (encM m) k = chA c := by simp [mlook, hg]
            have ha := fun {d : Nat} {ty : TypeId} {pos : String} {af : Array Edge} {gd : Option (Nat × Bool)} {σ : St} {x y : Operand} {x0 : Value} (hx) (hy) (ho) (hd) => a_mlook (σ := σ) (d := d) (ty := ty) (pos := pos) (af := af) (gd := gd) (x := x) (y := y) (x0 := x0) 4 hmt flat0 (encM_one m) (k := k) hx hy ho hd
            rw [hl, hg] at ha
            repeat (first | ((with_reducible apply s1); exact rfl) | (with_reducible first | apply CW.seq | apply CW.block | apply CW.region | apply CW.draw | apply CW.skip | apply CW.exit | apply CW.ret | apply q_then | apply q_then_exit | apply q_then_ret | apply q_block | apply q_block_ret | apply q_block_hit | apply q_ret | apply q_end | apply q_loop_exit | apply q_loop_ret | apply q_loopT_exit | apply q_loopT_ret | apply RW.nil) | ((with_reducible apply s3); exact rfl; exact by_k) | ((with_reducible apply s2); exact rfl; exact by_k) | ((with_reducible apply s4); exact rfl) | ((with_reducible apply s5); (first | ((with_reducible apply ha); (iterate 4 exact rfl)) | exact by_oa); exact by_g) | ((with_reducible apply CW.cond_t); exact rfl; exact by_ks) | ((with_reducible apply CW.cond_f); exact rfl; exact by_ks) | ((with_reducible apply q_block_miss); exact rfl) | (refine And.intro (show chk [] [] _ _ = true by kernel_rfl) ?_))
            refine q_loopT (j + 1, acc ++ [(k, c)]) ⟨by dsimp only; omega, by dsimp only; simp; omega, by rw [← hJ]; simp⟩ (by dsimp only; omega) ?_
            exact by_less

end Go.Proofs.YtjgbmdonhabmiaaDoor

/-! R5 -/
/-
  Contracts of the program's Do and All of deeds one by one, and of the references' All.
-/
namespace Go.Proofs.YtjgbmdonhabmiaaDoor
open Go.AX Go.RF Go.RowKit

set_option maxRecDepth 100000
set_option maxHeartbeats 8000000

theorem wrong_reads {d : Deed} (h : wrongDeed d = 0) : ∀ i ∈ d.code, i.kind = 1 → i.key ∈ d.reads := by
  intro i hi hk
  unfold wrongDeed at h
  by_cases h0 : lsGo [d.reads, d.writes] = 0
  · rw [if_pos h0] at h
    by_cases hc : 12 < d.code.length
    · rw [if_pos hc] at h; simp at h
    · rw [if_neg hc] at h
      obtain ⟨j, hj⟩ := List.getElem?_of_mem hi
      have h := codeGo_mem h j i hj
      unfold wrongIns at h
      rw [if_neg (show ¬ (i.kind < 1 ∨ 9 < i.kind) by omega)] at h
      have hh : has i.kind.toNat 107 = true := by rw [hk]; decide
      split at h
      · simp at h
      · simp only [hh, hk, Bool.true_eq_false, if_false, if_true] at h
        rw [if_neg (show ¬ has (Int.toNat 1) 107 = false by decide)] at h
        by_cases hi : isIn d.reads i.key = true
        · exact isIn_true hi
        · rw [if_neg hi] at h; simp at h
  · rw [if_neg h0] at h; exact absurd h h0

end Go.Proofs.YtjgbmdonhabmiaaDoor

/-! F4 -/
/-
  Contract of the references' WrongRows.
-/
namespace Go.Proofs.YtjgbmdonhabmiaaDoor
open Go.AX Go.RF

set_option maxRecDepth 100000
set_option maxHeartbeats 4000000

theorem ok_wrongRows (l : List Pair) (hl : l.length ≤ 268435456) (hk : ∀ p ∈ l, p.key.length ≤ 1073741824) : FnOk Tryd.prog 13 [.d (encRows l)] (.one (dint (wrongRows l))) := by
  refine fnOk_of tbl_ok mixed_ok Tryd.func13 rfl (by kernel_rfl) rfl rfl fun w0 own0 => ?_
  repeat (first | ((with_reducible apply s1); exact rfl) | (with_reducible first | apply CW.seq | apply CW.block | apply CW.region | apply CW.draw | apply CW.skip | apply CW.exit | apply CW.ret | apply q_then | apply q_then_exit | apply q_then_ret | apply q_block | apply q_block_ret | apply q_block_hit | apply q_ret | apply q_end | apply q_loop_exit | apply q_loop_ret | apply q_loopT_exit | apply q_loopT_ret | apply RW.nil) | ((with_reducible apply s3); exact rfl; exact by_k) | ((with_reducible apply s2); exact rfl; exact by_k) | ((with_reducible apply s4); exact rfl) | ((with_reducible apply s5); (first | exact by_oa); exact by_g) | ((with_reducible apply CW.cond_t); exact rfl; exact by_ks) | ((with_reducible apply CW.cond_f); exact rfl; exact by_ks) | ((with_reducible apply q_block_miss); exact rfl) | (refine And.intro (show chk [] [] _ _ = true by kernel_rfl) ?_))
  refine CW.loopT (fun t : Nat × Str => [(.s 3, .av (.d (dstr t.2))), (.s 6, .av (.d (encRows l))), (.s 7, .av (.d (dint l.length))), (.s 8, .av (.d (dint t.1))), (.nx, .num 0)])
    (fun t => t.1 ≤ l.length ∧ wrongRowsGo t.1 t.2 (l.drop t.1) = wrongRows l) (fun t => l.length - t.1) (0, []) ⟨by omega, rfl⟩ ?_ ?_
  ·
    exact by_less
  · rintro ⟨i, last⟩ ⟨hi, hI⟩
    dsimp only at hi hI ⊢
    rcases drop_case hi with ⟨h1, h2⟩ | ⟨p, h1, h2, h3⟩
    · rw [h1] at hI
      simp only [wrongRowsGo] at hI
      repeat (first | ((with_reducible apply s1); exact rfl) | (with_reducible first | apply CW.seq | apply CW.block | apply CW.region | apply CW.draw | apply CW.skip | apply CW.exit | apply CW.ret | apply q_then | apply q_then_exit | apply q_then_ret | apply q_block | apply q_block_ret | apply q_block_hit | apply q_ret | apply q_end | apply q_loop_exit | apply q_loop_ret | apply q_loopT_exit | apply q_loopT_ret | apply RW.nil) | ((with_reducible apply s3); exact rfl; exact by_k) | ((with_reducible apply s2); exact rfl; exact by_k) | ((with_reducible apply s4); exact rfl) | ((with_reducible apply s5); (first | exact by_oa); exact by_g) | ((with_reducible apply CW.cond_t); exact rfl; exact by_ks) | ((with_reducible apply CW.cond_f); exact rfl; exact by_ks) | ((with_reducible apply q_block_miss); exact rfl) | (refine And.intro (show chk [] [] _ _ = true by kernel_rfl) ?_))
      exact .one (.tmp rfl (.one (.d (dle_int hI))))
    · rw [h1] at hI
      simp only [wrongRowsGo] at hI
      have hc := ok_key p.key (hk p (List.mem_of_getElem? h2))
      cases h4 : key p.key
      · rw [if_pos h4] at hI
        repeat (first | ((with_reducible apply s1); exact rfl) | (with_reducible first | apply CW.seq | apply CW.block | apply CW.region | apply CW.draw | apply CW.skip | apply CW.exit | apply CW.ret | apply q_then | apply q_then_exit | apply q_then_ret | apply q_block | apply q_block_ret | apply q_block_hit | apply q_ret | apply q_end | apply q_loop_exit | apply q_loop_ret | apply q_loopT_exit | apply q_loopT_ret | apply RW.nil) | ((with_reducible apply s3); exact rfl; exact by_k) | ((with_reducible apply s2); exact rfl; exact by_k) | ((with_reducible apply s4); exact rfl) | ((with_reducible apply s5); (first | (focus ((with_reducible apply a_call); exact hc; exact rfl; (repeat (first | exact SubsE.nil | (apply SubsE.cons; exact rfl; (first | exact .d (.refl _) | exact .d (.nil _) | exact .agg rfl (.refl _) | exact .pd | exact .ptr rfl); (first | exact trivial | exact ⟨rfl, trivial⟩)))); done)) | exact by_oa); exact by_g) | ((with_reducible apply CW.cond_t); exact rfl; exact by_ks) | ((with_reducible apply CW.cond_f); exact rfl; exact by_ks) | ((with_reducible apply q_block_miss); exact rfl) | (refine And.intro (show chk [] [] _ _ = true by kernel_rfl) ?_))
        exact .one (.tmp rfl (.one (.d (dle_int hI))))
      · rw [if_neg (by simp [h4])] at hI
        by_cases h5 : 0 < i
        · cases h6 : sle p.key last
          · rw [if_neg (by simp [h6])] at hI
            have h6' : (Go.Op.bytesLess p.key last || decide (p.key = last)) = false := h6
            by_cases h7 : 1073741824 < p.n
            · rw [if_pos (.inl h7)] at hI
              repeat (first | ((with_reducible apply s1); exact rfl) | (with_reducible first | apply CW.seq | apply CW.block | apply CW.region | apply CW.draw | apply CW.skip | apply CW.exit | apply CW.ret | apply q_then | apply q_then_exit | apply q_then_ret | apply q_block | apply q_block_ret | apply q_block_hit | apply q_ret | apply q_end | apply q_loop_exit | apply q_loop_ret | apply q_loopT_exit | apply q_loopT_ret | apply RW.nil) | ((with_reducible apply s3); exact rfl; exact by_k) | ((with_reducible apply s2); exact rfl; exact by_k) | ((with_reducible apply s4); exact rfl) | ((with_reducible apply s5); (first | (focus ((with_reducible apply a_call); exact hc; exact rfl; (repeat (first | exact SubsE.nil | (apply SubsE.cons; exact rfl; (first | exact .d (.refl _) | exact .d (.nil _) | exact .agg rfl (.refl _) | exact .pd | exact .ptr rfl); (first | exact trivial | exact ⟨rfl, trivial⟩)))); done)) | exact by_oa); exact by_g) | ((with_reducible apply CW.cond_t); exact rfl; exact by_ks) | ((with_reducible apply CW.cond_f); exact rfl; exact by_ks) | ((with_reducible apply q_block_miss); exact rfl) | (refine And.intro (show chk [] [] _ _ = true by kernel_rfl) ?_))
              exact .one (.tmp rfl (.one (.d (dle_int hI))))
            · by_cases h8 : p.n < -1073741824
              · rw [if_pos (.inr h8)] at hI
                repeat (first | ((with_reducible apply s1); exact rfl) | (with_reducible first | apply CW.seq | apply CW.block | apply CW.region | apply CW.draw | apply CW.skip | apply CW.exit | apply CW.ret | apply q_then | apply q_then_exit | apply q_then_ret | apply q_block | apply q_block_ret | apply q_block_hit | apply q_ret | apply q_end | apply q_loop_exit | apply q_loop_ret | apply q_loopT_exit | apply q_loopT_ret | apply RW.nil) | ((with_reducible apply s3); exact rfl; exact by_k) | ((with_reducible apply s2); exact rfl; exact by_k) | ((with_reducible apply s4); exact rfl) | ((with_reducible apply s5); (first | (focus ((with_reducible apply a_call); exact hc; exact rfl; (repeat (first | exact SubsE.nil | (apply SubsE.cons; exact rfl; (first | exact .d (.refl _) | exact .d (.nil _) | exact .agg rfl (.refl _) | exact .pd | exact .ptr rfl); (first | exact trivial | exact ⟨rfl, trivial⟩)))); done)) | exact by_oa); exact by_g) | ((with_reducible apply CW.cond_t); exact rfl; exact by_ks) | ((with_reducible apply CW.cond_f); exact rfl; exact by_ks) | ((with_reducible apply q_block_miss); exact rfl) | (refine And.intro (show chk [] [] _ _ = true by kernel_rfl) ?_))
                exact .one (.tmp rfl (.one (.d (dle_int hI))))
              · rw [if_neg (by omega)] at hI
                repeat (first | ((with_reducible apply s1); exact rfl) | (with_reducible first | apply CW.seq | apply CW.block | apply CW.region | apply CW.draw | apply CW.skip | apply CW.exit | apply CW.ret | apply q_then | apply q_then_exit | apply q_then_ret | apply q_block | apply q_block_ret | apply q_block_hit | apply q_ret | apply q_end | apply q_loop_exit | apply q_loop_ret | apply q_loopT_exit | apply q_loopT_ret | apply RW.nil) | ((with_reducible apply s3); exact rfl; exact by_k) | ((with_reducible apply s2); exact rfl; exact by_k) | ((with_reducible apply s4); exact rfl) | ((with_reducible apply s5); (first | (focus ((with_reducible apply a_call); exact hc; exact rfl; (repeat (first | exact SubsE.nil | (apply SubsE.cons; exact rfl; (first | exact .d (.refl _) | exact .d (.nil _) | exact .agg rfl (.refl _) | exact .pd | exact .ptr rfl); (first | exact trivial | exact ⟨rfl, trivial⟩)))); done)) | exact by_oa); exact by_g) | ((with_reducible apply CW.cond_t); exact rfl; exact by_ks) | ((with_reducible apply CW.cond_f); exact rfl; exact by_ks) | ((with_reducible apply q_block_miss); exact rfl) | (refine And.intro (show chk [] [] _ _ = true by kernel_rfl) ?_))
                refine q_loopT (i + 1, _) ⟨by omega, hI⟩ (by dsimp only; omega) ?_
                exact by_less
          · rw [if_pos ⟨h5, h6⟩] at hI
            have h6' : (Go.Op.bytesLess p.key last || decide (p.key = last)) = true := h6
            repeat (first | ((with_reducible apply s1); exact rfl) | (with_reducible first | apply CW.seq | apply CW.block | apply CW.region | apply CW.draw | apply CW.skip | apply CW.exit | apply CW.ret | apply q_then | apply q_then_exit | apply q_then_ret | apply q_block | apply q_block_ret | apply q_block_hit | apply q_ret | apply q_end | apply q_loop_exit | apply q_loop_ret | apply q_loopT_exit | apply q_loopT_ret | apply RW.nil) | ((with_reducible apply s3); exact rfl; exact by_k) | ((with_reducible apply s2); exact rfl; exact by_k) | ((with_reducible apply s4); exact rfl) | ((with_reducible apply s5); (first | (focus ((with_reducible apply a_call); exact hc; exact rfl; (repeat (first | exact SubsE.nil | (apply SubsE.cons; exact rfl; (first | exact .d (.refl _) | exact .d (.nil _) | exact .agg rfl (.refl _) | exact .pd | exact .ptr rfl); (first | exact trivial | exact ⟨rfl, trivial⟩)))); done)) | exact by_oa); exact by_g) | ((with_reducible apply CW.cond_t); exact rfl; exact by_ks) | ((with_reducible apply CW.cond_f); exact rfl; exact by_ks) | ((with_reducible apply q_block_miss); exact rfl) | (refine And.intro (show chk [] [] _ _ = true by kernel_rfl) ?_))
            exact .one (.tmp rfl (.one (.d (dle_int hI))))
        · rw [if_neg (by simp; omega)] at hI
          by_cases h7 : 1073741824 < p.n
          · rw [if_pos (.inl h7)] at hI
            repeat (first | ((with_reducible apply s1); exact rfl) | (with_reducible first | apply CW.seq | apply CW.block | apply CW.region | apply CW.draw | apply CW.skip | apply CW.exit | apply CW.ret | apply q_then | apply q_then_exit | apply q_then_ret | apply q_block | apply q_block_ret | apply q_block_hit | apply q_ret | apply q_end | apply q_loop_exit | apply q_loop_ret | apply q_loopT_exit | apply q_loopT_ret | apply RW.nil) | ((with_reducible apply s3); exact rfl; exact by_k) | ((with_reducible apply s2); exact rfl; exact by_k) | ((with_reducible apply s4); exact rfl) | ((with_reducible apply s5); (first | (focus ((with_reducible apply a_call); exact hc; exact rfl; (repeat (first | exact SubsE.nil | (apply SubsE.cons; exact rfl; (first | exact .d (.refl _) | exact .d (.nil _) | exact .agg rfl (.refl _) | exact .pd | exact .ptr rfl); (first | exact trivial | exact ⟨rfl, trivial⟩)))); done)) | exact by_oa); exact by_g) | ((with_reducible apply CW.cond_t); exact rfl; exact by_ks) | ((with_reducible apply CW.cond_f); exact rfl; exact by_ks) | ((with_reducible apply q_block_miss); exact rfl) | (refine And.intro (show chk [] [] _ _ = true by kernel_rfl) ?_))
            exact .one (.tmp rfl (.one (.d (dle_int hI))))
          · by_cases h8 : p.n < -1073741824
            · rw [if_pos (.inr h8)] at hI
              repeat (first | ((with_reducible apply s1); exact rfl) | (with_reducible first | apply CW.seq | apply CW.block | apply CW.region | apply CW.draw | apply CW.skip | apply CW.exit | apply CW.ret | apply q_then | apply q_then_exit | apply q_then_ret | apply q_block | apply q_block_ret | apply q_block_hit | apply q_ret | apply q_end | apply q_loop_exit | apply q_loop_ret | apply q_loopT_exit | apply q_loopT_ret | apply RW.nil) | ((with_reducible apply s3); exact rfl; exact by_k) | ((with_reducible apply s2); exact rfl; exact by_k) | ((with_reducible apply s4); exact rfl) | ((with_reducible apply s5); (first | (focus ((with_reducible apply a_call); exact hc; exact rfl; (repeat (first | exact SubsE.nil | (apply SubsE.cons; exact rfl; (first | exact .d (.refl _) | exact .d (.nil _) | exact .agg rfl (.refl _) | exact .pd | exact .ptr rfl); (first | exact trivial | exact ⟨rfl, trivial⟩)))); done)) | exact by_oa); exact by_g) | ((with_reducible apply CW.cond_t); exact rfl; exact by_ks) | ((with_reducible apply CW.cond_f); exact rfl; exact by_ks) | ((with_reducible apply q_block_miss); exact rfl) | (refine And.intro (show chk [] [] _ _ = true by kernel_rfl) ?_))
              exact .one (.tmp rfl (.one (.d (dle_int hI))))
            · rw [if_neg (by omega)] at hI
              repeat (first | ((with_reducible apply s1); exact rfl) | (with_reducible first | apply CW.seq | apply CW.block | apply CW.region | apply CW.draw | apply CW.skip | apply CW.exit | apply CW.ret | apply q_then | apply q_then_exit | apply q_then_ret | apply q_block | apply q_block_ret | apply q_block_hit | apply q_ret | apply q_end | apply q_loop_exit | apply q_loop_ret | apply q_loopT_exit | apply q_loopT_ret | apply RW.nil) | ((with_reducible apply s3); exact rfl; exact by_k) | ((with_reducible apply s2); exact rfl; exact by_k) | ((with_reducible apply s4); exact rfl) | ((with_reducible apply s5); (first | (focus ((with_reducible apply a_call); exact hc; exact rfl; (repeat (first | exact SubsE.nil | (apply SubsE.cons; exact rfl; (first | exact .d (.refl _) | exact .d (.nil _) | exact .agg rfl (.refl _) | exact .pd | exact .ptr rfl); (first | exact trivial | exact ⟨rfl, trivial⟩)))); done)) | exact by_oa); exact by_g) | ((with_reducible apply CW.cond_t); exact rfl; exact by_ks) | ((with_reducible apply CW.cond_f); exact rfl; exact by_ks) | ((with_reducible apply q_block_miss); exact rfl) | (refine And.intro (show chk [] [] _ _ = true by kernel_rfl) ?_))
              refine q_loopT (i + 1, _) ⟨by omega, hI⟩ (by dsimp only; omega) ?_
              exact by_less

end Go.Proofs.YtjgbmdonhabmiaaDoor

/-! AxBld -/
/-
  Structs that are built of slices of ours, and of data.
-/
namespace Go.AX
open Go.RowKit

variable {cx : Cx} {g : Nat → Value} {σ : St} {a : Act} {w : World} {nx : Nat}
variable {ty : TypeId} {pos : String} {af : Array Edge} {gd : Option (Nat × Bool)} {d : Nat}

/-- A list of cells, and what is known of each. -/
def RdG (R : Value → AV → Prop) (cs : List Value) (ds : List AV) : Prop :=
  cs.length = ds.length ∧ (∀ c ∈ cs, Value.oneCell' c = true) ∧ ∀ (j : Nat) (c : Value) (x : AV), ds[j]? = some x → cs[j]? = some c → R c x

/-- The same, of whatever state has what is read. -/
inductive PartsW : List (Nat × Operand) → List (Nat × List AV) → List (Key × Val) → Prop
  | nil : PartsW [] [] []
  | cons {i : Nat} {x : Operand} {r : List (Nat × Operand)} {av : AV} {ds : List AV} {q : List (Nat × List AV)} {l lo : List (Key × Val)} (hx : EvS x av) (hc : cellsOf av = some ds) (hl : nwRd av lo) (hr : PartsW r q l) :
      PartsW ((i, x) :: r) ((i, ds) :: q) (rdOf x av ++ (lo ++ l))
theorem PartsW.ok (hs : SimG cx σ a w g nx) {ps : List (Nat × Operand)} {qs : List (Nat × List AV)} {l : List (Key × Val)} (h : PartsW ps qs l) (ha : App σ l) :
    (ps.map fun p => (p.1, a.eval p.2)).length = qs.length ∧
    (∀ (j : Nat) (p : Nat × Value) (q : Nat × List AV), (ps.map fun p => (p.1, a.eval p.2))[j]? = some p → qs[j]? = some q → p.1 = q.1 ∧ RdG (Rep1 cx g σ w) p.2.cells.toList q.2) ∧
    ∀ q ∈ qs, ∀ av ∈ q.2, av.bd1 nx := by
  induction h with
  | nil => exact ⟨rfl, fun j p q h => by simp at h, by simp⟩
  | cons hx hc hl hr ih =>
    obtain ⟨h1, h2, h3⟩ := ih ha.right.right
    obtain ⟨hrep, hbd⟩ := hs.ev hx ha.left
    obtain ⟨c1, c2, c3, c4⟩ := cells_of hrep hbd hc (one_of hs hrep (newest_of hl ha.right.left))
    refine ⟨by simpa using h1, fun j p q hj hq => ?_, fun q hq => ?_⟩
    · cases j with
      | zero =>
        simp at hj hq
        subst hj hq
        refine ⟨rfl, by simpa using c1, fun c hc => ?_, fun j c x hx hc => c3 j c x hx (by simpa using hc)⟩
        obtain ⟨j, hj⟩ := List.getElem?_of_mem hc
        exact c2 j c (by simpa using hj)
      | succ j => exact h2 j p q (by simpa using hj) (by simpa using hq)
    · rcases List.mem_cons.1 hq with rfl | hq
      · exact c4
      · exact h3 q hq
end Go.AX

/-! AxW -/
/-
  A cell that is shared, and holds the same all the time: read, and written with what it has. Maps of ours in a cell, kept.
-/
namespace Go.AX
open Go.RowKit

variable {cx : Cx} {g : Nat → Value} {σ σ' : St} {a : Act} {w w' : World} {nx : Nat}
variable {ty : TypeId} {pos : String} {af : Array Edge} {gd : Option (Nat × Bool)} {d : Nat}

def refWP (u : Value) (w : World) (own : Nat → Prop) (v : Value) : Prop := ∃ b t, v = .pointer (some ⟨b, 0, none⟩) ∧ ¬ own b ∧ w.heap[b]? = some (.cells #[u] t (0, 0)) ∧ u.oneCell' = true
def refW (u : Value) : D := .x (refWP u)
theorem lt_heap {b : Nat} {o : Obj} (h : w.heap[b]? = some o) : b < w.heap.size := by
  rcases Nat.lt_or_ge b w.heap.size with h' | h'
  · exact h'
  · rw [Array.getElem?_eq_none h'] at h; cases h
theorem refW_stable (u : Value) : Stable (refWP u) := by
  rintro own own' w w' v hx ho ⟨b, t, rfl, h1, h2, h3⟩
  have hlt := lt_heap h2
  refine ⟨b, t, rfl, fun h => ?_, (hx.block b hlt h1).trans h2, h3⟩
  rcases ho _ h with h | h
  · exact h1 h
  · omega
theorem rd_refW {own : Nat → Prop} {v u : Value} (h : refWP u w own v) : Rd w own v (refW u) := by
  obtain ⟨b, t, rfl, _⟩ := id h
  exact .x _ _ rfl (refW_stable u) h

theorem stut_freezeW {i id : Nat} {u : Value} : Stut cx ⟨[(.s i, .av (.ptr id 0)), (.o id, .ob (.box [.d (.v u)]))], [(.s i, .av (.d (refW u))), (.o id, .none)]⟩ := by
  rintro σ a w hs hr
  have hs0 := hs
  obtain ⟨g, nx, hG⟩ := hs0
  have ho : get σ (.o id) = .ob (.box [.d (.v u)]) := hr.2.1
  obtain ⟨b0, hg0, hv⟩ := (hG.slots i _ hr.1).1.2 _ ho
  obtain ⟨_, ⟨b, cs, t, h0, h1, h2, h3, h4, h5⟩, _⟩ := hG.objs id _ ho
  obtain rfl : b0 = b := by rw [hg0] at h0; simpa using h0
  have hl := Less.drop hs id
  have hlat : Later cx g g σ ((.o id, .none) :: σ) w w nx := by
    refine ⟨Ext.refl _ _, Below.refl _ _, fun b hb => .inl (own_drop hG ho hb).1, fun j o' _ h => ⟨o', hl.o _ _ h, ?_⟩⟩
    cases o' <;> simp [ObLe]
  have hG2 : SimG cx ((.o id, .none) :: σ) a w g nx :=
    hG.next hlat ((get_cons_ne (by simp)).trans hG.hnx) (Nat.le_refl _) hG.size hG.defers (Below.refl _ _) (fun j av hj => .inl ⟨hl.s _ _ hj, rfl⟩) (fun j o hj => .inl ⟨hl.o _ _ hj, rfl, fun _ _ => rfl⟩)
      (fun j j' o o' b h1 h2 => hG.sep j j' o o' b (hl.o _ _ h1) (hl.o _ _ h2))
  have h3' : cs.size = 1 := h3
  have hlt0 : 0 < cs.size := by omega
  have hc0 : cs[0]? = some cs[0] := Array.getElem?_eq_getElem hlt0
  have hu : cs[0] = u := rd_v (h5 0 _ _ rfl hc0)
  have hcs : cs = #[u] := by
    apply Array.ext
    · exact h3'
    · intro j hj _
      have hj0 : j = 0 := by omega
      subst hj0; exact hu
  have hone : u.oneCell' = true := by rw [← hu]; exact h4 0 _ hc0
  refine Sim.retell hG2 (av := .d (refW u)) (rd_refW ⟨b0, t, hv, fun h => (own_drop hG ho h).2 (by rw [hg0]; rfl), by rw [h2, hcs], hone⟩) trivial

/-- Read: one cell. -/
theorem a_ldW {t : TypeId} {x : Operand} {u : Value} {ti : TI} (hx : ev σ x = some (.d (refW u))) (ht : tget cx.T t = some ti) (hk : ti.kind = .bool) (hd : Nat.blt d cx.n = true) :
    OA cx σ ⟨some d, .load t x, ty, pos, af, gd⟩ ⟨rdOf x (.d (refW u)), [(.s d, .av (.d (.v u)))]⟩ := by
  refine ⟨ok_val rfl (lt_of_blt hd) fun σ1 a w g nx hs hr => ?_, (ev_out hx).2⟩
  obtain ⟨b, t', hv, _, hh, _⟩ := rd_x (hs.ev (ev_out hx).1 hr).1
  have hA := isAgg_of (cx.hT t ti ht) w
  rw [hk] at hA
  refine ⟨u, w, ?_, Below.refl _ _, Rd.v _, trivial⟩
  simp [execOp, hv, Instr.loadAt, Instr.sureAddr, loadVar, hA, World.cell?, hh]
/-- Written with what it has: nothing turns. -/
theorem a_stW {t : TypeId} {x y : Operand} {u : Value} {ti : TI} (hx : ev σ x = some (.d (refW u))) (hy : ev σ y = some (.d (.v u))) (ht : tget cx.T t = some ti) (hk : ti.kind = .bool) :
    OA cx σ ⟨none, .store t x y, ty, pos, af, gd⟩ ⟨rdOf x (.d (refW u)) ++ rdOf y (.d (.v u)), []⟩ := by
  refine ⟨?_, (ev_out hx).2.append (ev_out hy).2⟩
  rintro σ1 a w K Q ⟨g, nx, hs⟩ hr hK
  obtain ⟨b, t', hv, _, hh, h1⟩ := rd_x (hs.ev (ev_out hx).1 hr.left).1
  have hyv := rep_v (hs.ev (ev_out hy).1 hr.right).1
  have hF := cx.hT t ti ht
  have hn : ti.n = 1 := by have := hF.kind; rw [hk] at this; exact this.2
  have hst := run_storeCells_at (P := cx.P) b 0 t' [u] 0 #[u] w hh (by simp) (by simpa using h1)
  simp only [Nat.add_zero, List.take_zero, List.nil_append, List.length_cons, List.length_nil, List.drop_succ_cons, List.drop_zero] at hst
  have hw : w.setRow b #[u] = w := setRow_self w b #[u] t' (0, 0) hh
  have hcells : u.cells = #[u] := cells_one h1
  have hrun : (Instr.storeAt t (.pointer (some ⟨b, 0, none⟩)) u).run cx.P w = .ok () w := by
    have : (storeCells ⟨b, 0, none⟩ [u] 0).run cx.P w = .ok () w := by rw [hst]; simpa using hw
    simp [Instr.storeAt, Instr.sureAddr, storeVar, sizeOf_of hF w, hcells, hn, this]
  unfold Oper.wp
  have hex : (execOp a.eval ⟨none, .store t x y, ty, pos, af, gd⟩).run cx.P w = .ok .skip w := by
    simp [execOp, hv, hyv, hrun]
  rw [hex]
  exact hK _ _ ⟨g, nx, hs⟩

/-- A map of ours whose handle lies in a box, written no more. -/
theorem stut_freezemap_cell {bid mid : Nat} {x0 : Value} {M : List (List UInt8 × Value)} : Stut cx ⟨[(.o bid, .ob (.box [.d (.v x0)])), (.o mid, .ob (.mp M x0))], [(.o bid, .ob (.box [.d (mapD M)])), (.o mid, .none)]⟩ := by
  rintro σ a w hs hr
  have hs0 := hs
  obtain ⟨g, nx, hG⟩ := hs0
  have hb : get σ (.o bid) = .ob (.box [.d (.v x0)]) := hr.1
  have ho : get σ (.o mid) = .ob (.mp M x0) := hr.2.1
  have hne : mid ≠ bid := fun he => by subst he; rw [hb] at ho; cases ho
  obtain ⟨_, ⟨hgx, b, es, clock, hx0, hge, hh, hmi⟩, _⟩ := hG.objs mid _ ho
  have hl := Less.drop hs mid
  have hlat : Later cx g g σ ((.o mid, .none) :: σ) w w nx := by
    refine ⟨Ext.refl _ _, Below.refl _ _, fun b hb => .inl (own_drop hG ho hb).1, fun j o' _ h => ⟨o', hl.o _ _ h, ?_⟩⟩
    cases o' <;> simp [ObLe]
  have hG2 : SimG cx ((.o mid, .none) :: σ) a w g nx :=
    hG.next hlat ((get_cons_ne (by simp)).trans hG.hnx) (Nat.le_refl _) hG.size hG.defers (Below.refl _ _) (fun j av hj => .inl ⟨hl.s _ _ hj, rfl⟩) (fun j o hj => .inl ⟨hl.o _ _ hj, rfl, fun _ _ => rfl⟩)
      (fun j j' o o' b h1 h2 => hG.sep j j' o o' b (hl.o _ _ h1) (hl.o _ _ h2))
  have hb' : get ((.o mid, .none) :: σ) (.o bid) = .ob (.box [.d (.v x0)]) := (get_cons_ne (by simpa using hne)).trans hb
  obtain ⟨_, ⟨b1, cs, t, h0, h1, h2, h3, h4, h5⟩, h6⟩ := hG.objs bid _ hb
  have hlt := lt_heap hh
  have hmap : Rd w (cx.own g ((.o mid, .none) :: σ)) x0 (mapD M) := rd_map ⟨b, es, clock, hx0, fun h => (own_drop hG ho h).2 (by rw [hgx, hx0]; rfl), hlt, hh, hmi⟩
  refine ⟨g, nx, (hG2.retellBox hb' ⟨b1, cs, t, h0, h1, h2, h3, h4, fun m c x hm hc => ?_⟩ (fun av hav => by simp at hav; subst hav; trivial))⟩
  cases m with
  | zero =>
    simp at hm; subst hm
    have : c = x0 := rd_v (h5 0 c _ rfl hc)
    rw [this]; exact hmap
  | succ m => simp at hm

end Go.AX

/-! P8 -/
/-
  What is named alone: plain laws.
-/
namespace Go.Proofs.YtjgbmdonhabmiaaDoor
open Go.AX Go.RF

/-- Names, each told. -/
def namesM : List (Str × Value) → List Str → List (Str × Value)
  | M, [] => M
  | M, k :: r => namesM (mset M k (.bool true)) r
theorem namesM_get {k : Str} : ∀ {l : List Str} {M : List (Str × Value)}, mget (namesM M l) k = if k ∈ l then some (.bool true) else mget M k
  | [], M => by simp [namesM]
  | x :: l, M => by
    simp only [namesM]
    rw [namesM_get, mget_mset]
    by_cases hk : k ∈ l
    · rw [if_pos hk, if_pos (List.mem_cons_of_mem _ hk)]
    · rw [if_neg hk]
      by_cases hx : x = k
      · subst hx; rw [if_pos rfl, if_pos (List.mem_cons_self ..)]
      · rw [if_neg hx, if_neg (by simp [hk, Ne.symm hx])]
theorem mset_flat {M : List (Str × Value)} {k : Str} (h : ∀ p ∈ M, flat p.2) : ∀ p ∈ mset M k (.bool true), flat p.2 := by
  induction M with
  | nil => intro p hp; simp [mset] at hp; subst hp; trivial
  | cons q M ih =>
    obtain ⟨s, v⟩ := q
    intro p hp
    simp only [mset] at hp
    split at hp
    · rcases List.mem_cons.1 hp with rfl | hp
      · trivial
      · exact h p (List.mem_cons_of_mem _ hp)
    · rcases List.mem_cons.1 hp with rfl | hp
      · exact h _ (List.mem_cons_self ..)
      · exact ih (fun p hp => h p (List.mem_cons_of_mem _ hp)) p hp
theorem namesM_flat : ∀ {l : List Str} {M : List (Str × Value)}, (∀ p ∈ M, flat p.2) → ∀ p ∈ namesM M l, flat p.2
  | [], M, h => h
  | x :: l, M, h => by simp only [namesM]; exact namesM_flat (mset_flat h)

theorem chg_keys {m : Mk} : ∀ (ws : List Str), ((chg m ws).map (·.1)).Sublist ws
  | [] => List.Sublist.slnil
  | k :: ws => by
    simp only [chg]
    cases mG m k with
    | none => exact (chg_keys ws).cons _
    | some c => exact (chg_keys ws).cons_cons _
theorem runC_keys (view : Str → Int × Bool) (d : Deed) : ((runC view d).map (·.1)).Sublist d.writes := by
  unfold runC
  split
  · exact List.nil_sublist _
  · exact chg_keys _
theorem runC_failed (view : Str → Int × Bool) (d : Deed) (h : (runM view d).2.failed = true) : runC view d = [] := by
  unfold runC; rw [if_pos h]

def viewO (r : List Pair) (other : Str) (n : Int) (k : Str) : Int × Bool := if k = other then (n, true) else RF.get r k
theorem namesM_snoc : ∀ {l : List Str} {M : List (Str × Value)} {k : Str}, namesM M (l ++ [k]) = mset (namesM M l) k (.bool true)
  | [], M, k => rfl
  | x :: l, M, k => by simp only [List.cons_append, namesM]; exact namesM_snoc
theorem namesM_take {l : List Str} {i : Nat} {k : Str} (h : l[i]? = some k) : mset (namesM [] (l.take i)) k (.bool true) = namesM [] (l.take (i + 1)) := by
  rw [List.take_add_one, h]
  exact namesM_snoc.symm
theorem runRes_O {r : List Pair} {d : Deed} {other : Str} {n : Int} (hr : ∀ i ∈ d.code, i.kind = 1 → i.key ∈ d.reads) (ho : other ∉ d.reads) : runRes (viewO r other n) d = runRes (RF.get r) d := by
  have : runM (viewO r other n) d = runM (RF.get r) d := runGo_congr fun i hi hk => by
    unfold viewO
    rw [if_neg fun e => ho (by rw [← e]; exact hr i hi hk)]
  unfold runRes runC
  rw [this]

end Go.Proofs.YtjgbmdonhabmiaaDoor

/-! L9 -/
/-
  The law DeedNamed answers true of whatever data.
-/
namespace Go.Proofs.YtjgbmdonhabmiaaDoor
open Go.AX Go.RF

set_option maxRecDepth 100000
set_option maxHeartbeats 8000000

theorem mapB {n : Nat} {w0 : World} {own0 : Nat → Prop} : MapTy ⟨Tryd.prog, tbl, tbl_ok, mixed_ok, n, w0, own0⟩ 50 4 (.bool false) :=
  ⟨⟨9, Tryd.underlying50, Tryd.underlying9⟩, fun w => by exact Tryd.zeroValue4 w⟩
theorem tiB : ∃ ti, tget tbl 4 = some ti ∧ ti.kind = .bool := ⟨_, rfl, rfl⟩

theorem ok_viewN (r : List Pair) (M : List (Str × Value)) (k : Str) (hl : r.length ≤ 268435456) (hM : ∀ p ∈ M, flat p.2) (hk : mget M k = some (.bool true)) :
    FnOk Tryd.prog 21 [.d (dstr k), .d (refW (.bool false)), .pd [mapD M], .pd [encRows r]] (.tup [dint (RF.get r k).1, dbool (RF.get r k).2]) := by
  refine fnOk_of tbl_ok mixed_ok Tryd.func21 rfl (by kernel_rfl) rfl rfl fun w0 own0 => ?_
  have c1 := ok_get r k (by omega)
  obtain ⟨ti, hti, htk⟩ := tiB
  have hm := mapB (n := Tryd.f21.ntmps) (w0 := w0) (own0 := own0)
  have hl1 : mlook (.bool false) M k = .bool true := by simp [mlook, hk]
  have ha := fun {d : Nat} {ty : TypeId} {pos : String} {af : Array Edge} {gd : Option (Nat × Bool)} {σ : St} {x y : Operand} (hx) (hy) (hd) => a_mlookd1 (σ := σ) (d := d) (ty := ty) (pos := pos) (af := af) (gd := gd) (x := x) (y := y) hm trivial hM (k := k) hx hy hd
  rw [hl1] at ha
  repeat (first | ((with_reducible apply s1); exact rfl) | (with_reducible first | apply CW.seq | apply CW.block | apply CW.region | apply CW.draw | apply CW.skip | apply CW.exit | apply CW.ret | apply q_then | apply q_then_exit | apply q_then_ret | apply q_block | apply q_block_ret | apply q_block_hit | apply q_ret | apply q_end | apply q_loop_exit | apply q_loop_ret | apply q_loopT_exit | apply q_loopT_ret | apply RW.nil) | ((with_reducible apply s3); exact rfl; exact by_k) | ((with_reducible apply s2); exact rfl; exact by_k) | ((with_reducible apply s4); exact rfl) | ((with_reducible apply s5); (first | (focus ((with_reducible apply a_call); exact c1; exact rfl; (repeat (first | exact SubsE.nil | (apply SubsE.cons; exact rfl; (first | exact .d (.refl _) | exact .d (.nil _) | exact .agg rfl (.refl _) | exact .pd | exact .ptr rfl); (first | exact trivial | exact ⟨rfl, trivial⟩)))); done)) | ((with_reducible apply ha); (iterate 3 exact rfl)) | ((with_reducible apply a_ldW); exact rfl; exact hti; exact htk; exact rfl) | ((with_reducible apply a_stW); exact rfl; exact rfl; exact hti; exact htk) | exact by_oa); exact by_g) | ((with_reducible apply CW.cond_t); exact rfl; exact by_ks) | ((with_reducible apply CW.cond_f); exact rfl; exact by_ks) | ((with_reducible apply q_block_miss); exact rfl) | (refine And.intro (show chk [] [] _ _ = true by kernel_rfl) ?_))
  exact .two (.tmp rfl (.one (.d (.refl _)))) (.tmp rfl (.one (.d (.refl _))))

theorem ok_viewO (r : List Pair) (other : Str) (n : Int) (k : Str) (hl : r.length ≤ 268435456) :
    FnOk Tryd.prog 22 [.d (dstr k), .pd [dstr other], .pd [dint n], .pd [encRows r]] (.tup [dint (viewO r other n k).1, dbool (viewO r other n k).2]) := by
  refine fnOk_of tbl_ok mixed_ok Tryd.func22 rfl (by kernel_rfl) rfl rfl fun w0 own0 => ?_
  have c1 := ok_get r k (by omega)
  unfold viewO
  by_cases h : k = other
  · rw [if_pos h]
    repeat (first | ((with_reducible apply s1); exact rfl) | (with_reducible first | apply CW.seq | apply CW.block | apply CW.region | apply CW.draw | apply CW.skip | apply CW.exit | apply CW.ret | apply q_then | apply q_then_exit | apply q_then_ret | apply q_block | apply q_block_ret | apply q_block_hit | apply q_ret | apply q_end | apply q_loop_exit | apply q_loop_ret | apply q_loopT_exit | apply q_loopT_ret | apply RW.nil) | ((with_reducible apply s3); exact rfl; exact by_k) | ((with_reducible apply s2); exact rfl; exact by_k) | ((with_reducible apply s4); exact rfl) | ((with_reducible apply s5); (first | exact by_oa); exact by_g) | ((with_reducible apply CW.cond_t); exact rfl; exact by_ks) | ((with_reducible apply CW.cond_f); exact rfl; exact by_ks) | ((with_reducible apply q_block_miss); exact rfl) | (refine And.intro (show chk [] [] _ _ = true by kernel_rfl) ?_))
    exact .two (.tmp rfl (.one (.d (.refl _)))) (.tmp rfl (.one (.d (.refl _))))
  · rw [if_neg h]
    repeat (first | ((with_reducible apply s1); exact rfl) | (with_reducible first | apply CW.seq | apply CW.block | apply CW.region | apply CW.draw | apply CW.skip | apply CW.exit | apply CW.ret | apply q_then | apply q_then_exit | apply q_then_ret | apply q_block | apply q_block_ret | apply q_block_hit | apply q_ret | apply q_end | apply q_loop_exit | apply q_loop_ret | apply q_loopT_exit | apply q_loopT_ret | apply RW.nil) | ((with_reducible apply s3); exact rfl; exact by_k) | ((with_reducible apply s2); exact rfl; exact by_k) | ((with_reducible apply s4); exact rfl) | ((with_reducible apply s5); (first | (focus ((with_reducible apply a_call); exact c1; exact rfl; (repeat (first | exact SubsE.nil | (apply SubsE.cons; exact rfl; (first | exact .d (.refl _) | exact .d (.nil _) | exact .agg rfl (.refl _) | exact .pd | exact .ptr rfl); (first | exact trivial | exact ⟨rfl, trivial⟩)))); done)) | exact by_oa); exact by_g) | ((with_reducible apply CW.cond_t); exact rfl; exact by_ks) | ((with_reducible apply CW.cond_f); exact rfl; exact by_ks) | ((with_reducible apply q_block_miss); exact rfl) | (refine And.intro (show chk [] [] _ _ = true by kernel_rfl) ?_))
    exact .two (.tmp rfl (.one (.d (.refl _)))) (.tmp rfl (.one (.d (.refl _))))

theorem ok_viewA (k : Str) : FnOk Tryd.prog 42 [.d (dstr k)] (.tup [dint 2, dbool true]) := by
  refine fnOk_of tbl_ok mixed_ok Tryd.func42 rfl (by kernel_rfl) rfl rfl fun w0 own0 => ?_
  repeat (first | ((with_reducible apply s1); exact rfl) | (with_reducible first | apply CW.seq | apply CW.block | apply CW.region | apply CW.draw | apply CW.skip | apply CW.exit | apply CW.ret | apply q_then | apply q_then_exit | apply q_then_ret | apply q_block | apply q_block_ret | apply q_block_hit | apply q_ret | apply q_end | apply q_loop_exit | apply q_loop_ret | apply q_loopT_exit | apply q_loopT_ret | apply RW.nil) | ((with_reducible apply s3); exact rfl; exact by_k) | ((with_reducible apply s2); exact rfl; exact by_k) | ((with_reducible apply s4); exact rfl) | ((with_reducible apply s5); (first | exact by_oa); exact by_g) | ((with_reducible apply CW.cond_t); exact rfl; exact by_ks) | ((with_reducible apply CW.cond_f); exact rfl; exact by_ks) | ((with_reducible apply q_block_miss); exact rfl) | (refine And.intro (show chk [] [] _ _ = true by kernel_rfl) ?_))
  exact .two (.tmp rfl (.one (.d (.refl _)))) (.tmp rfl (.one (.d (.refl _))))

def deedA : Deed := ⟨[[97]], [[97], [98]], [⟨1, 0, 0, 0, [97]⟩, ⟨2, 1, 0, 5, []⟩, ⟨3, 0, 1, 0, []⟩, ⟨6, 0, 0, 0, [97]⟩]⟩
theorem ok_deedAlive : FnOk Tryd.prog 20 [] (.one (dbool true)) := by
  refine fnOk_of tbl_ok mixed_ok Tryd.func20 rfl (by kernel_rfl) rfl rfl fun w0 own0 => ?_
  have hw : wrongDeed deedA = 0 := by decide
  have ho := wrongDeed_ok hw
  have hsm : deedA.Sm := ⟨by decide, by decide, by decide, by decide, by decide⟩
  have cr : FnOk Tryd.prog 14 [.d (.agg deedA.enc), .d (fnD 42 [])] (.tup [.agg (Done.enc ⟨false, 7, 5, 0, 0⟩), encVs [⟨0, true, true, 7⟩], encStrs [[97]]]) :=
    ok_run 42 [] [] (fun _ => (2, true)) deedA .nil (fun k _ => ok_viewA k) (fun k _ => by simp [nOk]) (by decide) (by decide) ho.i (wrong_reads hw)
  have c1 : FnOk Tryd.prog 8 [.d (.agg deedA.enc)] (.one (dint 0)) := by
    have := ok_pwrongDeed deedA hsm
    rw [hw] at this
    exact this
  have c2 := ok_deedOwn deedA hsm
  have hv0 : ([⟨0, true, true, 7⟩] : List Version)[0]? = some ⟨0, true, true, 7⟩ := rfl
  have hk0 : ([[97]] : List Str)[0]? = some [97] := rfl
  have c3 : FnOk Tryd.prog 10 [.d (.agg deedA.enc), .d (.agg deedA.enc)] (.one (dbool true)) := by
    have := ok_psame deedA deedA hsm.r hsm.w hsm.c
    rw [decide_eq_true rfl] at this
    exact this
  repeat (first | ((with_reducible apply s5); ((with_reducible apply a_bs ([encStr1 [97]])); (iterate 9 exact rfl); (repeat (first | exact PartsE.nil | (apply PartsE.cons; exact rfl; exact rfl)))); exact by_g) | ((with_reducible apply s5); ((with_reducible apply a_bs ([encStr1 [97], encStr1 [98]])); (iterate 9 exact rfl); (repeat (first | exact PartsE.nil | (apply PartsE.cons; exact rfl; exact rfl)))); exact by_g) | ((with_reducible apply s5); ((with_reducible apply a_bs (deedA.code.map Ins.enc)); (iterate 9 exact rfl); (repeat (first | exact PartsE.nil | (apply PartsE.cons; exact rfl; exact rfl)))); exact by_g) | ((with_reducible apply s1); exact rfl) | (with_reducible first | apply CW.seq | apply CW.block | apply CW.region | apply CW.draw | apply CW.skip | apply CW.exit | apply CW.ret | apply q_then | apply q_then_exit | apply q_then_ret | apply q_block | apply q_block_ret | apply q_block_hit | apply q_ret | apply q_end | apply q_loop_exit | apply q_loop_ret | apply q_loopT_exit | apply q_loopT_ret | apply RW.nil) | ((with_reducible apply s3); exact rfl; exact by_k) | ((with_reducible apply s2); exact rfl; exact by_k) | ((with_reducible apply s4); exact rfl) | ((with_reducible apply s5); (first | (focus ((with_reducible apply a_call); exact c1; exact rfl; (repeat (first | exact SubsE.nil | (apply SubsE.cons; exact rfl; (first | exact .d (.refl _) | exact .d (.nil _) | exact .agg rfl (.refl _) | exact .pd | exact .ptr rfl); (first | exact trivial | exact ⟨rfl, trivial⟩)))); done)) | (focus ((with_reducible apply a_call); exact c2; exact rfl; (repeat (first | exact SubsE.nil | (apply SubsE.cons; exact rfl; (first | exact .d (.refl _) | exact .d (.nil _) | exact .agg rfl (.refl _) | exact .pd | exact .ptr rfl); (first | exact trivial | exact ⟨rfl, trivial⟩)))); done)) | (focus ((with_reducible apply a_call); exact c3; exact rfl; (repeat (first | exact SubsE.nil | (apply SubsE.cons; exact rfl; (first | exact .d (.refl _) | exact .d (.nil _) | exact .agg rfl (.refl _) | exact .pd | exact .ptr rfl); (first | exact trivial | exact ⟨rfl, trivial⟩)))); done)) | ((with_reducible apply a_agg2); exact eql_version ⟨0, true, true, 7⟩ ⟨0, true, true, 7⟩; (iterate 2 exact rfl); (first | exact .d rfl | exact .a rfl); (first | exact .d rfl | exact .a rfl); exact rfl) | (focus (with_reducible apply a_call); exact cr; exact rfl; apply SubsE.cons; exact rfl; (first | exact .d (.refl _) | exact .agg rfl (.refl _)); exact trivial; apply SubsE.cons; exact rfl; exact .d (dle_fn _); exact trivial; exact SubsE.nil) | exact by_oa); exact by_g) | ((with_reducible apply CW.cond_t); exact rfl; exact by_ks) | ((with_reducible apply CW.cond_f); exact rfl; exact by_ks) | ((with_reducible apply q_block_miss); exact rfl) | (refine And.intro (show chk [] [] _ _ = true by kernel_rfl) ?_))
  exact .one (.tmp rfl (.one (.d (.refl _))))

theorem eql_done (a b : Done) : BinR Tryd.prog .eql 35 (.agg (Done.vals a).toArray) (.agg (Done.vals b).toArray) (.bool (decide (a = b))) := by
  intro w x y
  rw [Sem.run_bind, run_eqGuard_agg _ _ _ _ _ _ _ (by kernel_rfl), Result.andThen_ok, run_eql_struct, eq_done]
  rfl

theorem ok_DeedNamed (d : Deed) (r : List Pair) (other : Str) (n : Int) (hd : d.Sm) (hl : r.length ≤ 1048576) (hlk : ∀ q ∈ r, q.key.length ≤ 1048576) :
    FnOk Tryd.prog 4 [.d (.agg d.enc), .d (encRows r), .d (dstr other), .d (dint n)] (.one (dbool true)) := by
  refine fnOk_of tbl_ok mixed_ok Tryd.func4 rfl (by kernel_rfl) rfl rfl fun w0 own0 => ?_
  have c0 := ok_deedAlive
  have c1 := ok_pwrongDeed d hd
  have c7 := ok_wrongRows r (by omega) (fun q hq => by have := hlk q hq; omega)
  by_cases hw : wrongDeed d = 0
  · by_cases hwr : wrongRows r = 0
    · obtain ⟨hs, _, hro⟩ := wrongRows_srt hwr
      have ho := wrongDeed_ok hw
      have hor := ho.r
      have how := ho.w
      have hoc := ho.c
      obtain ⟨hnr, hnw⟩ := wrong_keys hw
      have hm := mapB (n := Tryd.f4.ntmps) (w0 := w0) (own0 := own0)
      obtain ⟨ti, hti, htk⟩ := tiB
      obtain ⟨M, hMd⟩ : ∃ M, namesM [] (d.reads ++ d.writes) = M := ⟨_, rfl⟩
      have hMf : ∀ p ∈ M, flat p.2 := by rw [← hMd]; exact namesM_flat (by simp)
      have hMg : ∀ k, mget M k = if k ∈ d.reads ++ d.writes then some (.bool true) else none := fun k => by rw [← hMd, namesM_get]; rfl
      have cr1 := ok_run 21 [refW (.bool false), refD [mapD M], refD [encRows r]] [.d (refW (.bool false)), .pd [mapD M], .pd [encRows r]] (RF.get r) d (.d (.ref (.ref .nil))) (fun k hk => ok_viewN r M k (by omega) hMf (by rw [hMg, if_pos (List.mem_append_left _ hk)])) (fun k _ => get_ok hro k) (by omega) (by omega) ho.i (wrong_reads hw)
      have hsub := runC_keys (RF.get r) d
      have hfail := runC_failed (RF.get r) d
      have cr2 : other ∉ d.reads ++ d.writes → FnOk Tryd.prog 14 [.d (.agg d.enc), .d (fnD 22 [refD [dstr other], refD [dint n], refD [encRows r]])] (.tup (runRes (RF.get r) d)) := fun hno => by
        have hnr : other ∉ d.reads := fun h => hno (List.mem_append_left _ h)
        rw [← runRes_O (n := n) (wrong_reads hw) hnr]
        refine ok_run 22 [refD [dstr other], refD [dint n], refD [encRows r]] [.pd [dstr other], .pd [dint n], .pd [encRows r]] (viewO r other n) d (.ref (.ref (.ref .nil))) (fun k _ => ok_viewO r other n k (by omega)) (fun k hk => ?_) (by omega) (by omega) ho.i (wrong_reads hw)
        unfold viewO
        rw [if_neg fun e => hnr (by rw [← e]; exact hk)]
        exact get_ok hro k
      unfold runRes at cr1 cr2
      have hcl : (runC (RF.get r) d).length ≤ 5 := by
        have := hsub.length_le
        simp at this
        omega
      generalize runC (RF.get r) d = ch at cr1 cr2 hsub hfail hcl
      generalize (runM (RF.get r) d).2 = dn at cr1 cr2 hfail
      have hkw : ∀ k ∈ ch.map (·.1), k ∈ d.writes := fun k hk => hsub.subset hk
      have hkn : (ch.map (·.1)).Nodup := hnw.sublist hsub
      have hll : (ch.map chVer).length = (ch.map (·.1)).length := by simp
      have hkl : (ch.map (·.1)).length ≤ 5 := by simp; exact hcl
      have c9 := ok_SameTexts (ch.map (·.1)) (ch.map (·.1)) (by simp; omega)
      rw [allB_refl (by simp)] at c9
      have heq := eql_done dn dn
      rw [decide_eq_true rfl] at heq
      have hN : (d.reads ++ d.writes).length ≤ 10 := by simp; omega
      repeat (first | ((with_reducible apply stop_at 5); exact rfl) | ((with_reducible apply s1); exact rfl) | (with_reducible first | apply CW.seq | apply CW.block | apply CW.region | apply CW.draw | apply CW.skip | apply CW.exit | apply CW.ret | apply q_then | apply q_then_exit | apply q_then_ret | apply q_block | apply q_block_ret | apply q_block_hit | apply q_ret | apply q_end | apply q_loop_exit | apply q_loop_ret | apply q_loopT_exit | apply q_loopT_ret | apply RW.nil) | ((with_reducible apply s3); exact rfl; exact by_k) | ((with_reducible apply s2); exact rfl; exact by_k) | ((with_reducible apply s4); exact rfl) | ((with_reducible apply s5); (first | (focus ((with_reducible apply a_call); exact c0; exact rfl; (repeat (first | exact SubsE.nil | (apply SubsE.cons; exact rfl; (first | exact .d (.refl _) | exact .d (.nil _) | exact .agg rfl (.refl _) | exact .pd | exact .ptr rfl); (first | exact trivial | exact ⟨rfl, trivial⟩)))); done)) | (focus ((with_reducible apply a_call); exact c1; exact rfl; (repeat (first | exact SubsE.nil | (apply SubsE.cons; exact rfl; (first | exact .d (.refl _) | exact .d (.nil _) | exact .agg rfl (.refl _) | exact .pd | exact .ptr rfl); (first | exact trivial | exact ⟨rfl, trivial⟩)))); done)) | (focus ((with_reducible apply a_call); exact c7; exact rfl; (repeat (first | exact SubsE.nil | (apply SubsE.cons; exact rfl; (first | exact .d (.refl _) | exact .d (.nil _) | exact .agg rfl (.refl _) | exact .pd | exact .ptr rfl); (first | exact trivial | exact ⟨rfl, trivial⟩)))); done)) | ((with_reducible apply a_bin); (iterate 2 exact rfl); (first | exact bin_bneq (by kernel_rfl) | exact bin_beql (by kernel_rfl)); exact rfl) | exact by_oa); exact by_g) | ((with_reducible apply CW.cond_t); exact rfl; exact by_ks) | ((with_reducible apply CW.cond_f); exact rfl; exact by_ks) | ((with_reducible apply q_block_miss); exact rfl) | (refine And.intro (show chk [] [] _ _ = true by kernel_rfl) ?_))
      refine Stop.go (CW.seq (CW.regionS ?_))
      refine SW.fam rfl (fam_mkmap rfl rfl) fun x0 => ?_
      refine SW.fact (p := ∃ b, x0 = .map (some b)) (map_known (id := 4) (M := []) rfl) ?_
      rintro ⟨b0, rfl⟩
      refine SW.rw ?_
      repeat (first | ((with_reducible apply s1); exact rfl) | (with_reducible first | apply CW.seq | apply CW.block | apply CW.region | apply CW.draw | apply CW.skip | apply CW.exit | apply CW.ret | apply q_then | apply q_then_exit | apply q_then_ret | apply q_block | apply q_block_ret | apply q_block_hit | apply q_ret | apply q_end | apply q_loop_exit | apply q_loop_ret | apply q_loopT_exit | apply q_loopT_ret | apply RW.nil) | ((with_reducible apply s3); exact rfl; exact by_k) | ((with_reducible apply s2); exact rfl; exact by_k) | ((with_reducible apply s4); exact rfl) | ((with_reducible apply s5); (first | exact by_oa); exact by_g) | ((with_reducible apply CW.cond_t); exact rfl; exact by_ks) | ((with_reducible apply CW.cond_f); exact rfl; exact by_ks) | ((with_reducible apply q_block_miss); exact rfl) | (refine And.intro (show chk [] [] _ _ = true by kernel_rfl) ?_))
      refine CW.stut (stut_freeze (i := 42) (id := 6) (by simp)) ⟨rfl, rfl, trivial⟩ ?_
      refine CW.loopT (fun t : Nat => [sp 4 0, ob 0 d.enc, sp 5 1, ob 1 [encRows r], sp 6 2, ob 2 [dstr other], sp 7 3, ob 3 [dint n], sd 8 (dbool false), sp 9 5, (.o 5, .ob (.box [.d (.v (.map (some b0)))])), (.o 4, .ob (.mp (namesM [] ((d.reads ++ d.writes).take t)) (.map (some b0)))),
          sd 42 (encStrs (d.reads ++ d.writes)), sd 43 (dint (d.reads ++ d.writes).length), sd 44 (dint t), nxt 7])
        (fun t => t ≤ (d.reads ++ d.writes).length) (fun t => (d.reads ++ d.writes).length - t) 0 (by omega) ?_ ?_
      ·
        exact by_less
      · intro i hi
        rcases drop_case hi with ⟨h1, h2⟩ | ⟨k, h1, h2, h3⟩
        · rw [h2, List.take_length, hMd]
          have hlen0 : ¬ ((d.reads ++ d.writes).length : Int) < (d.reads ++ d.writes).length := by omega
          repeat (first | (with_reducible apply stop_reg 12) | ((with_reducible apply s1); exact rfl) | (with_reducible first | apply CW.seq | apply CW.block | apply CW.region | apply CW.draw | apply CW.skip | apply CW.exit | apply CW.ret | apply q_then | apply q_then_exit | apply q_then_ret | apply q_block | apply q_block_ret | apply q_block_hit | apply q_ret | apply q_end | apply q_loop_exit | apply q_loop_ret | apply q_loopT_exit | apply q_loopT_ret | apply RW.nil) | ((with_reducible apply s3); exact rfl; exact by_k) | ((with_reducible apply s2); exact rfl; exact by_k) | ((with_reducible apply s4); exact rfl) | ((with_reducible apply s5); (first | exact by_oa); exact by_g) | ((with_reducible apply CW.cond_t); exact rfl; exact by_ks) | ((with_reducible apply CW.cond_f); exact rfl; exact by_ks) | ((with_reducible apply q_block_miss); exact rfl) | (refine And.intro (show chk [] [] _ _ = true by kernel_rfl) ?_))
          refine Stop.go (CW.stut (stut_freezeW (i := 12) (id := 7) (u := .bool false)) ⟨rfl, rfl, trivial⟩ ?_)
          refine CW.stut (stut_freezemap_cell (bid := 5) (mid := 4) (M := M)) ⟨rfl, rfl, trivial⟩ ?_
          refine CW.stut (stut_freezebox (i := 9) (id := 5) (ds := [mapD M]) rfl) ⟨rfl, rfl, trivial⟩ ?_
          refine CW.stut (stut_freezebox (i := 5) (id := 1) (ds := [encRows r]) rfl) ⟨rfl, rfl, trivial⟩ ?_
          repeat (first | (with_reducible apply stop_reg 13) | ((with_reducible apply s1); exact rfl) | (with_reducible first | apply CW.seq | apply CW.block | apply CW.region | apply CW.draw | apply CW.skip | apply CW.exit | apply CW.ret | apply q_then | apply q_then_exit | apply q_then_ret | apply q_block | apply q_block_ret | apply q_block_hit | apply q_ret | apply q_end | apply q_loop_exit | apply q_loop_ret | apply q_loopT_exit | apply q_loopT_ret | apply RW.nil) | ((with_reducible apply s3); exact rfl; exact by_k) | ((with_reducible apply s2); exact rfl; exact by_k) | ((with_reducible apply s4); exact rfl) | ((with_reducible apply s5); (first | ((with_reducible apply (a_mkfn (ds := [refW (.bool false), refD [mapD M], refD [encRows r]]))); exact rfl; (iterate 3 (apply SubsE.cons; exact rfl; exact .d (.refl _); exact trivial)); exact SubsE.nil) | (focus ((with_reducible apply a_call); exact cr1; exact rfl; (repeat (first | exact SubsE.nil | (apply SubsE.cons; exact rfl; (first | exact .d (.refl _) | exact .d (.nil _) | exact .agg rfl (.refl _) | exact .pd | exact .ptr rfl); (first | exact trivial | exact ⟨rfl, trivial⟩)))); done)) | exact by_oa); exact by_g) | ((with_reducible apply CW.cond_t); exact rfl; exact by_ks) | ((with_reducible apply CW.cond_f); exact rfl; exact by_ks) | ((with_reducible apply q_block_miss); exact rfl) | (refine And.intro (show chk [] [] _ _ = true by kernel_rfl) ?_))
          refine Stop.go (CW.stut (stut_refpd (i := 9)) ⟨rfl, trivial⟩ ?_)
          refine CW.seq (CW.regionS ?_)
          refine SW.fam rfl (fam_mkmap rfl rfl) fun x1 => ?_
          refine SW.fact (p := ∃ b, x1 = .map (some b)) (map_known (id := 9) (M := []) rfl) ?_
          rintro ⟨b1, rfl⟩
          refine SW.rw ?_
          repeat (first | ((with_reducible apply s1); exact rfl) | (with_reducible first | apply CW.seq | apply CW.block | apply CW.region | apply CW.draw | apply CW.skip | apply CW.exit | apply CW.ret | apply q_then | apply q_then_exit | apply q_then_ret | apply q_block | apply q_block_ret | apply q_block_hit | apply q_ret | apply q_end | apply q_loop_exit | apply q_loop_ret | apply q_loopT_exit | apply q_loopT_ret | apply RW.nil) | ((with_reducible apply s3); exact rfl; exact by_k) | ((with_reducible apply s2); exact rfl; exact by_k) | ((with_reducible apply s4); exact rfl) | ((with_reducible apply s5); (first | exact by_oa); exact by_g) | ((with_reducible apply CW.cond_t); exact rfl; exact by_ks) | ((with_reducible apply CW.cond_f); exact rfl; exact by_ks) | ((with_reducible apply q_block_miss); exact rfl) | (refine And.intro (show chk [] [] _ _ = true by kernel_rfl) ?_))
          refine CW.loopT (fun t : Nat => [sp 4 0, ob 0 d.enc, sd 5 (refD [encRows r]), sp 6 2, ob 2 [dstr other], sp 7 3, ob 3 [dint n], sd 8 (dbool false), (.s 9, .av (.pd [mapD M])), sd 12 (refW (.bool false)), sp 13 8, ob 8 dn.enc, sd 14 (encVs (ch.map chVer)), sd 15 (encStrs (ch.map (·.1))), sd 16 (.v (.map (some b1))), (.o 9, .ob (.mp (namesM [] ((ch.map (·.1)).take t)) (.map (some b1)))), sd 59 (encStrs (ch.map (·.1))), sd 60 (dint (ch.map (·.1)).length), sd 61 (dint t), nxt 10])
            (fun t => t ≤ (ch.map (·.1)).length) (fun t => (ch.map (·.1)).length - t) 0 (by omega) ?_ ?_
          ·
            exact by_less
          · intro j hj
            rcases drop_case hj with ⟨g1, g2⟩ | ⟨k, g1, g2, g3⟩
            ·
              repeat (first | ((with_reducible apply stop_at 27); exact rfl) | ((with_reducible apply s1); exact rfl) | (with_reducible first | apply CW.seq | apply CW.block | apply CW.region | apply CW.draw | apply CW.skip | apply CW.exit | apply CW.ret | apply q_then | apply q_then_exit | apply q_then_ret | apply q_block | apply q_block_ret | apply q_block_hit | apply q_ret | apply q_end | apply q_loop_exit | apply q_loop_ret | apply q_loopT_exit | apply q_loopT_ret | apply RW.nil) | ((with_reducible apply s3); exact rfl; exact by_k) | ((with_reducible apply s2); exact rfl; exact by_k) | ((with_reducible apply s4); exact rfl) | ((with_reducible apply s5); (first | exact by_oa); exact by_g) | ((with_reducible apply CW.cond_t); exact rfl; exact by_ks) | ((with_reducible apply CW.cond_f); exact rfl; exact by_ks) | ((with_reducible apply q_block_miss); exact rfl) | (refine And.intro (show chk [] [] _ _ = true by kernel_rfl) ?_))
              refine Stop.cutk [] [.s 4, .o 0, .s 5, .s 6, .o 2, .s 7, .o 3, .s 8, .s 9, .s 13, .o 8, .s 14, .s 15, .nx] ?_ ?_
              · obtain ⟨df, a0, a1, a2, a3⟩ := dn
                cases df with
                | true =>
                  obtain rfl := hfail rfl
                  repeat (first | ((with_reducible apply s1); exact rfl) | (with_reducible first | apply CW.seq | apply CW.block | apply CW.region | apply CW.draw | apply CW.skip | apply CW.exit | apply CW.ret | apply q_then | apply q_then_exit | apply q_then_ret | apply q_block | apply q_block_ret | apply q_block_hit | apply q_ret | apply q_end | apply q_loop_exit | apply q_loop_ret | apply q_loopT_exit | apply q_loopT_ret | apply RW.nil) | ((with_reducible apply s3); exact rfl; exact by_k) | ((with_reducible apply s2); exact rfl; exact by_k) | ((with_reducible apply s4); exact rfl) | ((with_reducible apply s5); (first | ((with_reducible apply a_ldW); exact rfl; exact hti; exact htk; exact rfl) | exact by_oa); exact by_g) | ((with_reducible apply CW.cond_t); exact rfl; exact by_ks) | ((with_reducible apply CW.cond_f); exact rfl; exact by_ks) | ((with_reducible apply q_block_miss); exact rfl) | (refine And.intro (show chk [] [] _ _ = true by kernel_rfl) ?_))
                  refine q_cut ?_
                  exact by_less
                | false =>
                  repeat (first | ((with_reducible apply s1); exact rfl) | (with_reducible first | apply CW.seq | apply CW.block | apply CW.region | apply CW.draw | apply CW.skip | apply CW.exit | apply CW.ret | apply q_then | apply q_then_exit | apply q_then_ret | apply q_block | apply q_block_ret | apply q_block_hit | apply q_ret | apply q_end | apply q_loop_exit | apply q_loop_ret | apply q_loopT_exit | apply q_loopT_ret | apply RW.nil) | ((with_reducible apply s3); exact rfl; exact by_k) | ((with_reducible apply s2); exact rfl; exact by_k) | ((with_reducible apply s4); exact rfl) | ((with_reducible apply s5); (first | ((with_reducible apply a_ldW); exact rfl; exact hti; exact htk; exact rfl) | exact by_oa); exact by_g) | ((with_reducible apply CW.cond_t); exact rfl; exact by_ks) | ((with_reducible apply CW.cond_f); exact rfl; exact by_ks) | ((with_reducible apply q_block_miss); exact rfl) | (refine And.intro (show chk [] [] _ _ = true by kernel_rfl) ?_))
                  refine q_cut ?_
                  exact by_less
              have ha := fun {d : Nat} {ty : TypeId} {pos : String} {af : Array Edge} {gd : Option (Nat × Bool)} {σ : St} {x y : Operand} (hx) (hy) (hd) => a_mlookd1 (σ := σ) (d := d) (ty := ty) (pos := pos) (af := af) (gd := gd) (x := x) (y := y) hm trivial hMf (k := other) hx hy hd
              by_cases hno : other ∈ d.reads ++ d.writes
              · rw [show mlook (.bool false) M other = .bool true by unfold mlook; rw [hMg, if_pos hno]; rfl] at ha
                repeat (first | ((with_reducible apply s1); exact rfl) | (with_reducible first | apply CW.seq | apply CW.block | apply CW.region | apply CW.draw | apply CW.skip | apply CW.exit | apply CW.ret | apply q_then | apply q_then_exit | apply q_then_ret | apply q_block | apply q_block_ret | apply q_block_hit | apply q_ret | apply q_end | apply q_loop_exit | apply q_loop_ret | apply q_loopT_exit | apply q_loopT_ret | apply RW.nil) | ((with_reducible apply s3); exact rfl; exact by_k) | ((with_reducible apply s2); exact rfl; exact by_k) | ((with_reducible apply s4); exact rfl) | ((with_reducible apply s5); (first | ((with_reducible apply ha); (iterate 3 exact rfl)) | exact by_oa); exact by_g) | ((with_reducible apply CW.cond_t); exact rfl; exact by_ks) | ((with_reducible apply CW.cond_f); exact rfl; exact by_ks) | ((with_reducible apply q_block_miss); exact rfl) | (refine And.intro (show chk [] [] _ _ = true by kernel_rfl) ?_))
                exact .one (.tmp rfl (.one (.d (.refl _))))
              · rw [show mlook (.bool false) M other = .bool false by unfold mlook; rw [hMg, if_neg hno]; rfl] at ha
                have cr3 := cr2 hno
                repeat (first | (with_reducible apply stop_reg 31) | ((with_reducible apply s1); exact rfl) | (with_reducible first | apply CW.seq | apply CW.block | apply CW.region | apply CW.draw | apply CW.skip | apply CW.exit | apply CW.ret | apply q_then | apply q_then_exit | apply q_then_ret | apply q_block | apply q_block_ret | apply q_block_hit | apply q_ret | apply q_end | apply q_loop_exit | apply q_loop_ret | apply q_loopT_exit | apply q_loopT_ret | apply RW.nil) | ((with_reducible apply s3); exact rfl; exact by_k) | ((with_reducible apply s2); exact rfl; exact by_k) | ((with_reducible apply s4); exact rfl) | ((with_reducible apply s5); (first | ((with_reducible apply ha); (iterate 3 exact rfl)) | exact by_oa); exact by_g) | ((with_reducible apply CW.cond_t); exact rfl; exact by_ks) | ((with_reducible apply CW.cond_f); exact rfl; exact by_ks) | ((with_reducible apply q_block_miss); exact rfl) | (refine And.intro (show chk [] [] _ _ = true by kernel_rfl) ?_))
                refine Stop.go (CW.stut (stut_freezebox (i := 6) (id := 2) (ds := [dstr other]) rfl) ⟨rfl, rfl, trivial⟩ ?_)
                refine CW.stut (stut_freezebox (i := 7) (id := 3) (ds := [dint n]) rfl) ⟨rfl, rfl, trivial⟩ ?_
                repeat (first | ((with_reducible apply s1); exact rfl) | (with_reducible first | apply CW.seq | apply CW.block | apply CW.region | apply CW.draw | apply CW.skip | apply CW.exit | apply CW.ret | apply q_then | apply q_then_exit | apply q_then_ret | apply q_block | apply q_block_ret | apply q_block_hit | apply q_ret | apply q_end | apply q_loop_exit | apply q_loop_ret | apply q_loopT_exit | apply q_loopT_ret | apply RW.nil) | ((with_reducible apply s3); exact rfl; exact by_k) | ((with_reducible apply s2); exact rfl; exact by_k) | ((with_reducible apply s4); exact rfl) | ((with_reducible apply s5); (first | ((with_reducible apply (a_mkfn (ds := [refD [dstr other], refD [dint n], refD [encRows r]]))); exact rfl; (iterate 3 (apply SubsE.cons; exact rfl; exact .d (.refl _); exact trivial)); exact SubsE.nil) | (focus ((with_reducible apply a_call); exact cr3; exact rfl; (repeat (first | exact SubsE.nil | (apply SubsE.cons; exact rfl; (first | exact .d (.refl _) | exact .d (.nil _) | exact .agg rfl (.refl _) | exact .pd | exact .ptr rfl); (first | exact trivial | exact ⟨rfl, trivial⟩)))); done)) | (focus ((with_reducible apply a_call); exact c9; exact rfl; (repeat (first | exact SubsE.nil | (apply SubsE.cons; exact rfl; (first | exact .d (.refl _) | exact .d (.nil _) | exact .agg rfl (.refl _) | exact .pd | exact .ptr rfl); (first | exact trivial | exact ⟨rfl, trivial⟩)))); done)) | ((with_reducible apply a_agg2); exact heq; (iterate 2 exact rfl); (first | exact .d rfl | exact .a rfl); (first | exact .d rfl | exact .a rfl); exact rfl) | exact by_oa); exact by_g) | ((with_reducible apply CW.cond_t); exact rfl; exact by_ks) | ((with_reducible apply CW.cond_f); exact rfl; exact by_ks) | ((with_reducible apply q_block_miss); exact rfl) | (refine And.intro (show chk [] [] _ _ = true by kernel_rfl) ?_))
                exact .one (.tmp rfl (.one (.d (.refl _))))
            · have hkm := List.mem_of_getElem? g2
              repeat (first | ((with_reducible apply s1); exact rfl) | (with_reducible first | apply CW.seq | apply CW.block | apply CW.region | apply CW.draw | apply CW.skip | apply CW.exit | apply CW.ret | apply q_then | apply q_then_exit | apply q_then_ret | apply q_block | apply q_block_ret | apply q_block_hit | apply q_ret | apply q_end | apply q_loop_exit | apply q_loop_ret | apply q_loopT_exit | apply q_loopT_ret | apply RW.nil) | ((with_reducible apply s3); exact rfl; exact by_k) | ((with_reducible apply s2); exact rfl; exact by_k) | ((with_reducible apply s4); exact rfl) | ((with_reducible apply s5); (first | exact by_oa); exact by_g) | ((with_reducible apply CW.cond_t); exact rfl; exact by_ks) | ((with_reducible apply CW.cond_f); exact rfl; exact by_ks) | ((with_reducible apply q_block_miss); exact rfl) | (refine And.intro (show chk [] [] _ _ = true by kernel_rfl) ?_))
              refine CW.loopT (fun u : Nat × Bool => [sp 4 0, ob 0 d.enc, sd 5 (refD [encRows r]), sp 6 2, ob 2 [dstr other], sp 7 3, ob 3 [dint n], sd 8 (dbool false), (.s 9, .av (.pd [mapD M])), sd 12 (refW (.bool false)), sp 13 8, ob 8 dn.enc, sd 14 (encVs (ch.map chVer)), sd 15 (encStrs (ch.map (·.1))), sd 16 (.v (.map (some b1))), (.o 9, .ob (.mp (namesM [] ((ch.map (·.1)).take j)) (.map (some b1)))), sd 59 (encStrs (ch.map (·.1))), sd 60 (dint (ch.map (·.1)).length), sd 61 (dint j), sd 18 (dstr k), sd 19 (dbool u.2), sd 66 (encStrs d.writes), sd 67 (dint d.writes.length), sd 68 (dint u.1), nxt 10])
                (fun u => u.1 ≤ d.writes.length ∧ orIn u.2 (d.writes.drop u.1) k = true) (fun u => d.writes.length - u.1) (0, false) ⟨by omega, ?_⟩ ?_ ?_
              · show orIn false d.writes k = true
                rw [orIn_eq, Bool.false_or]
                cases hx : isIn d.writes k with
                | true => rfl
                | false => exact absurd (hkw k hkm) (isIn_false hx)
              ·
                exact by_less
              · rintro ⟨i, b⟩ ⟨hi, hI⟩
                dsimp only at hi hI ⊢
                rcases drop_case hi with ⟨f1, f2⟩ | ⟨x, f1, f2, f3⟩
                · rw [f1, orIn] at hI
                  subst hI
                  have hnot : k ∉ (ch.map (·.1)).take j := fun hmem => by
                    obtain ⟨q, hq⟩ := List.getElem?_of_mem hmem
                    rw [List.getElem?_take] at hq
                    split at hq
                    · next hqj =>
                      have := (List.getElem?_inj (List.getElem?_eq_some_iff.1 hq).1 hkn).1 (hq.trans g2.symm)
                      omega
                    · cases hq
                  have hl2 : mlook (.bool false) (namesM [] ((ch.map (·.1)).take j)) k = .bool false := by
                    unfold mlook
                    rw [namesM_get, if_neg hnot]; rfl
                  have ha := fun {d : Nat} {ty : TypeId} {pos : String} {af : Array Edge} {gd : Option (Nat × Bool)} {σ : St} {x y : Operand} {x0 : Value} (hx) (hy) (ho) (hd) => a_mlook1 (σ := σ) (d := d) (ty := ty) (pos := pos) (af := af) (gd := gd) (x := x) (y := y) (x0 := x0) 9 hm trivial (namesM_flat (l := (ch.map (·.1)).take j) (M := []) (by simp)) (k := k) hx hy ho hd
                  rw [hl2] at ha
                  have hms := namesM_take g2
                  repeat (first | ((with_reducible apply s1); exact rfl) | (with_reducible first | apply CW.seq | apply CW.block | apply CW.region | apply CW.draw | apply CW.skip | apply CW.exit | apply CW.ret | apply q_then | apply q_then_exit | apply q_then_ret | apply q_block | apply q_block_ret | apply q_block_hit | apply q_ret | apply q_end | apply q_loop_exit | apply q_loop_ret | apply q_loopT_exit | apply q_loopT_ret | apply RW.nil) | ((with_reducible apply s3); exact rfl; exact by_k) | ((with_reducible apply s2); exact rfl; exact by_k) | ((with_reducible apply s4); exact rfl) | ((with_reducible apply s5); (first | ((with_reducible apply ha); (iterate 4 exact rfl)) | ((with_reducible apply (a_mset (us := .bool true) 9 hm)); (iterate 3 exact rfl); exact .v; exact rfl) | exact by_oa); exact by_g) | ((with_reducible apply CW.cond_t); exact rfl; exact by_ks) | ((with_reducible apply CW.cond_f); exact rfl; exact by_ks) | ((with_reducible apply q_block_miss); exact rfl) | (refine And.intro (show chk [] [] _ _ = true by kernel_rfl) ?_))
                  rw [hms]
                  refine q_loopT (j + 1) (by omega) (by omega) ?_
                  exact by_less
                · rw [f1, orIn] at hI
                  cases b with
                  | true =>
                    repeat (first | ((with_reducible apply s1); exact rfl) | (with_reducible first | apply CW.seq | apply CW.block | apply CW.region | apply CW.draw | apply CW.skip | apply CW.exit | apply CW.ret | apply q_then | apply q_then_exit | apply q_then_ret | apply q_block | apply q_block_ret | apply q_block_hit | apply q_ret | apply q_end | apply q_loop_exit | apply q_loop_ret | apply q_loopT_exit | apply q_loopT_ret | apply RW.nil) | ((with_reducible apply s3); exact rfl; exact by_k) | ((with_reducible apply s2); exact rfl; exact by_k) | ((with_reducible apply s4); exact rfl) | ((with_reducible apply s5); (first | exact by_oa); exact by_g) | ((with_reducible apply CW.cond_t); exact rfl; exact by_ks) | ((with_reducible apply CW.cond_f); exact rfl; exact by_ks) | ((with_reducible apply q_block_miss); exact rfl) | (refine And.intro (show chk [] [] _ _ = true by kernel_rfl) ?_))
                    refine q_loopT (i + 1, true) ⟨by dsimp only; omega, by simpa using hI⟩ (by dsimp only; omega) ?_
                    exact by_less
                  | false =>
                    by_cases hx : x = k
                    · rw [decide_eq_true hx] at hI
                      repeat (first | ((with_reducible apply s1); exact rfl) | (with_reducible first | apply CW.seq | apply CW.block | apply CW.region | apply CW.draw | apply CW.skip | apply CW.exit | apply CW.ret | apply q_then | apply q_then_exit | apply q_then_ret | apply q_block | apply q_block_ret | apply q_block_hit | apply q_ret | apply q_end | apply q_loop_exit | apply q_loop_ret | apply q_loopT_exit | apply q_loopT_ret | apply RW.nil) | ((with_reducible apply s3); exact rfl; exact by_k) | ((with_reducible apply s2); exact rfl; exact by_k) | ((with_reducible apply s4); exact rfl) | ((with_reducible apply s5); (first | exact by_oa); exact by_g) | ((with_reducible apply CW.cond_t); exact rfl; exact by_ks) | ((with_reducible apply CW.cond_f); exact rfl; exact by_ks) | ((with_reducible apply q_block_miss); exact rfl) | (refine And.intro (show chk [] [] _ _ = true by kernel_rfl) ?_))
                      refine q_loopT (i + 1, true) ⟨by dsimp only; omega, hI⟩ (by dsimp only; omega) ?_
                      exact by_less
                    · rw [decide_eq_false hx] at hI
                      repeat (first | ((with_reducible apply s1); exact rfl) | (with_reducible first | apply CW.seq | apply CW.block | apply CW.region | apply CW.draw | apply CW.skip | apply CW.exit | apply CW.ret | apply q_then | apply q_then_exit | apply q_then_ret | apply q_block | apply q_block_ret | apply q_block_hit | apply q_ret | apply q_end | apply q_loop_exit | apply q_loop_ret | apply q_loopT_exit | apply q_loopT_ret | apply RW.nil) | ((with_reducible apply s3); exact rfl; exact by_k) | ((with_reducible apply s2); exact rfl; exact by_k) | ((with_reducible apply s4); exact rfl) | ((with_reducible apply s5); (first | exact by_oa); exact by_g) | ((with_reducible apply CW.cond_t); exact rfl; exact by_ks) | ((with_reducible apply CW.cond_f); exact rfl; exact by_ks) | ((with_reducible apply q_block_miss); exact rfl) | (refine And.intro (show chk [] [] _ _ = true by kernel_rfl) ?_))
                      refine q_loopT (i + 1, false) ⟨by dsimp only; omega, hI⟩ (by dsimp only; omega) ?_
                      exact by_less
        · have hms := namesM_take h2
          repeat (first | ((with_reducible apply s1); exact rfl) | (with_reducible first | apply CW.seq | apply CW.block | apply CW.region | apply CW.draw | apply CW.skip | apply CW.exit | apply CW.ret | apply q_then | apply q_then_exit | apply q_then_ret | apply q_block | apply q_block_ret | apply q_block_hit | apply q_ret | apply q_end | apply q_loop_exit | apply q_loop_ret | apply q_loopT_exit | apply q_loopT_ret | apply RW.nil) | ((with_reducible apply s3); exact rfl; exact by_k) | ((with_reducible apply s2); exact rfl; exact by_k) | ((with_reducible apply s4); exact rfl) | ((with_reducible apply s5); (first | ((with_reducible apply (a_mset (us := .bool true) 4 hm)); (iterate 3 exact rfl); exact .v; exact rfl) | exact by_oa); exact by_g) | ((with_reducible apply CW.cond_t); exact rfl; exact by_ks) | ((with_reducible apply CW.cond_f); exact rfl; exact by_ks) | ((with_reducible apply q_block_miss); exact rfl) | (refine And.intro (show chk [] [] _ _ = true by kernel_rfl) ?_))
          rw [hms]
          refine q_loopT (i + 1) (by omega) (by omega) ?_
          exact by_less
    ·
      repeat (first | ((with_reducible apply s1); exact rfl) | (with_reducible first | apply CW.seq | apply CW.block | apply CW.region | apply CW.draw | apply CW.skip | apply CW.exit | apply CW.ret | apply q_then | apply q_then_exit | apply q_then_ret | apply q_block | apply q_block_ret | apply q_block_hit | apply q_ret | apply q_end | apply q_loop_exit | apply q_loop_ret | apply q_loopT_exit | apply q_loopT_ret | apply RW.nil) | ((with_reducible apply s3); exact rfl; exact by_k) | ((with_reducible apply s2); exact rfl; exact by_k) | ((with_reducible apply s4); exact rfl) | ((with_reducible apply s5); (first | (focus ((with_reducible apply a_call); exact c0; exact rfl; (repeat (first | exact SubsE.nil | (apply SubsE.cons; exact rfl; (first | exact .d (.refl _) | exact .d (.nil _) | exact .agg rfl (.refl _) | exact .pd | exact .ptr rfl); (first | exact trivial | exact ⟨rfl, trivial⟩)))); done)) | (focus ((with_reducible apply a_call); exact c1; exact rfl; (repeat (first | exact SubsE.nil | (apply SubsE.cons; exact rfl; (first | exact .d (.refl _) | exact .d (.nil _) | exact .agg rfl (.refl _) | exact .pd | exact .ptr rfl); (first | exact trivial | exact ⟨rfl, trivial⟩)))); done)) | (focus ((with_reducible apply a_call); exact c7; exact rfl; (repeat (first | exact SubsE.nil | (apply SubsE.cons; exact rfl; (first | exact .d (.refl _) | exact .d (.nil _) | exact .agg rfl (.refl _) | exact .pd | exact .ptr rfl); (first | exact trivial | exact ⟨rfl, trivial⟩)))); done)) | ((with_reducible apply a_bin); (iterate 2 exact rfl); (first | exact bin_bneq (by kernel_rfl) | exact bin_beql (by kernel_rfl)); exact rfl) | exact by_oa); exact by_g) | ((with_reducible apply CW.cond_t); exact rfl; exact by_ks) | ((with_reducible apply CW.cond_f); exact rfl; exact by_ks) | ((with_reducible apply q_block_miss); exact rfl) | (refine And.intro (show chk [] [] _ _ = true by kernel_rfl) ?_))
      exact .one (.tmp rfl (.one (.d (.refl _))))
  ·
    repeat (first | ((with_reducible apply s1); exact rfl) | (with_reducible first | apply CW.seq | apply CW.block | apply CW.region | apply CW.draw | apply CW.skip | apply CW.exit | apply CW.ret | apply q_then | apply q_then_exit | apply q_then_ret | apply q_block | apply q_block_ret | apply q_block_hit | apply q_ret | apply q_end | apply q_loop_exit | apply q_loop_ret | apply q_loopT_exit | apply q_loopT_ret | apply RW.nil) | ((with_reducible apply s3); exact rfl; exact by_k) | ((with_reducible apply s2); exact rfl; exact by_k) | ((with_reducible apply s4); exact rfl) | ((with_reducible apply s5); (first | (focus ((with_reducible apply a_call); exact c0; exact rfl; (repeat (first | exact SubsE.nil | (apply SubsE.cons; exact rfl; (first | exact .d (.refl _) | exact .d (.nil _) | exact .agg rfl (.refl _) | exact .pd | exact .ptr rfl); (first | exact trivial | exact ⟨rfl, trivial⟩)))); done)) | (focus ((with_reducible apply a_call); exact c1; exact rfl; (repeat (first | exact SubsE.nil | (apply SubsE.cons; exact rfl; (first | exact .d (.refl _) | exact .d (.nil _) | exact .agg rfl (.refl _) | exact .pd | exact .ptr rfl); (first | exact trivial | exact ⟨rfl, trivial⟩)))); done)) | (focus ((with_reducible apply a_call); exact c7; exact rfl; (repeat (first | exact SubsE.nil | (apply SubsE.cons; exact rfl; (first | exact .d (.refl _) | exact .d (.nil _) | exact .agg rfl (.refl _) | exact .pd | exact .ptr rfl); (first | exact trivial | exact ⟨rfl, trivial⟩)))); done)) | ((with_reducible apply a_bin); (iterate 2 exact rfl); (first | exact bin_bneq (by kernel_rfl) | exact bin_beql (by kernel_rfl)); exact rfl) | exact by_oa); exact by_g) | ((with_reducible apply CW.cond_t); exact rfl; exact by_ks) | ((with_reducible apply CW.cond_f); exact rfl; exact by_ks) | ((with_reducible apply q_block_miss); exact rfl) | (refine And.intro (show chk [] [] _ _ = true by kernel_rfl) ?_))
    exact .one (.tmp rfl (.one (.d (.refl _))))

end Go.Proofs.YtjgbmdonhabmiaaDoor
