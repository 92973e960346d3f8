/-
  Part 3 of what the claim leans on: F9 F15 F3 F16 F19 F20 F21 AxPin AxPin2 AxPin3 G1 G3 G4 P1 P2 P3 Sh G2 G5 G6 G7 AxBool AxFam AxFam2.
-/
import Derived.Test.YtnhnnkljlglhbaaK2
import Derived.Shelf.Small.Strs
import Derived.Test.YtnhnnkljlglhbaaProg
import Derived.RangeFuncNested
import Derived.RangeFuncLeaves
import Derived.Shelf.Abstract
import Derived.WalkKit
import Derived.OwnWalkIn
import Derived.TacticsInMore
import Derived.LoopNIn
import Derived.LoopIn
import Derived.Laws.Small

/-! F9 -/
/-
  Contract of the references' Set.
-/
namespace Go.Proofs.Ytnhnnkljlglhbaa
open Go.AX Go.RF

set_option maxRecDepth 100000
set_option maxHeartbeats 4000000

theorem ok_set (l : List Chain) (k : Str) (v : Version) (hl : l.length ≤ 268435456) (hv : ∀ c ∈ l, c.vs.length ≤ 268435456) : FnOk Try.prog 15 [.d (encChains l), .d (dstr k), .d (.agg v.enc)] (.one (encChains (setChains l k v))) := by
  refine fnOk_of tbl_ok mixed_ok Try.func15 rfl (by kernel_rfl) rfl rfl fun w0 own0 => ?_
  repeat (first | ((with_reducible apply s1); exact rfl) | (with_reducible first | apply CW.seq | apply CW.block | apply CW.region | apply CW.draw | apply CW.skip | apply CW.exit | apply CW.ret | apply q_then | apply q_then_exit | apply q_then_ret | apply q_block | apply q_block_ret | apply q_block_hit | apply q_ret | apply q_end | apply q_loop_exit | apply q_loop_ret | apply q_loopT_exit | apply q_loopT_ret | apply RW.nil) | ((with_reducible apply s3); exact rfl; exact by_k) | ((with_reducible apply s2); exact rfl; exact by_k) | ((with_reducible apply s4); exact rfl) | ((with_reducible apply s5); (first | exact by_oa); exact by_g) | ((with_reducible apply CW.cond_t); exact rfl; exact by_ks) | ((with_reducible apply CW.cond_f); exact rfl; exact by_ks) | ((with_reducible apply q_block_miss); exact rfl) | (refine And.intro (show chk [] [] _ _ = true by kernel_rfl) ?_))
  refine CW.stut (stut_promote (i := 7) 45 2) ⟨rfl, rfl, trivial⟩ ?_
  refine CW.loopT (fun t : Nat × List Chain => [(.s 1, .av (.d (dstr k))), (.s 5, .av (.ptr 0 0)), (.o 0, .ob (.box (v.enc.map AV.d))), (.s 7, .av (.own 1 t.2.length)), (.o 1, .ob (.arr 45 2 (t.2.map Chain.enc))), (.s 13, .av (.d (encChains l))), (.s 14, .av (.d (dint l.length))), (.s 15, .av (.d (dint t.1))), (.nx, .num 2)])
    (fun t => t.1 ≤ l.length ∧ t.2.length ≤ t.1 ∧ t.2 ++ (l.drop t.1).map (setC k v) = setChains l k v) (fun t => l.length - t.1) (0, []) ⟨by omega, by simp, rfl⟩ ?_ ?_
  ·
    exact by_less
  · rintro ⟨i, out⟩ ⟨hi, ho, hI⟩
    dsimp only at hi ho hI ⊢
    rcases drop_case hi with ⟨h1, h2⟩ | ⟨c, h1, h2, h3⟩
    · rw [h1, List.map_nil, List.append_nil] at hI
      repeat (first | ((with_reducible apply s1); exact rfl) | (with_reducible first | apply CW.seq | apply CW.block | apply CW.region | apply CW.draw | apply CW.skip | apply CW.exit | apply CW.ret | apply q_then | apply q_then_exit | apply q_then_ret | apply q_block | apply q_block_ret | apply q_block_hit | apply q_ret | apply q_end | apply q_loop_exit | apply q_loop_ret | apply q_loopT_exit | apply q_loopT_ret | apply RW.nil) | ((with_reducible apply s3); exact rfl; exact by_k) | ((with_reducible apply s2); exact rfl; exact by_k) | ((with_reducible apply s4); exact rfl) | ((with_reducible apply s5); (first | exact by_oa); exact by_g) | ((with_reducible apply CW.cond_t); exact rfl; exact by_ks) | ((with_reducible apply CW.cond_f); exact rfl; exact by_ks) | ((with_reducible apply q_block_miss); exact rfl) | (refine And.intro (show chk [] [] _ _ = true by kernel_rfl) ?_))
      rw [← hI]
      exact .one (.tmp rfl (.one (.own rfl (by simp) (.refl _))))
    · rw [h1, List.map_cons] at hI
      have hcv := hv c (List.mem_of_getElem? h2)
      repeat (first | ((with_reducible apply s1); exact rfl) | (with_reducible first | apply CW.seq | apply CW.block | apply CW.region | apply CW.draw | apply CW.skip | apply CW.exit | apply CW.ret | apply q_then | apply q_then_exit | apply q_then_ret | apply q_block | apply q_block_ret | apply q_block_hit | apply q_ret | apply q_end | apply q_loop_exit | apply q_loop_ret | apply q_loopT_exit | apply q_loopT_ret | apply RW.nil) | ((with_reducible apply s3); exact rfl; exact by_k) | ((with_reducible apply s2); exact rfl; exact by_k) | ((with_reducible apply s4); exact rfl) | ((with_reducible apply s5); (first | exact by_oa); exact by_g) | ((with_reducible apply CW.cond_t); exact rfl; exact by_ks) | ((with_reducible apply CW.cond_f); exact rfl; exact by_ks) | ((with_reducible apply q_block_miss); exact rfl) | (refine And.intro (show chk [] [] _ _ = true by kernel_rfl) ?_))
      refine CW.stut (stut_promote_cell (id := 3) (j := 1) 26 4 rfl) ⟨rfl, rfl, trivial⟩ ?_
      refine CW.loopT (fun t : Nat × List Version => [(.s 1, .av (.d (dstr k))), (.s 5, .av (.ptr 0 0)), (.o 0, .ob (.box (v.enc.map AV.d))), (.s 7, .av (.own 1 out.length)), (.o 1, .ob (.arr 45 2 (out.map Chain.enc))), (.s 13, .av (.d (encChains l))), (.s 14, .av (.d (dint l.length))), (.s 15, .av (.d (dint i))),
          (.s 9, .av (.ptr 2 0)), (.o 2, .ob (.box (c.enc.map AV.d))), (.s 10, .av (.ptr 3 0)), (.o 3, .ob (.box [.d (dstr c.key), .own 4 t.2.length])), (.o 4, .ob (.arr 26 4 (t.2.map Version.enc))),
          (.s 23, .av (.d (encVs c.vs))), (.s 24, .av (.d (dint c.vs.length))), (.s 25, .av (.d (dint t.1))), (.nx, .num 5)])
        (fun t => t.1 ≤ c.vs.length ∧ t.2.length ≤ t.1 ∧ t.2 ++ (c.vs.drop t.1).map (setV (decide (c.key = k)) v) = c.vs.map (setV (decide (c.key = k)) v)) (fun t => c.vs.length - t.1) (0, []) ⟨by omega, by simp, rfl⟩ ?_ ?_
      ·
        exact by_less
      · rintro ⟨j, vs⟩ ⟨hj, hvs, hJ⟩
        dsimp only at hj hvs hJ ⊢
        rcases drop_case hj with ⟨h5, h6⟩ | ⟨x, h5, h6, h7⟩
        · rw [h5, List.map_nil, List.append_nil] at hJ
          repeat (first | (with_reducible apply stop_region 13) | ((with_reducible apply s1); exact rfl) | (with_reducible first | apply CW.seq | apply CW.block | apply CW.region | apply CW.draw | apply CW.skip | apply CW.exit | apply CW.ret | apply q_then | apply q_then_exit | apply q_then_ret | apply q_block | apply q_block_ret | apply q_block_hit | apply q_ret | apply q_end | apply q_loop_exit | apply q_loop_ret | apply q_loopT_exit | apply q_loopT_ret | apply RW.nil) | ((with_reducible apply s3); exact rfl; exact by_k) | ((with_reducible apply s2); exact rfl; exact by_k) | ((with_reducible apply s4); exact rfl) | ((with_reducible apply s5); (first | exact by_oa); exact by_g) | ((with_reducible apply CW.cond_t); exact rfl; exact by_ks) | ((with_reducible apply CW.cond_f); exact rfl; exact by_ks) | ((with_reducible apply q_block_miss); exact rfl) | (refine And.intro (show chk [] [] _ _ = true by kernel_rfl) ?_))
          refine Stop.go (CW.stut (stut_freeze_cell (id := 3) (j := 1) (i := 4) rfl (by simp)) ⟨rfl, rfl, trivial⟩ ?_)
          repeat (first | ((with_reducible apply s1); exact rfl) | (with_reducible first | apply CW.seq | apply CW.block | apply CW.region | apply CW.draw | apply CW.skip | apply CW.exit | apply CW.ret | apply q_then | apply q_then_exit | apply q_then_ret | apply q_block | apply q_block_ret | apply q_block_hit | apply q_ret | apply q_end | apply q_loop_exit | apply q_loop_ret | apply q_loopT_exit | apply q_loopT_ret | apply RW.nil) | ((with_reducible apply s3); exact rfl; exact by_k) | ((with_reducible apply s2); exact rfl; exact by_k) | ((with_reducible apply s4); exact rfl) | ((with_reducible apply s5); (first | exact by_oa); exact by_g) | ((with_reducible apply CW.cond_t); exact rfl; exact by_ks) | ((with_reducible apply CW.cond_f); exact rfl; exact by_ks) | ((with_reducible apply q_block_miss); exact rfl) | (refine And.intro (show chk [] [] _ _ = true by kernel_rfl) ?_))
          refine q_loopT (i + 1, out ++ [setC k v c]) ⟨by dsimp only; omega, by dsimp only; simp; omega, by rw [← hI]; simp⟩ (by dsimp only; omega) ?_
          rw [show setC k v c = ⟨c.key, vs⟩ by rw [setC, hJ]]
          exact by_less
        · rw [h5, List.map_cons] at hJ
          by_cases h8 : c.key = k
          · by_cases h9 : x.by_ = v.by_
            · rw [setV, if_pos ⟨by simp [h8], h9⟩] at hJ
              repeat (first | ((with_reducible apply s1); exact rfl) | (with_reducible first | apply CW.seq | apply CW.block | apply CW.region | apply CW.draw | apply CW.skip | apply CW.exit | apply CW.ret | apply q_then | apply q_then_exit | apply q_then_ret | apply q_block | apply q_block_ret | apply q_block_hit | apply q_ret | apply q_end | apply q_loop_exit | apply q_loop_ret | apply q_loopT_exit | apply q_loopT_ret | apply RW.nil) | ((with_reducible apply s3); exact rfl; exact by_k) | ((with_reducible apply s2); exact rfl; exact by_k) | ((with_reducible apply s4); exact rfl) | ((with_reducible apply s5); (first | exact by_oa); exact by_g) | ((with_reducible apply CW.cond_t); exact rfl; exact by_ks) | ((with_reducible apply CW.cond_f); exact rfl; exact by_ks) | ((with_reducible apply q_block_miss); exact rfl) | (refine And.intro (show chk [] [] _ _ = true by kernel_rfl) ?_))
              refine q_loopT (j + 1, vs ++ [v]) ⟨by dsimp only; omega, by dsimp only; simp; omega, by rw [← hJ]; simp⟩ (by dsimp only; omega) ?_
              exact by_less
            · rw [setV, if_neg (fun h => h9 h.2)] at hJ
              repeat (first | ((with_reducible apply s1); exact rfl) | (with_reducible first | apply CW.seq | apply CW.block | apply CW.region | apply CW.draw | apply CW.skip | apply CW.exit | apply CW.ret | apply q_then | apply q_then_exit | apply q_then_ret | apply q_block | apply q_block_ret | apply q_block_hit | apply q_ret | apply q_end | apply q_loop_exit | apply q_loop_ret | apply q_loopT_exit | apply q_loopT_ret | apply RW.nil) | ((with_reducible apply s3); exact rfl; exact by_k) | ((with_reducible apply s2); exact rfl; exact by_k) | ((with_reducible apply s4); exact rfl) | ((with_reducible apply s5); (first | exact by_oa); exact by_g) | ((with_reducible apply CW.cond_t); exact rfl; exact by_ks) | ((with_reducible apply CW.cond_f); exact rfl; exact by_ks) | ((with_reducible apply q_block_miss); exact rfl) | (refine And.intro (show chk [] [] _ _ = true by kernel_rfl) ?_))
              refine q_loopT (j + 1, vs ++ [x]) ⟨by dsimp only; omega, by dsimp only; simp; omega, by rw [← hJ]; simp⟩ (by dsimp only; omega) ?_
              exact by_less
          · rw [setV, if_neg (fun h => h8 (by simpa using h.1))] at hJ
            repeat (first | ((with_reducible apply s1); exact rfl) | (with_reducible first | apply CW.seq | apply CW.block | apply CW.region | apply CW.draw | apply CW.skip | apply CW.exit | apply CW.ret | apply q_then | apply q_then_exit | apply q_then_ret | apply q_block | apply q_block_ret | apply q_block_hit | apply q_ret | apply q_end | apply q_loop_exit | apply q_loop_ret | apply q_loopT_exit | apply q_loopT_ret | apply RW.nil) | ((with_reducible apply s3); exact rfl; exact by_k) | ((with_reducible apply s2); exact rfl; exact by_k) | ((with_reducible apply s4); exact rfl) | ((with_reducible apply s5); (first | exact by_oa); exact by_g) | ((with_reducible apply CW.cond_t); exact rfl; exact by_ks) | ((with_reducible apply CW.cond_f); exact rfl; exact by_ks) | ((with_reducible apply q_block_miss); exact rfl) | (refine And.intro (show chk [] [] _ _ = true by kernel_rfl) ?_))
            refine q_loopT (j + 1, vs ++ [x]) ⟨by dsimp only; omega, by dsimp only; simp; omega, by rw [← hJ]; simp⟩ (by dsimp only; omega) ?_
            exact by_less

end Go.Proofs.Ytnhnnkljlglhbaa

/-! F15 -/
/-
  Contracts of the references' Keys, Needs, Ready.
-/
namespace Go.Proofs.Ytnhnnkljlglhbaa
open Go.AX Go.RF

set_option maxRecDepth 100000
set_option maxHeartbeats 4000000

def orIn (h : Bool) (l : List Str) (s : Str) : Bool := match l with
  | [] => h
  | x :: l => orIn (h || decide (x = s)) l s
theorem orIn_eq : ∀ {l : List Str} {h : Bool} {s : Str}, orIn h l s = (h || isIn l s)
  | [], h, s => by simp [orIn, isIn]
  | x :: l, h, s => by
    simp only [orIn, orIn_eq (l := l), isIn]
    by_cases e : x = s <;> simp [e]

theorem keysGo_len : ∀ (l out : List Str), (keysGo' out l).length ≤ out.length + l.length
  | [], out => by simp [keysGo']
  | k :: r, out => by
    have := keysGo_len r (if isIn out k = true then out else out ++ [k])
    simp only [keysGo']
    split at this <;> simp_all <;> omega
theorem keysD_len {d : Deed} (h : d.Sm) : (keysD d).length ≤ 536870912 := by
  have := keysGo_len (d.reads ++ d.writes) []
  have h1 := h.r
  have h2 := h.w
  simp at this
  unfold keysD
  omega

theorem hit_case (cs : List Chain) (b want : Int) (k : Str) : hit cs b want k = (!(before cs k b).made && decide ((before cs k b).by_ = want)) := rfl

def needsAt (e : Engine) (at_ : Nat) : List Int := match e.deeds[at_]? with
  | some d => needs e at_ d
  | none => []
def readyGo (e : Engine) : Nat → List Int → List Int
  | _, [] => []
  | i, s :: r => if s = 0 ∧ needsAt e i = [] then (i : Int) :: readyGo e (i + 1) r else readyGo e (i + 1) r
def ready (e : Engine) : List Int := readyGo e 0 e.state

theorem needs_len (cs : List Chain) (base b : Int) (ks : List Str) : ∀ (l : List Nat) (j : Nat), (needsGo cs base b ks j l).length ≤ l.length
  | [], _ => by simp [needsGo]
  | k :: r, j => by
    have := needs_len cs base b ks r 0
    simp only [needsGo]
    split <;> simp <;> omega

end Go.Proofs.Ytnhnnkljlglhbaa

/-! F3 -/
/-
  Contracts of the references' functions on rows, continued.
-/
namespace Go.Proofs.Ytnhnnkljlglhbaa
open Go.AX Go.RF

set_option maxRecDepth 100000
set_option maxHeartbeats 4000000

end Go.Proofs.Ytnhnnkljlglhbaa

/-! F16 -/
/-
  Contracts of the references' Do and All.
-/
namespace Go.Proofs.Ytnhnnkljlglhbaa
open Go.AX Go.RF

set_option maxRecDepth 100000
set_option maxHeartbeats 8000000

theorem ld_reg (e : Done) {A : Nat} (h : A < 4) {ti : TI} (hk : ti.kind = .int .i64) : ldA ti ((e.enc.map AV.d).drop (1 + A * 1)) = some (.d (dint (rget e A))) := by
  have : A = 0 ∨ A = 1 ∨ A = 2 ∨ A = 3 := by omega
  rcases this with rfl | rfl | rfl | rfl <;> simp [ldA, hk, Done.enc, rget]
theorem st_reg (e : Done) {A : Nat} (h : A < 4) (x : Int) : putCells (e.enc.map AV.d) (1 + A * 1) [.d (dint x)] = (rset e A x).enc.map AV.d := by
  have : A = 0 ∨ A = 1 ∨ A = 2 ∨ A = 3 := by omega
  rcases this with rfl | rfl | rfl | rfl <;> rfl
theorem fit_reg (e : Done) {A : Nat} (h : A < 4) : Nat.ble ((1 + A * 1) + 1) (e.enc.map AV.d).length = true := by
  simp [Done.enc]; omega

theorem mul_bound {a b : Int} (ha : -1073741824 ≤ a ∧ a ≤ 1073741824) (hb : -1073741824 ≤ b ∧ b ≤ 1073741824) : -1152921504606846976 ≤ a * b ∧ a * b ≤ 1152921504606846976 := by
  have h1 : (a * b).natAbs ≤ 1073741824 * 1073741824 := by
    rw [Int.natAbs_mul]
    exact Nat.mul_le_mul (by omega) (by omega)
  omega

end Go.Proofs.Ytnhnnkljlglhbaa

/-! F19 -/
/-
  Contract of the references' Go of engines.
-/
namespace Go.Proofs.Ytnhnnkljlglhbaa
open Go.AX Go.RF

set_option maxRecDepth 100000
set_option maxHeartbeats 8000000

def goRows (cs : List Chain) (b : Int) : List Pair → List Str → List Pair
  | r, [] => r
  | r, k :: ks => goRows cs b (if (before cs k b).has = true then put r k (before cs k b).n true else r) ks
def goSets (r : List Pair) (b : Int) : List Chain → List Str → List Chain
  | cs, [] => cs
  | cs, k :: ks => goSets r b (setChains cs k ⟨b, true, (RF.get r k).2, (RF.get r k).1⟩) ks
def goDone (e : Engine) (at_ : Nat) (d : Deed) : List Pair × Done := doD (goRows e.chains (e.base + at_) [] (keysD d)) d
def goNew (e : Engine) (at_ : Nat) (d : Deed) : Engine :=
  ⟨goSets (goDone e at_ d).1 (e.base + at_) e.chains d.writes, e.deeds, e.state.set at_ 1, e.ends.set at_ (goDone e at_ d).2, e.base⟩
def goAt (e : Engine) (at_ : Nat) : Engine × Int := match e.deeds[at_]? with
  | some d => if e.state[at_]? = some 1 then (e, 11) else if needs e at_ d = [] then (goNew e at_ d, 0) else (e, 10)
  | none => (e, 6)
def goE (e : Engine) (at_ : Int) : Engine × Int := if at_ < 0 then (e, 6) else goAt e at_.toNat

/-- Deeds that may be done. -/
structure Deed.Ok (d : Deed) : Prop where
  i : ∀ i ∈ d.code, i.Ok
  r : d.reads.length ≤ 5
  w : d.writes.length ≤ 5
  c : d.code.length ≤ 12
theorem Deed.Ok.keys {d : Deed} (h : Deed.Ok d) : (keysD d).length ≤ 10 := by
  have := keysGo_len (d.reads ++ d.writes) []
  have h1 := h.r
  have h2 := h.w
  simp at this
  unfold keysD
  omega
def chOk (l : List Chain) : Prop := ∀ c ∈ l, ∀ v ∈ c.vs, nOk v.n

theorem bvs_ok {h : Bool} {b : Int} : ∀ {l : List Version} {out : Version}, nOk out.n → (∀ v ∈ l, nOk v.n) → nOk (bvs h b out l).n
  | [], out, ho, _ => ho
  | v :: l, out, ho, hl => by
    simp only [bvs]
    refine bvs_ok ?_ fun w hw => hl w (List.mem_cons_of_mem _ hw)
    split
    · exact hl v (List.mem_cons_self ..)
    · exact ho
theorem beforeGo_ok {k : Str} {b : Int} : ∀ {l : List Chain} {out : Version}, nOk out.n → chOk l → nOk (beforeGo k b out l).n
  | [], out, ho, _ => ho
  | c :: l, out, ho, hl => by
    simp only [beforeGo]
    exact beforeGo_ok (bvs_ok ho (hl c (List.mem_cons_self ..))) fun x hx => hl x (List.mem_cons_of_mem _ hx)
theorem before_ok {l : List Chain} (h : chOk l) (k : Str) (b : Int) : nOk (before l k b).n := beforeGo_ok (by simp [nOk]) h
theorem goRows_ok {cs : List Chain} {b : Int} (h : chOk cs) : ∀ {ks : List Str} {r : List Pair}, rowsOk r → rowsOk (goRows cs b r ks) ∧ (goRows cs b r ks).length ≤ r.length + ks.length
  | [], r, hr => ⟨hr, by simp [goRows]⟩
  | k :: ks, r, hr => by
    simp only [goRows]
    by_cases hh : (before cs k b).has = true
    · rw [if_pos hh]
      have := goRows_ok (b := b) h (ks := ks) (put_ok hr k (before_ok h k b) true)
      refine ⟨this.1, ?_⟩
      have h2 := put_len r k (before cs k b).n true
      have h3 := this.2
      simp; omega
    · rw [if_neg hh]
      have := goRows_ok (b := b) h (ks := ks) hr
      exact ⟨this.1, by have h3 := this.2; simp; omega⟩
theorem doGo_len {r0 : List Pair} : ∀ (l : List Ins) (sk : Int) (now : List Pair) (e : Done), (doGo r0 sk now e l).1.length ≤ max r0.length (now.length + l.length)
  | [], sk, now, e => by simp only [doGo]; simp; omega
  | i :: l, sk, now, e => by
    have ih := fun sk now e => doGo_len (r0 := r0) l sk now e
    have h1 := put_len now i.key (rget e i.a.toNat) true
    have h2 := put_len now i.key 0 false
    simp only [doGo, List.length_cons]
    repeat' split
    all_goals first
      | (refine Nat.le_trans (ih _ _ _) ?_; omega)
      | (simp only []; omega)
theorem doD_len (r : List Pair) (d : Deed) : (doD r d).1.length ≤ r.length + d.code.length := by
  have := doGo_len (r0 := r) d.code 0 r done0
  unfold doD
  omega
theorem setC_len {k : Str} {v : Version} {c : Chain} : (setC k v c).vs.length = c.vs.length := by simp [setC]
theorem set_vs {l : List Chain} {k : Str} {v : Version} {M : Nat} (h : ∀ c ∈ l, c.vs.length ≤ M) : ∀ c ∈ setChains l k v, c.vs.length ≤ M := by
  intro c hc
  obtain ⟨c0, h0, rfl⟩ := List.mem_map.1 hc
  rw [setC_len]; exact h c0 h0

end Go.Proofs.Ytnhnnkljlglhbaa

/-! F20 -/
/-
  Engines as they are built: what holds of them; plain facts.
-/
namespace Go.Proofs.Ytnhnnkljlglhbaa
open Go.AX Go.RF

structure EInv (e : Engine) (N : Nat) : Prop where
  z : Engine.Sz e N
  o : ∀ d ∈ e.deeds, Deed.Ok d
  c : chOk e.chains

theorem EInv.mono {e : Engine} {N M : Nat} (h : EInv e N) (hm : N ≤ M) : EInv e M := by
  obtain ⟨hz, ho, hc⟩ := h
  refine ⟨⟨by have := hz.c; omega, fun c hc => by have := hz.v c hc; omega, by have := hz.d; omega, hz.s, hz.n, by have := hz.b; omega, hz.dd⟩, ho, hc⟩

theorem codeGo_mem {d : Deed} : ∀ {l : List Ins} {k : Nat}, codeGo d k l = 0 → ∀ j i, l[j]? = some i → wrongIns d ((d.code.length : Int) - 1 - ((k + j : Nat) : Int)) i = 0
  | [], k, _, j, i, hj => by simp at hj
  | x :: l, k, h, j, i, hj => by
    simp only [codeGo] at h
    by_cases h0 : wrongIns d ((d.code.length : Int) - 1 - k) x = 0
    · rw [if_pos h0] at h
      cases j with
      | zero => simp at hj; subst hj; simpa using h0
      | succ j =>
        have := codeGo_mem h j i (by simpa using hj)
        rw [show k + (j + 1) = k + 1 + j by omega]
        exact this
    · rw [if_neg h0] at h; exact absurd h h0

theorem has_ins {k : Int} (h : 1 ≤ k ∧ k ≤ 9) : insA k.toNat ≤ 3 ∧ insB k.toNat ≤ 3 := by
  unfold insA insB
  constructor <;> split <;> omega

theorem wrongIns_ok {d : Deed} {m : Int} (hm : m ≤ 11) {i : Ins} (h : wrongIns d m i = 0) : i.Ok := by
  unfold wrongIns at h
  by_cases hk : i.kind < 1 ∨ 9 < i.kind
  · rw [if_pos hk] at h; simp at h
  rw [if_neg hk] at h
  by_cases ho : insOut i.kind.toNat i.a i.b i.n m = true
  · rw [if_pos ho] at h; simp at h
  have hkk : 1 ≤ i.kind ∧ i.kind ≤ 9 := by omega
  have hs := has_ins hkk
  simp only [insOut, Bool.or_eq_true, decide_eq_true_eq, not_or] at ho
  obtain ⟨h1, h2, h3, h4, h5, h6⟩ := ho
  refine ⟨hkk, by omega, by omega, fun hc => ?_, fun hc => ?_⟩
  · rw [hc] at h5 h6
    simp [insLow, insHigh] at h5 h6
    unfold nOk; omega
  · rw [hc] at h5 h6
    simp [insLow, insHigh] at h5 h6
    omega

theorem wrongDeed_ok {d : Deed} (h : wrongDeed d = 0) : Deed.Ok d := by
  obtain ⟨h1, h2, h3⟩ := wrong_writes h
  refine ⟨fun i hi => ?_, h1, h2, h3⟩
  unfold wrongDeed at h
  by_cases h0 : lsGo [d.reads, d.writes] = 0
  · rw [if_pos h0] at h
    by_cases hc : 12 < d.code.length
    · rw [if_pos hc] at h; simp at h
    · rw [if_neg hc] at h
      obtain ⟨j, hj⟩ := List.getElem?_of_mem hi
      exact wrongIns_ok (by omega) (codeGo_mem h j i hj)
  · rw [if_neg h0] at h; exact absurd h h0

theorem addGo_ch {k : Str} {b : Int} {P : Version → Prop} (h0 : P ⟨b, false, false, 0⟩) : ∀ {l : List Chain} {dn : Bool} {out : List Chain}, (∀ c ∈ l, ∀ v ∈ c.vs, P v) → (∀ c ∈ out, ∀ v ∈ c.vs, P v) → ∀ c ∈ addGo k b dn out l, ∀ v ∈ c.vs, P v
  | [], dn, out, _, ho, c, hc => by
    simp only [addGo] at hc
    split at hc
    · exact ho c hc
    · rcases List.mem_append.1 hc with hc | hc
      · exact ho c hc
      · simp at hc; subst hc; simpa using h0
  | x :: l, dn, out, hl, ho, c, hc => by
    simp only [addGo] at hc
    have h1 : ∀ (g : Bool), ∀ c ∈ (if g = true then out ++ [⟨k, [⟨b, false, false, 0⟩]⟩] else out), ∀ v ∈ c.vs, P v := by
      intro g c hc
      split at hc
      · rcases List.mem_append.1 hc with hc | hc
        · exact ho c hc
        · simp at hc; subst hc; simpa using h0
      · exact ho c hc
    have hx := hl x (List.mem_cons_self ..)
    split at hc
    · refine addGo_ch h0 (fun c hc => hl c (List.mem_cons_of_mem _ hc)) (fun c hc => ?_) c hc
      rcases List.mem_append.1 hc with hc | hc
      · exact h1 _ c hc
      · simp at hc; subst hc
        intro v hv
        rcases List.mem_append.1 hv with hv | hv
        · exact hx v hv
        · simp at hv; subst hv; exact h0
    · refine addGo_ch h0 (fun c hc => hl c (List.mem_cons_of_mem _ hc)) (fun c hc => ?_) c hc
      rcases List.mem_append.1 hc with hc | hc
      · exact h1 _ c hc
      · simp at hc; subst hc; exact hx
theorem addC_ok {l : List Chain} (h : chOk l) (k : Str) (b : Int) : chOk (addC l k b) := addGo_ch (P := fun v => nOk v.n) (by simp [nOk]) h (by simp)
theorem addKeys_ok {b : Int} : ∀ {ks : List Str} {l : List Chain}, chOk l → chOk (addKeys b l ks)
  | [], l, h => h
  | k :: ks, l, h => by simp only [addKeys]; exact addKeys_ok (addC_ok h k b)
theorem EInv.add1 {e : Engine} {N : Nat} (h : EInv e N) {d : Deed} (hs : d.Sm) (ho : Deed.Ok d) : EInv (add1 e d) (N + 5) := by
  refine ⟨add1_sz h.z hs ho.w, fun x hx => ?_, addKeys_ok h.c⟩
  rcases List.mem_append.1 hx with hx | hx
  · exact h.o x hx
  · simp at hx; subst hx; exact ho
theorem EInv.addAll : ∀ {l : List Deed} {e : Engine} {N : Nat}, EInv e N → (∀ d ∈ l, d.Sm ∧ Deed.Ok d) → EInv (addAll e l) (N + 5 * l.length)
  | [], e, N, h, _ => h
  | d :: l, e, N, h, hl => by
    have := EInv.addAll (h.add1 (hl d (List.mem_cons_self ..)).1 (hl d (List.mem_cons_self ..)).2) fun x hx => hl x (List.mem_cons_of_mem _ hx)
    simp only [RF.addAll, List.length_cons]
    rw [show N + 5 * (l.length + 1) = N + 5 + 5 * l.length by omega]
    exact this
theorem EInv.addE {e : Engine} {N : Nat} (h : EInv e N) {l : List Deed} (hs : ∀ d ∈ l, d.Sm) (hw : (addE e l).2 = 0) : EInv (addE e l).1 (N + 5 * l.length) := by
  unfold RF.addE at hw ⊢
  by_cases h0 : wrongs l = 0
  · rw [if_pos h0]
    exact h.addAll fun d hd => ⟨hs d hd, wrongDeed_ok (wrongs_mem h0 d hd)⟩
  · rw [if_neg h0] at hw; exact absurd hw h0
theorem newE_inv {r : List Pair} (hr : rowsOk r) : EInv (newE r) (r.length + 1) := by
  refine ⟨⟨by simp [newE], fun c hc => ?_, by simp [newE], by simp [newE], by simp [newE], by simp [newE]; omega, by simp [newE]⟩, by simp [newE], fun c hc v hv => ?_⟩
  · obtain ⟨p, hp, rfl⟩ := List.mem_map.1 hc
    simp [rowChain]
  · obtain ⟨p, hp, rfl⟩ := List.mem_map.1 hc
    simp [rowChain] at hv
    subst hv
    exact hr p hp

theorem doGo_ok {r0 : List Pair} (h0 : rowsOk r0) : ∀ {l : List Ins} {sk : Int} {now : List Pair} {e : Done}, (∀ i ∈ l, i.Ok) → rowsOk now → e.Ok → rowsOk (doGo r0 sk now e l).1 ∧ (doGo r0 sk now e l).2.Ok
  | [], sk, now, e, _, hn, he => ⟨hn, he⟩
  | i :: l, sk, now, e, hl, hn, he => by
    have hio := hl i (List.mem_cons_self ..)
    have ih := fun (sk : Int) (now : List Pair) (e : Done) (h1 : rowsOk now) (h2 : e.Ok) => doGo_ok h0 (l := l) (sk := sk) (now := now) (e := e) (fun j hj => hl j (List.mem_cons_of_mem _ hj)) h1 h2
    simp only [doGo]
    split
    · exact ih _ _ _ hn he
    split
    · exact ih _ _ _ hn (rset_ok he _ (get_ok hn _))
    split
    · next hk => exact ih _ _ _ hn (rset_ok he _ (hio.c hk))
    split
    · exact ih _ _ _ hn (rset_ok he _ (round_ok _))
    split
    · exact ih _ _ _ hn (rset_ok he _ (round_ok _))
    split
    · exact ih _ _ _ hn (rset_ok he _ (round_ok _))
    split
    · exact ih _ _ _ (put_ok hn _ (rget_ok he _) _) he
    split
    · exact ih _ _ _ (put_ok hn _ (by simp [nOk]) _) he
    split
    · exact ih _ _ _ hn he
    split
    · exact ⟨h0, ⟨he.a, he.b, he.c, he.d⟩⟩
    · exact ih _ _ _ hn he
theorem done0_ok : done0.Ok := ⟨by simp [nOk, done0], by simp [nOk, done0], by simp [nOk, done0], by simp [nOk, done0]⟩
theorem doD_ok {r : List Pair} {d : Deed} (h0 : rowsOk r) (hd : Deed.Ok d) : rowsOk (doD r d).1 := (doGo_ok h0 hd.i h0 done0_ok).1
theorem set_ok {l : List Chain} (h : chOk l) (k : Str) {v : Version} (hv : nOk v.n) : chOk (setChains l k v) := by
  intro c hc w hw
  obtain ⟨c0, h0, rfl⟩ := List.mem_map.1 hc
  simp only [setC] at hw
  obtain ⟨w0, hw0, rfl⟩ := List.mem_map.1 hw
  unfold setV
  split
  · exact hv
  · exact h c0 h0 w0 hw0
theorem goSets_ok {r : List Pair} (hr : rowsOk r) {b : Int} {M : Nat} : ∀ {ks : List Str} {l : List Chain}, chOk l → (∀ c ∈ l, c.vs.length ≤ M) → chOk (goSets r b l ks) ∧ (goSets r b l ks).length = l.length ∧ ∀ c ∈ goSets r b l ks, c.vs.length ≤ M
  | [], l, h, hv => ⟨h, rfl, hv⟩
  | k :: ks, l, h, hv => by
    simp only [goSets]
    have := goSets_ok hr (b := b) (ks := ks) (set_ok h k (v := ⟨b, true, (RF.get r k).2, (RF.get r k).1⟩) (get_ok hr k)) (set_vs hv)
    refine ⟨this.1, by rw [this.2.1]; simp [setChains], this.2.2⟩
theorem EInv.goNew {e : Engine} {N : Nat} (h : EInv e N) {A : Nat} {d : Deed} (hd : d ∈ e.deeds) : EInv (goNew e A d) N := by
  obtain ⟨hz, ho, hc⟩ := h
  have hr := doD_ok (goRows_ok (b := e.base + A) hc (ks := keysD d) (r := []) (by simp [rowsOk])).1 (ho d hd)
  have := goSets_ok hr (b := e.base + A) (ks := d.writes) hc hz.v
  refine ⟨⟨?_, this.2.2, hz.d, ?_, ?_, hz.b, hz.dd⟩, ho, this.1⟩
  · show (goSets _ _ _ _).length ≤ N
    rw [goDone, this.2.1]; exact hz.c
  · simp [Proofs.Ytnhnnkljlglhbaa.goNew]; exact hz.s
  · simp [Proofs.Ytnhnnkljlglhbaa.goNew]; exact hz.n
theorem EInv.goE {e : Engine} {N : Nat} (h : EInv e N) (at_ : Int) : EInv (goE e at_).1 N := by
  unfold Proofs.Ytnhnnkljlglhbaa.goE
  split
  · exact h
  unfold goAt
  cases hA : e.deeds[at_.toNat]? with
  | none => exact h
  | some d =>
    dsimp only
    split
    · exact h
    split
    · exact h.goNew (List.mem_of_getElem? hA)
    · exact h
theorem clrV_sub {b : Int} : ∀ {l : List Version} {v : Version}, v ∈ clrV b l → v ∈ l
  | [], v, h => by simp [clrV] at h
  | x :: l, v, h => by
    simp only [clrV] at h
    split at h
    · exact List.mem_cons_of_mem _ (clrV_sub h)
    · rcases List.mem_cons.1 h with rfl | h
      · exact List.mem_cons_self ..
      · exact List.mem_cons_of_mem _ (clrV_sub h)
theorem clrV_len {b : Int} : ∀ (l : List Version), (clrV b l).length ≤ l.length
  | [] => by simp [clrV]
  | x :: l => by
    have := clrV_len (b := b) l
    simp only [clrV]
    split <;> simp <;> omega
theorem clear_mem {b : Int} : ∀ {l : List Chain} {c : Chain}, c ∈ clear b l → ∃ c0 ∈ l, c = ⟨c0.key, clrV b c0.vs⟩
  | [], c, h => by simp [clear] at h
  | x :: l, c, h => by
    simp only [clear] at h
    split at h
    · obtain ⟨c0, h0, h1⟩ := clear_mem h
      exact ⟨c0, List.mem_cons_of_mem _ h0, h1⟩
    · rcases List.mem_cons.1 h with rfl | h
      · exact ⟨x, List.mem_cons_self .., rfl⟩
      · obtain ⟨c0, h0, h1⟩ := clear_mem h
        exact ⟨c0, List.mem_cons_of_mem _ h0, h1⟩
theorem clear_len {b : Int} : ∀ (l : List Chain), (clear b l).length ≤ l.length
  | [] => by simp [clear]
  | x :: l => by
    have := clear_len (b := b) l
    simp only [clear]
    split <;> simp <;> omega
theorem EInv.clearE {e : Engine} {N : Nat} (h : EInv e N) : EInv (clearE e) N := by
  obtain ⟨hz, ho, hc⟩ := h
  have hm := markN_le e.state
  have hsl := hz.s
  have hnl := hz.n
  have hd := hz.d
  have hb := hz.b
  refine ⟨⟨?_, fun c hcc => ?_, ?_, ?_, ?_, ?_, fun d hd => hz.dd d (List.mem_of_mem_drop hd)⟩, fun d hd => ho d (List.mem_of_mem_drop hd), fun c hcc v hv => ?_⟩
  · have := clear_len (b := e.base + markN e.state) e.chains
    have := hz.c
    simp only [RF.clearE]; omega
  · obtain ⟨c0, h0, rfl⟩ := clear_mem hcc
    have := clrV_len (b := e.base + markN e.state) c0.vs
    have := hz.v c0 h0
    simp only []; omega
  · simp only [RF.clearE, List.length_drop]; omega
  · simp only [RF.clearE, List.length_drop]; omega
  · simp only [RF.clearE, List.length_drop]; omega
  · simp only [RF.clearE, List.length_drop]; omega
  · obtain ⟨c0, h0, rfl⟩ := clear_mem hcc
    exact hc c0 h0 v (clrV_sub hv)

end Go.Proofs.Ytnhnnkljlglhbaa

/-! F21 -/
/-
  Contract of the references' Build of engines.
-/
namespace Go.Proofs.Ytnhnnkljlglhbaa
open Go.AX Go.RF

set_option maxRecDepth 100000
set_option maxHeartbeats 8000000

def pickE (e : Engine) (n : Int) : Engine := if n = 7 then clearE e else if n < 0 then e else match (ready e)[n.toNat]? with
  | some x => (goE e x).1
  | none => e
def pickGo : Nat → Engine → List Int → Engine × List Int
  | 0, e, p => (e, p)
  | _ + 1, e, [] => (e, [])
  | k + 1, e, n :: p => pickGo k (pickE e n) p
def batchE (e : Engine) (b : List Deed) : Engine := if (addE e b).2 = 0 then (addE e b).1 else e
def buildGo : Engine → List (List Deed) → List Int → Engine
  | e, [], _ => e
  | e, b :: bs, p => buildGo (pickGo 3 (batchE e b) p).1 bs (pickGo 3 (batchE e b) p).2
def buildE (r : List Pair) (bs : List (List Deed)) (p : List Int) : Engine := buildGo (newE r) bs p
def sumLen : List (List Deed) → Nat
  | [] => 0
  | b :: bs => b.length + sumLen bs

theorem EInv.pickE {e : Engine} {N : Nat} (h : EInv e N) (n : Int) : EInv (pickE e n) N := by
  unfold Proofs.Ytnhnnkljlglhbaa.pickE
  split
  · exact h.clearE
  split
  · exact h
  split
  · exact h.goE _
  · exact h
theorem EInv.batchE {e : Engine} {N : Nat} (h : EInv e N) {b : List Deed} (hs : ∀ d ∈ b, d.Sm) : EInv (batchE e b) (N + 5 * b.length) := by
  unfold Proofs.Ytnhnnkljlglhbaa.batchE
  split
  · next hw => exact h.addE hs hw
  · exact h.mono (by omega)
theorem EInv.pickGo : ∀ {k : Nat} {e : Engine} {p : List Int} {N : Nat}, EInv e N → EInv (pickGo k e p).1 N
  | 0, e, p, N, h => h
  | k + 1, e, [], N, h => h
  | k + 1, e, n :: p, N, h => by
    simp only [Proofs.Ytnhnnkljlglhbaa.pickGo]
    exact EInv.pickGo (h.pickE n)
theorem EInv.buildGo : ∀ {bs : List (List Deed)} {e : Engine} {p : List Int} {N : Nat}, EInv e N → (∀ b ∈ bs, ∀ d ∈ b, d.Sm) → EInv (buildGo e bs p) (N + 5 * sumLen bs)
  | [], e, p, N, h, _ => h
  | b :: bs, e, p, N, h, hb => by
    simp only [Proofs.Ytnhnnkljlglhbaa.buildGo, sumLen]
    have := EInv.buildGo (p := (Proofs.Ytnhnnkljlglhbaa.pickGo 3 (Proofs.Ytnhnnkljlglhbaa.batchE e b) p).2) ((h.batchE (hb b (List.mem_cons_self ..))).pickGo (k := 3) (p := p)) fun x hx => hb x (List.mem_cons_of_mem _ hx)
    rw [show N + 5 * (b.length + sumLen bs) = N + 5 * b.length + 5 * sumLen bs by omega]
    exact this
theorem sumLen_at : ∀ {bs : List (List Deed)} {j : Nat} {b : List Deed}, bs[j]? = some b → b.length + sumLen (bs.drop (j + 1)) = sumLen (bs.drop j)
  | [], j, b, h => by simp at h
  | x :: bs, 0, b, h => by simp at h; subst h; simp [sumLen]
  | x :: bs, j + 1, b, h => by simpa using sumLen_at (bs := bs) (j := j) (by simpa using h)

theorem readyGo_len {e : Engine} : ∀ (l : List Int) (i : Nat), (readyGo e i l).length ≤ l.length
  | [], i => by simp [readyGo]
  | s :: l, i => by
    have := readyGo_len (e := e) l (i + 1)
    simp only [readyGo]
    split <;> simp <;> omega

end Go.Proofs.Ytnhnnkljlglhbaa

/-! AxPin -/
/-
  Functions whose result is a slice of the caller's own; slices of ours lent as data; a slice of ours within another's element (its handle known, and staying).
-/
namespace Go.AX
open Go.RowKit

variable {cx : Cx} {g : Nat → Value} {σ σ' : St} {a : Act} {w w' : World} {nx : Nat} {c : Code} {Q : Exit → St → Prop}
variable {ty : TypeId} {pos : String} {af : Array Edge} {gd : Option (Nat × Bool)} {d : Nat}

/-- The handle v leads to rows, of elements of k cells, in a block from base on. -/
def RowsAt (w : World) (base : Nat) (own : Nat → Prop) (e k : Nat) (v : Value) (rows : List (List D)) : Prop :=
  ∃ xs : List Value, w.ownsRow base e k v rows.length xs ∧ (∀ x ∈ xs, Value.oneCell' x = true) ∧ (∀ r ∈ rows, r.length = k) ∧
    ∀ (i j : Nat) (r : List D) (d : D) (x : Value), rows[i]? = some r → r[j]? = some d → xs[i * k + j]? = some x → Rd w own x d
def with1 (own : Nat → Prop) (v : Value) : Nat → Prop := fun b => own b ∨ blk v = some b

theorem ownsRow_base {base base' : Nat} {e k : Nat} {v : Value} {n : Nat} {xs : List Value} (h : w.ownsRow base e k v n xs) (hb : ∀ b, blk v = some b → base' ≤ b) : w.ownsRow base' e k v n xs := by
  refine ⟨h.1, ?_⟩
  rcases h.2 with h1 | ⟨g, cap, cur, hv, h1, h2⟩
  · exact .inl h1
  · exact .inr ⟨g, cap, cur, hv, hb g (by rw [hv]; rfl), h2⟩
theorem RowsAt.lt {base e k : Nat} {own : Nat → Prop} {v : Value} {rows : List (List D)} (h : RowsAt w base own e k v rows) {b : Nat} (hb : blk v = some b) : base ≤ b ∧ b < w.heap.size := by
  obtain ⟨xs, h1, _⟩ := h
  exact h1.lt b (by rw [← blk_own h1]; exact hb)
theorem RowsAt.re {base base' e k : Nat} {own own' : Nat → Prop} {v : Value} {rows : List (List D)} (h : RowsAt w base own e k v rows) (hb : ∀ b, blk v = some b → base' ≤ b) (ho : ∀ b, own' b → own b) : RowsAt w base' own' e k v rows := by
  obtain ⟨xs, h1, h2, h3, h4⟩ := h
  exact ⟨xs, ownsRow_base h1 hb, h2, h3, fun i j r d x hi hj hx => (h4 i j r d x hi hj hx).less ho⟩

/-- Read as data, by whoever does not keep its block. -/
theorem RowsAt.rd {base e k : Nat} {own own' : Nat → Prop} {v : Value} {rows : List (List D)} (h : RowsAt w base own e k v rows) (ho : ∀ b, own' b → own b ∧ blk v ≠ some b) : Rd w own' v (.sl k rows) := by
  obtain ⟨xs, h1, h2, h3, h4⟩ := h
  rcases h1.2 with ⟨hv, hn⟩ | ⟨b, cap, cur, hv, hb, hh, hle, hcm, hsz, htk⟩
  · obtain rfl : rows = [] := List.eq_nil_of_length_eq_zero hn
    rw [hv]; exact .nil none 0 k
  · have hlt : b < w.heap.size := by
      rcases Nat.lt_or_ge b w.heap.size with h | h
      · exact h
      · rw [Array.getElem?_eq_none h] at hh; cases hh
    have hx : ∀ i j r d, rows[i]? = some r → r[j]? = some d → ∃ x, xs[i * k + j]? = some x ∧ w.cell? ((⟨b, 0, none⟩ : Addr).add (i * k + j)) = some x := by
      intro i j r d hi hj
      have hil := (List.getElem?_eq_some_iff.1 hi).1
      have hjl : j < k := by rw [← h3 r (List.mem_of_getElem? hi)]; exact (List.getElem?_eq_some_iff.1 hj).1
      have hlen : i * k + j < xs.length := by
        rw [h1.1]
        have h5 : (i + 1) * k ≤ rows.length * k := Nat.mul_le_mul_right _ hil
        rw [Nat.add_mul, Nat.one_mul] at h5
        omega
      exact ⟨xs[i * k + j], List.getElem?_eq_getElem hlen, h1.cells (g := b) (by rw [hv]; rfl) _ _ (List.getElem?_eq_getElem hlen)⟩
    have hblk : blk v = some b := by rw [hv]; rfl
    rw [hv]
    refine .sl ⟨b, 0, none⟩ cap k rows (fun i j => xs.getD (i * k + j) undef) (fun h0 => (ho b h0).2 hblk) hlt hle h3 (fun i j r d hi hj => ?_) (fun i j r d hi hj => ?_) fun i j r d hi hj => ?_
    · obtain ⟨x, h5, h6⟩ := hx i j r d hi hj
      rw [h6]; simp [List.getD, h5]
    · obtain ⟨x, h5, h6⟩ := hx i j r d hi hj
      simp only [List.getD, h5, Option.getD_some]
      exact h2 x (List.mem_of_getElem? h5)
    · obtain ⟨x, h5, h6⟩ := hx i j r d hi hj
      simp only [List.getD, h5, Option.getD_some]
      exact (h4 i j r d x hi hj h5).less fun b hb => (ho b hb).1
/-- One cell of it told as something else. -/
theorem RowsAt.at {base e k : Nat} {own : Nat → Prop} {v : Value} {rows : List (List D)} (h : RowsAt w base own e k v rows) {i j : Nat} {r : List D} {x0 : Value} {d' : D} (hi : rows[i]? = some r) (hj : r[j]? = some (.v x0)) (hd : Rd w own x0 d') :
    RowsAt w base own e k v (rows.set i (r.set j d')) := by
  obtain ⟨xs, h1, h2, h3, h4⟩ := h
  have hil := (List.getElem?_eq_some_iff.1 hi).1
  have hjl := (List.getElem?_eq_some_iff.1 hj).1
  refine ⟨xs, by simpa using h1, h2, fun r' hr' => ?_, fun i' j' r' z x hi' hj' hx => ?_⟩
  · rcases List.mem_or_eq_of_mem_set hr' with h | h
    · exact h3 r' h
    · subst h; simp; exact h3 r (List.mem_of_getElem? hi)
  · by_cases he : i = i'
    · subst he
      rw [List.getElem?_set_self hil] at hi'
      cases hi'
      by_cases hf : j = j'
      · subst hf
        rw [List.getElem?_set_self hjl] at hj'
        cases hj'
        have := h4 i j r (.v x0) x hi hj hx
        rw [rd_v this]; exact hd
      · rw [List.getElem?_set_ne hf] at hj'
        exact h4 i j' r z x hi hj' hx
    · rw [List.getElem?_set_ne he] at hi'
      exact h4 i' j' r' z x hi' hj' hx

/-! ### A function whose result is new -/
structure FnNew (P : Program) (f : FuncId) (args : List Arg) (e k : Nat) (rows : List (List D)) : Prop where
  run : ∃ fn, P.funcs[f]? = some fn ∧ (fn.name == "runtime.NumGoroutine") = false ∧ fn.body.isNone = false
  calls : ∀ (w : World) (own : Nat → Prop) (vs : List Value), (∀ b, own b → b < w.heap.size) → ArgsOk w own vs args →
    Calls P f vs.toArray w fun r w' => ∃ v, r = .returned v ∧ Below w.heap.size w w' ∧ RowsAt w' w.heap.size (with1 own v) e k v rows

inductive RetNew (σ : St) (t e k : Nat) (rows : List (List D)) : Prop
  | own {id n : Nat} (h : get σ (.s t) = .av (.own id n)) (ho : get σ (.o id) = .ob (.arr e k rows)) (hn : n = rows.length)
  | nil (h : get σ (.s t) = .av (.d (.v nilS))) (hr : rows = [])
def newQ (t e k : Nat) (rows : List (List D)) : Exit → St → Prop
  | .normal, σ => RetNew σ t e k rows
  | .ret, σ => RetNew σ t e k rows
  | _, _ => False

theorem objRows (hs : SimG cx σ a w g nx) {id e k : Nat} {rows : List (List D)} (ho : get σ (.o id) = .ob (.arr e k rows)) : RowsAt w cx.w0.heap.size (cx.own g σ) e k (g id) rows := (hs.objs id _ ho).2.1
theorem RetNew.ok (hs : SimG cx σ a w g nx) {t e k : Nat} {rows : List (List D)} (h : RetNew σ t e k rows) : RowsAt w cx.w0.heap.size (with1 cx.own0 (a.tmps.getD t undef)) e k (a.tmps.getD t undef) rows := by
  cases h with
  | @own id n h ho hn =>
    have hv : a.tmps.getD t undef = g id := ((hs.slots t _ h).1 e k rows ho).2 hn
    rw [hv]
    refine (objRows hs ho).re (fun b hb => obj_ge hs ho hb) fun b hb => ?_
    rcases hb with hb | hb
    · exact .inl hb
    · exact .inr ⟨id, _, ho, hb⟩
  | nil h hr =>
    subst hr
    rw [rd_v (hs.slots t _ h).1]
    exact ⟨[], World.ownsRow_nil _ _ _ _, by simp, by simp, by simp⟩

theorem fnNew_of {P : Program} {T : Tbl} (hT : TOk P T) (hm : P.follows .mixedOrders = true) {f : FuncId} {fn : Func} {c : Code} {t e k : Nat} {args : List Arg} {rows : List (List D)}
    (hf : P.funcs[f]? = some fn) (hb : fn.body = some c) (hname : (fn.name == "runtime.NumGoroutine") = false) (hr : fn.results = #[.tmp t]) (hn : Nat.ble args.length fn.ntmps = true)
    (h : ∀ w0 own0, CW ⟨P, T, hT, hm, fn.ntmps, w0, own0⟩ c (newQ t e k rows) (argSt 0 args)) : FnNew P f args e k rows := by
  refine ⟨⟨fn, hf, hname, by rw [hb]; rfl⟩, fun w own vs hown ha => ?_⟩
  have hsim := entry_sim (P := P) (T := T) (hT := hT) (hm := hm) (n := fn.ntmps) hown ha (by simpa using hn)
  refine calls_of_wp hf hb (wp_mono (h w own _ _ hsim) fun x a' w' he => ?_)
  obtain ⟨σ', ⟨g, nx, hg⟩, hq⟩ := he
  have fin : ∀ hq : RetNew σ' t e k rows, a'.defers = [] ∧ ∃ v, (results fn a'.tmps).run P w' = .ok v w' ∧ ∃ v', Ending.returned v = .returned v' ∧ Below w.heap.size w w' ∧ RowsAt w' w.heap.size (with1 own v') e k v' rows := by
    intro hq
    exact ⟨hg.defers, _, by rw [results_one hr]; simp [rvRun], _, rfl, hg.below, hq.ok hg⟩
  cases x with
  | normal => exact fin hq
  | ret => exact fin hq
  | exit j => exact hq.elim
  | goto j => exact hq.elim
  | panic c => exact hq.elim
  | outgrown => exact hq.elim

/-- As data, too. -/
theorem FnNew.ok {P : Program} {f : FuncId} {args : List Arg} {e k : Nat} {rows : List (List D)} (h : FnNew P f args e k rows) : FnOk P f args (.one (.sl k rows)) := by
  refine ⟨h.run, fun w own vs hown ha => (h.calls w own vs hown ha).mono fun r w' hr => ?_⟩
  obtain ⟨v, rfl, h1, h2⟩ := hr
  exact ⟨v, rfl, h1, h2.rd fun b hb => ⟨.inl hb, fun he => by have := (h2.lt he).1; have := hown b hb; omega⟩⟩

/-- A new object joins the state. -/
theorem SimG.join (hs : SimG cx σ a w g nx) (hb : Below w.heap.size w w') {v : Value} {o : Ob} {e k : Nat} {rows : List (List D)} (hr : RowsAt w' w.heap.size (with1 (cx.own g σ) v) e k v rows)
    (ho : o = .arr e k rows ∨ o = .pin e k rows v) : SimG cx (objSt σ (nx + 1) nx o) a w' (upd g nx v) (nx + 1) := by
  have hge := hs.below.size
  refine SimG.obj hs ⟨.inl ⟨rfl, rfl⟩, hb.mono hge, fun b hb' _ => hb.block b hb', fun b hb' => .inr (hr.lt hb').1⟩ (fun hl => ?_) (by rcases ho with rfl | rfl <;> trivial)
  have hre : RowsAt w' cx.w0.heap.size (cx.own (upd g nx v) (objSt σ (nx + 1) nx o)) e k (upd g nx v nx) rows := by
    rw [upd_same]
    refine hr.re (fun b hb' => by have := (hr.lt hb').1; omega) fun b hb' => ?_
    rcases hb' with h | ⟨id, o', h1, h2⟩
    · exact .inl (.inl h)
    · by_cases hid : id = nx
      · subst hid; rw [upd_same] at h2; exact .inr h2
      · rw [objSt_o hid] at h1
        rw [upd_ne hid] at h2
        exact .inl (.inr ⟨id, o', h1, h2⟩)
  rcases ho with rfl | rfl
  · exact hre
  · exact ⟨upd_same _ _ _, hre⟩

theorem call_run {P : Program} {f : FuncId} {xs : List Operand} {ats : Array TypeId} (hr : ∃ fn, P.funcs[f]? = some fn ∧ (fn.name == "runtime.NumGoroutine") = false ∧ fn.body.isNone = false) :
    (execOp a.eval ⟨some d, .call { callee := .value (.func f), args := ⟨xs⟩, argTypes := ats }, ty, pos, af, gd⟩).run P w = .ok (.enter f (xs.map a.eval).toArray) w := by
  obtain ⟨fn, h1, h2, h3⟩ := hr
  simp only [execOp, resolve, Deferred.ofValue, Act.eval, invoke, callFunc, Sem.run_bind, Sem.run_pure, Result.andThen_ok, run_program, h1, h2, h3, Bool.false_eq_true, if_false]
  simp

theorem ok_callnew {f : FuncId} {xs : List Operand} {avs : List AV} {ys : List Arg} {l : List (Key × Val)} {e k : Nat} {rows : List (List D)} {ats : Array TypeId} (hn : d < cx.n) (hc : FnNew cx.P f ys e k rows) (hsub : Subs xs avs ys l) :
    OpOk cx ⟨some d, .call { callee := .value (.func f), args := ⟨xs⟩, argTypes := ats }, ty, pos, af, gd⟩ ⟨l ++ [(.nx, .num nx)], [(.s d, .av (.own nx rows.length)), (.o nx, .ob (.arr e k rows)), (.nx, .num (nx + 1))]⟩ := by
  rintro σ a w K Q ⟨g, n', hs⟩ hr hK
  have hnx : n' = nx := by
    have h2 := hr.right.1
    rw [hs.hnx] at h2
    simpa using h2
  subst hnx
  have hcall := hc.calls w (cx.own g σ) (xs.map a.eval) (fun b hb => own_lt hs hb) (hsub.ok hs hr.left)
  unfold Oper.wp
  rw [call_run hc.run]
  refine hcall.mono fun r w' he => ?_
  obtain ⟨v, rfl, hb, hres⟩ := he
  have hG := SimG.join hs hb hres (.inl rfl)
  refine hK _ _ (Sim.put hG hn (Below.refl _ _) ?_ (Nat.lt_succ_self _))
  intro e' k' rows' hg
  rw [get_cons_same] at hg
  cases hg
  exact ⟨Nat.le_refl _, fun _ => by rw [upd_same]⟩

theorem a_callnew {f : FuncId} {xs : List Operand} {avs : List AV} {ys : List Arg} {l : List (Key × Val)} {e k : Nat} {rows : List (List D)} {ats : Array TypeId} (hc : FnNew cx.P f ys e k rows) (hn : get σ .nx = .num nx) (hd : Nat.blt d cx.n = true) (hsub : SubsE σ xs avs ys l) :
    OA cx σ ⟨some d, .call { callee := .value (.func f), args := ⟨xs⟩, argTypes := ats }, ty, pos, af, gd⟩ ⟨l ++ [(.nx, .num nx)], [(.s d, .av (.own nx rows.length)), (.o nx, .ob (.arr e k rows)), (.nx, .num (nx + 1))]⟩ :=
  ⟨ok_callnew (lt_of_blt hd) hc hsub.out.1, hsub.out.2.append ⟨hn, trivial⟩⟩

end Go.AX

/-! AxPin2 -/
/-
  Handles that become known, and ours again; two slices of ours that a call yields, one within the other's element; slices of ours lent, and handed over.
-/
namespace Go.AX
open Go.RowKit

variable {cx : Cx} {g : Nat → Value} {σ σ' : St} {a : Act} {w w' : World} {nx : Nat} {c : Code} {Q : Exit → St → Prop}
variable {ty : TypeId} {pos : String} {af : Array Edge} {gd : Option (Nat × Bool)} {d : Nat}

/-- An object told otherwise. -/
theorem SimG.reob (hs : SimG cx σ a w g nx) {id : Nat} {o o' : Ob} (ho : get σ (.o id) = .ob o) (hle : ObLe g g id o o') (hr : ObOk cx g σ w id o') (hb : o'.bd nx) :
    SimG cx ((.o id, .ob o') :: σ) a w g nx := by
  have hback : ∀ j o1, get ((.o id, .ob o') :: σ) (.o j) = .ob o1 → ∃ o0, get σ (.o j) = .ob o0 ∧ ObLe g g j o0 o1 := by
    intro j o1 hj
    by_cases he : id = j
    · subst he
      rw [get_cons_same] at hj
      cases hj
      exact ⟨_, ho, hle⟩
    · rw [get_cons_ne (by simpa using he)] at hj
      exact ⟨o1, hj, by cases o1 <;> simp [ObLe]⟩
  have hl : Later cx g g σ ((.o id, .ob o') :: σ) w w nx := by
    refine ⟨Ext.refl _ _, Below.refl _ _, fun b hb => ?_, fun j o1 _ h => hback j o1 h⟩
    rcases hb with hb | ⟨j, o1, h1, h2⟩
    · exact .inl (.inl hb)
    · obtain ⟨o0, h3, _⟩ := hback j o1 h1
      exact .inl (.inr ⟨j, o0, h3, h2⟩)
  refine hs.next hl ((get_cons_ne (by simp)).trans hs.hnx) (Nat.le_refl _) hs.size hs.defers (Below.refl _ _) (fun i av hi => .inl ⟨(get_cons_ne (by simp)).symm.trans hi, rfl⟩) (fun j o1 hj => ?_) (fun j j' o1 o2 b h1 h2 => ?_)
  · by_cases he : id = j
    · subst he
      rw [get_cons_same] at hj
      cases hj
      exact .inr ⟨(hs.objs id _ ho).1, hr.step hl rfl (fun _ _ => rfl) hb, hb⟩
    · rw [get_cons_ne (by simpa using he)] at hj
      exact .inl ⟨hj, rfl, fun _ _ => rfl⟩
  · obtain ⟨o3, h3, _⟩ := hback j o1 h1
    obtain ⟨o4, h4, _⟩ := hback j' o2 h2
    exact hs.sep j j' o3 o4 b h3 h4

theorem CW.pin (i id n e k : Nat) (rows : List (List D)) (hi : get σ (.s i) = .av (.own id n)) (ho : get σ (.o id) = .ob (.arr e k rows)) (hn : n = rows.length)
    (h : ∀ x, CW cx c Q ((.s i, .av (.d (.v x))) :: (.o id, .ob (.pin e k rows x)) :: σ)) : CW cx c Q σ := by
  rintro a w ⟨g, nx, hs⟩
  have hv : a.tmps.getD i undef = g id := ((hs.slots i _ hi).1 e k rows ho).2 hn
  have hG := hs.reob ho (o' := .pin e k rows (g id)) trivial ⟨rfl, (hs.objs id _ ho).2.1⟩ trivial
  refine h (g id) a w (Sim.retell hG (av := .d (.v (g id))) ?_ trivial)
  rw [hv]; exact Rd.v _
theorem sim_unpin (i id e k nx0 : Nat) (rows : List (List D)) (x : Value) (hi : get σ (.s i) = .av (.d (.v x))) (ho : get σ (.o id) = .ob (.pin e k rows x)) (hnx : get σ .nx = .num nx0)
    (hsim : Sim cx σ a w) : Sim cx ((.s i, .av (.own nx0 rows.length)) :: (.o nx0, .ob (.arr e k rows)) :: (.nx, .num (nx0 + 1)) :: (.o id, .none) :: σ) a w := by
  obtain ⟨g, nx, hs⟩ := hsim
  obtain rfl : nx = nx0 := by have := hs.hnx; rw [hnx] at this; simpa using this.symm
  obtain ⟨hlt, ⟨hgx, hrows⟩, _⟩ := hs.objs id _ ho
  have hrows' : RowsAt w cx.w0.heap.size (cx.own g σ) e k (g id) rows := hrows
  have hv : a.tmps.getD i undef = x := rd_v (hs.slots i _ hi).1
  -- the old name goes, a new one comes
  have hne : id ≠ nx := by omega
  have hback : ∀ j o1, j ≠ nx → get ((.o nx, .ob (.arr e k rows)) :: (.nx, .num (nx + 1)) :: (.o id, .none) :: σ) (.o j) = .ob o1 → j ≠ id ∧ get σ (.o j) = .ob o1 := by
    intro j o1 hj h1
    rw [get_cons_ne (by simpa using fun e => hj e.symm), get_cons_ne (by simp)] at h1
    by_cases he : id = j
    · subst he; rw [get_cons_same] at h1; cases h1
    · rw [get_cons_ne (by simpa using he)] at h1
      exact ⟨fun e => he e.symm, h1⟩
  have hown : ∀ b, cx.own (upd g nx x) ((.o nx, .ob (.arr e k rows)) :: (.nx, .num (nx + 1)) :: (.o id, .none) :: σ) b → cx.own g σ b := by
    rintro b (hb | ⟨j, o1, h1, h2⟩)
    · exact .inl hb
    · by_cases hj : j = nx
      · subst hj
        rw [upd_same, ← hgx] at h2
        exact .inr ⟨id, _, ho, h2⟩
      · rw [upd_ne hj] at h2
        exact .inr ⟨j, o1, (hback j o1 hj h1).2, h2⟩
  have hl : Later cx g (upd g nx x) σ ((.o nx, .ob (.arr e k rows)) :: (.nx, .num (nx + 1)) :: (.o id, .none) :: σ) w w nx := by
    refine ⟨Ext.refl _ _, Below.refl _ _, fun b hb => .inl (hown b hb), fun j o1 hj h1 => ?_⟩
    have hjn : j ≠ nx := by omega
    refine ⟨o1, (hback j o1 hjn h1).2, ?_⟩
    cases o1 <;> simp [ObLe, upd_ne hjn]
  have hG : SimG cx ((.o nx, .ob (.arr e k rows)) :: (.nx, .num (nx + 1)) :: (.o id, .none) :: σ) a w (upd g nx x) (nx + 1) := by
    refine hs.next hl (by rw [get_cons_ne (by simp), get_cons_same]) (Nat.le_succ _) hs.size hs.defers (Below.refl _ _) (fun j av hj => .inl ⟨?_, rfl⟩) (fun j o1 hj => ?_) (fun j j' o1 o2 b h1 h2 h3 h4 => ?_)
    · rw [get_cons_ne (by simp), get_cons_ne (by simp), get_cons_ne (by simp)] at hj; exact hj
    · by_cases hjn : j = nx
      · subst hjn
        rw [get_cons_same] at hj
        cases hj
        refine .inr ⟨Nat.lt_succ_self _, ?_, trivial⟩
        show RowsAt w cx.w0.heap.size _ e k (upd g j x j) rows
        rw [upd_same, ← hgx]
        exact hrows'.re (fun b hb => (hrows'.lt hb).1) (by rw [hgx]; exact hown)
      · exact .inl ⟨(hback j o1 hjn hj).2, upd_ne hjn, fun _ _ => rfl⟩
    · have key : ∀ j o1, get ((.o nx, .ob (.arr e k rows)) :: (.nx, .num (nx + 1)) :: (.o id, .none) :: σ) (.o j) = .ob o1 → blk (upd g nx x j) = some b → ∃ j0 o0, get σ (.o j0) = .ob o0 ∧ blk (g j0) = some b ∧ ((j = nx ∧ j0 = id) ∨ (j ≠ nx ∧ j0 ≠ id ∧ j0 = j)) := by
        intro j o1 h1 h3
        by_cases hjn : j = nx
        · subst hjn
          rw [upd_same, ← hgx] at h3
          exact ⟨id, _, ho, h3, .inl ⟨rfl, rfl⟩⟩
        · rw [upd_ne hjn] at h3
          obtain ⟨h5, h6⟩ := hback j o1 hjn h1
          exact ⟨j, o1, h6, h3, .inr ⟨hjn, h5, rfl⟩⟩
      obtain ⟨p, po, q1, q2, q3⟩ := key j o1 h1 h3
      obtain ⟨p', po', r1, r2, r3⟩ := key j' o2 h2 h4
      have := hs.sep p p' po po' b q1 r1 q2 r2
      rcases q3 with ⟨e1, e2⟩ | ⟨e1, e2, e3⟩ <;> rcases r3 with ⟨f1, f2⟩ | ⟨f1, f2, f3⟩ <;> omega
  refine Sim.retell hG (av := .own nx rows.length) ?_ (Nat.lt_succ_self _)
  intro e' k' rows' hg
  rw [get_cons_same] at hg
  cases hg
  exact ⟨Nat.le_refl _, fun _ => by rw [upd_same]; exact hv⟩

/-! ### Operations of a region in their text's order, each from whatever state that the last one may leave -/
def SW (cx : Cx) (ops : Array Oper) (Q : Exit → St → Prop) (l : List Oper) (σ : St) : Prop :=
  ∀ a w, Sim cx σ a w → wpList cx.P ops (fun e a' w' => ∃ σ', Sim cx σ' a' w' ∧ Q e σ') l a w
theorem CW.regionS {id : Nat} {l : List Oper} (h : SW cx l.toArray Q l σ) : CW cx (.region id l.toArray false) Q σ := fun a w hs => wp_region_lit (h a w hs)
variable {ops : Array Oper} {rest : List Oper} {o : Oper}
theorem SW.rw (h : RW cx ops (fun _ σ' => Q .normal σ') [] rest σ) : SW cx ops Q rest σ := by
  obtain ⟨ts, σ', h1, h2⟩ := h
  exact fun a w hs => wpList_of_steps h1 hs fun a' w' hs' => ⟨σ', hs', h2⟩
theorem SW.step {t : Tr} (hg : o.guard = none) (ho : OA cx σ o t) (h : SW cx ops Q rest (t.wr ++ σ)) : SW cx ops Q (o :: rest) σ := fun a w hs =>
  wpList_plain hg fun K hK => ho.1 σ a w K _ hs ho.2 fun a' w' hs' => hK a' w' (h a' w' hs')
theorem SW.fam {ι : Type} {σs : ι → St} (hg : o.guard = none)
    (ho : ∀ (a : Act) (w : World) (K : Act → World → Prop) (Q : Exit → Act → World → Prop), Sim cx σ a w → (∀ i a' w', Sim cx (σs i) a' w' → K a' w') → o.wp cx.P a w K Q)
    (h : ∀ i, SW cx ops Q rest (σs i)) : SW cx ops Q (o :: rest) σ := fun a w hs =>
  wpList_plain hg fun K hK => ho a w K _ hs fun i a' w' hs' => hK a' w' (h i a' w' hs')

/-! ### Lent as data -/
/-- What a slice of ours reads as: its rows, or those where one cell is another slice of ours. -/
inductive View (σ : St) (id e k : Nat) (rows : List (List D)) : D → List (Key × Val) → Prop
  | plain (h : get σ (.o id) = .ob (.arr e k rows)) : View σ id e k rows (.sl k rows) [(.o id, .ob (.arr e k rows))]
  | pin {i j id2 e2 k2 : Nat} {r : List D} {x : Value} {rows2 : List (List D)} (h : get σ (.o id) = .ob (.arr e k rows)) (hi : rows[i]? = some r) (hj : r[j]? = some (.v x))
      (h2 : get σ (.o id2) = .ob (.pin e2 k2 rows2 x)) : View σ id e k rows (.sl k (rows.set i (r.set j (.sl k2 rows2)))) [(.o id, .ob (.arr e k rows)), (.o id2, .ob (.pin e2 k2 rows2 x))]
def plainR : Res → Bool
  | .one (.v _) => true
  | .tup l => l.all fun x => match x with
    | .v _ => true
    | _ => false
  | _ => false
theorem rd_plain {own own' : Nat → Prop} {v x : Value} (h : Rd w own v (.v x)) : Rd w own' v (.v x) := by
  rw [rd_v h]; exact Rd.v _
theorem plainR_ok {r : Res} (h : plainR r = true) {own own' : Nat → Prop} {v : Value} (hr : ResOk w own v r) : ResOk w own' v r := by
  cases r with
  | one x =>
    cases x with
    | v x => exact rd_plain hr
    | sl k rows => cases h
    | agg c => cases h
  | tup xs =>
    obtain ⟨vs, rfl, h1, h2⟩ := hr
    refine ⟨vs, rfl, h1, fun j c x hx hc => ?_⟩
    have h3 := List.all_eq_true.1 h x (List.mem_of_getElem? hx)
    cases x with
    | v x => exact rd_plain (h2 j c _ hx hc)
    | sl k rows => cases h3
    | agg c => cases h3

theorem ArgsOk.less {own own' : Nat → Prop} (ho : ∀ b, own' b → own b) : ∀ {vs : List Value} {xs : List Arg}, ArgsOk w own vs xs → ArgsOk w own' vs xs
  | [], [], _ => trivial
  | v :: vs, x :: xs, h => by
    refine ⟨?_, ArgsOk.less ho h.2⟩
    cases x with
    | d y => exact Rd.less ho h.1
    | pd cells =>
      obtain ⟨ad, h1, h2, h3⟩ := h.1
      exact ⟨ad, h1, h2, fun j z hz => by obtain ⟨u, h4, h5, h6⟩ := h3 j z hz; exact ⟨u, h4, h5, h6.less ho⟩⟩

theorem a_lend {f : FuncId} {x : Operand} {xs : List Operand} {avs : List AV} {ys : List Arg} {l lv : List (Key × Val)} {r : Res} {ats : Array TypeId} {id n e k : Nat} {rows : List (List D)} {dd : D}
    (hc : FnOk cx.P f (.d dd :: ys) r) (hx : ev σ x = some (.own id n)) (hv : View σ id e k rows dd lv) (hn : n = rows.length) (hp : plainR r = true) (hd : Nat.blt d cx.n = true) (hsub : SubsE σ xs avs ys l) :
    OA cx σ ⟨some d, .call { callee := .value (.func f), args := ⟨x :: xs⟩, argTypes := ats }, ty, pos, af, gd⟩ ⟨rdOf x (.own id n) ++ (l ++ lv), [(.s d, .av r.av)]⟩ := by
  refine ⟨?_, (ev_out hx).2.append (hsub.out.2.append ?_)⟩
  · rintro σ1 a w K Q ⟨g, nx, hs⟩ hr hK
    have hxv := hs.ev (ev_out hx).1 hr.left
    have hargs := hsub.out.1.ok hs hr.right.left
    have hlv := hr.right.right
    -- the first argument, read by whoever keeps all but that
    have key : ∃ own' : Nat → Prop, (∀ b, own' b → cx.own g σ1 b) ∧ Rd w own' (a.eval x) dd := by
      cases hv with
      | plain h =>
        have ho : get σ1 (.o id) = .ob (.arr e k rows) := hlv.1
        have hval : a.eval x = g id := (hxv.1 e k rows ho).2 hn
        refine ⟨fun b => cx.own g σ1 b ∧ blk (g id) ≠ some b, fun b hb => hb.1, ?_⟩
        rw [hval]
        exact (objRows hs ho).rd fun b hb => hb
      | @pin i j id2 e2 k2 r x0 rows2 h hi hj h2 =>
        have ho : get σ1 (.o id) = .ob (.arr e k rows) := hlv.1
        have ho2 : get σ1 (.o id2) = .ob (.pin e2 k2 rows2 x0) := hlv.2.1
        have hval : a.eval x = g id := (hxv.1 e k rows ho).2 hn
        obtain ⟨_, ⟨hgx, hp2⟩, _⟩ := hs.objs id2 _ ho2
        have hp2' : RowsAt w cx.w0.heap.size (cx.own g σ1) e2 k2 (g id2) rows2 := hp2
        rw [hgx] at hp2'
        refine ⟨fun b => (cx.own g σ1 b ∧ blk x0 ≠ some b) ∧ blk (g id) ≠ some b, fun b hb => hb.1.1, ?_⟩
        rw [hval]
        have h3 : RowsAt w cx.w0.heap.size (fun b => cx.own g σ1 b ∧ blk x0 ≠ some b) e k (g id) rows := (objRows hs ho).re (fun b hb => ((objRows hs ho).lt hb).1) fun b hb => hb.1
        exact (h3.at hi hj (hp2'.rd fun b hb => hb)).rd fun b hb => hb
    obtain ⟨own', hsub', hrd⟩ := key
    have hcall := hc.calls w own' (a.eval x :: xs.map a.eval) (fun b hb => own_lt hs (hsub' b hb)) ⟨hrd, hargs.less hsub'⟩
    unfold Oper.wp
    rw [call_run hc.run]
    refine hcall.mono fun z w' he => ?_
    obtain ⟨v, rfl, hb, hres⟩ := he
    obtain ⟨h1, h2⟩ := Res.rep (nx := nx) (plainR_ok hp (own' := cx.own g σ1) hres)
    exact hK _ _ (Sim.put hs (lt_of_blt hd) hb h1 h2)
  · cases hv with
    | plain h => exact ⟨h, trivial⟩
    | pin h hi hj h2 => exact ⟨h, h2, trivial⟩

end Go.AX

/-! AxPin3 -/
/-
  A call that yields two slices of the caller's own, one within the other's element; a call that takes a slice of ours and yields one.
-/
namespace Go.AX
open Go.RowKit

variable {cx : Cx} {g : Nat → Value} {σ σ' : St} {a : Act} {w w' : World} {nx : Nat} {c : Code} {Q : Exit → St → Prop}
variable {ty : TypeId} {pos : String} {af : Array Edge} {gd : Option (Nat × Bool)} {d : Nat}

structure FnOwn2 (P : Program) (f : FuncId) (args : List Arg) (e k : Nat) (rowsF : Value → List (List D)) (e2 k2 : Nat) (rows2 : List (List D)) : Prop where
  run : ∃ fn, P.funcs[f]? = some fn ∧ (fn.name == "runtime.NumGoroutine") = false ∧ fn.body.isNone = false
  calls : ∀ (w : World) (own : Nat → Prop) (vs : List Value), (∀ b, own b → b < w.heap.size) → ArgsOk w own vs args →
    Calls P f vs.toArray w fun r w' => ∃ v x, r = .returned v ∧ Below w.heap.size w w' ∧ RowsAt w' w.heap.size (with1 (with1 own v) x) e k v (rowsF x) ∧
      RowsAt w' w.heap.size (with1 (with1 own v) x) e2 k2 x rows2 ∧ ∀ b, blk v = some b → blk x ≠ some b

def own2Q (t e k : Nat) (rowsF : Value → List (List D)) (e2 k2 : Nat) (rows2 : List (List D)) : Exit → St → Prop
  | .normal, σ => ∃ id n id2 x, get σ (.s t) = .av (.own id n) ∧ get σ (.o id) = .ob (.arr e k (rowsF x)) ∧ n = (rowsF x).length ∧ get σ (.o id2) = .ob (.pin e2 k2 rows2 x)
  | .ret, σ => ∃ id n id2 x, get σ (.s t) = .av (.own id n) ∧ get σ (.o id) = .ob (.arr e k (rowsF x)) ∧ n = (rowsF x).length ∧ get σ (.o id2) = .ob (.pin e2 k2 rows2 x)
  | _, _ => False

theorem fnOwn2_of {P : Program} {T : Tbl} (hT : TOk P T) (hm : P.follows .mixedOrders = true) {f : FuncId} {fn : Func} {c : Code} {t e k e2 k2 : Nat} {args : List Arg} {rowsF : Value → List (List D)} {rows2 : List (List D)}
    (hf : P.funcs[f]? = some fn) (hb : fn.body = some c) (hname : (fn.name == "runtime.NumGoroutine") = false) (hr : fn.results = #[.tmp t]) (hn : Nat.ble args.length fn.ntmps = true)
    (h : ∀ w0 own0, CW ⟨P, T, hT, hm, fn.ntmps, w0, own0⟩ c (own2Q t e k rowsF e2 k2 rows2) (argSt 0 args)) : FnOwn2 P f args e k rowsF e2 k2 rows2 := by
  refine ⟨⟨fn, hf, hname, by rw [hb]; rfl⟩, fun w own vs hown ha => ?_⟩
  have hsim := entry_sim (P := P) (T := T) (hT := hT) (hm := hm) (n := fn.ntmps) hown ha (by simpa using hn)
  refine calls_of_wp hf hb (wp_mono (h w own _ _ hsim) fun z a' w' he => ?_)
  obtain ⟨σ', ⟨g, nx, hg⟩, hq⟩ := he
  have fin : ∀ hq : ∃ id n id2 x, get σ' (.s t) = .av (.own id n) ∧ get σ' (.o id) = .ob (.arr e k (rowsF x)) ∧ n = (rowsF x).length ∧ get σ' (.o id2) = .ob (.pin e2 k2 rows2 x),
      a'.defers = [] ∧ ∃ v, (results fn a'.tmps).run P w' = .ok v w' ∧ ∃ v' x, Ending.returned v = .returned v' ∧ Below w.heap.size w w' ∧ RowsAt w' w.heap.size (with1 (with1 own v') x) e k v' (rowsF x) ∧
        RowsAt w' w.heap.size (with1 (with1 own v') x) e2 k2 x rows2 ∧ ∀ b, blk v' = some b → blk x ≠ some b := by
    rintro ⟨id, n, id2, x, h1, h2, h3, h4⟩
    have hv : a'.tmps.getD t undef = g id := ((hg.slots t _ h1).1 e k _ h2).2 h3
    obtain ⟨_, ⟨hgx, hp⟩, _⟩ := hg.objs id2 _ h4
    have hp' : RowsAt w' w.heap.size (Cx.own ⟨P, T, hT, hm, fn.ntmps, w, own⟩ g σ') e2 k2 (g id2) rows2 := hp
    have hin : ∀ b, with1 (with1 own (g id)) x b → Cx.own ⟨P, T, hT, hm, fn.ntmps, w, own⟩ g σ' b := by
      rintro b ((hb | hb) | hb)
      · exact .inl hb
      · exact .inr ⟨id, _, h2, hb⟩
      · exact .inr ⟨id2, _, h4, by rw [hgx]; exact hb⟩
    have hR1 := objRows hg h2
    refine ⟨hg.defers, g id, by rw [results_one hr, ← hv]; simp [rvRun], g id, x, rfl, hg.below, hR1.re (fun b hb => (hR1.lt hb).1) hin, ?_, fun b hb hb2 => ?_⟩
    · rw [hgx] at hp'
      exact hp'.re (fun b hb => (hp'.lt hb).1) hin
    · have := hg.sep id id2 _ _ b h2 h4 hb (by rw [hgx]; exact hb2)
      subst this
      rw [h2] at h4; cases h4
  cases z with
  | normal => exact fin hq
  | ret => exact fin hq
  | exit j => exact hq.elim
  | goto j => exact hq.elim
  | panic c => exact hq.elim
  | outgrown => exact hq.elim

theorem SimG.join2 (hs : SimG cx σ a w g nx) (hb : Below w.heap.size w w') {v x : Value} {e k e2 k2 : Nat} {rows rows2 : List (List D)} (h1 : RowsAt w' w.heap.size (with1 (with1 (cx.own g σ) v) x) e k v rows)
    (h2 : RowsAt w' w.heap.size (with1 (with1 (cx.own g σ) v) x) e2 k2 x rows2) (hd : ∀ b, blk v = some b → blk x ≠ some b) :
    SimG cx ((.o nx, .ob (.arr e k rows)) :: (.o (nx + 1), .ob (.pin e2 k2 rows2 x)) :: (.nx, .num (nx + 2)) :: σ) a w' (upd (upd g nx v) (nx + 1) x) (nx + 2) := by
  have hge := hs.below.size
  have hg1 : upd (upd g nx v) (nx + 1) x nx = v := by rw [upd_ne (by omega), upd_same]
  have hg2 : upd (upd g nx v) (nx + 1) x (nx + 1) = x := upd_same _ _ _
  have hg0 : ∀ j, j < nx → upd (upd g nx v) (nx + 1) x j = g j := fun j hj => by rw [upd_ne (by omega), upd_ne (by omega)]
  have hback : ∀ j o, get ((.o nx, .ob (.arr e k rows)) :: (.o (nx + 1), .ob (.pin e2 k2 rows2 x)) :: (.nx, .num (nx + 2)) :: σ) (.o j) = .ob o →
      (j = nx ∧ o = .arr e k rows) ∨ (j = nx + 1 ∧ o = .pin e2 k2 rows2 x) ∨ (j < nx ∧ get σ (.o j) = .ob o) := by
    intro j o hj
    by_cases hj1 : j = nx
    · subst hj1; rw [get_cons_same] at hj; cases hj; exact .inl ⟨rfl, rfl⟩
    · rw [get_cons_ne (by simpa using fun e => hj1 e.symm)] at hj
      by_cases hj2 : j = nx + 1
      · subst hj2; rw [get_cons_same] at hj; cases hj; exact .inr (.inl ⟨rfl, rfl⟩)
      · rw [get_cons_ne (by simpa using fun e => hj2 e.symm), get_cons_ne (by simp)] at hj
        exact .inr (.inr ⟨(hs.objs j o hj).1, hj⟩)
  have hown : ∀ b, cx.own (upd (upd g nx v) (nx + 1) x) ((.o nx, .ob (.arr e k rows)) :: (.o (nx + 1), .ob (.pin e2 k2 rows2 x)) :: (.nx, .num (nx + 2)) :: σ) b → with1 (with1 (cx.own g σ) v) x b := by
    rintro b (h | ⟨j, o, h3, h4⟩)
    · exact .inl (.inl (.inl h))
    · rcases hback j o h3 with ⟨rfl, rfl⟩ | ⟨rfl, rfl⟩ | ⟨hj, h5⟩
      · rw [hg1] at h4; exact .inl (.inr h4)
      · rw [hg2] at h4; exact .inr h4
      · rw [hg0 j hj] at h4; exact .inl (.inl (.inr ⟨j, o, h5, h4⟩))
  have hl : Later cx g (upd (upd g nx v) (nx + 1) x) σ ((.o nx, .ob (.arr e k rows)) :: (.o (nx + 1), .ob (.pin e2 k2 rows2 x)) :: (.nx, .num (nx + 2)) :: σ) w w' nx := by
    refine ⟨Ext.of_below hb, hb.mono hge, fun b hbb => ?_, fun j o hj h3 => ?_⟩
    · rcases hown b hbb with (h | h) | h
      · exact .inl h
      · exact .inr (h1.lt h).1
      · exact .inr (h2.lt h).1
    · rcases hback j o h3 with ⟨rfl, _⟩ | ⟨rfl, _⟩ | ⟨hj', h5⟩
      · omega
      · omega
      · exact ⟨o, h5, by cases o <;> simp [ObLe, hg0 j hj']⟩
  refine hs.next hl (by rw [get_cons_ne (by simp), get_cons_ne (by simp), get_cons_same]) (by omega) hs.size hs.defers (hb.mono hge) (fun j av hj => .inl ⟨?_, rfl⟩) (fun j o hj => ?_) (fun j j' o o' b h3 h4 h5 h6 => ?_)
  · rw [get_cons_ne (by simp), get_cons_ne (by simp), get_cons_ne (by simp)] at hj; exact hj
  · rcases hback j o hj with ⟨rfl, rfl⟩ | ⟨rfl, rfl⟩ | ⟨hj', h5⟩
    · refine .inr ⟨by omega, ?_, trivial⟩
      show RowsAt w' cx.w0.heap.size _ e k _ rows
      rw [hg1]
      exact h1.re (fun b hb' => by have := (h1.lt hb').1; omega) hown
    · refine .inr ⟨by omega, ⟨hg2, ?_⟩, trivial⟩
      show RowsAt w' cx.w0.heap.size _ e2 k2 _ rows2
      rw [hg2]
      exact h2.re (fun b hb' => by have := (h2.lt hb').1; omega) hown
    · exact .inl ⟨h5, hg0 j hj', fun b hb' => hb.block b (own_lt hs (.inr ⟨j, o, h5, hb'⟩))⟩
  · have place : ∀ j o, get ((.o nx, .ob (.arr e k rows)) :: (.o (nx + 1), .ob (.pin e2 k2 rows2 x)) :: (.nx, .num (nx + 2)) :: σ) (.o j) = .ob o → blk (upd (upd g nx v) (nx + 1) x j) = some b →
        (j = nx ∧ blk v = some b ∧ w.heap.size ≤ b) ∨ (j = nx + 1 ∧ blk x = some b ∧ w.heap.size ≤ b) ∨ (j < nx ∧ get σ (.o j) = .ob o ∧ blk (g j) = some b ∧ b < w.heap.size) := by
      intro j o hj hbj
      rcases hback j o hj with ⟨rfl, rfl⟩ | ⟨rfl, rfl⟩ | ⟨hj', h7⟩
      · rw [hg1] at hbj; exact .inl ⟨rfl, hbj, (h1.lt hbj).1⟩
      · rw [hg2] at hbj; exact .inr (.inl ⟨rfl, hbj, (h2.lt hbj).1⟩)
      · rw [hg0 j hj'] at hbj; exact .inr (.inr ⟨hj', h7, hbj, own_lt hs (.inr ⟨j, o, h7, hbj⟩)⟩)
    rcases place j o h3 h5 with ⟨p1, p2, p3⟩ | ⟨p1, p2, p3⟩ | ⟨p1, p2, p3, p4⟩ <;> rcases place j' o' h4 h6 with ⟨q1, q2, q3⟩ | ⟨q1, q2, q3⟩ | ⟨q1, q2, q3, q4⟩
    · omega
    · exact (hd b p2 q2).elim
    · omega
    · exact (hd b q2 p2).elim
    · omega
    · omega
    · omega
    · omega
    · exact hs.sep j j' o o' b p2 q2 p3 q3

theorem fam_own2 {f : FuncId} {xs : List Operand} {avs : List AV} {ys : List Arg} {l : List (Key × Val)} {e k e2 k2 : Nat} {rowsF : Value → List (List D)} {rows2 : List (List D)} {ats : Array TypeId}
    (hc : FnOwn2 cx.P f ys e k rowsF e2 k2 rows2) (hnx : get σ .nx = .num nx) (hd : Nat.blt d cx.n = true) (hsub : SubsE σ xs avs ys l)
    (a : Act) (w : World) (K : Act → World → Prop) (Q : Exit → Act → World → Prop) (hs : Sim cx σ a w)
    (hK : ∀ (x : Value) a' w', Sim cx ((.s d, .av (.own nx (rowsF x).length)) :: (.o nx, .ob (.arr e k (rowsF x))) :: (.o (nx + 1), .ob (.pin e2 k2 rows2 x)) :: (.nx, .num (nx + 2)) :: σ) a' w' → K a' w') :
    Oper.wp cx.P ⟨some d, .call { callee := .value (.func f), args := ⟨xs⟩, argTypes := ats }, ty, pos, af, gd⟩ a w K Q := by
  obtain ⟨g, n', hs⟩ := hs
  obtain rfl : n' = nx := by have := hs.hnx; rw [hnx] at this; simpa using this.symm
  have hcall := hc.calls w (cx.own g σ) (xs.map a.eval) (fun b hb => own_lt hs hb) (hsub.out.1.ok hs hsub.out.2)
  unfold Oper.wp
  rw [call_run hc.run]
  refine hcall.mono fun r w' he => ?_
  obtain ⟨v, x, rfl, hb, h1, h2, h3⟩ := he
  have hG := SimG.join2 hs hb h1 h2 h3
  refine hK x _ _ (Sim.put hG (lt_of_blt hd) (Below.refl _ _) ?_ (show n' < n' + 2 by omega))
  intro e' k' rows' hg
  rw [get_cons_same] at hg
  cases hg
  exact ⟨Nat.le_refl _, fun _ => by rw [upd_ne (by omega), upd_same]⟩

/-! ### A slice of ours handed over, and another one back -/
/-- From w to w': nothing that was there has turned but the block of v. -/
structure BelowBut (v : Value) (w w' : World) : Prop where
  os : w'.os = w.os
  tape : w'.tape = w.tape
  output : w'.output = w.output
  size : w.heap.size ≤ w'.heap.size
  block : ∀ b, b < w.heap.size → blk v ≠ some b → w'.heap[b]? = w.heap[b]?
structure FnUpd (P : Program) (f : FuncId) (e k : Nat) (rows : List (List D)) (args : List Arg) (rows' : List (List D)) : Prop where
  run : ∃ fn, P.funcs[f]? = some fn ∧ (fn.name == "runtime.NumGoroutine") = false ∧ fn.body.isNone = false
  calls : ∀ (w : World) (own : Nat → Prop) (v : Value) (vs : List Value), (∀ b, own b → b < w.heap.size) → RowsAt w 0 (with1 own v) e k v rows → (∀ b, own b → blk v ≠ some b) → ArgsOk w (with1 own v) vs args →
    Calls P f (v :: vs).toArray w fun r w' => ∃ v', r = .returned v' ∧ BelowBut v w w' ∧ (∀ b, blk v' = some b → blk v = some b ∨ w.heap.size ≤ b) ∧ RowsAt w' 0 (with1 own v') e k v' rows'

theorem ok_upd {f : FuncId} {x : Operand} {xs : List Operand} {avs : List AV} {ys : List Arg} {l : List (Key × Val)} {e k id n : Nat} {rows rows' : List (List D)} {ats : Array TypeId}
    (hd : d < cx.n) (hc : FnUpd cx.P f e k rows ys rows') (hx : EvS x (.own id n)) (hn : n = rows.length) (hsub : Subs xs avs ys l) :
    OpOk cx ⟨some d, .call { callee := .value (.func f), args := ⟨x :: xs⟩, argTypes := ats }, ty, pos, af, gd⟩ ⟨rdOf x (.own id n) ++ (l ++ [(.o id, .ob (.arr e k rows)), (.nx, .num nx)]), [(.s d, .av (.own nx rows'.length)), (.o nx, .ob (.arr e k rows')), (.nx, .num (nx + 1)), (.o id, .none)]⟩ := by
  rintro σ a w K Q ⟨g, n', hs⟩ hr hK
  have hnx : n' = nx := by
    have h2 := hr.right.right.2.1
    rw [hs.hnx] at h2
    simpa using h2
  subst hnx
  have ho : get σ (.o id) = .ob (.arr e k rows) := hr.right.right.1
  have hidlt := (hs.objs id _ ho).1
  have hval : a.eval x = g id := ((hs.ev hx hr.left).1 e k rows ho).2 hn
  have hR := objRows hs ho
  -- what is kept, but for that slice
  have hown1 : ∀ b, cx.own g ((.o id, .none) :: σ) b → cx.own g σ b ∧ blk (g id) ≠ some b := by
    rintro b (h | ⟨j, o, h1, h2⟩)
    · refine ⟨.inl h, fun hb => ?_⟩
      have h3 := obj_ge hs ho hb
      have h4 := hs.own0 b h
      omega
    · by_cases hj : id = j
      · subst hj; rw [get_cons_same] at h1; cases h1
      · rw [get_cons_ne (by simpa using hj)] at h1
        exact ⟨.inr ⟨j, o, h1, h2⟩, fun hb => hj (hs.sep id j _ o b ho h1 hb h2)⟩
  have hw1 : ∀ b, with1 (cx.own g ((.o id, .none) :: σ)) (g id) b → cx.own g σ b := by
    rintro b (h | h)
    · exact (hown1 b h).1
    · exact .inr ⟨id, _, ho, h⟩
  have hcall := hc.calls w (cx.own g ((.o id, .none) :: σ)) (g id) (xs.map a.eval) (fun b hb => own_lt hs (hown1 b hb).1) (hR.re (fun b _ => Nat.zero_le _) hw1) (fun b hb => (hown1 b hb).2) ((hsub.ok hs hr.right.left).less hw1)
  unfold Oper.wp
  rw [call_run hc.run, List.map_cons, hval]
  refine hcall.mono fun r w' he => ?_
  obtain ⟨v', rfl, hbb, hpl, hR'⟩ := he
  have hge := hs.below.size
  have hbel : Below cx.w0.heap.size w w' := ⟨hbb.os, hbb.tape, hbb.output, hbb.size, fun b hb => hbb.block b (by omega) fun he => by have := obj_ge hs ho he; omega⟩
  have hext : Ext (cx.own g σ) w w' := ⟨hbb.size, fun b hb hn => hbb.block b hb fun he => hn (.inr ⟨id, _, ho, he⟩)⟩
  have hback : ∀ j o, j ≠ n' → get ((.o n', .ob (.arr e k rows')) :: (.nx, .num (n' + 1)) :: (.o id, .none) :: σ) (.o j) = .ob o → j ≠ id ∧ get σ (.o j) = .ob o := by
    intro j o1 hj h1
    rw [get_cons_ne (by simpa using fun e => hj e.symm), get_cons_ne (by simp)] at h1
    by_cases he : id = j
    · subst he; rw [get_cons_same] at h1; cases h1
    · rw [get_cons_ne (by simpa using he)] at h1
      exact ⟨fun e => he e.symm, h1⟩
  have hownin : ∀ b, cx.own (upd g n' v') ((.o n', .ob (.arr e k rows')) :: (.nx, .num (n' + 1)) :: (.o id, .none) :: σ) b → with1 (cx.own g ((.o id, .none) :: σ)) v' b := by
    rintro b (h | ⟨j, o, h1, h2⟩)
    · exact .inl (.inl h)
    · by_cases hj : j = n'
      · subst hj; rw [upd_same] at h2; exact .inr h2
      · rw [upd_ne hj] at h2
        obtain ⟨h3, h4⟩ := hback j o hj h1
        exact .inl (.inr ⟨j, o, (get_cons_ne (by simpa using fun e => h3 e.symm)).trans h4, h2⟩)
  have hl : Later cx g (upd g n' v') σ ((.o n', .ob (.arr e k rows')) :: (.nx, .num (n' + 1)) :: (.o id, .none) :: σ) w w' n' := by
    refine ⟨hext, hbel, fun b hb => ?_, fun j o1 hj h1 => ?_⟩
    · rcases hownin b hb with h | h
      · exact .inl (hown1 b h).1
      · rcases hpl b h with h | h
        · exact .inl (.inr ⟨id, _, ho, h⟩)
        · exact .inr h
    · have hjn : j ≠ n' := by omega
      refine ⟨o1, (hback j o1 hjn h1).2, ?_⟩
      cases o1 <;> simp [ObLe, upd_ne hjn]
  have hG : SimG cx ((.o n', .ob (.arr e k rows')) :: (.nx, .num (n' + 1)) :: (.o id, .none) :: σ) a w' (upd g n' v') (n' + 1) := by
    refine hs.next hl (by rw [get_cons_ne (by simp), get_cons_same]) (Nat.le_succ _) hs.size hs.defers hbel (fun j av hj => .inl ⟨?_, rfl⟩) (fun j o1 hj => ?_) (fun j j' o1 o2 b h1 h2 h3 h4 => ?_)
    · rw [get_cons_ne (by simp), get_cons_ne (by simp), get_cons_ne (by simp)] at hj; exact hj
    · by_cases hjn : j = n'
      · subst hjn
        rw [get_cons_same] at hj
        cases hj
        refine .inr ⟨Nat.lt_succ_self _, ?_, trivial⟩
        show RowsAt w' cx.w0.heap.size _ e k (upd g j v' j) rows'
        rw [upd_same]
        refine hR'.re (fun b hb => ?_) hownin
        rcases hpl b hb with h | h
        · exact (hR.lt h).1
        · omega
      · obtain ⟨h5, h6⟩ := hback j o1 hjn hj
        exact .inl ⟨h6, upd_ne hjn, fun b hb => hbb.block b (own_lt hs (.inr ⟨j, o1, h6, hb⟩)) fun he => h5 (hs.sep j id o1 _ b h6 ho hb he)⟩
    · have hone : ∀ j o1, j ≠ n' → get ((.o n', .ob (.arr e k rows')) :: (.nx, .num (n' + 1)) :: (.o id, .none) :: σ) (.o j) = .ob o1 → blk (upd g n' v' j) = some b → blk v' = some b → False := by
        intro j o1 hj hj1 hjb hvb
        rw [upd_ne hj] at hjb
        obtain ⟨h5, h6⟩ := hback j o1 hj hj1
        rcases hpl b hvb with h | h
        · exact h5 (hs.sep j id o1 _ b h6 ho hjb h)
        · have := own_lt hs (.inr ⟨j, o1, h6, hjb⟩); omega
      by_cases he : j = n'
      · by_cases he' : j' = n'
        · rw [he, he']
        · subst he; rw [upd_same] at h3; exact (hone j' o2 he' h2 h4 h3).elim
      · by_cases he' : j' = n'
        · subst he'; rw [upd_same] at h4; exact (hone j o1 he h1 h3 h4).elim
        · obtain ⟨_, h6⟩ := hback j o1 he h1
          obtain ⟨_, h8⟩ := hback j' o2 he' h2
          rw [upd_ne he] at h3
          rw [upd_ne he'] at h4
          exact hs.sep j j' o1 o2 b h6 h8 h3 h4
  refine hK _ _ (Sim.put hG hd (Below.refl _ _) ?_ (Nat.lt_succ_self _))
  intro e' k' rows'' hg
  rw [get_cons_same] at hg
  cases hg
  exact ⟨Nat.le_refl _, fun _ => by rw [upd_same]⟩
theorem a_upd {f : FuncId} {x : Operand} {xs : List Operand} {avs : List AV} {ys : List Arg} {l : List (Key × Val)} {e k id n : Nat} {rows rows' : List (List D)} {ats : Array TypeId}
    (hc : FnUpd cx.P f e k rows ys rows') (hx : ev σ x = some (.own id n)) (ho : get σ (.o id) = .ob (.arr e k rows)) (hnx : get σ .nx = .num nx) (hn : n = rows.length) (hd : Nat.blt d cx.n = true) (hsub : SubsE σ xs avs ys l) :
    OA cx σ ⟨some d, .call { callee := .value (.func f), args := ⟨x :: xs⟩, argTypes := ats }, ty, pos, af, gd⟩ ⟨rdOf x (.own id n) ++ (l ++ [(.o id, .ob (.arr e k rows)), (.nx, .num nx)]), [(.s d, .av (.own nx rows'.length)), (.o nx, .ob (.arr e k rows')), (.nx, .num (nx + 1)), (.o id, .none)]⟩ :=
  ⟨ok_upd (lt_of_blt hd) hc (ev_out hx).1 hn hsub.out.1, (ev_out hx).2.append (hsub.out.2.append ⟨ho, hnx, trivial⟩)⟩

end Go.AX

/-! G1 -/
/-
  Contracts of the library's Clone: what comes back is the caller's own.
-/
namespace Go.Proofs.Ytnhnnkljlglhbaa
open Go.AX Go.RF

set_option maxRecDepth 100000
set_option maxHeartbeats 4000000

theorem new_clone_version (rows : List (List D)) (hl : rows.length ≤ 536870912) : FnNew Try.prog 25 [.d (.sl 4 rows)] 26 4 rows := by
  refine fnNew_of tbl_ok mixed_ok Try.func25 rfl (by kernel_rfl) rfl rfl fun w0 own0 => ?_
  cases rows with
  | nil =>
    refine CW.empty 0 rfl fun p cp => ?_
    cases p with
    | none =>
      repeat (first | ((with_reducible apply s1); exact rfl) | (with_reducible first | apply CW.seq | apply CW.block | apply CW.region | apply CW.draw | apply CW.skip | apply CW.exit | apply CW.ret | apply q_then | apply q_then_exit | apply q_then_ret | apply q_block | apply q_block_ret | apply q_block_hit | apply q_ret | apply q_end | apply q_loop_exit | apply q_loop_ret | apply q_loopT_exit | apply q_loopT_ret | apply RW.nil) | ((with_reducible apply s3); exact rfl; exact by_k) | ((with_reducible apply s2); exact rfl; exact by_k) | ((with_reducible apply s4); exact rfl) | ((with_reducible apply s5); (first | exact by_oa); exact by_g) | ((with_reducible apply CW.cond_t); exact rfl; exact by_ks) | ((with_reducible apply CW.cond_f); exact rfl; exact by_ks) | ((with_reducible apply q_block_miss); exact rfl) | (refine And.intro (show chk [] [] _ _ = true by kernel_rfl) ?_))
      exact RetNew.nil rfl rfl
    | some ad =>
      repeat (first | (with_reducible apply stop_reg 3) | ((with_reducible apply s1); exact rfl) | (with_reducible first | apply CW.seq | apply CW.block | apply CW.region | apply CW.draw | apply CW.skip | apply CW.exit | apply CW.ret | apply q_then | apply q_then_exit | apply q_then_ret | apply q_block | apply q_block_ret | apply q_block_hit | apply q_ret | apply q_end | apply q_loop_exit | apply q_loop_ret | apply q_loopT_exit | apply q_loopT_ret | apply RW.nil) | ((with_reducible apply s3); exact rfl; exact by_k) | ((with_reducible apply s2); exact rfl; exact by_k) | ((with_reducible apply s4); exact rfl) | ((with_reducible apply s5); (first | exact by_oa); exact by_g) | ((with_reducible apply CW.cond_t); exact rfl; exact by_ks) | ((with_reducible apply CW.cond_f); exact rfl; exact by_ks) | ((with_reducible apply q_block_miss); exact rfl) | (refine And.intro (show chk [] [] _ _ = true by kernel_rfl) ?_))
      refine Stop.go (CW.stut (stut_nilv (i := 0) (k := 4)) ⟨rfl, trivial⟩ ?_)
      repeat (first | ((with_reducible apply s1); exact rfl) | (with_reducible first | apply CW.seq | apply CW.block | apply CW.region | apply CW.draw | apply CW.skip | apply CW.exit | apply CW.ret | apply q_then | apply q_then_exit | apply q_then_ret | apply q_block | apply q_block_ret | apply q_block_hit | apply q_ret | apply q_end | apply q_loop_exit | apply q_loop_ret | apply q_loopT_exit | apply q_loopT_ret | apply RW.nil) | ((with_reducible apply s3); exact rfl; exact by_k) | ((with_reducible apply s2); exact rfl; exact by_k) | ((with_reducible apply s4); exact rfl) | ((with_reducible apply s5); (first | exact by_oa); exact by_g) | ((with_reducible apply CW.cond_t); exact rfl; exact by_ks) | ((with_reducible apply CW.cond_f); exact rfl; exact by_ks) | ((with_reducible apply q_block_miss); exact rfl) | (refine And.intro (show chk [] [] _ _ = true by kernel_rfl) ?_))
      exact RetNew.own rfl rfl rfl
  | cons r rows =>
    have hl2 : rows.length ≤ 536870911 := by simp at hl; omega
    repeat (first | ((with_reducible apply s1); exact rfl) | (with_reducible first | apply CW.seq | apply CW.block | apply CW.region | apply CW.draw | apply CW.skip | apply CW.exit | apply CW.ret | apply q_then | apply q_then_exit | apply q_then_ret | apply q_block | apply q_block_ret | apply q_block_hit | apply q_ret | apply q_end | apply q_loop_exit | apply q_loop_ret | apply q_loopT_exit | apply q_loopT_ret | apply RW.nil) | ((with_reducible apply s3); exact rfl; exact by_k) | ((with_reducible apply s2); exact rfl; exact by_k) | ((with_reducible apply s4); exact rfl) | ((with_reducible apply s5); (first | exact by_oa); exact by_g) | ((with_reducible apply CW.cond_t); exact rfl; exact by_ks) | ((with_reducible apply CW.cond_f); exact rfl; exact by_ks) | ((with_reducible apply q_block_miss); exact rfl) | (refine And.intro (show chk [] [] _ _ = true by kernel_rfl) ?_))
    exact RetNew.own rfl rfl (by simp)
theorem ok_clone_version (rows : List (List D)) (hl : rows.length ≤ 536870912) : FnOk Try.prog 25 [.d (.sl 4 rows)] (.one (.sl 4 rows)) := (new_clone_version rows hl).ok

end Go.Proofs.Ytnhnnkljlglhbaa

/-! G3 -/
/-
  Contracts of the program's copies, and of what it counts in engines.
-/
namespace Go.Proofs.Ytnhnnkljlglhbaa
open Go.AX Go.RF

set_option maxRecDepth 100000
set_option maxHeartbeats 4000000

theorem ok_chainOwn (l : List Chain) (hl : l.length ≤ 268435456) (hv : ∀ c ∈ l, c.vs.length ≤ 268435456) : FnOk Try.prog 9 [.d (encChains l)] (.one (encChains l)) := by
  refine fnOk_of tbl_ok mixed_ok Try.func9 rfl (by kernel_rfl) rfl rfl fun w0 own0 => ?_
  repeat (first | ((with_reducible apply s1); exact rfl) | (with_reducible first | apply CW.seq | apply CW.block | apply CW.region | apply CW.draw | apply CW.skip | apply CW.exit | apply CW.ret | apply q_then | apply q_then_exit | apply q_then_ret | apply q_block | apply q_block_ret | apply q_block_hit | apply q_ret | apply q_end | apply q_loop_exit | apply q_loop_ret | apply q_loopT_exit | apply q_loopT_ret | apply RW.nil) | ((with_reducible apply s3); exact rfl; exact by_k) | ((with_reducible apply s2); exact rfl; exact by_k) | ((with_reducible apply s4); exact rfl) | ((with_reducible apply s5); (first | exact by_oa); exact by_g) | ((with_reducible apply CW.cond_t); exact rfl; exact by_ks) | ((with_reducible apply CW.cond_f); exact rfl; exact by_ks) | ((with_reducible apply q_block_miss); exact rfl) | (refine And.intro (show chk [] [] _ _ = true by kernel_rfl) ?_))
  refine CW.stut (stut_promote (i := 3) 45 2) ⟨rfl, rfl, trivial⟩ ?_
  refine CW.loopT (fun i : Nat => [sd 6 (encChains l), sd 7 (dint l.length), sd 8 (dint i), so 3 0 i, oa 0 45 2 ((l.take i).map Chain.enc), nxt 1]) (fun i => i ≤ l.length) (fun i => l.length - i) 0 (by omega) ?_ ?_
  ·
    exact by_less
  · rintro i hi
    rcases drop_case hi with ⟨h1, h2⟩ | ⟨c, h1, h2, h3⟩
    ·
      repeat (first | ((with_reducible apply s1); exact rfl) | (with_reducible first | apply CW.seq | apply CW.block | apply CW.region | apply CW.draw | apply CW.skip | apply CW.exit | apply CW.ret | apply q_then | apply q_then_exit | apply q_then_ret | apply q_block | apply q_block_ret | apply q_block_hit | apply q_ret | apply q_end | apply q_loop_exit | apply q_loop_ret | apply q_loopT_exit | apply q_loopT_ret | apply RW.nil) | ((with_reducible apply s3); exact rfl; exact by_k) | ((with_reducible apply s2); exact rfl; exact by_k) | ((with_reducible apply s4); exact rfl) | ((with_reducible apply s5); (first | exact by_oa); exact by_g) | ((with_reducible apply CW.cond_t); exact rfl; exact by_ks) | ((with_reducible apply CW.cond_f); exact rfl; exact by_ks) | ((with_reducible apply q_block_miss); exact rfl) | (refine And.intro (show chk [] [] _ _ = true by kernel_rfl) ?_))
      exact .one (.tmp rfl (.one (.own rfl (by simp; omega) (dle_eq (by rw [h2, List.take_length]; rfl)))))
    · have h4 : (l.take i).map Chain.enc ++ [c.enc] = (l.take (i + 1)).map Chain.enc := by rw [List.take_add_one, h2]; simp
      have hcv := hv c (List.mem_of_getElem? h2)
      have hc := ok_clone_version (c.vs.map Version.enc) (by simp; omega)
      repeat (first | ((with_reducible apply s1); exact rfl) | (with_reducible first | apply CW.seq | apply CW.block | apply CW.region | apply CW.draw | apply CW.skip | apply CW.exit | apply CW.ret | apply q_then | apply q_then_exit | apply q_then_ret | apply q_block | apply q_block_ret | apply q_block_hit | apply q_ret | apply q_end | apply q_loop_exit | apply q_loop_ret | apply q_loopT_exit | apply q_loopT_ret | apply RW.nil) | ((with_reducible apply s3); exact rfl; exact by_k) | ((with_reducible apply s2); exact rfl; exact by_k) | ((with_reducible apply s4); exact rfl) | ((with_reducible apply s5); (first | (focus ((with_reducible apply a_call); exact hc; exact rfl; (repeat (first | exact SubsE.nil | (apply SubsE.cons; exact rfl; (first | exact .d (.refl _) | exact .d (.nil _) | exact .agg rfl (.refl _) | exact .pd | exact .ptr rfl); (first | exact trivial | exact ⟨rfl, trivial⟩)))); done)) | exact by_oa); exact by_g) | ((with_reducible apply CW.cond_t); exact rfl; exact by_ks) | ((with_reducible apply CW.cond_f); exact rfl; exact by_ks) | ((with_reducible apply q_block_miss); exact rfl) | (refine And.intro (show chk [] [] _ _ = true by kernel_rfl) ?_))
      refine q_loopT (i + 1) (by omega) (by omega) ?_
      exact by_less

end Go.Proofs.Ytnhnnkljlglhbaa

/-! G4 -/
/-
  Contracts of the program's Clear of chains, Of, Size, Mark.
-/
namespace Go.Proofs.Ytnhnnkljlglhbaa
open Go.AX Go.RF

set_option maxRecDepth 100000
set_option maxHeartbeats 8000000

def lastGo (b : Int) : Nat → Int → List Version → Int
  | _, la, [] => la
  | k, la, v :: r => lastGo b (k + 1) (if v.by_ < b then (k : Int) else la) r
def keepB (la : Int) (k : Nat) (v : Version) : Bool := decide (la ≤ k) && !(decide ((k : Int) = la) && (v.made && !v.has))
def keepGo (la : Int) : Nat → List Version → List Version
  | _, [] => []
  | k, v :: r => if keepB la k v = true then v :: keepGo la (k + 1) r else keepGo la (k + 1) r
def pclrV (b : Int) (l : List Version) : List Version := keepGo (lastGo b 0 (-1) l) 0 l
def pclear (b : Int) : List Chain → List Chain
  | [] => []
  | c :: r => if pclrV b c.vs = [] then pclear b r else ⟨c.key, pclrV b c.vs⟩ :: pclear b r

theorem ok_pclear (l : List Chain) (b : Int) (hl : l.length ≤ 268435456) (hv : ∀ c ∈ l, c.vs.length ≤ 268435456) : FnOk Try.prog 16 [.d (encChains l), .d (dint b)] (.one (encChains (pclear b l))) := by
  refine fnOk_of tbl_ok mixed_ok Try.func16 rfl (by kernel_rfl) rfl rfl fun w0 own0 => ?_
  repeat (first | ((with_reducible apply s1); exact rfl) | (with_reducible first | apply CW.seq | apply CW.block | apply CW.region | apply CW.draw | apply CW.skip | apply CW.exit | apply CW.ret | apply q_then | apply q_then_exit | apply q_then_ret | apply q_block | apply q_block_ret | apply q_block_hit | apply q_ret | apply q_end | apply q_loop_exit | apply q_loop_ret | apply q_loopT_exit | apply q_loopT_ret | apply RW.nil) | ((with_reducible apply s3); exact rfl; exact by_k) | ((with_reducible apply s2); exact rfl; exact by_k) | ((with_reducible apply s4); exact rfl) | ((with_reducible apply s5); (first | exact by_oa); exact by_g) | ((with_reducible apply CW.cond_t); exact rfl; exact by_ks) | ((with_reducible apply CW.cond_f); exact rfl; exact by_ks) | ((with_reducible apply q_block_miss); exact rfl) | (refine And.intro (show chk [] [] _ _ = true by kernel_rfl) ?_))
  refine CW.stut (stut_promote (i := 5) 45 2) ⟨rfl, rfl, trivial⟩ ?_
  refine CW.loopT (fun t : Nat × List Chain => [sd 1 (dint b), so 5 0 t.2.length, oa 0 45 2 (t.2.map Chain.enc), sd 14 (encChains l), sd 15 (dint l.length), sd 16 (dint t.1), nxt 1])
    (fun t => t.1 ≤ l.length ∧ t.2.length ≤ t.1 ∧ t.2 ++ pclear b (l.drop t.1) = pclear b l) (fun t => l.length - t.1) (0, []) ⟨by omega, by simp, rfl⟩ ?_ ?_
  ·
    exact by_less
  · rintro ⟨i, out⟩ ⟨hi, ho, hI⟩
    dsimp only at hi ho hI ⊢
    rcases drop_case hi with ⟨h1, h2⟩ | ⟨c, h1, h2, h3⟩
    · rw [h1, pclear, List.append_nil] at hI
      repeat (first | ((with_reducible apply s1); exact rfl) | (with_reducible first | apply CW.seq | apply CW.block | apply CW.region | apply CW.draw | apply CW.skip | apply CW.exit | apply CW.ret | apply q_then | apply q_then_exit | apply q_then_ret | apply q_block | apply q_block_ret | apply q_block_hit | apply q_ret | apply q_end | apply q_loop_exit | apply q_loop_ret | apply q_loopT_exit | apply q_loopT_ret | apply RW.nil) | ((with_reducible apply s3); exact rfl; exact by_k) | ((with_reducible apply s2); exact rfl; exact by_k) | ((with_reducible apply s4); exact rfl) | ((with_reducible apply s5); (first | exact by_oa); exact by_g) | ((with_reducible apply CW.cond_t); exact rfl; exact by_ks) | ((with_reducible apply CW.cond_f); exact rfl; exact by_ks) | ((with_reducible apply q_block_miss); exact rfl) | (refine And.intro (show chk [] [] _ _ = true by kernel_rfl) ?_))
      rw [← hI]
      exact .one (.tmp rfl (.one (.own rfl (by simp) (.refl _))))
    · rw [h1, pclear] at hI
      have hcv := hv c (List.mem_of_getElem? h2)
      repeat (first | ((with_reducible apply s1); exact rfl) | (with_reducible first | apply CW.seq | apply CW.block | apply CW.region | apply CW.draw | apply CW.skip | apply CW.exit | apply CW.ret | apply q_then | apply q_then_exit | apply q_then_ret | apply q_block | apply q_block_ret | apply q_block_hit | apply q_ret | apply q_end | apply q_loop_exit | apply q_loop_ret | apply q_loopT_exit | apply q_loopT_ret | apply RW.nil) | ((with_reducible apply s3); exact rfl; exact by_k) | ((with_reducible apply s2); exact rfl; exact by_k) | ((with_reducible apply s4); exact rfl) | ((with_reducible apply s5); (first | exact by_oa); exact by_g) | ((with_reducible apply CW.cond_t); exact rfl; exact by_ks) | ((with_reducible apply CW.cond_f); exact rfl; exact by_ks) | ((with_reducible apply q_block_miss); exact rfl) | (refine And.intro (show chk [] [] _ _ = true by kernel_rfl) ?_))
      refine CW.loopT (fun t : Nat × Int => [sd 1 (dint b), so 5 0 out.length, oa 0 45 2 (out.map Chain.enc), sd 14 (encChains l), sd 15 (dint l.length), sd 16 (dint i), sp 7 1, ob 1 c.enc, sd 8 (dint t.2), sd 21 (encVs c.vs), sd 22 (dint c.vs.length), sd 23 (dint t.1), nxt 2])
        (fun t => t.1 ≤ c.vs.length ∧ lastGo b t.1 t.2 (c.vs.drop t.1) = lastGo b 0 (-1) c.vs) (fun t => c.vs.length - t.1) (0, -1) ⟨by omega, rfl⟩ ?_ ?_
      ·
        exact by_less
      · rintro ⟨j, la⟩ ⟨hj, hJ⟩
        dsimp only at hj hJ ⊢
        rcases drop_case hj with ⟨h5, h6⟩ | ⟨x, h5, h6, h7⟩
        · rw [h5, lastGo] at hJ
          rw [pclrV, ← hJ] at hI
          clear hJ h5
          repeat (first | ((with_reducible apply s1); exact rfl) | (with_reducible first | apply CW.seq | apply CW.block | apply CW.region | apply CW.draw | apply CW.skip | apply CW.exit | apply CW.ret | apply q_then | apply q_then_exit | apply q_then_ret | apply q_block | apply q_block_ret | apply q_block_hit | apply q_ret | apply q_end | apply q_loop_exit | apply q_loop_ret | apply q_loopT_exit | apply q_loopT_ret | apply RW.nil) | ((with_reducible apply s3); exact rfl; exact by_k) | ((with_reducible apply s2); exact rfl; exact by_k) | ((with_reducible apply s4); exact rfl) | ((with_reducible apply s5); (first | exact by_oa); exact by_g) | ((with_reducible apply CW.cond_t); exact rfl; exact by_ks) | ((with_reducible apply CW.cond_f); exact rfl; exact by_ks) | ((with_reducible apply q_block_miss); exact rfl) | (refine And.intro (show chk [] [] _ _ = true by kernel_rfl) ?_))
          refine CW.stut (stut_promote (i := 11) 26 4) ⟨rfl, rfl, trivial⟩ ?_
          refine CW.loopT (fun t : Nat × List Version => [sd 1 (dint b), so 5 0 out.length, oa 0 45 2 (out.map Chain.enc), sd 14 (encChains l), sd 15 (dint l.length), sd 16 (dint i), sp 7 1, ob 1 c.enc, sd 8 (dint la), so 11 2 t.2.length, oa 2 26 4 (t.2.map Version.enc), sd 35 (encVs c.vs), sd 36 (dint c.vs.length), sd 37 (dint t.1), nxt 3])
            (fun t => t.1 ≤ c.vs.length ∧ t.2.length ≤ t.1 ∧ t.2 ++ keepGo la t.1 (c.vs.drop t.1) = keepGo la 0 c.vs) (fun t => c.vs.length - t.1) (0, []) ⟨by omega, by simp, rfl⟩ ?_ ?_
          ·
            exact by_less
          · rintro ⟨k, vs⟩ ⟨hk, hvs, hK⟩
            dsimp only at hk hvs hK ⊢
            rcases drop_case hk with ⟨g1, g2⟩ | ⟨x, g1, g2, g3⟩
            · rw [g1, keepGo, List.append_nil] at hK
              rw [← hK] at hI
              repeat (first | (with_reducible apply stop_reg 19) | ((with_reducible apply s1); exact rfl) | (with_reducible first | apply CW.seq | apply CW.block | apply CW.region | apply CW.draw | apply CW.skip | apply CW.exit | apply CW.ret | apply q_then | apply q_then_exit | apply q_then_ret | apply q_block | apply q_block_ret | apply q_block_hit | apply q_ret | apply q_end | apply q_loop_exit | apply q_loop_ret | apply q_loopT_exit | apply q_loopT_ret | apply RW.nil) | ((with_reducible apply s3); exact rfl; exact by_k) | ((with_reducible apply s2); exact rfl; exact by_k) | ((with_reducible apply s4); exact rfl) | ((with_reducible apply s5); (first | exact by_oa); exact by_g) | ((with_reducible apply CW.cond_t); exact rfl; exact by_ks) | ((with_reducible apply CW.cond_f); exact rfl; exact by_ks) | ((with_reducible apply q_block_miss); exact rfl) | (refine And.intro (show chk [] [] _ _ = true by kernel_rfl) ?_))
              refine Stop.go (CW.stut (stut_freeze (i := 11) (id := 2) (by simp)) ⟨rfl, rfl, trivial⟩ ?_)
              cases vs with
              | nil =>
                rw [if_pos rfl] at hI
                repeat (first | ((with_reducible apply s1); exact rfl) | (with_reducible first | apply CW.seq | apply CW.block | apply CW.region | apply CW.draw | apply CW.skip | apply CW.exit | apply CW.ret | apply q_then | apply q_then_exit | apply q_then_ret | apply q_block | apply q_block_ret | apply q_block_hit | apply q_ret | apply q_end | apply q_loop_exit | apply q_loop_ret | apply q_loopT_exit | apply q_loopT_ret | apply RW.nil) | ((with_reducible apply s3); exact rfl; exact by_k) | ((with_reducible apply s2); exact rfl; exact by_k) | ((with_reducible apply s4); exact rfl) | ((with_reducible apply s5); (first | exact by_oa); exact by_g) | ((with_reducible apply CW.cond_t); exact rfl; exact by_ks) | ((with_reducible apply CW.cond_f); exact rfl; exact by_ks) | ((with_reducible apply q_block_miss); exact rfl) | (refine And.intro (show chk [] [] _ _ = true by kernel_rfl) ?_))
                refine q_loopT (i + 1, out) ⟨by dsimp only; omega, by dsimp only; omega, hI⟩ (by dsimp only; omega) ?_
                exact by_less
              | cons v0 vs =>
                rw [if_neg (by simp)] at hI
                repeat (first | ((with_reducible apply s1); exact rfl) | (with_reducible first | apply CW.seq | apply CW.block | apply CW.region | apply CW.draw | apply CW.skip | apply CW.exit | apply CW.ret | apply q_then | apply q_then_exit | apply q_then_ret | apply q_block | apply q_block_ret | apply q_block_hit | apply q_ret | apply q_end | apply q_loop_exit | apply q_loop_ret | apply q_loopT_exit | apply q_loopT_ret | apply RW.nil) | ((with_reducible apply s3); exact rfl; exact by_k) | ((with_reducible apply s2); exact rfl; exact by_k) | ((with_reducible apply s4); exact rfl) | ((with_reducible apply s5); (first | exact by_oa); exact by_g) | ((with_reducible apply CW.cond_t); exact rfl; exact by_ks) | ((with_reducible apply CW.cond_f); exact rfl; exact by_ks) | ((with_reducible apply q_block_miss); exact rfl) | (refine And.intro (show chk [] [] _ _ = true by kernel_rfl) ?_))
                refine q_loopT (i + 1, out ++ [⟨c.key, v0 :: vs⟩]) ⟨by dsimp only; omega, by dsimp only; simp; omega, by rw [← hI]; simp⟩ (by dsimp only; omega) ?_
                exact by_less
            · rw [g1, keepGo] at hK
              obtain ⟨xb, xm, xh, xn⟩ := x
              have hyes : keepB la k ⟨xb, xm, xh, xn⟩ = true → (vs ++ [⟨xb, xm, xh, xn⟩]) ++ keepGo la (k + 1) (c.vs.drop (k + 1)) = keepGo la 0 c.vs := fun e => by
                rw [if_pos e] at hK; rw [← hK]; simp
              have hno : keepB la k ⟨xb, xm, xh, xn⟩ = false → vs ++ keepGo la (k + 1) (c.vs.drop (k + 1)) = keepGo la 0 c.vs := fun e => by
                rw [if_neg (by rw [e]; simp)] at hK; exact hK
              clear hK
              by_cases e1 : la ≤ (k : Int)
              · by_cases e2 : (k : Int) = la
                · cases xm
                  ·
                    repeat (first | ((with_reducible apply s1); exact rfl) | (with_reducible first | apply CW.seq | apply CW.block | apply CW.region | apply CW.draw | apply CW.skip | apply CW.exit | apply CW.ret | apply q_then | apply q_then_exit | apply q_then_ret | apply q_block | apply q_block_ret | apply q_block_hit | apply q_ret | apply q_end | apply q_loop_exit | apply q_loop_ret | apply q_loopT_exit | apply q_loopT_ret | apply RW.nil) | ((with_reducible apply s3); exact rfl; exact by_k) | ((with_reducible apply s2); exact rfl; exact by_k) | ((with_reducible apply s4); exact rfl) | ((with_reducible apply s5); (first | exact by_oa); exact by_g) | ((with_reducible apply CW.cond_t); exact rfl; exact by_ks) | ((with_reducible apply CW.cond_f); exact rfl; exact by_ks) | ((with_reducible apply q_block_miss); exact rfl) | (refine And.intro (show chk [] [] _ _ = true by kernel_rfl) ?_))
                    refine q_loopT (k + 1, vs ++ [⟨xb, false, xh, xn⟩]) ⟨by dsimp only; omega, by dsimp only; simp; omega, hyes (by simp [keepB, e1])⟩ (by dsimp only; omega) ?_
                    exact by_less
                  · cases xh
                    ·
                      repeat (first | ((with_reducible apply s1); exact rfl) | (with_reducible first | apply CW.seq | apply CW.block | apply CW.region | apply CW.draw | apply CW.skip | apply CW.exit | apply CW.ret | apply q_then | apply q_then_exit | apply q_then_ret | apply q_block | apply q_block_ret | apply q_block_hit | apply q_ret | apply q_end | apply q_loop_exit | apply q_loop_ret | apply q_loopT_exit | apply q_loopT_ret | apply RW.nil) | ((with_reducible apply s3); exact rfl; exact by_k) | ((with_reducible apply s2); exact rfl; exact by_k) | ((with_reducible apply s4); exact rfl) | ((with_reducible apply s5); (first | exact by_oa); exact by_g) | ((with_reducible apply CW.cond_t); exact rfl; exact by_ks) | ((with_reducible apply CW.cond_f); exact rfl; exact by_ks) | ((with_reducible apply q_block_miss); exact rfl) | (refine And.intro (show chk [] [] _ _ = true by kernel_rfl) ?_))
                      refine q_loopT (k + 1, vs) ⟨by dsimp only; omega, by dsimp only; omega, hno (by simp [keepB, e2])⟩ (by dsimp only; omega) ?_
                      exact by_less
                    ·
                      repeat (first | ((with_reducible apply s1); exact rfl) | (with_reducible first | apply CW.seq | apply CW.block | apply CW.region | apply CW.draw | apply CW.skip | apply CW.exit | apply CW.ret | apply q_then | apply q_then_exit | apply q_then_ret | apply q_block | apply q_block_ret | apply q_block_hit | apply q_ret | apply q_end | apply q_loop_exit | apply q_loop_ret | apply q_loopT_exit | apply q_loopT_ret | apply RW.nil) | ((with_reducible apply s3); exact rfl; exact by_k) | ((with_reducible apply s2); exact rfl; exact by_k) | ((with_reducible apply s4); exact rfl) | ((with_reducible apply s5); (first | exact by_oa); exact by_g) | ((with_reducible apply CW.cond_t); exact rfl; exact by_ks) | ((with_reducible apply CW.cond_f); exact rfl; exact by_ks) | ((with_reducible apply q_block_miss); exact rfl) | (refine And.intro (show chk [] [] _ _ = true by kernel_rfl) ?_))
                      refine q_loopT (k + 1, vs ++ [⟨xb, true, true, xn⟩]) ⟨by dsimp only; omega, by dsimp only; simp; omega, hyes (by simp [keepB, e1])⟩ (by dsimp only; omega) ?_
                      exact by_less
                ·
                  repeat (first | ((with_reducible apply s1); exact rfl) | (with_reducible first | apply CW.seq | apply CW.block | apply CW.region | apply CW.draw | apply CW.skip | apply CW.exit | apply CW.ret | apply q_then | apply q_then_exit | apply q_then_ret | apply q_block | apply q_block_ret | apply q_block_hit | apply q_ret | apply q_end | apply q_loop_exit | apply q_loop_ret | apply q_loopT_exit | apply q_loopT_ret | apply RW.nil) | ((with_reducible apply s3); exact rfl; exact by_k) | ((with_reducible apply s2); exact rfl; exact by_k) | ((with_reducible apply s4); exact rfl) | ((with_reducible apply s5); (first | exact by_oa); exact by_g) | ((with_reducible apply CW.cond_t); exact rfl; exact by_ks) | ((with_reducible apply CW.cond_f); exact rfl; exact by_ks) | ((with_reducible apply q_block_miss); exact rfl) | (refine And.intro (show chk [] [] _ _ = true by kernel_rfl) ?_))
                  refine q_loopT (k + 1, vs ++ [⟨xb, xm, xh, xn⟩]) ⟨by dsimp only; omega, by dsimp only; simp; omega, hyes (by simp [keepB, e1, e2])⟩ (by dsimp only; omega) ?_
                  exact by_less
              ·
                repeat (first | ((with_reducible apply s1); exact rfl) | (with_reducible first | apply CW.seq | apply CW.block | apply CW.region | apply CW.draw | apply CW.skip | apply CW.exit | apply CW.ret | apply q_then | apply q_then_exit | apply q_then_ret | apply q_block | apply q_block_ret | apply q_block_hit | apply q_ret | apply q_end | apply q_loop_exit | apply q_loop_ret | apply q_loopT_exit | apply q_loopT_ret | apply RW.nil) | ((with_reducible apply s3); exact rfl; exact by_k) | ((with_reducible apply s2); exact rfl; exact by_k) | ((with_reducible apply s4); exact rfl) | ((with_reducible apply s5); (first | exact by_oa); exact by_g) | ((with_reducible apply CW.cond_t); exact rfl; exact by_ks) | ((with_reducible apply CW.cond_f); exact rfl; exact by_ks) | ((with_reducible apply q_block_miss); exact rfl) | (refine And.intro (show chk [] [] _ _ = true by kernel_rfl) ?_))
                refine q_loopT (k + 1, vs) ⟨by dsimp only; omega, by dsimp only; omega, hno (by simp [keepB, e1])⟩ (by dsimp only; omega) ?_
                exact by_less
        · rw [h5, lastGo] at hJ
          by_cases h8 : x.by_ < b
          · rw [if_pos h8] at hJ
            repeat (first | ((with_reducible apply s1); exact rfl) | (with_reducible first | apply CW.seq | apply CW.block | apply CW.region | apply CW.draw | apply CW.skip | apply CW.exit | apply CW.ret | apply q_then | apply q_then_exit | apply q_then_ret | apply q_block | apply q_block_ret | apply q_block_hit | apply q_ret | apply q_end | apply q_loop_exit | apply q_loop_ret | apply q_loopT_exit | apply q_loopT_ret | apply RW.nil) | ((with_reducible apply s3); exact rfl; exact by_k) | ((with_reducible apply s2); exact rfl; exact by_k) | ((with_reducible apply s4); exact rfl) | ((with_reducible apply s5); (first | exact by_oa); exact by_g) | ((with_reducible apply CW.cond_t); exact rfl; exact by_ks) | ((with_reducible apply CW.cond_f); exact rfl; exact by_ks) | ((with_reducible apply q_block_miss); exact rfl) | (refine And.intro (show chk [] [] _ _ = true by kernel_rfl) ?_))
            refine q_loopT (j + 1, (j : Int)) ⟨by dsimp only; omega, hJ⟩ (by dsimp only; omega) ?_
            exact by_less
          · rw [if_neg h8] at hJ
            repeat (first | ((with_reducible apply s1); exact rfl) | (with_reducible first | apply CW.seq | apply CW.block | apply CW.region | apply CW.draw | apply CW.skip | apply CW.exit | apply CW.ret | apply q_then | apply q_then_exit | apply q_then_ret | apply q_block | apply q_block_ret | apply q_block_hit | apply q_ret | apply q_end | apply q_loop_exit | apply q_loop_ret | apply q_loopT_exit | apply q_loopT_ret | apply RW.nil) | ((with_reducible apply s3); exact rfl; exact by_k) | ((with_reducible apply s2); exact rfl; exact by_k) | ((with_reducible apply s4); exact rfl) | ((with_reducible apply s5); (first | exact by_oa); exact by_g) | ((with_reducible apply CW.cond_t); exact rfl; exact by_ks) | ((with_reducible apply CW.cond_f); exact rfl; exact by_ks) | ((with_reducible apply q_block_miss); exact rfl) | (refine And.intro (show chk [] [] _ _ = true by kernel_rfl) ?_))
            refine q_loopT (j + 1, la) ⟨by dsimp only; omega, hJ⟩ (by dsimp only; omega) ?_
            exact by_less

theorem ok_of (l : List Pair) (hl : l.length ≤ 134217728) : FnOk Try.prog 22 [.d (encRows l)] (.one (encChains (l.map rowChain))) := by
  refine fnOk_of tbl_ok mixed_ok Try.func22 rfl (by kernel_rfl) rfl rfl fun w0 own0 => ?_
  repeat (first | ((with_reducible apply s1); exact rfl) | (with_reducible first | apply CW.seq | apply CW.block | apply CW.region | apply CW.draw | apply CW.skip | apply CW.exit | apply CW.ret | apply q_then | apply q_then_exit | apply q_then_ret | apply q_block | apply q_block_ret | apply q_block_hit | apply q_ret | apply q_end | apply q_loop_exit | apply q_loop_ret | apply q_loopT_exit | apply q_loopT_ret | apply RW.nil) | ((with_reducible apply s3); exact rfl; exact by_k) | ((with_reducible apply s2); exact rfl; exact by_k) | ((with_reducible apply s4); exact rfl) | ((with_reducible apply s5); (first | exact by_oa); exact by_g) | ((with_reducible apply CW.cond_t); exact rfl; exact by_ks) | ((with_reducible apply CW.cond_f); exact rfl; exact by_ks) | ((with_reducible apply q_block_miss); exact rfl) | (refine And.intro (show chk [] [] _ _ = true by kernel_rfl) ?_))
  refine CW.stut (stut_promote (i := 3) 45 2) ⟨rfl, rfl, trivial⟩ ?_
  refine CW.loopT (fun i : Nat => [sd 6 (encRows l), sd 7 (dint l.length), sd 8 (dint i), so 3 0 i, oa 0 45 2 ((l.take i).map fun p => (rowChain p).enc), nxt 1]) (fun i => i ≤ l.length) (fun i => l.length - i) 0 (by omega) ?_ ?_
  ·
    exact by_less
  · rintro i hi
    rcases drop_case hi with ⟨h1, h2⟩ | ⟨p, h1, h2, h3⟩
    ·
      repeat (first | ((with_reducible apply s1); exact rfl) | (with_reducible first | apply CW.seq | apply CW.block | apply CW.region | apply CW.draw | apply CW.skip | apply CW.exit | apply CW.ret | apply q_then | apply q_then_exit | apply q_then_ret | apply q_block | apply q_block_ret | apply q_block_hit | apply q_ret | apply q_end | apply q_loop_exit | apply q_loop_ret | apply q_loopT_exit | apply q_loopT_ret | apply RW.nil) | ((with_reducible apply s3); exact rfl; exact by_k) | ((with_reducible apply s2); exact rfl; exact by_k) | ((with_reducible apply s4); exact rfl) | ((with_reducible apply s5); (first | exact by_oa); exact by_g) | ((with_reducible apply CW.cond_t); exact rfl; exact by_ks) | ((with_reducible apply CW.cond_f); exact rfl; exact by_ks) | ((with_reducible apply q_block_miss); exact rfl) | (refine And.intro (show chk [] [] _ _ = true by kernel_rfl) ?_))
      exact .one (.tmp rfl (.one (.own rfl (by simp; omega) (dle_eq (by rw [h2, List.take_length]; simp [encChains])))))
    · have h4 : (l.take i).map (fun p => (rowChain p).enc) ++ [(rowChain p).enc] = (l.take (i + 1)).map fun p => (rowChain p).enc := by rw [List.take_add_one, h2]; simp
      repeat (first | ((with_reducible apply s1); exact rfl) | (with_reducible first | apply CW.seq | apply CW.block | apply CW.region | apply CW.draw | apply CW.skip | apply CW.exit | apply CW.ret | apply q_then | apply q_then_exit | apply q_then_ret | apply q_block | apply q_block_ret | apply q_block_hit | apply q_ret | apply q_end | apply q_loop_exit | apply q_loop_ret | apply q_loopT_exit | apply q_loopT_ret | apply RW.nil) | ((with_reducible apply s3); exact rfl; exact by_k) | ((with_reducible apply s2); exact rfl; exact by_k) | ((with_reducible apply s4); exact rfl) | ((with_reducible apply s5); (first | exact by_oa); exact by_g) | ((with_reducible apply CW.cond_t); exact rfl; exact by_ks) | ((with_reducible apply CW.cond_f); exact rfl; exact by_ks) | ((with_reducible apply q_block_miss); exact rfl) | (refine And.intro (show chk [] [] _ _ = true by kernel_rfl) ?_))
      refine q_loopT (i + 1) (by omega) (by omega) ?_
      exact by_less

def sizeGo : Int → List Chain → Int
  | n, [] => n
  | n, c :: r => sizeGo (n + c.vs.length) r

end Go.Proofs.Ytnhnnkljlglhbaa

/-! P1 -/
/-
  Engines as they are built have chains in order, and versions in order: plain facts; what forgetting comes to.
-/
namespace Go.Proofs.Ytnhnnkljlglhbaa
open Go.AX Go.RF

def VSrt (l : List Version) : Prop := l.Pairwise fun a b => a.by_ < b.by_
theorem VSrt.cons {v : Version} {l : List Version} : VSrt (v :: l) ↔ (∀ w ∈ l, v.by_ < w.by_) ∧ VSrt l := List.pairwise_cons

theorem lastGo_ge {b : Int} : ∀ {l : List Version} {k : Nat} {la : Int}, (∀ v ∈ l, b ≤ v.by_) → lastGo b k la l = la
  | [], k, la, _ => rfl
  | v :: l, k, la, h => by
    have := h v (List.mem_cons_self ..)
    simp only [lastGo]
    rw [if_neg (by omega)]
    exact lastGo_ge fun w hw => h w (List.mem_cons_of_mem _ hw)
theorem lastGo_le {b : Int} : ∀ (l : List Version) {k : Nat} {la : Int}, la < k → la ≤ lastGo b k la l
  | [], k, la, _ => Int.le_refl _
  | v :: l, k, la, h => by
    simp only [lastGo]
    split
    · have := lastGo_le (b := b) l (k := k + 1) (la := (k : Int)) (by omega); omega
    · exact lastGo_le l (by omega)
theorem keepGo_all : ∀ {l : List Version} {k : Nat} {la : Int}, la < k → keepGo la k l = l
  | [], k, la, _ => rfl
  | v :: l, k, la, h => by
    simp only [keepGo]
    rw [if_pos (by simp [keepB]; omega), keepGo_all (by omega)]
theorem clrV_all {b : Int} : ∀ {l : List Version}, (∀ v ∈ l, b ≤ v.by_) → clrV b l = l
  | [], _ => rfl
  | v :: l, h => by
    have := h v (List.mem_cons_self ..)
    simp only [clrV]
    rw [if_neg (by simp [old]; omega), clrV_all fun w hw => h w (List.mem_cons_of_mem _ hw)]
theorem pclr_go {b : Int} : ∀ {l : List Version} {k : Nat} {la : Int}, VSrt l → la < k → keepGo (lastGo b k la l) k l = clrV b l
  | [], k, la, _, _ => rfl
  | v :: l, k, la, hs, hk => by
    obtain ⟨h1, h2⟩ := VSrt.cons.1 hs
    by_cases hv : v.by_ < b
    · cases l with
      | nil =>
        simp only [lastGo, if_pos hv, keepGo, clrV]
        cases hm : v.made <;> cases hh : v.has <;> simp [keepB, old, later, hv, hm, hh]
      | cons w l =>
        have ih := pclr_go (b := b) (l := w :: l) (k := k + 1) (la := (k : Int)) h2 (by omega)
        have hl : lastGo b k la (v :: w :: l) = lastGo b (k + 1) k (w :: l) := by rw [lastGo, if_pos hv]
        rw [hl]
        by_cases hw : w.by_ < b
        · have h3 : (k : Int) < lastGo b (k + 1) k (w :: l) := by
            rw [lastGo, if_pos hw]
            have := lastGo_le (b := b) l (k := k + 1 + 1) (la := ((k + 1 : Nat) : Int)) (by omega)
            omega
          rw [keepGo, if_neg (by simp [keepB]; omega), ih, clrV.eq_2 b v (w :: l), if_pos (by simp [old, later, hv, hw])]
        · have hge : ∀ x ∈ w :: l, b ≤ x.by_ := fun x hx => by
            rcases List.mem_cons.1 hx with rfl | hx
            · omega
            · have := (VSrt.cons.1 h2).1 x hx; omega
          rw [lastGo_ge hge, keepGo, keepGo_all (by omega), clrV.eq_2 b v (w :: l), clrV_all hge]
          cases hm : v.made <;> cases hh : v.has <;> simp [keepB, old, later, hv, hw, hm, hh]
    · have hge : ∀ x ∈ v :: l, b ≤ x.by_ := fun x hx => by
        rcases List.mem_cons.1 hx with rfl | hx
        · omega
        · have := h1 x hx; omega
      rw [lastGo_ge hge, keepGo_all hk, clrV_all hge]
theorem pclrV_eq {b : Int} {l : List Version} (hs : VSrt l) : pclrV b l = clrV b l := pclr_go hs (by omega)
theorem pclear_eq {b : Int} : ∀ {l : List Chain}, (∀ c ∈ l, VSrt c.vs) → pclear b l = clear b l
  | [], _ => rfl
  | c :: l, h => by
    simp only [pclear, clear]
    rw [pclrV_eq (h c (List.mem_cons_self ..)), pclear_eq fun d hd => h d (List.mem_cons_of_mem _ hd)]

theorem allB_refl {α : Type} {f : α → α → Bool} (hf : ∀ a, f a a = true) : ∀ l : List α, allB f l l = true
  | [] => rfl
  | a :: l => by simp [allB, hf, allB_refl hf l]
theorem sameC_refl (c : Chain) : sameC c c = true := by simp [sameC, allB_refl]
theorem sameE_refl (e : Engine) : sameE e e = true := by
  simp [sameE, allB_refl, sameC_refl]

/-! ### Rows that are right -/
theorem wrongRowsGo_srt : ∀ {l : List Pair} {i : Nat} {last : Str}, wrongRowsGo (i + 1) last l = 0 → (∀ p ∈ l, slt last p.key = true ∧ key p.key = true ∧ nOk p.n) ∧ Srt Pair.key l
  | [], i, last, _ => ⟨by simp, List.Pairwise.nil⟩
  | p :: l, i, last, h => by
    simp only [wrongRowsGo] at h
    by_cases h1 : key p.key = false
    · rw [if_pos h1] at h; simp at h
    rw [if_neg h1] at h
    by_cases h2 : 0 < i + 1 ∧ sle p.key last = true
    · rw [if_pos h2] at h; simp at h
    rw [if_neg h2] at h
    by_cases h3 : 1073741824 < p.n ∨ p.n < -1073741824
    · rw [if_pos h3] at h; simp at h
    rw [if_neg h3] at h
    obtain ⟨h4, h5⟩ := wrongRowsGo_srt h
    have h6 : slt last p.key = true := by
      have h7 : ¬ sle p.key last = true := fun e => h2 ⟨by omega, e⟩
      simp only [sle, Bool.or_eq_true, decide_eq_true_eq, not_or] at h7
      rcases slt_tri last p.key with h | h | h
      · exact h
      · exact absurd h.symm h7.2
      · exact absurd h h7.1
    refine ⟨fun q hq => ?_, List.pairwise_cons.2 ⟨fun q hq => (h4 q hq).1, h5⟩⟩
    rcases List.mem_cons.1 hq with rfl | hq
    · exact ⟨h6, by simpa using h1, by unfold nOk; omega⟩
    · exact ⟨slt_trans h6 (h4 q hq).1, (h4 q hq).2⟩
theorem wrongRows_srt {l : List Pair} (h : wrongRows l = 0) : Srt Pair.key l ∧ (∀ p ∈ l, key p.key = true) ∧ rowsOk l := by
  cases l with
  | nil => exact ⟨List.Pairwise.nil, by simp, by simp [rowsOk]⟩
  | cons p l =>
    simp only [wrongRows, wrongRowsGo] at h
    by_cases h1 : key p.key = false
    · rw [if_pos h1] at h; simp at h
    rw [if_neg h1, if_neg (by simp)] at h
    by_cases h3 : 1073741824 < p.n ∨ p.n < -1073741824
    · rw [if_pos h3] at h; simp at h
    rw [if_neg h3] at h
    obtain ⟨h4, h5⟩ := wrongRowsGo_srt h
    refine ⟨List.pairwise_cons.2 ⟨fun q hq => (h4 q hq).1, h5⟩, fun q hq => ?_, fun q hq => ?_⟩
    · rcases List.mem_cons.1 hq with rfl | hq
      · simpa using h1
      · exact (h4 q hq).2.1
    · rcases List.mem_cons.1 hq with rfl | hq
      · unfold nOk; omega
      · exact (h4 q hq).2.2

/-! ### A version more, in order -/
def newV (b : Int) : Version := ⟨b, false, false, 0⟩
def addS (k : Str) (b : Int) : List Chain → List Chain
  | [] => [⟨k, [newV b]⟩]
  | c :: r => if c.key = k then ⟨c.key, c.vs ++ [newV b]⟩ :: r else if slt c.key k = true then c :: addS k b r else ⟨k, [newV b]⟩ :: c :: r
theorem addGo_done {k : Str} {b : Int} : ∀ {l out : List Chain}, (∀ c ∈ l, c.key ≠ k) → addGo k b true out l = out ++ l
  | [], out, _ => by simp [addGo]
  | c :: l, out, h => by
    simp only [addGo]
    rw [if_neg (h c (List.mem_cons_self ..))]
    simp only [Bool.not_true, Bool.false_and, Bool.true_or]
    rw [addGo_done fun d hd => h d (List.mem_cons_of_mem _ hd)]
    simp
theorem addGo_srt {k : Str} {b : Int} : ∀ {l out : List Chain}, Srt Chain.key l → addGo k b false out l = out ++ addS k b l
  | [], out, _ => by simp [addGo, addS, newV]
  | c :: l, out, hs => by
    obtain ⟨h1, h2⟩ := List.pairwise_cons.1 hs
    simp only [addGo, addS]
    by_cases hk : c.key = k
    · rw [if_pos hk, if_pos hk]
      simp only [hk, slt_irrefl, decide_true, Bool.or_true, Bool.not_true, Bool.and_false]
      rw [addGo_done fun d hd => ?_]
      · simp [newV]
      · have := h1 d hd
        rw [hk] at this
        exact fun e => slt_ne this e.symm
    · rw [if_neg hk, if_neg hk]
      cases hl : slt c.key k with
      | true =>
        simp only [Bool.true_or, Bool.not_true, Bool.and_false, Bool.or_false]
        rw [addGo_srt h2]
        simp
      | false =>
        simp only [hk, decide_false, Bool.or_false, Bool.not_false, Bool.and_true, Bool.false_or]
        rw [addGo_done fun d hd => ?_]
        · simp [newV]
        · have h3 := h1 d hd
          intro e
          rcases slt_tri c.key k with h | h | h
          · rw [hl] at h; cases h
          · exact hk h
          · rw [e] at h3
            have := slt_trans h h3
            rw [slt_irrefl] at this; cases this
theorem addC_srt {k : Str} {b : Int} {l : List Chain} (hs : Srt Chain.key l) : addC l k b = addS k b l := by
  unfold addC
  rw [addGo_srt hs]
  rfl
theorem addS_mem {k : Str} {b : Int} : ∀ {l : List Chain} {c : Chain}, c ∈ addS k b l → c ∈ l ∨ c = ⟨k, [newV b]⟩ ∨ ∃ c0 ∈ l, c0.key = k ∧ c = ⟨k, c0.vs ++ [newV b]⟩
  | [], c, h => by simp [addS] at h; exact .inr (.inl h)
  | x :: l, c, h => by
    simp only [addS] at h
    by_cases hk : x.key = k
    · rw [if_pos hk] at h
      rcases List.mem_cons.1 h with rfl | h
      · exact .inr (.inr ⟨x, List.mem_cons_self .., hk, by rw [hk]⟩)
      · exact .inl (List.mem_cons_of_mem _ h)
    · rw [if_neg hk] at h
      split at h
      · rcases List.mem_cons.1 h with rfl | h
        · exact .inl (List.mem_cons_self ..)
        · rcases addS_mem h with h | h | ⟨c0, h0, h⟩
          · exact .inl (List.mem_cons_of_mem _ h)
          · exact .inr (.inl h)
          · exact .inr (.inr ⟨c0, List.mem_cons_of_mem _ h0, h⟩)
      · rcases List.mem_cons.1 h with rfl | h
        · exact .inr (.inl rfl)
        · exact .inl h
theorem addS_srt {k : Str} {b : Int} : ∀ {l : List Chain}, Srt Chain.key l → Srt Chain.key (addS k b l)
  | [], _ => List.pairwise_singleton ..
  | c :: l, hs => by
    obtain ⟨h1, h2⟩ := List.pairwise_cons.1 hs
    simp only [addS]
    by_cases hk : c.key = k
    · rw [if_pos hk]; exact List.pairwise_cons.2 ⟨h1, h2⟩
    · rw [if_neg hk]
      cases hl : slt c.key k with
      | true =>
        rw [if_pos rfl]
        refine List.pairwise_cons.2 ⟨fun d hd => ?_, addS_srt h2⟩
        rcases addS_mem hd with h | rfl | ⟨c0, h0, h3, rfl⟩
        · exact h1 d h
        · exact hl
        · exact hl
      | false =>
        rw [if_neg (by simp)]
        have hkc : slt k c.key = true := by
          rcases slt_tri c.key k with h | h | h
          · rw [hl] at h; cases h
          · exact absurd h hk
          · exact h
        refine List.pairwise_cons.2 ⟨fun d hd => ?_, hs⟩
        rcases List.mem_cons.1 hd with rfl | hd
        · exact hkc
        · exact slt_trans hkc (h1 d hd)

/-! ### Engines -/
structure SInv (e : Engine) : Prop where
  k : Srt Chain.key e.chains
  v : ∀ c ∈ e.chains, VSrt c.vs
  b : ∀ c ∈ e.chains, ∀ v ∈ c.vs, v.by_ < e.base + e.deeds.length

theorem newE_srt {r : List Pair} (h : Srt Pair.key r) : SInv (newE r) := by
  refine ⟨List.pairwise_map.2 h, fun c hc => ?_, fun c hc v hv => ?_⟩
  · obtain ⟨p, _, rfl⟩ := List.mem_map.1 hc
    exact List.pairwise_singleton ..
  · obtain ⟨p, _, rfl⟩ := List.mem_map.1 hc
    simp [rowChain] at hv
    subst hv
    simp [newE]

theorem isIn_false {s : Str} : ∀ {l : List Str}, isIn l s = false → s ∉ l
  | [], _, h => by simp at h
  | x :: l, h, hm => by
    simp only [isIn] at h
    by_cases hx : x = s
    · rw [if_pos hx] at h; cases h
    · rw [if_neg hx] at h
      rcases List.mem_cons.1 hm with rfl | hm
      · exact hx rfl
      · exact isIn_false h hm
theorem keysGo_nodup {l : List Str} : ∀ {r : List Str} {i : Nat}, l.drop i = r → (l.take i).Nodup → keysGo l i r = 0 → l.Nodup ∧ ∀ k ∈ r, key k = true
  | [], i, hr, hn, _ => by
    have : l.length ≤ i := by simpa using hr
    rw [List.take_of_length_le this] at hn
    exact ⟨hn, by simp⟩
  | k :: r, i, hr, hn, h => by
    simp only [keysGo] at h
    by_cases h1 : key k = false
    · rw [if_pos h1] at h; simp at h
    rw [if_neg h1] at h
    by_cases h2 : isIn (l.take i) k = true
    · rw [if_pos h2] at h; simp at h
    rw [if_neg h2] at h
    have hk : l[i]? = some k := by
      have : (l.drop i)[0]? = some k := by rw [hr]; rfl
      simpa using this
    have h3 : l.take (i + 1) = l.take i ++ [k] := by rw [List.take_add_one, hk]; rfl
    have hni : k ∉ l.take i := isIn_false (by simpa using h2)
    have := keysGo_nodup (l := l) (r := r) (i := i + 1) (by rw [← List.drop_drop, hr]; rfl) (by
      rw [h3]
      refine List.nodup_append.2 ⟨hn, by simp, fun a ha b hb => ?_⟩
      simp at hb; subst hb
      exact fun e => hni (e ▸ ha)) h
    exact ⟨this.1, fun x hx => by
      rcases List.mem_cons.1 hx with rfl | hx
      · simpa using h1
      · exact this.2 x hx⟩
theorem keysWrong_nodup {l : List Str} (h : keysWrong l = 0) : l.Nodup ∧ (∀ k ∈ l, key k = true) ∧ l.length ≤ 5 := by
  unfold keysWrong at h
  by_cases h1 : 5 < l.length
  · rw [if_pos h1] at h; simp at h
  · rw [if_neg h1] at h
    have := keysGo_nodup (l := l) (r := l) (i := 0) rfl (by simp) h
    exact ⟨this.1, this.2, by omega⟩
theorem wrong_keys {d : Deed} (h : wrongDeed d = 0) : d.reads.Nodup ∧ d.writes.Nodup := by
  unfold wrongDeed at h
  by_cases h0 : lsGo [d.reads, d.writes] = 0
  · simp only [lsGo] at h0
    by_cases h1 : keysWrong d.reads = 0
    · rw [if_pos h1] at h0
      by_cases h2 : keysWrong d.writes = 0
      · exact ⟨(keysWrong_nodup h1).1, (keysWrong_nodup h2).1⟩
      · rw [if_neg h2] at h0; exact absurd h0 h2
    · rw [if_neg h1] at h0; exact absurd h0 h1
  · rw [if_neg h0] at h; exact absurd h h0

theorem addKeys_srt {b : Int} : ∀ {ks : List Str} {l : List Chain}, ks.Nodup → Srt Chain.key l → (∀ c ∈ l, VSrt c.vs ∧ (∀ v ∈ c.vs, v.by_ ≤ b) ∧ (c.key ∈ ks → ∀ v ∈ c.vs, v.by_ < b)) →
    Srt Chain.key (addKeys b l ks) ∧ ∀ c ∈ addKeys b l ks, VSrt c.vs ∧ ∀ v ∈ c.vs, v.by_ ≤ b
  | [], l, _, hs, h => ⟨hs, fun c hc => ⟨(h c hc).1, (h c hc).2.1⟩⟩
  | k :: ks, l, hn, hs, h => by
    obtain ⟨hk, hn⟩ := List.nodup_cons.1 hn
    simp only [addKeys]
    rw [addC_srt hs]
    refine addKeys_srt hn (addS_srt hs) fun c hc => ?_
    rcases addS_mem hc with h0 | rfl | ⟨c0, h0, h1, rfl⟩
    · obtain ⟨h1, h2, h3⟩ := h c h0
      exact ⟨h1, h2, fun hm => h3 (List.mem_cons_of_mem _ hm)⟩
    · exact ⟨List.pairwise_singleton .., fun v hv => by simp at hv; subst hv; exact Int.le_refl _, fun hm => absurd hm hk⟩
    · obtain ⟨h2, h3, h4⟩ := h c0 h0
      have h5 := h4 (by rw [h1]; exact List.mem_cons_self ..)
      refine ⟨List.pairwise_append.2 ⟨h2, List.pairwise_singleton .., fun a ha x hx => ?_⟩, fun v hv => ?_, fun hm => absurd hm hk⟩
      · simp at hx; subst hx; exact h5 a ha
      · rcases List.mem_append.1 hv with hv | hv
        · exact h3 v hv
        · simp at hv; subst hv; exact Int.le_refl _
theorem SInv.add1 {e : Engine} (h : SInv e) {d : Deed} (hw : d.writes.Nodup) : SInv (add1 e d) := by
  have := addKeys_srt (b := e.base + e.deeds.length) hw h.k fun c hc => ⟨h.v c hc, fun v hv => by have := h.b c hc v hv; omega, fun _ v hv => h.b c hc v hv⟩
  refine ⟨this.1, fun c hc => (this.2 c hc).1, fun c hc v hv => ?_⟩
  have := (this.2 c hc).2 v hv
  show v.by_ < e.base + ((e.deeds ++ [d]).length : Nat)
  rw [List.length_append]
  simp only [List.length_singleton]
  omega
theorem SInv.addAll : ∀ {l : List Deed} {e : Engine}, SInv e → (∀ d ∈ l, d.writes.Nodup) → SInv (addAll e l)
  | [], e, h, _ => h
  | d :: l, e, h, hl => by
    simp only [RF.addAll]
    exact SInv.addAll (h.add1 (hl d (List.mem_cons_self ..))) fun x hx => hl x (List.mem_cons_of_mem _ hx)
theorem SInv.addE {e : Engine} (h : SInv e) {l : List Deed} (hw : (addE e l).2 = 0) : SInv (addE e l).1 := by
  unfold RF.addE at hw ⊢
  by_cases h0 : wrongs l = 0
  · rw [if_pos h0]
    exact h.addAll fun d hd => (wrong_keys (wrongs_mem h0 d hd)).2
  · rw [if_neg h0] at hw; exact absurd hw h0

/-- Chains whose keys, and whose versions' deeds, are others' in turn. -/
theorem set_srt {l : List Chain} {k : Str} {v : Version} {N : Int} (hs : Srt Chain.key l) (hv : ∀ c ∈ l, VSrt c.vs ∧ ∀ w ∈ c.vs, w.by_ < N) :
    Srt Chain.key (setChains l k v) ∧ ∀ c ∈ setChains l k v, VSrt c.vs ∧ ∀ w ∈ c.vs, w.by_ < N := by
  have hb : ∀ (h : Bool) (w : Version), (setV h v w).by_ = w.by_ := fun h w => by
    unfold setV
    split
    · next hh => exact hh.2.symm
    · rfl
  refine ⟨List.pairwise_map.2 hs, fun c hc => ?_⟩
  obtain ⟨c0, h0, rfl⟩ := List.mem_map.1 hc
  obtain ⟨h1, h2⟩ := hv c0 h0
  refine ⟨List.pairwise_map.2 (h1.imp fun hab => by rw [hb, hb]; exact hab), fun w hw => ?_⟩
  obtain ⟨w0, hw0, rfl⟩ := List.mem_map.1 hw
  rw [hb]; exact h2 w0 hw0
theorem goSets_srt {r : List Pair} {b N : Int} : ∀ {ks : List Str} {l : List Chain}, Srt Chain.key l → (∀ c ∈ l, VSrt c.vs ∧ ∀ w ∈ c.vs, w.by_ < N) →
    Srt Chain.key (goSets r b l ks) ∧ ∀ c ∈ goSets r b l ks, VSrt c.vs ∧ ∀ w ∈ c.vs, w.by_ < N
  | [], l, hs, hv => ⟨hs, hv⟩
  | k :: ks, l, hs, hv => by
    simp only [goSets]
    have := set_srt (k := k) (v := ⟨b, true, (RF.get r k).2, (RF.get r k).1⟩) hs hv
    exact goSets_srt this.1 this.2
theorem SInv.goNew {e : Engine} (h : SInv e) (A : Nat) (d : Deed) : SInv (goNew e A d) := by
  have := goSets_srt (r := (goDone e A d).1) (b := e.base + A) (ks := d.writes) (N := e.base + e.deeds.length) h.k fun c hc => ⟨h.v c hc, h.b c hc⟩
  exact ⟨this.1, fun c hc => (this.2 c hc).1, fun c hc => (this.2 c hc).2⟩
theorem SInv.goE {e : Engine} (h : SInv e) (at_ : Int) : SInv (goE e at_).1 := by
  unfold Proofs.Ytnhnnkljlglhbaa.goE
  split
  · exact h
  unfold goAt
  cases hA : e.deeds[at_.toNat]? with
  | none => exact h
  | some d =>
    dsimp only
    split
    · exact h
    split
    · exact h.goNew _ _
    · exact h
theorem clrV_sublist {b : Int} : ∀ l : List Version, (clrV b l).Sublist l
  | [] => List.Sublist.slnil
  | v :: l => by
    simp only [clrV]
    split
    · exact (clrV_sublist l).cons _
    · exact (clrV_sublist l).cons_cons _
theorem clear_srt {b : Int} : ∀ {l : List Chain}, Srt Chain.key l → Srt Chain.key (clear b l)
  | [], _ => List.Pairwise.nil
  | c :: l, hs => by
    obtain ⟨h1, h2⟩ := List.pairwise_cons.1 hs
    simp only [clear]
    split
    · exact clear_srt h2
    · refine List.pairwise_cons.2 ⟨fun d hd => ?_, clear_srt h2⟩
      obtain ⟨c0, h0, rfl⟩ := clear_mem hd
      exact h1 c0 h0
theorem SInv.clearE {e : Engine} (h : SInv e) : SInv (clearE e) := by
  have hm := markN_le e.state
  refine ⟨clear_srt h.k, fun c hc => ?_, fun c hc v hv => ?_⟩
  · obtain ⟨c0, h0, rfl⟩ := clear_mem hc
    exact List.Pairwise.sublist (clrV_sublist _) (h.v c0 h0)
  · obtain ⟨c0, h0, rfl⟩ := clear_mem hc
    have := h.b c0 h0 v (clrV_sub hv)
    simp only [RF.clearE, List.length_drop]
    omega
theorem SInv.pickE {e : Engine} (h : SInv e) (n : Int) : SInv (pickE e n) := by
  unfold Proofs.Ytnhnnkljlglhbaa.pickE
  split
  · exact h.clearE
  split
  · exact h
  split
  · exact h.goE _
  · exact h
theorem SInv.batchE {e : Engine} (h : SInv e) (b : List Deed) : SInv (batchE e b) := by
  unfold Proofs.Ytnhnnkljlglhbaa.batchE
  split
  · next hw => exact h.addE hw
  · exact h
theorem SInv.pickGo : ∀ {k : Nat} {e : Engine} {p : List Int}, SInv e → SInv (pickGo k e p).1
  | 0, e, p, h => h
  | k + 1, e, [], h => h
  | k + 1, e, n :: p, h => by
    simp only [Proofs.Ytnhnnkljlglhbaa.pickGo]
    exact SInv.pickGo (h.pickE n)
theorem SInv.buildGo : ∀ {bs : List (List Deed)} {e : Engine} {p : List Int}, SInv e → SInv (buildGo e bs p)
  | [], e, p, h => h
  | b :: bs, e, p, h => by
    simp only [Proofs.Ytnhnnkljlglhbaa.buildGo]
    exact SInv.buildGo ((h.batchE b).pickGo)
theorem build_srt {r : List Pair} (h : wrongRows r = 0) (bs : List (List Deed)) (p : List Int) : SInv (buildE r bs p) := SInv.buildGo (newE_srt (wrongRows_srt h).1)

end Go.Proofs.Ytnhnnkljlglhbaa

/-! P2 -/
/-
  Right chains: in order; rows made into chains, and read again. Plain facts.
-/
namespace Go.Proofs.Ytnhnnkljlglhbaa
open Go.AX Go.RF

theorem rightVs_srt : ∀ {l : List Version} {p : Option Int}, rightVs p l = true → VSrt l ∧ (∀ v ∈ l, -1 ≤ v.by_ ∧ v.by_ ≤ 1000000 ∧ nOk v.n) ∧ ∀ u, p = some u → ∀ v ∈ l, u < v.by_
  | [], p, _ => ⟨List.Pairwise.nil, by simp, by simp⟩
  | v :: l, p, h => by
    simp only [rightVs] at h
    cases hb : vBad p v with
    | true => rw [hb] at h; simp at h
    | false =>
      rw [hb] at h
      simp only [Bool.false_eq_true, if_false] at h
      obtain ⟨h1, h2, h3⟩ := rightVs_srt h
      simp only [vBad, Bool.or_eq_false_iff, decide_eq_false_iff_not] at hb
      obtain ⟨b1, b2, b3, b4, b5, _⟩ := hb
      have h4 := h3 v.by_ rfl
      refine ⟨VSrt.cons.2 ⟨h4, h1⟩, fun w hw => ?_, fun u hu w hw => ?_⟩
      · rcases List.mem_cons.1 hw with rfl | hw
        · exact ⟨by omega, by omega, by unfold nOk; omega⟩
        · exact h2 w hw
      · subst hu
        have h5 : u < v.by_ := by simpa [prevBad] using b3
        rcases List.mem_cons.1 hw with rfl | hw
        · exact h5
        · exact Int.lt_trans h5 (h4 w hw)
structure RC (l : List Chain) : Prop where
  s : Srt Chain.key l
  v : ∀ c ∈ l, VSrt c.vs
  k : ∀ c ∈ l, key c.key = true
  n : ∀ c ∈ l, c.vs ≠ []
  b : ∀ c ∈ l, ∀ v ∈ c.vs, -1 ≤ v.by_ ∧ v.by_ ≤ 1000000 ∧ nOk v.n
theorem rightCs_srt : ∀ {l : List Chain} {p : Option Str}, rightCs p l = true → RC l ∧ ∀ u, p = some u → ∀ c ∈ l, slt u c.key = true
  | [], p, _ => ⟨⟨List.Pairwise.nil, by simp, by simp, by simp, by simp⟩, by simp⟩
  | c :: l, p, h => by
    simp only [rightCs] at h
    cases hb : cBad p c with
    | true => rw [hb] at h; simp at h
    | false =>
      rw [hb] at h
      simp only [Bool.false_eq_true, if_false] at h
      by_cases hv : rightVs none c.vs = true
      · rw [if_pos hv] at h
        obtain ⟨h1, h2⟩ := rightCs_srt h
        obtain ⟨v1, v2, _⟩ := rightVs_srt hv
        simp only [cBad, Bool.or_eq_false_iff, Bool.not_eq_false', decide_eq_false_iff_not] at hb
        obtain ⟨b1, b2, b3⟩ := hb
        have h4 := h2 c.key rfl
        refine ⟨⟨List.pairwise_cons.2 ⟨h4, h1.s⟩, ?_, ?_, ?_, ?_⟩, fun u hu d hd => ?_⟩
        · exact fun d hd => by
                         rcases List.mem_cons.1 hd with rfl | hd
                         · exact v1
                         · exact h1.v d hd
        · exact fun d hd => by
                         rcases List.mem_cons.1 hd with rfl | hd
                         · exact b1
                         · exact h1.k d hd
        · exact fun d hd => by
                         rcases List.mem_cons.1 hd with rfl | hd
                         · exact b3
                         · exact h1.n d hd
        · exact fun d hd => by
                         rcases List.mem_cons.1 hd with rfl | hd
                         · exact v2
                         · exact h1.b d hd
        · subst hu
          have h5 : slt u c.key = true := by simpa [prevSBad] using b2
          rcases List.mem_cons.1 hd with rfl | hd
          · exact h5
          · exact slt_trans h5 (h4 d hd)
      · rw [if_neg hv] at h; simp at h
theorem rightChains_srt {l : List Chain} (h : rightChains l = true) : RC l := (rightCs_srt h).1

/-! ### Rows made into chains -/
theorem chains_srt {r : List Pair} (h : Srt Pair.key r) : Srt Chain.key (r.map rowChain) := List.pairwise_map.2 h
theorem chains_v {r : List Pair} : ∀ c ∈ r.map rowChain, VSrt c.vs := by
  intro c hc
  obtain ⟨p, _, rfl⟩ := List.mem_map.1 hc
  exact List.pairwise_singleton ..
theorem before_row {r : List Pair} (h : Srt Pair.key r) {p : Pair} (hp : p ∈ r) {b : Int} (hb : -1 < b) : before (r.map rowChain) p.key b = ⟨-1, true, true, p.n⟩ := by
  obtain ⟨i, hi⟩ := List.getElem?_of_mem hp
  unfold before
  have hil := (List.getElem?_eq_some_iff.1 hi).1
  have hsp : r = r.take i ++ p :: r.drop (i + 1) := by
    have h1 := List.take_append_drop i r
    rw [List.drop_eq_getElem_cons hil, (List.getElem?_eq_some_iff.1 hi).2] at h1
    exact h1.symm
  have hne : ∀ q ∈ r.take i ++ r.drop (i + 1), q.key ≠ p.key := by
    intro q hq
    rcases List.mem_append.1 hq with hq | hq
    · obtain ⟨j, hj⟩ := List.getElem?_of_mem hq
      rw [List.getElem?_take] at hj
      split at hj
      · exact h.ne hj hi (by omega)
      · cases hj
    · obtain ⟨j, hj⟩ := List.getElem?_of_mem hq
      rw [List.getElem?_drop] at hj
      exact h.ne hj hi (by omega)
  have n1 : ∀ out, beforeGo p.key b out ((r.take i).map rowChain) = out := fun out => beforeGo_none fun c hc => by
    obtain ⟨q, hq, rfl⟩ := List.mem_map.1 hc
    exact hne q (List.mem_append_left _ hq)
  have n2 : ∀ out, beforeGo p.key b out ((r.drop (i + 1)).map rowChain) = out := fun out => beforeGo_none fun c hc => by
    obtain ⟨q, hq, rfl⟩ := List.mem_map.1 hc
    exact hne q (List.mem_append_right _ hq)
  rw [hsp, List.map_append, beforeGo_append, n1, List.map_cons]
  simp only [beforeGo]
  rw [n2]
  simp [rowChain, bvs, hb]
theorem rowsAtGo_rows {r0 : List Pair} (h : Srt Pair.key r0) {b : Int} (hb : -1 < b) : ∀ {r out : List Pair}, (∀ p ∈ r, p ∈ r0) → rowsAtGo (r0.map rowChain) b out (r.map rowChain) = (out ++ r, true)
  | [], out, _ => by simp [rowsAtGo]
  | p :: r, out, hr => by
    have h1 : before (r0.map rowChain) (rowChain p).key b = ⟨-1, true, true, p.n⟩ := before_row h (hr p (List.mem_cons_self ..)) hb
    simp only [List.map_cons, rowsAtGo, h1, Bool.true_eq_false, if_false, if_true]
    rw [rowsAtGo_rows h hb fun q hq => hr q (List.mem_cons_of_mem _ hq)]
    simp [rowChain]
theorem rowsAt_rows {r : List Pair} (h : Srt Pair.key r) {b : Int} (hb : -1 < b) : rowsAt (r.map rowChain) b = (r, true) := by
  unfold rowsAt
  rw [rowsAtGo_rows h hb (fun _ h => h)]
  rfl

theorem rowsAtGo_len {l0 : List Chain} {b : Int} : ∀ (l : List Chain) (out : List Pair), (rowsAtGo l0 b out l).1.length ≤ out.length + l.length
  | [], out => by simp [rowsAtGo]
  | c :: l, out => by
    simp only [rowsAtGo]
    split
    · simp
    split
    · have := rowsAtGo_len (l0 := l0) (b := b) l (out ++ [⟨c.key, (before l0 c.key b).n⟩]); simp at this ⊢; omega
    · have := rowsAtGo_len (l0 := l0) (b := b) l out; simp at this ⊢; omega
theorem rowsAt_len (l : List Chain) (b : Int) : (rowsAt l b).1.length ≤ l.length := by
  have := rowsAtGo_len (l0 := l) (b := b) l []
  unfold rowsAt
  simpa using this
theorem same_refl (l : List Chain) : allB sameC l l = true := allB_refl sameC_refl l
theorem addS_len {k : Str} {b : Int} : ∀ l : List Chain, (addS k b l).length ≤ l.length + 1
  | [] => by simp [addS]
  | c :: l => by
    have := addS_len (k := k) (b := b) l
    simp only [addS]
    split
    · simp
    · split
      · simp; omega
      · simp
theorem addS_vs {k : Str} {b : Int} {l : List Chain} {N : Nat} (h : ∀ c ∈ l, c.vs.length ≤ N) : ∀ c ∈ addS k b l, c.vs.length ≤ N + 1 := by
  intro c hc
  rcases addS_mem hc with h0 | rfl | ⟨c0, h0, _, rfl⟩
  · have := h c h0; omega
  · simp
  · have := h c0 h0; simp; omega
theorem set_len (l : List Chain) (k : Str) (v : Version) : (setChains l k v).length = l.length := by simp [setChains]
theorem clear_vs {l : List Chain} {b : Int} {N : Nat} (h : ∀ c ∈ l, c.vs.length ≤ N) : ∀ c ∈ clear b l, c.vs.length ≤ N := by
  intro c hc
  obtain ⟨c0, h0, rfl⟩ := clear_mem hc
  exact Nat.le_trans (clrV_sublist _).length_le (h c0 h0)

end Go.Proofs.Ytnhnnkljlglhbaa

/-! P3 -/
/-
  A version more, set, forgotten: what is seen. Plain facts.
-/
namespace Go.Proofs.Ytnhnnkljlglhbaa
open Go.AX Go.RF

/-! ### Ahead of it, and of other keys: nothing seen -/
theorem before_addS {k k' : Str} {b b' : Int} (h : k = k' → b ≤ b') : ∀ {l : List Chain} {out : Version}, beforeGo k b out (addS k' b' l) = beforeGo k b out l
  | [], out => by
    simp only [addS, beforeGo, bvs, newV]
    by_cases hk : k' = k
    · have := h hk.symm
      simp; omega
    · simp [hk]
  | c :: l, out => by
    simp only [addS]
    by_cases hk : c.key = k'
    · rw [if_pos hk]
      simp only [beforeGo, bvs_append, bvs, newV]
      by_cases hc : c.key = k
      · have := h (by rw [← hc, hk])
        rw [if_neg (by simp; omega)]
      · simp [hc]
    · rw [if_neg hk]
      split
      · simp only [beforeGo]
        exact before_addS h
      · have h1 : bvs (decide (k' = k)) b out [newV b'] = out := by
          simp only [bvs]
          by_cases hc : k' = k
          · have := h hc.symm
            have h2 : ¬ (newV b').by_ < b := by show ¬ b' < b; omega
            rw [decide_eq_false h2]; simp
          · simp [hc]
        show beforeGo k b (bvs (decide (k' = k)) b out [newV b']) (c :: l) = _
        rw [h1]
theorem bvs_set {h hit : Bool} {b : Int} {v : Version} (hh : h = true → hit = true → b ≤ v.by_) : ∀ {l : List Version} {out : Version}, bvs h b out (l.map (setV hit v)) = bvs h b out l
  | [], out => rfl
  | w :: l, out => by
    simp only [List.map_cons, bvs]
    rw [bvs_set hh]
    congr 1
    cases h with
    | false => simp
    | true =>
      cases hit with
      | false => simp [setV]
      | true =>
        have := hh rfl rfl
        simp only [setV, Bool.true_and, true_and, decide_eq_true_eq]
        by_cases hw : w.by_ = v.by_
        · rw [if_pos hw, if_neg (by omega), if_neg (by omega)]
        · rw [if_neg hw]
theorem before_set {k k' : Str} {b : Int} {v : Version} (h : k = k' → b ≤ v.by_) : ∀ {l : List Chain} {out : Version}, beforeGo k b out (setChains l k' v) = beforeGo k b out l
  | [], out => rfl
  | c :: l, out => by
    show beforeGo k b (bvs (decide (c.key = k)) b out (c.vs.map (setV (decide (c.key = k')) v))) (setChains l k' v) = _
    rw [bvs_set (fun h1 h2 => h (by rw [← of_decide_eq_true h1, of_decide_eq_true h2])), before_set h]
    rfl

/-! ### Behind it: it is seen -/
theorem ne_tail {c : Chain} {l : List Chain} (hs : Srt Chain.key (c :: l)) {k : Str} (h : slt k c.key = true ∨ c.key = k) : ∀ d ∈ l, d.key ≠ k := by
  intro d hd e
  have h1 := (List.pairwise_cons.1 hs).1 d hd
  rw [e] at h1
  rcases h with h | h
  · have := slt_trans h h1; rw [slt_irrefl] at this; cases this
  · rw [h, slt_irrefl] at h1; cases h1
theorem slt_flip {a b : Str} (h : ¬ slt a b = true) (hn : a ≠ b) : slt b a = true := by
  rcases slt_tri a b with h1 | h1 | h1
  · exact absurd h1 h
  · exact absurd h1 hn
  · exact h1
theorem behind_set {k : Str} {b b' : Int} {v : Version} (hv : v.by_ = b') (hb : b' < b) : ∀ {l : List Chain} {out : Version}, Srt Chain.key l → beforeGo k b out (setChains (addS k b' l) k v) = v
  | [], out, _ => by
    simp [addS, setChains, setC, setV, newV, beforeGo, bvs, hv, hb]
  | c :: l, out, hs => by
    simp only [addS]
    by_cases hk : c.key = k
    · rw [if_pos hk]
      have hn := ne_tail hs (.inr hk)
      have h0 : ∀ o, beforeGo k b o (setChains l k v) = o := fun o => beforeGo_none fun d hd => by
        obtain ⟨d0, h1, rfl⟩ := List.mem_map.1 hd
        exact hn d0 h1
      show beforeGo k b (bvs (decide (c.key = k)) b out ((c.vs ++ [newV b']).map (setV (decide (c.key = k)) v))) (setChains l k v) = v
      rw [h0, List.map_append, bvs_append]
      simp [hk, setV, newV, bvs, hv, hb]
    · rw [if_neg hk]
      split
      · show beforeGo k b _ (setChains (addS k b' l) k v) = v
        exact behind_set hv hb (List.pairwise_cons.1 hs).2
      · next h2 =>
        have hn := ne_tail hs (.inl (slt_flip h2 hk))
        have h0 : ∀ o, beforeGo k b o (setChains (c :: l) k v) = o := fun o => beforeGo_none fun d hd => by
          obtain ⟨d0, h1, rfl⟩ := List.mem_map.1 hd
          rcases List.mem_cons.1 h1 with rfl | h1
          · exact hk
          · exact hn d0 h1
        show beforeGo k b (bvs (decide (k = k)) b out ([newV b'].map (setV (decide (k = k)) v))) (setChains (c :: l) k v) = v
        rw [h0]
        simp [setV, newV, bvs, hv, hb]
theorem behind_add {k : Str} {b b' : Int} (hb : b' < b) {l : List Chain} {out : Version} (hs : Srt Chain.key l) : beforeGo k b out (addS k b' l) = newV b' := by
  have h := behind_set (k := k) (v := newV b') (b' := b') rfl hb (l := l) (out := out) hs
  have h1 : ∀ w : Version, ∀ hit, w.by_ = b' → setV hit (newV b') w = w ∨ setV hit (newV b') w = newV b' := fun w hit _ => by
    unfold setV; split
    · exact .inr rfl
    · exact .inl rfl
  clear h1 h
  revert out
  induction l with
  | nil => intro out; simp [addS, beforeGo, bvs, newV, hb]
  | cons c l ih =>
    intro out
    simp only [addS]
    by_cases hk : c.key = k
    · rw [if_pos hk]
      have hn := ne_tail hs (.inr hk)
      simp only [beforeGo]
      rw [beforeGo_none hn, bvs_append]
      simp [hk, newV, bvs, hb]
    · rw [if_neg hk]
      split
      · simp only [beforeGo]
        exact ih (List.pairwise_cons.1 hs).2
      · next h2 =>
        have hn := ne_tail hs (.inl (slt_flip h2 hk))
        have h0 : ∀ o, beforeGo k b o (c :: l) = o := fun o => beforeGo_none fun d hd => by
          rcases List.mem_cons.1 hd with rfl | h1
          · exact hk
          · exact hn d h1
        show beforeGo k b (bvs (decide (k = k)) b out [newV b']) (c :: l) = _
        rw [h0]
        simp [newV, bvs, hb]

/-! ### What is old, forgotten -/
theorem clrV_ge {b : Int} : ∀ {l : List Version}, (∀ v ∈ l, b ≤ v.by_) → clrV b l = l
  | [], _ => rfl
  | v :: l, h => by
    have := h v (List.mem_cons_self ..)
    have h1 : decide (v.by_ < b) = false := by simp; omega
    simp only [clrV]
    rw [if_neg (by simp [old, h1]), clrV_ge fun w hw => h w (List.mem_cons_of_mem _ hw)]
theorem seen_clr {b at_ : Int} (hba : b ≤ at_) : ∀ {l : List Version} {out : Version}, VSrt l →
    bvs true at_ out (clrV b l) = bvs true at_ out l ∨ ((bvs true at_ out l).made = true ∧ (bvs true at_ out l).has = false ∧ bvs true at_ out (clrV b l) = out)
  | [], out, _ => .inl rfl
  | v :: l, out, hs => by
    obtain ⟨h1, h2⟩ := VSrt.cons.1 hs
    by_cases hva : v.by_ < at_
    · have hge : b ≤ v.by_ → clrV b l = l := fun h => clrV_ge fun w hw => by have := h1 w hw; omega
      by_cases hlt : later b l = true
      · cases l with
        | nil => simp [later] at hlt
        | cons w l' =>
          have hw : w.by_ < b := by simpa [later] using hlt
          have hvb : v.by_ < b := by have := h1 w (List.mem_cons_self ..); omega
          have hold : old b (w :: l') v = true := by simp [old, later, hw, hvb]
          have ih := seen_clr hba (out := out) h2
          have hsame : bvs true at_ v (w :: l') = bvs true at_ out (w :: l') := by
            simp only [bvs]
            rw [if_pos (by simp; omega), if_pos (by simp; omega)]
          have h5 : clrV b (v :: w :: l') = clrV b (w :: l') := by rw [clrV, if_pos hold]
          rw [h5]
          have h4 : bvs true at_ out (v :: w :: l') = bvs true at_ (if (true && decide (v.by_ < at_)) = true then v else out) (w :: l') := rfl
          rw [if_pos (by simp; omega)] at h4
          rw [h4, hsame]
          exact ih
      · have hl : ∀ w ∈ l, b ≤ w.by_ := by
          cases l with
          | nil => simp
          | cons w l' =>
            have hw : ¬ w.by_ < b := by simpa [later] using hlt
            intro x hx
            rcases List.mem_cons.1 hx with rfl | hx
            · omega
            · have := (VSrt.cons.1 h2).1 x hx; omega
        have hl0 : later b l = false := by simpa using hlt
        have hc := clrV_ge hl
        simp only [clrV]
        rw [hc]
        by_cases hold : old b l v = true
        · rw [if_pos hold]
          have h3 : v.made = true ∧ v.has = false := by
            simp [old, hl0] at hold
            exact ⟨hold.2.1, hold.2.2⟩
          have h4 : bvs true at_ out (v :: l) = bvs true at_ v l := by simp only [bvs]; rw [if_pos (by simp; omega)]
          rw [h4]
          cases l with
          | nil => exact .inr ⟨h3.1, h3.2, rfl⟩
          | cons w l' =>
            by_cases hw : w.by_ < at_
            · left
              simp only [bvs]
              rw [if_pos (by simp; omega), if_pos (by simp; omega)]
            · have h5 : ∀ x ∈ w :: l', at_ ≤ x.by_ := fun x hx => by
                rcases List.mem_cons.1 hx with rfl | hx
                · omega
                · have := (VSrt.cons.1 h2).1 x hx; omega
              rw [bvs_ge h5, bvs_ge h5]
              exact .inr ⟨h3.1, h3.2, rfl⟩
        · rw [if_neg hold]
          exact .inl rfl
    · have h3 : ∀ x ∈ v :: l, at_ ≤ x.by_ := fun x hx => by
        rcases List.mem_cons.1 hx with rfl | hx
        · omega
        · have := h1 x hx; omega
      rw [clrV_ge fun x hx => by have := h3 x hx; omega]
      exact .inl rfl
theorem seen_clear {b at_ : Int} {k : Str} (hba : b ≤ at_) : ∀ {l : List Chain} {out : Version}, Srt Chain.key l → (∀ c ∈ l, VSrt c.vs) →
    beforeGo k at_ out (clear b l) = beforeGo k at_ out l ∨ ((beforeGo k at_ out l).made = true ∧ (beforeGo k at_ out l).has = false ∧ beforeGo k at_ out (clear b l) = out)
  | [], out, _, _ => .inl rfl
  | c :: l, out, hs, hv => by
    have h2 := (List.pairwise_cons.1 hs).2
    by_cases hk : c.key = k
    · have hn := ne_tail hs (.inr hk)
      have n1 : ∀ o, beforeGo k at_ o l = o := fun o => beforeGo_none hn
      have n2 : ∀ o, beforeGo k at_ o (clear b l) = o := fun o => beforeGo_none fun d hd => by
        obtain ⟨d0, h0, rfl⟩ := clear_mem hd
        exact hn d0 h0
      have h3 : beforeGo k at_ out (c :: l) = bvs true at_ out c.vs := by
        simp only [beforeGo]; rw [n1]; simp [hk]
      have h4 : beforeGo k at_ out (clear b (c :: l)) = bvs true at_ out (clrV b c.vs) := by
        simp only [clear]
        split
        · next h => rw [n2, h]; rfl
        · simp only [beforeGo]; rw [n2]; simp [hk]
      rw [h3, h4]
      exact seen_clr hba (hv c (List.mem_cons_self ..))
    · have h3 : beforeGo k at_ out (c :: l) = beforeGo k at_ out l := by
        simp only [beforeGo]; simp [hk, bvs_false]
      have h4 : beforeGo k at_ out (clear b (c :: l)) = beforeGo k at_ out (clear b l) := by
        simp only [clear]
        split
        · rfl
        · simp only [beforeGo]; simp [hk, bvs_false]
      rw [h3, h4]
      exact seen_clear hba h2 fun d hd => hv d (List.mem_cons_of_mem _ hd)

/-! ### Right chains stay right -/
theorem rightVs_iff : ∀ {l : List Version} {p : Option Int}, rightVs p l = true ↔ VSrt l ∧ (∀ v ∈ l, vBad none v = false) ∧ ∀ u, p = some u → ∀ v ∈ l, u < v.by_
  | [], p => by simp [rightVs, VSrt]
  | v :: l, p => by
    have hb : vBad p v = false ↔ vBad none v = false ∧ ∀ u, p = some u → u < v.by_ := by
      cases p with
      | none => simp
      | some u => simp [vBad, prevBad]; constructor <;> simp_all
    simp only [rightVs]
    constructor
    · intro h
      cases hv : vBad p v with
      | true => rw [hv] at h; simp at h
      | false =>
        rw [hv] at h
        simp only [Bool.false_eq_true, if_false] at h
        obtain ⟨h1, h2, h3⟩ := rightVs_iff.1 h
        obtain ⟨h4, h5⟩ := hb.1 hv
        have h6 := h3 v.by_ rfl
        refine ⟨VSrt.cons.2 ⟨h6, h1⟩, fun w hw => ?_, fun u hu w hw => ?_⟩
        · rcases List.mem_cons.1 hw with rfl | hw
          · exact h4
          · exact h2 w hw
        · rcases List.mem_cons.1 hw with rfl | hw
          · exact h5 u hu
          · exact Int.lt_trans (h5 u hu) (h6 w hw)
    · rintro ⟨h1, h2, h3⟩
      obtain ⟨h4, h5⟩ := VSrt.cons.1 h1
      rw [hb.2 ⟨h2 v (List.mem_cons_self ..), fun u hu => h3 u hu v (List.mem_cons_self ..)⟩]
      simp only [Bool.false_eq_true, if_false]
      exact rightVs_iff.2 ⟨h5, fun w hw => h2 w (List.mem_cons_of_mem _ hw), fun u hu w hw => by cases hu; exact h4 w hw⟩
theorem rightCs_iff : ∀ {l : List Chain} {p : Option Str}, rightCs p l = true ↔ Srt Chain.key l ∧ (∀ c ∈ l, cBad none c = false ∧ rightVs none c.vs = true) ∧ ∀ u, p = some u → ∀ c ∈ l, slt u c.key = true
  | [], p => by simp [rightCs, Srt]
  | c :: l, p => by
    have hb : cBad p c = false ↔ cBad none c = false ∧ ∀ u, p = some u → slt u c.key = true := by
      cases p with
      | none => simp
      | some u => simp [cBad, prevSBad]; constructor <;> simp_all
    simp only [rightCs]
    constructor
    · intro h
      cases hv : cBad p c with
      | true => rw [hv] at h; simp at h
      | false =>
        rw [hv] at h
        simp only [Bool.false_eq_true, if_false] at h
        by_cases hr : rightVs none c.vs = true
        · rw [if_pos hr] at h
          obtain ⟨h1, h2, h3⟩ := rightCs_iff.1 h
          obtain ⟨h4, h5⟩ := hb.1 hv
          have h6 := h3 c.key rfl
          refine ⟨List.pairwise_cons.2 ⟨h6, h1⟩, fun w hw => ?_, fun u hu w hw => ?_⟩
          · rcases List.mem_cons.1 hw with rfl | hw
            · exact ⟨h4, hr⟩
            · exact h2 w hw
          · rcases List.mem_cons.1 hw with rfl | hw
            · exact h5 u hu
            · exact slt_trans (h5 u hu) (h6 w hw)
        · rw [if_neg hr] at h; simp at h
    · rintro ⟨h1, h2, h3⟩
      obtain ⟨h4, h5⟩ := List.pairwise_cons.1 h1
      obtain ⟨h6, h7⟩ := h2 c (List.mem_cons_self ..)
      rw [hb.2 ⟨h6, fun u hu => h3 u hu c (List.mem_cons_self ..)⟩, if_pos h7]
      simp only [Bool.false_eq_true, if_false]
      exact rightCs_iff.2 ⟨h5, fun w hw => h2 w (List.mem_cons_of_mem _ hw), fun u hu w hw => by cases hu; exact h4 w hw⟩
theorem clear_mem' {b : Int} : ∀ {l : List Chain} {c : Chain}, c ∈ clear b l → ∃ c0 ∈ l, c = ⟨c0.key, clrV b c0.vs⟩ ∧ clrV b c0.vs ≠ []
  | [], c, h => by simp [clear] at h
  | x :: l, c, h => by
    simp only [clear] at h
    split at h
    · obtain ⟨c0, h0, h1⟩ := clear_mem' h
      exact ⟨c0, List.mem_cons_of_mem _ h0, h1⟩
    · next hn =>
      rcases List.mem_cons.1 h with rfl | h
      · exact ⟨x, List.mem_cons_self .., rfl, hn⟩
      · obtain ⟨c0, h0, h1⟩ := clear_mem' h
        exact ⟨c0, List.mem_cons_of_mem _ h0, h1⟩
theorem right_clear {l : List Chain} {b : Int} (h : rightChains l = true) : rightChains (clear b l) = true := by
  obtain ⟨h1, h2, _⟩ := rightCs_iff.1 h
  refine rightCs_iff.2 ⟨clear_srt h1, fun c hc => ?_, by simp⟩
  obtain ⟨c0, h0, rfl, hne⟩ := clear_mem' hc
  obtain ⟨h3, h4⟩ := h2 c0 h0
  obtain ⟨h5, h6, _⟩ := rightVs_iff.1 h4
  refine ⟨?_, rightVs_iff.2 ⟨h5.sublist (clrV_sublist _), fun v hv => h6 v ((clrV_sublist _).subset hv), by simp⟩⟩
  simp only [cBad, prevSBad, Bool.or_eq_false_iff, decide_eq_false_iff_not] at h3 ⊢
  exact ⟨h3.1, trivial, hne⟩

/-! ### How many versions -/
theorem sizeGo_add : ∀ {l : List Chain} {n : Int}, sizeGo n l = n + sizeGo 0 l
  | [], n => by simp [sizeGo]
  | c :: l, n => by
    simp only [sizeGo]
    rw [sizeGo_add, sizeGo_add (n := 0 + _)]
    omega
theorem size_clear {b : Int} : ∀ {l : List Chain}, sizeGo 0 (clear b l) ≤ sizeGo 0 l
  | [] => by simp [clear]
  | c :: l => by
    have ih := size_clear (b := b) (l := l)
    have h1 : (clrV b c.vs).length ≤ c.vs.length := (clrV_sublist _).length_le
    simp only [clear, sizeGo]
    rw [sizeGo_add (l := l)]
    split
    · omega
    · simp only [sizeGo]
      rw [sizeGo_add (l := clear b l)]
      omega

end Go.Proofs.Ytnhnnkljlglhbaa

/-! Sh -/
/-
  The library's comparison of texts, at this program's numbers.
-/
namespace Go.Proofs
open Go.Shelf Go.RowKit
def Try.lays213_ren : Go.Shelf.Ren := ⟨fun | 213 => 35 | 265 => 37 | n => n, fun | 9 => 9 | 3 => 3 | n => n, fun | n => n⟩
theorem Try.lays213 : Go.Proofs.Lays.n213 Try.prog Try.lays213_ren := {
  mixed := by kernel_rfl
  f213 := Try.func35.trans (congrArg some (by kernel_rfl))
  f265 := Try.func37.trans (congrArg some (by kernel_rfl))
  t3 := Try.underlying3
  a3 := Try.isAgg3
  z3 := Try.sizeOf3
  v3 := Try.zeroValue3
  t9 := Try.underlying9
  a9 := Try.isAgg9
  z9 := Try.sizeOf9
  v9 := Try.zeroValue9 }
theorem Try.bytealg_CompareString (a b : ByteArray) (w : World) :
    Calls Try.prog 35 #[.string a, .string b] w fun e w' => e = .returned (.int .i64 (Lib.compareBytes a.data.toList b.data.toList)) ∧ w' = w := Any.bytealg_CompareString Try.lays213 a b w
def Try.lays106_ren : Go.Shelf.Ren := ⟨fun | 106 => 31 | 213 => 35 | 265 => 37 | n => n, fun | 9 => 9 | 3 => 3 | n => n, fun | n => n⟩
theorem Try.lays106 : Go.Proofs.Lays.n106 Try.prog Try.lays106_ren := {
  mixed := by kernel_rfl
  f106 := Try.func31.trans (congrArg some (by kernel_rfl))
  f213 := Try.func35.trans (congrArg some (by kernel_rfl))
  f265 := Try.func37.trans (congrArg some (by kernel_rfl))
  t3 := Try.underlying3
  a3 := Try.isAgg3
  z3 := Try.sizeOf3
  v3 := Try.zeroValue3
  t9 := Try.underlying9
  a9 := Try.isAgg9
  z9 := Try.sizeOf9
  v9 := Try.zeroValue9 }
theorem Try.strings_Compare (a b : ByteArray) (w : World) :
    Calls Try.prog 31 #[.string a, .string b] w fun e w' => e = .returned (.int .i64 (Lib.compareBytes a.data.toList b.data.toList)) ∧ w' = w := Any.strings_Compare Try.lays106 a b w
end Go.Proofs

/-! G2 -/
/-
  Contracts of the program's find in chains: texts held against each other, and the library's search by halves.
-/
namespace Go.Proofs.Ytnhnnkljlglhbaa
open Go.AX Go.RF Go.RowKit

set_option maxRecDepth 100000
set_option maxHeartbeats 4000000

def cmpT (a b : Str) : Int := if slt a b = true then -1 else if a = b then 0 else 1

theorem compare_eq : ∀ (a b : Str), Lib.compareBytes a b = cmpT a b
  | [], [] => by simp [Lib.compareBytes, cmpT, bl_nil]
  | [], b :: r => by simp [Lib.compareBytes, cmpT, bl_nil_cons]
  | a :: l, [] => by simp [Lib.compareBytes, cmpT, bl_nil]
  | a :: l, b :: r => by
    simp only [Lib.compareBytes, cmpT, bl_cons]
    by_cases h1 : a < b
    · simp [h1]
    · by_cases h2 : b < a
      · have h3 : ¬ a = b := fun h => by subst h; exact h1 h2
        simp [h1, h2, h3]
      · have h3 : a = b := UInt8.le_antisymm (UInt8.not_lt.1 h2) (UInt8.not_lt.1 h1)
        subst h3
        rw [compare_eq l r]
        simp [h1, cmpT]
theorem cmpT_lt {a b : Str} : cmpT a b < 0 ↔ slt a b = true := by
  unfold cmpT
  split
  · next h => simp [h]
  · next h => split <;> simp [h]
theorem cmpT_zero {a b : Str} : cmpT a b = 0 ↔ a = b := by
  unfold cmpT
  split
  · next h =>
    constructor
    · intro h0; simp at h0
    · intro h0; subst h0; rw [slt_irrefl] at h; cases h
  · split <;> simp_all

theorem rd_str {w : World} {own : Nat → Prop} {v : Value} {s : Str} (h : Rd w own v (dstr s)) : v = str s := rd_v h

theorem ok_compare (a b : Str) : FnOk Try.prog 31 [.d (dstr a), .d (dstr b)] (.one (dint (cmpT a b))) := by
  refine ⟨⟨_, Try.func31, rfl, rfl⟩, fun w own vs hown ha => ?_⟩
  match vs, ha with
  | [x, y], ⟨h1, h2, _⟩ =>
    obtain rfl : x = str a := rd_v h1
    obtain rfl : y = str b := rd_v h2
    refine (Try.strings_Compare ⟨a.toArray⟩ ⟨b.toArray⟩ w).mono fun e w' he => ?_
    obtain ⟨rfl, rfl⟩ := he
    exact ⟨_, rfl, Below.refl _ _, by rw [← compare_eq]; exact Rd.v _⟩

theorem ok_find1 (c : Chain) (k : Str) : FnOk Try.prog 30 [.d (.agg c.enc), .d (dstr k)] (.one (dint (cmpT c.key k))) := by
  refine fnOk_of tbl_ok mixed_ok Try.func30 rfl (by kernel_rfl) rfl rfl fun w0 own0 => ?_
  have hc := ok_compare c.key k
  repeat (first | ((with_reducible apply s1); exact rfl) | (with_reducible first | apply CW.seq | apply CW.block | apply CW.region | apply CW.draw | apply CW.skip | apply CW.exit | apply CW.ret | apply q_then | apply q_then_exit | apply q_then_ret | apply q_block | apply q_block_ret | apply q_block_hit | apply q_ret | apply q_end | apply q_loop_exit | apply q_loop_ret | apply q_loopT_exit | apply q_loopT_ret | apply RW.nil) | ((with_reducible apply s3); exact rfl; exact by_k) | ((with_reducible apply s2); exact rfl; exact by_k) | ((with_reducible apply s4); exact rfl) | ((with_reducible apply s5); (first | (focus ((with_reducible apply a_call); exact hc; exact rfl; (repeat (first | exact SubsE.nil | (apply SubsE.cons; exact rfl; (first | exact .d (.refl _) | exact .d (.nil _) | exact .agg rfl (.refl _) | exact .pd | exact .ptr rfl); (first | exact trivial | exact ⟨rfl, trivial⟩)))); done)) | exact by_oa); exact by_g) | ((with_reducible apply CW.cond_t); exact rfl; exact by_ks) | ((with_reducible apply CW.cond_f); exact rfl; exact by_ks) | ((with_reducible apply q_block_miss); exact rfl) | (refine And.intro (show chk [] [] _ _ = true by kernel_rfl) ?_))
  exact .one (.tmp rfl (.one (.d (.refl _))))

abbrev At (l : List Chain) (k : Str) (m : Nat) : Prop := AtK Chain.key l k m
abbrev isAt (l : List Chain) (k : Str) (m : Nat) : Bool := isAtK Chain.key l k m

theorem ok_bsearch (l : List Chain) (k : Str) (m : Nat) (hl : l.length ≤ 268435456) (hm : At l k m) :
    FnOk Try.prog 29 [.d (encChains l), .d (dstr k), .d (.v (.func (.func 30) #[] #[]))] (.tup [dint m, dbool (isAt l k m)]) := by
  refine fnOk_of tbl_ok mixed_ok Try.func29 rfl (by kernel_rfl) rfl rfl fun w0 own0 => ?_
  have hml := hm.le
  repeat (first | ((with_reducible apply s1); exact rfl) | (with_reducible first | apply CW.seq | apply CW.block | apply CW.region | apply CW.draw | apply CW.skip | apply CW.exit | apply CW.ret | apply q_then | apply q_then_exit | apply q_then_ret | apply q_block | apply q_block_ret | apply q_block_hit | apply q_ret | apply q_end | apply q_loop_exit | apply q_loop_ret | apply q_loopT_exit | apply q_loopT_ret | apply RW.nil) | ((with_reducible apply s3); exact rfl; exact by_k) | ((with_reducible apply s2); exact rfl; exact by_k) | ((with_reducible apply s4); exact rfl) | ((with_reducible apply s5); (first | exact by_oa); exact by_g) | ((with_reducible apply CW.cond_t); exact rfl; exact by_ks) | ((with_reducible apply CW.cond_f); exact rfl; exact by_ks) | ((with_reducible apply q_block_miss); exact rfl) | (refine And.intro (show chk [] [] _ _ = true by kernel_rfl) ?_))
  refine CW.loopT (fun t : Nat × Nat => [sd 0 (encChains l), sd 1 (dstr k), sd 2 (.v (.func (.func 30) #[] #[])), sd 8 (dint l.length), sd 9 (dint t.1), sd 10 (dint t.2), nxt 0])
    (fun t => t.1 ≤ m ∧ m ≤ t.2 ∧ t.2 ≤ l.length) (fun t => t.2 - t.1) (0, l.length) ⟨by omega, hm.le, by omega⟩ ?_ ?_
  ·
    exact by_less
  · rintro ⟨i, j⟩ ⟨h1, h2, h3⟩
    dsimp only at h1 h2 h3 ⊢
    by_cases h4 : i < j
    · obtain ⟨c, hc⟩ : ∃ c, l[(i + j) / 2]? = some c := ⟨l[(i + j) / 2]'(by omega), List.getElem?_eq_getElem (by omega)⟩
      have hcall := ok_find1 c k
      repeat (first | (with_reducible apply stop_reg 4) | ((with_reducible apply s1); exact rfl) | (with_reducible first | apply CW.seq | apply CW.block | apply CW.region | apply CW.draw | apply CW.skip | apply CW.exit | apply CW.ret | apply q_then | apply q_then_exit | apply q_then_ret | apply q_block | apply q_block_ret | apply q_block_hit | apply q_ret | apply q_end | apply q_loop_exit | apply q_loop_ret | apply q_loopT_exit | apply q_loopT_ret | apply RW.nil) | ((with_reducible apply s3); exact rfl; exact by_k) | ((with_reducible apply s2); exact rfl; exact by_k) | ((with_reducible apply s4); exact rfl) | ((with_reducible apply s5); (first | exact by_oa); exact by_g) | ((with_reducible apply CW.cond_t); exact rfl; exact by_ks) | ((with_reducible apply CW.cond_f); exact rfl; exact by_ks) | ((with_reducible apply q_block_miss); exact rfl) | (refine And.intro (show chk [] [] _ _ = true by kernel_rfl) ?_))
      refine Stop.cutk [sd 11 (dint ((i + j) / 2 : Nat))] [.s 0, .s 1, .s 2, .s 8, .s 9, .s 10, .nx] ?_ ?_
      ·
        repeat (first | ((with_reducible apply s1); exact rfl) | (with_reducible first | apply CW.seq | apply CW.block | apply CW.region | apply CW.draw | apply CW.skip | apply CW.exit | apply CW.ret | apply q_then | apply q_then_exit | apply q_then_ret | apply q_block | apply q_block_ret | apply q_block_hit | apply q_ret | apply q_end | apply q_loop_exit | apply q_loop_ret | apply q_loopT_exit | apply q_loopT_ret | apply RW.nil) | ((with_reducible apply s3); exact rfl; exact by_k) | ((with_reducible apply s2); exact rfl; exact by_k) | ((with_reducible apply s4); exact rfl) | ((with_reducible apply s5); (first | ((with_reducible apply a_bin); (iterate 2 exact rfl); exact bin_half; exact rfl) | exact by_oa); exact by_g) | ((with_reducible apply CW.cond_t); exact rfl; exact by_ks) | ((with_reducible apply CW.cond_f); exact rfl; exact by_ks) | ((with_reducible apply q_block_miss); exact rfl) | (refine And.intro (show chk [] [] _ _ = true by kernel_rfl) ?_))
        refine q_cut ?_
        exact by_less
      have hcz := @cmpT_lt c.key k
      by_cases h5 : cmpT c.key k < 0
      · have h6 : (i + j) / 2 < m := by
          rcases Nat.lt_or_ge ((i + j) / 2) m with h | h
          · exact h
          · have := hm.ge _ c hc h
            rw [hcz.1 h5] at this; cases this
        repeat (first | ((with_reducible apply s1); exact rfl) | (with_reducible first | apply CW.seq | apply CW.block | apply CW.region | apply CW.draw | apply CW.skip | apply CW.exit | apply CW.ret | apply q_then | apply q_then_exit | apply q_then_ret | apply q_block | apply q_block_ret | apply q_block_hit | apply q_ret | apply q_end | apply q_loop_exit | apply q_loop_ret | apply q_loopT_exit | apply q_loopT_ret | apply RW.nil) | ((with_reducible apply s3); exact rfl; exact by_k) | ((with_reducible apply s2); exact rfl; exact by_k) | ((with_reducible apply s4); exact rfl) | ((with_reducible apply s5); (first | (focus ((with_reducible apply a_callv); exact hcall; (iterate 2 exact rfl); (repeat (first | exact SubsE.nil | (apply SubsE.cons; exact rfl; (first | exact .d (.refl _) | exact .d (.nil _) | exact .agg rfl (.refl _) | exact .pd | exact .ptr rfl); (first | exact trivial | exact ⟨rfl, trivial⟩)))); done)) | exact by_oa); exact by_g) | ((with_reducible apply CW.cond_t); exact rfl; exact by_ks) | ((with_reducible apply CW.cond_f); exact rfl; exact by_ks) | ((with_reducible apply q_block_miss); exact rfl) | (refine And.intro (show chk [] [] _ _ = true by kernel_rfl) ?_))
        refine q_loopT ((i + j) / 2 + 1, j) ⟨by dsimp only; omega, h2, h3⟩ (by dsimp only; omega) ?_
        exact by_less
      · have h6 : m ≤ (i + j) / 2 := by
          rcases Nat.lt_or_ge ((i + j) / 2) m with h | h
          · exact absurd (hcz.2 (hm.lt _ c hc h)) h5
          · exact h
        repeat (first | ((with_reducible apply s1); exact rfl) | (with_reducible first | apply CW.seq | apply CW.block | apply CW.region | apply CW.draw | apply CW.skip | apply CW.exit | apply CW.ret | apply q_then | apply q_then_exit | apply q_then_ret | apply q_block | apply q_block_ret | apply q_block_hit | apply q_ret | apply q_end | apply q_loop_exit | apply q_loop_ret | apply q_loopT_exit | apply q_loopT_ret | apply RW.nil) | ((with_reducible apply s3); exact rfl; exact by_k) | ((with_reducible apply s2); exact rfl; exact by_k) | ((with_reducible apply s4); exact rfl) | ((with_reducible apply s5); (first | (focus ((with_reducible apply a_callv); exact hcall; (iterate 2 exact rfl); (repeat (first | exact SubsE.nil | (apply SubsE.cons; exact rfl; (first | exact .d (.refl _) | exact .d (.nil _) | exact .agg rfl (.refl _) | exact .pd | exact .ptr rfl); (first | exact trivial | exact ⟨rfl, trivial⟩)))); done)) | exact by_oa); exact by_g) | ((with_reducible apply CW.cond_t); exact rfl; exact by_ks) | ((with_reducible apply CW.cond_f); exact rfl; exact by_ks) | ((with_reducible apply q_block_miss); exact rfl) | (refine And.intro (show chk [] [] _ _ = true by kernel_rfl) ?_))
        refine q_loopT (i, (i + j) / 2) ⟨h1, h6, by dsimp only; omega⟩ (by dsimp only; omega) ?_
        exact by_less
    · obtain rfl : i = m := by omega
      cases hc : l[i]? with
      | none =>
        have h5 : l.length ≤ i := by
          rcases Nat.lt_or_ge i l.length with h | h
          · rw [List.getElem?_eq_getElem h] at hc; cases hc
          · exact h
        repeat (first | ((with_reducible apply s1); exact rfl) | (with_reducible first | apply CW.seq | apply CW.block | apply CW.region | apply CW.draw | apply CW.skip | apply CW.exit | apply CW.ret | apply q_then | apply q_then_exit | apply q_then_ret | apply q_block | apply q_block_ret | apply q_block_hit | apply q_ret | apply q_end | apply q_loop_exit | apply q_loop_ret | apply q_loopT_exit | apply q_loopT_ret | apply RW.nil) | ((with_reducible apply s3); exact rfl; exact by_k) | ((with_reducible apply s2); exact rfl; exact by_k) | ((with_reducible apply s4); exact rfl) | ((with_reducible apply s5); (first | exact by_oa); exact by_g) | ((with_reducible apply CW.cond_t); exact rfl; exact by_ks) | ((with_reducible apply CW.cond_f); exact rfl; exact by_ks) | ((with_reducible apply q_block_miss); exact rfl) | (refine And.intro (show chk [] [] _ _ = true by kernel_rfl) ?_))
        exact .two (.tmp rfl (.one (.d (.refl _)))) (.tmp rfl (.one (.d (dle_bool (by simp [isAtK, hc])))))
      | some c =>
        have h5 : i < l.length := (List.getElem?_eq_some_iff.1 hc).1
        have hcall := ok_find1 c k
        repeat (first | ((with_reducible apply s1); exact rfl) | (with_reducible first | apply CW.seq | apply CW.block | apply CW.region | apply CW.draw | apply CW.skip | apply CW.exit | apply CW.ret | apply q_then | apply q_then_exit | apply q_then_ret | apply q_block | apply q_block_ret | apply q_block_hit | apply q_ret | apply q_end | apply q_loop_exit | apply q_loop_ret | apply q_loopT_exit | apply q_loopT_ret | apply RW.nil) | ((with_reducible apply s3); exact rfl; exact by_k) | ((with_reducible apply s2); exact rfl; exact by_k) | ((with_reducible apply s4); exact rfl) | ((with_reducible apply s5); (first | (focus ((with_reducible apply a_callv); exact hcall; (iterate 2 exact rfl); (repeat (first | exact SubsE.nil | (apply SubsE.cons; exact rfl; (first | exact .d (.refl _) | exact .d (.nil _) | exact .agg rfl (.refl _) | exact .pd | exact .ptr rfl); (first | exact trivial | exact ⟨rfl, trivial⟩)))); done)) | exact by_oa); exact by_g) | ((with_reducible apply CW.cond_t); exact rfl; exact by_ks) | ((with_reducible apply CW.cond_f); exact rfl; exact by_ks) | ((with_reducible apply q_block_miss); exact rfl) | (refine And.intro (show chk [] [] _ _ = true by kernel_rfl) ?_))
        refine .two (.tmp rfl (.one (.d (.refl _)))) (.tmp rfl (.one (.d (dle_bool ?_))))
        rw [show isAt l k i = decide (c.key = k) by simp [isAt, isAtK, hc]]
        show decide (cmpT c.key k = 0) = decide (c.key = k)
        rw [decide_eq_decide]
        exact cmpT_zero

theorem ok_find (l : List Chain) (k : Str) (m : Nat) (hl : l.length ≤ 268435456) (hm : At l k m) : FnOk Try.prog 26 [.d (encChains l), .d (dstr k)] (.tup [dint m, dbool (isAt l k m)]) := by
  refine fnOk_of tbl_ok mixed_ok Try.func26 rfl (by kernel_rfl) rfl rfl fun w0 own0 => ?_
  have hc := ok_bsearch l k m hl hm
  repeat (first | ((with_reducible apply s1); exact rfl) | (with_reducible first | apply CW.seq | apply CW.block | apply CW.region | apply CW.draw | apply CW.skip | apply CW.exit | apply CW.ret | apply q_then | apply q_then_exit | apply q_then_ret | apply q_block | apply q_block_ret | apply q_block_hit | apply q_ret | apply q_end | apply q_loop_exit | apply q_loop_ret | apply q_loopT_exit | apply q_loopT_ret | apply RW.nil) | ((with_reducible apply s3); exact rfl; exact by_k) | ((with_reducible apply s2); exact rfl; exact by_k) | ((with_reducible apply s4); exact rfl) | ((with_reducible apply s5); (first | (focus ((with_reducible apply a_call); exact hc; exact rfl; (repeat (first | exact SubsE.nil | (apply SubsE.cons; exact rfl; (first | exact .d (.refl _) | exact .d (.nil _) | exact .agg rfl (.refl _) | exact .pd | exact .ptr rfl); (first | exact trivial | exact ⟨rfl, trivial⟩)))); done)) | exact by_oa); exact by_g) | ((with_reducible apply CW.cond_t); exact rfl; exact by_ks) | ((with_reducible apply CW.cond_f); exact rfl; exact by_ks) | ((with_reducible apply q_block_miss); exact rfl) | (refine And.intro (show chk [] [] _ _ = true by kernel_rfl) ?_))
  exact .two (.tmp rfl (.one (.d (.refl _)))) (.tmp rfl (.one (.d (.refl _))))

end Go.Proofs.Ytnhnnkljlglhbaa

/-! G5 -/
/-
  Contract of the library's Backward over versions: its closure, for every loop body that keeps what lay below.
-/
namespace Go.Proofs.Ytnhnnkljlglhbaa
open Go.AX Go.RF Go.RowKit Go.Shelf

attribute [local go_sem] Oper.semAt_some

def verV (v : Version) : Value := .agg #[.int .i64 v.by_, .bool v.made, .bool v.has, .int .i64 v.n]
def verC (v : Version) (j : Nat) : Value := match j with
  | 0 => .int .i64 v.by_
  | 1 => .bool v.made
  | 2 => .bool v.has
  | _ => .int .i64 v.n
/-- What has come when k rounds are over, from the end on. -/
def back (vs : List Version) (k : Nat) : List (Nat × Version) := (List.range k).map fun j => (vs.length - 1 - j, vs[vs.length - 1 - j]?.getD ⟨0, false, false, 0⟩)
theorem back_succ (vs : List Version) (k : Nat) : back vs (k + 1) = back vs k ++ [(vs.length - 1 - k, vs[vs.length - 1 - k]?.getD ⟨0, false, false, 0⟩)] := by simp [back, List.range_succ]
theorem back_length (vs : List Version) (k : Nat) : (back vs k).length = k := by simp [back]

/-- The slice's cells hold the versions, in a block below n₀. -/
def VerAt (n₀ : Nat) (W : World) (ad : Addr) (vs : List Version) : Prop := ad.block < n₀ ∧ ∀ (i j : Nat) (v : Version), vs[i]? = some v → j < 4 → W.cell? (ad.add (i * 4 + j)) = some (verC v j)
theorem VerAt.below {n₀ : Nat} {A B : World} {ad : Addr} {vs : List Version} (h : VerAt n₀ A ad vs) (hb : Below n₀ A B) : VerAt n₀ B ad vs :=
  ⟨h.1, fun i j v hi hj => (hb.cell (by rw [add_block]; exact h.1)).trans (h.2 i j v hi hj)⟩

theorem ver_cells {n₀ : Nat} {W : World} {ad : Addr} {vs : List Version} (h : VerAt n₀ W ad vs) {i : Nat} {v : Version} (hi : vs[i]? = some v) :
    W.cell? (ad.add (i * 4)) = some (.int .i64 v.by_) ∧ W.cell? ⟨(ad.add (i * 4)).block, (ad.add (i * 4)).off + 1, none⟩ = some (.bool v.made) ∧
      W.cell? ⟨(ad.add (i * 4)).block, (ad.add (i * 4)).off + 2, none⟩ = some (.bool v.has) ∧ W.cell? ⟨(ad.add (i * 4)).block, (ad.add (i * 4)).off + 3, none⟩ = some (.int .i64 v.n) := by
  have hx : ∀ j, j < 4 → W.cell? ((ad.add (i * 4)).add j) = some (verC v j) := fun j hj => by rw [add_add]; exact h.2 i j v hi hj
  exact ⟨hx 0 (by omega), hx 1 (by omega), hx 2 (by omega), hx 3 (by omega)⟩

set_option maxRecDepth 100000 in
set_option maxHeartbeats 2000000 in
theorem backward1_in (F : Fence) (n : Nat) (hF : F.fn 32) (hro : F.round = none) (hn : 1 ≤ n) (l Bs n₀ cap : Nat) (ad : Addr) (vs : List Version) (hreach : vs.length ≤ 268435456) (J Jx : List (Nat × Version) → World → Prop)
    (hY : ∀ pre x W, J pre W → pre.length < vs.length → YieldAt F (n - 1) Try.prog l #[.int .i64 (x.1 : Int), verV x.2] W fun e W' =>
      (e = .returned (.bool true) ∧ J (pre ++ [x]) W' ∧ Below n₀ W W') ∨ (e = .returned (.bool false) ∧ Jx (pre ++ [x]) W'))
    (W : World) (hBs : W.cell? ⟨Bs, 0, none⟩ = some (.slice (some ad) vs.length cap)) (hBl : Bs < n₀) (hc : VerAt n₀ W ad vs) (h0 : J [] W) :
    CallsIn F n Try.prog 32 #[.func (.yield l) #[] #[], .pointer (some ⟨Bs, 0, none⟩)] W fun e W' => (∃ v, e = .returned v) ∧
      ((∃ ys, ys = back vs vs.length ∧ J ys W') ∨ (∃ pre, (∃ k, k ≤ vs.length ∧ pre = back vs k) ∧ Jx pre W')) := by
  refine callsIn_of_wp Try.func32 rfl hF ?_ hro
  simp only [Try.ntmps32, List.size_toArray, List.length_cons, List.length_nil, Nat.reduceAdd, Nat.reduceSub, Array.replicate_succ, Array.replicate_zero, List.push_toArray, List.append_toArray, List.nil_append, List.cons_append]
  gi_wp2
  gi_loopw [3] (fun i wr => ∃ k : Nat, k ≤ vs.length ∧ i = .int .i64 ((vs.length : Int) - 1 - k) ∧ J (back vs k) wr ∧ Below n₀ W wr)
    (fun i _ => (intOf i + 1).toNat)
  case atStart => exact ⟨0, Nat.zero_le _, by simp, h0, Below.refl _ _⟩
  case round =>
    obtain ⟨k, hk, rfl, hJs, hnx⟩ := hrel
    by_cases hlt : k < vs.length
    · obtain ⟨i, hi, hi2⟩ : ∃ i : Nat, (vs.length : Int) - 1 - k = i ∧ i = vs.length - 1 - k := ⟨vs.length - 1 - k, by omega, rfl⟩
      obtain ⟨v, hv⟩ : ∃ v, vs[i]? = some v := ⟨vs[i]'(by omega), List.getElem?_eq_getElem (by omega)⟩
      have hB2 : wr.cell? ⟨Bs, 0, none⟩ = some (.slice (some ad) vs.length cap) := (hnx.cell (p := ⟨Bs, 0, none⟩) hBl).trans hBs
      obtain ⟨hc0, hc1, hc2, hc3⟩ := ver_cells (hc.below hnx) hv
      obtain ⟨fn, tmps, assign, body, hy, hR⟩ := hY _ (i, v) wr hJs (by rw [back_length]; exact hlt)
      dsimp only at hy
      have hi0 : (0 : Int) ≤ (i : Int) := by omega
      have hlen : i < vs.length := by omega
      have hnext : back vs k ++ [(i, v)] = back vs (k + 1) := by rw [back_succ, ← hi2, hv]; rfl
      rw [hi]
      clear hi2
      unfold verV at hy
      gi_wp2
      refine hR.mono ?_
      rintro e W3 (⟨rfl, hJ3, hk3⟩ | ⟨rfl, hJx3⟩)
      · gi_wp2
        go_roundw
        case rel => exact ⟨k + 1, by omega, by congr 1 <;> omega, by rw [← hnext]; exact hJ3, hnx.trans hk3⟩
        case measure => simp [intOf] <;> omega
      · gi_wp2
        refine bodyPost_ret (results_none rfl _ _ _) rfl ?_
        exact ⟨⟨_, rfl⟩, .inr ⟨_, ⟨k + 1, by omega, hnext⟩, hJx3⟩⟩
    · obtain rfl : k = vs.length := by omega
      have hi : (vs.length : Int) - 1 - vs.length = -1 := by omega
      rw [hi]
      gi_wp2
      go_end0
      exact ⟨⟨_, rfl⟩, .inl ⟨_, rfl, hJs⟩⟩

set_option maxRecDepth 100000 in
set_option maxHeartbeats 1000000 in
/-- .. at a slice of no element: no round. -/
theorem backward1_nil_in (F : Fence) (n : Nat) (hF : F.fn 32) (hro : F.round = none) (l Bs cap : Nat) (p : Option Addr) (J : List (Nat × Version) → World → Prop) (W : World) (hBs : W.cell? ⟨Bs, 0, none⟩ = some (.slice p 0 cap)) (h0 : J [] W) :
    CallsIn F n Try.prog 32 #[.func (.yield l) #[] #[], .pointer (some ⟨Bs, 0, none⟩)] W fun e W' => (∃ v, e = .returned v) ∧ J [] W' := by
  refine callsIn_of_wp Try.func32 rfl hF ?_ hro
  simp only [Try.ntmps32, List.size_toArray, List.length_cons, List.length_nil, Nat.reduceAdd, Nat.reduceSub, Array.replicate_succ, Array.replicate_zero, List.push_toArray, List.append_toArray, List.nil_append, List.cons_append]
  gi_wp2
  gi_loopw [3] (fun i wr => i = .int .i64 (-1) ∧ J [] wr) (fun _ _ => 0)
  case atStart => exact ⟨rfl, h0⟩
  case round =>
    obtain ⟨rfl, hJs⟩ := hrel
    gi_wp2
    go_end0
    exact ⟨⟨_, rfl⟩, hJs⟩

set_option maxHeartbeats 1000000 in
/-- Backward itself: the slice value is boxed; the function value captures the box. -/
theorem backward_in (F : Fence) (n : Nat) (hF : F.fn 27) (hro : F.round = none) (a : Option Addr) (len cap : Nat) (w : World) :
    CallsIn F n Try.prog 27 #[.slice a len cap] w fun e w' => e = .returned (.func (.func 32) #[] #[.pointer (some ⟨w.heap.size, 0, none⟩)]) ∧ w' = w.alloc (.cells #[.slice a len cap] 43) := by
  refine callsIn_of_wp Try.func27 rfl hF ?_ hro
  simp only [Try.ntmps27, List.size_toArray, List.length_cons, List.length_nil, Nat.reduceAdd, Nat.reduceSub, Array.replicate_succ, Array.replicate_zero, List.push_toArray, List.append_toArray, List.nil_append, List.cons_append]
  gi_wp2
  go_ret
  exact ⟨rfl, rfl⟩

/-- A slice value that holds versions, in a block below n₀; or it has none. -/
def Vers (n₀ : Nat) (W : World) (sv : Value) (vs : List Version) : Prop :=
  ∃ p cap, sv = .slice p vs.length cap ∧ (vs = [] ∨ ∃ ad, p = some ad ∧ VerAt n₀ W ad vs)
theorem Vers.below {n₀ : Nat} {A B : World} (h : Below n₀ A B) {sv : Value} {vs : List Version} : Vers n₀ A sv vs → Vers n₀ B sv vs
  | ⟨p, cap, e, .inl h0⟩ => ⟨p, cap, e, .inl h0⟩
  | ⟨p, cap, e, .inr ⟨ad, h1, h2⟩⟩ => ⟨p, cap, e, .inr ⟨ad, h1, h2.below h⟩⟩
theorem Vers.mono {n₀ n₁ : Nat} {A : World} (h : n₀ ≤ n₁) {sv : Value} {vs : List Version} : Vers n₀ A sv vs → Vers n₁ A sv vs
  | ⟨p, cap, e, .inl h0⟩ => ⟨p, cap, e, .inl h0⟩
  | ⟨p, cap, e, .inr ⟨ad, h1, h2⟩⟩ => ⟨p, cap, e, .inr ⟨ad, h1, ⟨Nat.lt_of_lt_of_le h2.1 h, h2.2⟩⟩⟩

theorem backward_stops (F : Fence) (n : Nat) (hF : F.fn 32) (hro : F.round = none) (hn : 1 ≤ n) (Bs n₀ : Nat) (sv : Value) (vs : List Version) (hreach : vs.length ≤ 268435456) (w : World) (hBs : Bs < n₀) (hn₀ : n₀ ≤ w.heap.size)
    (hc : w.cell? ⟨Bs, 0, none⟩ = some sv) (hI : Vers n₀ w sv vs) :
    SeqStopsK F n Try.prog 32 #[.pointer (some ⟨Bs, 0, none⟩)] (fun x : Nat × Version => #[Value.int .i64 (x.1 : Int), verV x.2]) (Below n₀) (fun ys => ys = back vs vs.length)
      (fun pre => ∃ k, k ≤ vs.length ∧ pre = back vs k) vs.length w := fun l J Jx W hW _ _ hY h0 => by
  have hc' := (hW.cell (p := ⟨Bs, 0, none⟩) (show Bs < w.heap.size by omega)).trans hc
  obtain ⟨p, cap, rfl, rfl | ⟨ad, rfl, hv⟩⟩ := hI.below (hW.mono hn₀)
  · exact (backward1_nil_in F n hF hro l Bs cap p J W hc' h0).mono fun e W' ⟨he, hj⟩ => ⟨he, .inl ⟨_, rfl, hj⟩⟩
  · exact backward1_in F n hF hro hn l Bs n₀ cap ad vs hreach J Jx hY W hc' hBs hv h0

end Go.Proofs.Ytnhnnkljlglhbaa

/-! G6 -/
/-
  Contract of the program's Before.
-/
namespace Go.Proofs.Ytnhnnkljlglhbaa
open Go.AX Go.RF Go.RowKit Go.Shelf

attribute [local go_sem] Oper.semAt_some

def AllGe (b : Int) (pre : List (Nat × Version)) : Prop := ∀ x ∈ pre, b ≤ x.2.by_
def Hit (b : Int) (pre : List (Nat × Version)) (v : Version) : Prop := ∃ ini i, pre = ini ++ [(i, v)] ∧ AllGe b ini ∧ v.by_ < b
theorem AllGe.snoc {b : Int} {pre : List (Nat × Version)} (h : AllGe b pre) {i : Nat} {v : Version} (hv : b ≤ v.by_) : AllGe b (pre ++ [(i, v)]) := fun x hx => by
  rcases List.mem_append.1 hx with hx | hx
  · exact h x hx
  · simp at hx; subst hx; exact hv
/-- A version in a box. -/
def Box4 (W : World) (B : Nat) (v : Version) : Prop := W.heap[B]? = some (.cells #[.int .i64 v.by_, .bool v.made, .bool v.has, .int .i64 v.n] 26 (0, 0))
theorem Box4.lt {W : World} {B : Nat} {v : Version} (h : Box4 W B v) : B < W.heap.size := (Array.getElem?_eq_some_iff.1 h).1
theorem Box4.cells {W : World} {B : Nat} {v : Version} (h : Box4 W B v) : W.cell? ⟨B, 0, none⟩ = some (.int .i64 v.by_) ∧ W.cell? ⟨B, 1, none⟩ = some (.bool v.made) ∧ W.cell? ⟨B, 2, none⟩ = some (.bool v.has) ∧ W.cell? ⟨B, 3, none⟩ = some (.int .i64 v.n) := by
  have h' : W.heap[B]? = _ := h
  refine ⟨?_, ?_, ?_, ?_⟩ <;> simp [World.cell?, h']
theorem Box4.frozens {W : World} {B : Nat} {v : Version} (h : Box4 W B v) : W.frozen? ⟨B, 0, none⟩ = false ∧ W.frozen? ⟨B, 1, none⟩ = false ∧ W.frozen? ⟨B, 2, none⟩ = false ∧ W.frozen? ⟨B, 3, none⟩ = false := by
  have h' : W.heap[B]? = _ := h
  refine ⟨?_, ?_, ?_, ?_⟩ <;> simp [World.frozen?, h']
theorem Box4.kept {W W' : World} {row : Option Nat} {B : Nat} {v : Version} (h : Box4 W B v) (hg : W.grownBy W' row) (hne : some B ≠ row) : Box4 W' B v := (hg.block B h.lt hne).trans h
theorem Box4.alloc {W : World} {B : Nat} {v : Version} (h : Box4 W B v) (o : Obj) : Box4 (W.alloc o) B v := h.kept (World.grownBy_alloc W o none) (by simp)
theorem Box4.below {n : Nat} {W W' : World} {B : Nat} {v : Version} (h : Box4 W B v) (hb : Below n W W') (hB : B < n) : Box4 W' B v := (hb.block B hB).trans h
theorem box4_own (B : Nat) {β : Type} (f : β → Version) : Own (fun s W => Box4 W B (f s)) := fun s X Y row hs hg hrow =>
  Box4.kept hs hg (fun e => by
    obtain ⟨o, ho, hc⟩ := hrow B e.symm
    rw [show X.heap[B]? = _ from hs] at ho
    cases ho
    simp [Obj.isCells] at hc)
theorem sets_box {W : World} {B : Nat} {v : Version} (h : Box4 W B v) (u : Version) :
    Box4 ((((W.setCell ⟨B, 0, none⟩ (.int .i64 u.by_)).setCell ⟨B, 1, none⟩ (.bool u.made)).setCell ⟨B, 2, none⟩ (.bool u.has)).setCell ⟨B, 3, none⟩ (.int .i64 u.n)) B u := by
  have h' : W.heap[B]? = _ := h
  simp [Box4, World.setCell, Array.getElem?_modify, h']
theorem sets_keeps (W : World) (B : Nat) (a b c d : Value) : KeepsOthers W ((((W.setCell ⟨B, 0, none⟩ a).setCell ⟨B, 1, none⟩ b).setCell ⟨B, 2, none⟩ c).setCell ⟨B, 3, none⟩ d) :=
  (((KeepsOthers.setCell W _ _).trans (KeepsOthers.setCell _ _ _)).trans (KeepsOthers.setCell _ _ _)).trans (KeepsOthers.setCell _ _ _)
theorem sets_below {W : World} {n B : Nat} {a b c d : Value} (h : n ≤ B) : Below n W ((((W.setCell ⟨B, 0, none⟩ a).setCell ⟨B, 1, none⟩ b).setCell ⟨B, 2, none⟩ c).setCell ⟨B, 3, none⟩ d) :=
  ((((Below.refl n W).setCell (p := ⟨B, 0, none⟩) h _).setCell (p := ⟨B, 1, none⟩) h _).setCell (p := ⟨B, 2, none⟩) h _).setCell (p := ⟨B, 3, none⟩) h _

theorem results_box {W : World} {B : Nat} {v : Version} {x : Array Value} (c0 : W.cell? ⟨B, 0, none⟩ = some (.int .i64 v.by_)) (c1 : W.cell? ⟨B, 1, none⟩ = some (.bool v.made)) (c2 : W.cell? ⟨B, 2, none⟩ = some (.bool v.has)) (c3 : W.cell? ⟨B, 3, none⟩ = some (.int .i64 v.n))
    (hx : x[6]? = some (.pointer (some ⟨B, 0, none⟩)) := by rfl) : (results Try.f10 x).run Try.prog W = .ok (verV v) W := by
  simp [results, Try.f10, go_sem, hx, c0, c1, c2, c3, verV, Act.eval, Array.getD_eq_getD_getElem?]

set_option maxRecDepth 100000 in
set_option maxHeartbeats 4000000 in
theorem before_raw (m : Nat) (by_ : Int) (k : ByteArray) (ad : Addr) (n cp : Nat) (sv : Value) (vs : List Version) (w : World) (hm : m < n) (had : ad.block < w.heap.size)
    (hcell : w.cell? (ad.add (m * 2 + 1)) = some sv) (hvs : Vers w.heap.size w sv vs) (hreach : vs.length ≤ 268435456)
    (hf : ∀ W : World, w.heap.size ≤ W.heap.size → Below w.heap.size w W → Calls Try.prog 26 #[.slice (some ad) n cp, .string k] W fun e W' => e = .returned (.tuple #[.int .i64 (m : Int), .bool true]) ∧ Below W.heap.size W W') :
    Calls Try.prog 10 #[.slice (some ad) n cp, .string k, .int .i64 by_] w fun e W' =>
      ((e = .returned (verV noV) ∧ AllGe by_ (back vs vs.length)) ∨ ∃ k v, k ≤ vs.length ∧ Hit by_ (back vs k) v ∧ e = .returned (verV v)) ∧ Below w.heap.size w W' := by
  refine (callsIn_wide (n := 3)).1 ?_
  refine callsIn_of_wp_marks Try.func10 rfl trivial ?_
  simp only [Try.ntmps10, List.size_toArray, List.length_cons, List.length_nil, Nat.reduceAdd, Nat.reduceSub, Array.replicate_succ, Array.replicate_zero, List.push_toArray, List.append_toArray, List.nil_append, List.cons_append]
  have hB1 : Below w.heap.size w ((w.alloc (.cells #[.int .i64 by_] 3)).alloc (.cells #[.int .i64 0, .bool false, .bool false, .int .i64 0] 26)) := ((Below.refl _ w).alloc (Nat.le_refl _) _).alloc (by simp) _
  have hf1 := hf _ hB1.size hB1
  obtain ⟨p, cap, rfl, hvs1⟩ := hvs
  have hcell' : w.cell? ⟨(ad.add (m * 2)).block, (ad.add (m * 2)).off + 1, none⟩ = some (.slice p vs.length cap) := by
    rw [← add_add] at hcell
    exact hcell
  have hc0 : ∀ {w1 : World}, Below w.heap.size w w1 → w1.cell? ⟨(ad.add (m * 2)).block, (ad.add (m * 2)).off + 1, none⟩ = some (.slice p vs.length cap) := fun hB =>
    (hB.cell (p := ⟨(ad.add (m * 2)).block, (ad.add (m * 2)).off + 1, none⟩) (by show (ad.add (m * 2)).block < _; rw [add_block]; exact had)).trans hcell'
  gi_wp2_with (refine ⟨trivial, ?_⟩; first | (gi_at_call 26; refine (callsIn_wide.2 hf1).mono ?_; clear hf1; rintro e w1 ⟨rfl, hb1⟩; have hB2 := hB1.trans (hb1.mono hB1.size); have hc1 := hc0 hB2) |
    (gi_at_call 27; refine (backward_in _ _ trivial rfl _ _ _ _).mono ?_; rintro e w' ⟨rfl, rfl⟩))
  have hsz1 : w.heap.size + 1 + 1 ≤ w1.heap.size := by have := hb1.size; simpa using this
  have bY : Boxed w1 w.heap.size 3 (.int .i64 by_) := by
    have h0 := (Boxed.new w 3 (.int .i64 by_)).alloc (.cells #[.int .i64 0, .bool false, .bool false, .int .i64 0] 26)
    exact (hb1.block _ (by simp; omega)).trans h0
  have bR : Box4 w1 (w.heap.size + 1) ⟨0, false, false, 0⟩ := by
    have h0 : Box4 ((w.alloc (.cells #[.int .i64 by_] 3)).alloc (.cells #[.int .i64 0, .bool false, .bool false, .int .i64 0] 26)) (w.heap.size + 1) ⟨0, false, false, 0⟩ := by
      have := World.alloc_heap_new (w.alloc (.cells #[.int .i64 by_] 3)) (.cells #[.int .i64 0, .bool false, .bool false, .int .i64 0] 26)
      simpa [Box4] using this
    exact h0.below hb1 (by simp)
  have bN := Boxed.new w1 43 (.slice p vs.length cap)
  have hV1 : Vers w.heap.size w1 (.slice p vs.length cap) vs := Vers.below hB2 ⟨p, cap, rfl, hvs1⟩
  obtain ⟨W0, hW0⟩ : ∃ W0, w1.alloc (.cells #[.slice p vs.length cap] 43) = W0 := ⟨_, rfl⟩
  have hBW : Below w1.heap.size w1 W0 := by rw [← hW0]; exact (Below.refl _ w1).alloc (Nat.le_refl _) _
  have hsz0 : W0.heap.size = w1.heap.size + 1 := by rw [← hW0]; simp
  rw [hW0] at bN ⊢
  have bY0 : Boxed W0 w.heap.size 3 (.int .i64 by_) := (hBW.block _ (by omega)).trans bY
  have bR0 : Box4 W0 (w.heap.size + 1) ⟨0, false, false, 0⟩ := bR.below hBW (by omega)
  have hB0 : Below w.heap.size w W0 := hB2.trans (hBW.mono hB2.size)
  clear hW0
  refine wpIn_rangeFunc_ownH (F := Fence.wide) rfl (by omega) (gf := 32) (lb := #[.pointer (some ⟨w1.heap.size, 0, none⟩)]) rfl trivial (enters_of Try.func32 (by kernel_rfl) rfl)
    (backward_stops Fence.wide (3 - 1) trivial rfl (by omega) w1.heap.size W0.heap.size _ vs hreach W0 (by omega) (Nat.le_refl _) bN.cell (Vers.mono hB0.size (Vers.below (hBW.mono hB2.size) hV1))) belowK_t (belowK_b (Nat.le_refl _)) (Below.refl _ _) (fun _ => rfl)
    (fun pre W => AllGe by_ pre ∧ Below W0.heap.size W0 W)
    (fun c pre W => (c = .ret ∧ ∃ v, Hit by_ pre v ∧ Box4 W (w.heap.size + 1) v) ∧ Below w.heap.size w W)
    (OwnFrom.and (Own.from (fun s A B row hs hg hr => hs) _) (ownFrom_below (Nat.le_refl _) (Nat.le_refl _)))
    (fun c => OwnFrom.and (Own.from (fun s A B row hs hg hr => by obtain ⟨hc, v, e1, e4⟩ := hs; exact ⟨hc, v, e1, box4_own (w.heap.size + 1) (fun (_ : Unit) => v) () A B row e4 hg hr⟩) _) (ownFrom_below (Nat.le_refl _) hB0.size))
    ⟨fun x hx => by simp at hx, Below.refl _ _⟩
    (fun x a' W => ∃ Bx, w.heap.size + 1 < Bx ∧ Box4 W Bx x.2 ∧ a' = { tmps := #[.slice (some ad) n cp, .string k, .int .i64 by_, undef, undef, .pointer (some ⟨w.heap.size, 0, none⟩), .pointer (some ⟨w.heap.size + 1, 0, none⟩), .int .i64 (m : Int), .bool true, undef, .pointer (some ⟨Bx, 0, none⟩),
      .tuple #[.int .i64 (m : Int), .bool true], .slice (some ad) n cp, .string k, .tuple #[.int .i64 (m : Int), .bool true], .int .i64 (m : Int), .bool true, .bool true, .slice (some ad) n cp, .int .i64 (m : Int), .pointer (some (ad.add (m * 2))), .pointer (some ⟨(ad.add (m * 2)).block, (ad.add (m * 2)).off + 1, none⟩), .slice p vs.length cap,
      .func (.func 32) #[] #[.pointer (some ⟨w1.heap.size, 0, none⟩)], .int .i64 (x.1 : Int), verV x.2, undef, undef, undef, undef, undef, undef], defers := [] })
    (fun x a' _ X Y row hs hg hr => by obtain ⟨Bx, h1, h2, h3⟩ := hs; exact ⟨Bx, h1, box4_own Bx (fun (_ : Unit) => x.2) () X Y row h2 hg (fun r e => (hr r e).2), h3⟩)
    ?assign ?body ?done ?stop
  case assign =>
    rintro l pre ⟨xi, xb, xm, xh, xn⟩ W K ⟨hp, hB⟩ hK
    simp only [verV]
    gi_wp2
    have hbx : Below W0.heap.size W (W.alloc (.cells #[.int .i64 xb, .bool xm, .bool xh, .int .i64 xn] 26)) := (Below.refl _ W).alloc hB.size _
    exact hK _ _ ((KeepsOthers.alloc _ _).from _) hbx ⟨hp, hB.trans hbx⟩ ⟨W.heap.size, by have := hB.size; omega, World.alloc_heap_new W _, rfl⟩
  case body =>
    rintro l pre ⟨xi, xb, xm, xh, xn⟩ a' W hl ⟨r, hr⟩ ⟨hp, hB⟩ ⟨Bx, hBx, bX, rfl⟩ hlt
    simp only [verV]
    have bR1 := bR0.below hB (by omega)
    have bY1 : Boxed W w.heap.size 3 (.int .i64 by_) := (hB.block _ (by omega)).trans bY0
    obtain ⟨x0, x1, x2, x3⟩ := bX.cells
    obtain ⟨y0, y1, y2, y3⟩ := bR1.cells
    obtain ⟨z0, z1, z2, z3⟩ := bR1.frozens
    have cY := bY1.cell
    have hB9 : Below w.heap.size w W := hB0.trans (hB.mono hB0.size)
    dsimp only at x0 x1 x2 x3
    gi_wp2
    · have hx : xb < by_ := by assumption
      exact ⟨(sets_keeps W _ _ _ _ _).from _, ⟨rfl, ⟨xb, xm, xh, xn⟩, ⟨pre, xi, rfl, hp, hx⟩, sets_box bR1 ⟨xb, xm, xh, xn⟩⟩, hB9.trans (sets_below (by omega))⟩
    · have hx : by_ ≤ xb := by assumption
      exact ⟨KeepsFrom.refl _ _, Below.refl _ _, hp.snoc hx, by rw [← hsz0]; exact hB⟩
  case done =>
    rintro D ys W hD rfl ⟨hne, hB⟩ hK
    have bR1 := bR0.below hB (by omega)
    obtain ⟨y0, y1, y2, y3⟩ := bR1.cells
    obtain ⟨z0, z1, z2, z3⟩ := bR1.frozens
    gi_wp2
    have hK' := (sets_keeps W (w.heap.size + 1) (.int .i64 (-1)) (.bool true) (.bool false) (.int .i64 0)).same D _ hK rfl
    have bF := sets_box bR1 noV
    have hB9 : Below w.heap.size w W := hB0.trans (hB.mono hB0.size)
    have hBs := hB9.trans (sets_below (W := W) (n := w.heap.size) (B := w.heap.size + 1) (a := .int .i64 (-1)) (b := .bool true) (c := .bool false) (d := .int .i64 0) (by omega))
    refine ⟨by simp, .inl ⟨_, _, rfl, run_takeDeferred hK', ?_⟩⟩
    have hD' : w.heap.size + 1 ≠ D := by have := bR1.lt; omega
    obtain ⟨c0, c1, c2, c3⟩ := Box4.cells (Box4.kept bF (grownBy_putObj' _ D (.deferred none)) (fun e => hD' (by cases e; rfl)))
    refine ⟨verV noV, ?_, .inl rfl, hBs.trans (belowK_b (w := w) (Nat.le_refl _) _ D _ _ (by have := hB0.size; omega) hK' rfl rfl)⟩
    exact results_box c0 c1 c2 c3
  case stop =>
    rintro D c pre W hD ⟨k, hk, rfl⟩ ⟨⟨rfl, v, hv, hcr⟩, hB⟩ hK
    gi_wp2
    refine ⟨by simp, .inl ⟨_, _, rfl, run_takeDeferred hK, ?_⟩⟩
    have hD' : w.heap.size + 1 ≠ D := by have := hB0.size; omega
    obtain ⟨c0, c1, c2, c3⟩ := Box4.cells (Box4.kept hcr (grownBy_putObj' _ D (.deferred none)) (fun e => hD' (by cases e; rfl)))
    exact ⟨verV v, results_box c0 c1 c2 c3, .inr ⟨k, v, hk, hv, rfl⟩, hB.trans (belowK_b (w := w) (Nat.le_refl _) W D _ _ (by have := hB0.size; omega) hK rfl rfl)⟩

/-! ### The contract -/
theorem rd_ver {w : World} {own : Nat → Prop} (v : Version) : Rd w own (verV v) (.agg v.enc) := by
  refine .agg _ _ rfl (fun j c hc => ?_) fun j d c hd hc => ?_
  · match j, hc with
    | 0, hc => simp at hc; subst hc; rfl
    | 1, hc => simp at hc; subst hc; rfl
    | 2, hc => simp at hc; subst hc; rfl
    | 3, hc => simp at hc; subst hc; rfl
  · match j, hd, hc with
    | 0, hd, hc => simp [Version.enc] at hc hd; subst hc hd; exact .v _
    | 1, hd, hc => simp [Version.enc] at hc hd; subst hc hd; exact .v _
    | 2, hd, hc => simp [Version.enc] at hc hd; subst hc hd; exact .v _
    | 3, hd, hc => simp [Version.enc] at hc hd; subst hc hd; exact .v _
theorem rd_vers {w : World} {own : Nat → Prop} {sv : Value} {vs : List Version} (h : Rd w own sv (encVs vs)) : Vers w.heap.size w sv vs := by
  unfold encVs at h
  generalize hr : vs.map Version.enc = rows at h
  generalize hd : D.sl 4 rows = d at h
  cases h with
  | v => cases hd
  | agg => cases hd
  | nil a cap k =>
    cases hd
    have : vs = [] := by simpa using hr
    subst this
    exact ⟨a, cap, rfl, .inl rfl⟩
  | sl ad cap k rows f hb hs hcap hk hc h1 hr' =>
    cases hd
    subst hr
    refine ⟨some ad, cap, by simp, .inr ⟨ad, rfl, hs, fun i j v hi hj => ?_⟩⟩
    have hi' : (vs.map Version.enc)[i]? = some v.enc := by simp [hi]
    have hval : ∀ d, v.enc[j]? = some d → ∀ x, d = .v x → w.cell? (ad.add (i * 4 + j)) = some x := fun d hd x hx => by
      subst hx
      rw [hc i j _ _ hi' hd, rd_v (hr' i j _ _ hi' hd)]
    match j, hj with
    | 0, _ => exact hval _ rfl _ rfl
    | 1, _ => exact hval _ rfl _ rfl
    | 2, _ => exact hval _ rfl _ rfl
    | 3, _ => exact hval _ rfl _ rfl

theorem back_ge {b : Int} {vs : List Version} {k : Nat} (hk : k ≤ vs.length) (h : AllGe b (back vs k)) : ∀ v ∈ vs.drop (vs.length - k), b ≤ v.by_ := fun v hv => by
  obtain ⟨j, hj⟩ := List.getElem?_of_mem hv
  rw [List.getElem?_drop] at hj
  have hlt := (List.getElem?_eq_some_iff.1 hj).1
  have hmem : (vs.length - k + j, v) ∈ back vs k := by
    unfold back
    refine List.mem_map.2 ⟨k - 1 - j, by simp; omega, ?_⟩
    rw [show vs.length - 1 - (k - 1 - j) = vs.length - k + j by omega, hj]
    rfl
  exact h _ hmem
theorem hit_bvs {b : Int} {vs : List Version} {k : Nat} {v : Version} (hk : k ≤ vs.length) (h : Hit b (back vs k) v) : bvs true b noV vs = v := by
  obtain ⟨ini, i, h1, h2, h3⟩ := h
  cases k with
  | zero => simp [back] at h1
  | succ k =>
    rw [back_succ] at h1
    obtain ⟨rfl, h5⟩ := List.append_inj' h1 rfl
    simp only [List.cons.injEq, Prod.mk.injEq, and_true] at h5
    obtain ⟨rfl, h5⟩ := h5
    have hlt : vs.length - 1 - k < vs.length := by omega
    have hv : vs[vs.length - 1 - k]? = some v := by
      rw [List.getElem?_eq_getElem hlt] at h5 ⊢
      simpa using h5
    have hge := back_ge (by omega) h2
    rw [split_at hv, bvs_append]
    simp only [bvs]
    rw [if_pos (by simpa using h3), show vs.length - 1 - k + 1 = vs.length - k by omega, bvs_ge hge]

theorem isAt_some {l : List Chain} {k : Str} {m : Nat} (h : isAt l k m = true) : ∃ c, l[m]? = some c ∧ c.key = k := by
  unfold isAt isAtK at h
  split at h
  · next c hc => exact ⟨c, hc, of_decide_eq_true h⟩
  · cases h

theorem ok_pbefore (l : List Chain) (k : Str) (b : Int) (hl : l.length ≤ 268435456) (hv : ∀ c ∈ l, c.vs.length ≤ 268435456) (hs : Srt Chain.key l) :
    FnOk Try.prog 10 [.d (encChains l), .d (dstr k), .d (dint b)] (.one (.agg (before l k b).enc)) := by
  obtain ⟨m, hm⟩ := hs.at k
  have hf := ok_find l k m hl hm
  cases hb : isAt l k m with
  | false =>
    refine fnOk_of tbl_ok mixed_ok Try.func10 rfl (by kernel_rfl) rfl rfl fun w0 own0 => ?_
    rw [hb] at hf
    rw [before_no hs hm hb]
    repeat (first | ((with_reducible apply s1); exact rfl) | (with_reducible first | apply CW.seq | apply CW.block | apply CW.region | apply CW.draw | apply CW.skip | apply CW.exit | apply CW.ret | apply q_then | apply q_then_exit | apply q_then_ret | apply q_block | apply q_block_ret | apply q_block_hit | apply q_ret | apply q_end | apply q_loop_exit | apply q_loop_ret | apply q_loopT_exit | apply q_loopT_ret | apply RW.nil) | ((with_reducible apply s3); exact rfl; exact by_k) | ((with_reducible apply s2); exact rfl; exact by_k) | ((with_reducible apply s4); exact rfl) | ((with_reducible apply s5); (first | (focus ((with_reducible apply a_call); exact hf; exact rfl; (repeat (first | exact SubsE.nil | (apply SubsE.cons; exact rfl; (first | exact .d (.refl _) | exact .d (.nil _) | exact .agg rfl (.refl _) | exact .pd | exact .ptr rfl); (first | exact trivial | exact ⟨rfl, trivial⟩)))); done)) | exact by_oa); exact by_g) | ((with_reducible apply CW.cond_t); exact rfl; exact by_ks) | ((with_reducible apply CW.cond_f); exact rfl; exact by_ks) | ((with_reducible apply q_block_miss); exact rfl) | (refine And.intro (show chk [] [] _ _ = true by kernel_rfl) ?_))
    exact .one (.cell rfl rfl rfl rfl (.aggd (ds := noV.enc) rfl (.refl _)))
  | true =>
    obtain ⟨c, hc, hck⟩ := isAt_some hb
    rw [before_yes hs hc hck]
    refine ⟨⟨_, Try.func10, rfl, rfl⟩, fun w own vs hown ha => ?_⟩
    match vs, ha with
    | [x, y, z], ⟨h1, h2, h3, _⟩ =>
      obtain rfl : y = str k := rd_v h2
      obtain rfl : z = .int .i64 b := rd_v h3
      have hfc : ∀ W : World, w.heap.size ≤ W.heap.size → Below w.heap.size w W → Calls Try.prog 26 #[x, str k] W fun e W' => e = .returned (.tuple #[.int .i64 (m : Int), .bool true]) ∧ Below W.heap.size W W' := fun W hsz hB => by
        have h1' : Rd W own x (encChains l) := Rd.step (Ext.of_below hB) (fun b h => .inl h) h1
        refine (hf.calls W own [x, str k] (fun b hb => Nat.lt_of_lt_of_le (hown b hb) hsz) ⟨h1', Rd.v _, trivial⟩).mono fun e W' he => ?_
        obtain ⟨v, rfl, hB', vs, rfl, hsz', hr⟩ := he
        refine ⟨?_, hB'⟩
        obtain ⟨vl⟩ := vs
        match vl, hsz', hr with
        | [a, d], _, hr =>
          obtain rfl : a = .int .i64 (m : Int) := rd_v (hr 0 a (dint m) rfl rfl)
          obtain rfl : d = .bool (isAt l k m) := rd_v (hr 1 d (dbool (isAt l k m)) rfl rfl)
          rw [hb]
      have hcm : m < l.length := (List.getElem?_eq_some_iff.1 hc).1
      have hcv := hv c (List.mem_of_getElem? hc)
      have key : ∃ ad n cp sv, x = .slice (some ad) n cp ∧ m < n ∧ ad.block < w.heap.size ∧ w.cell? (ad.add (m * 2 + 1)) = some sv ∧ Rd w own sv (encVs c.vs) := by
        have h1' := h1
        unfold ArgOk encChains at h1'
        generalize hr : l.map Chain.enc = rows at h1'
        generalize hd : D.sl 2 rows = d at h1'
        cases h1' with
        | v => cases hd
        | agg => cases hd
        | nil a cap k' =>
          cases hd
          have : l = [] := by simpa using hr
          subst this
          simp at hc
        | sl ad cap k' rows f hb' hsz hcap hk hcc h1c hr' =>
          cases hd
          subst hr
          have hi : (l.map Chain.enc)[m]? = some c.enc := by simp [hc]
          exact ⟨ad, _, cap, f m 1, rfl, by simpa using hcm, hsz, hcc m 1 _ _ hi rfl, hr' m 1 _ (encVs c.vs) hi rfl⟩
      obtain ⟨ad, n, cp, sv, rfl, hmn, had, hcell, hrd⟩ := key
      refine (before_raw m b ⟨k.toArray⟩ ad n cp sv c.vs w hmn had hcell (rd_vers hrd) hcv hfc).mono fun e W' ⟨he, hB⟩ => ?_
      rcases he with ⟨rfl, hall⟩ | ⟨i, v, hi, hh, rfl⟩
      · refine ⟨_, rfl, hB, ?_⟩
        have := back_ge (Nat.le_refl _) hall
        rw [Nat.sub_self, List.drop_zero] at this
        rw [bvs_ge this]
        exact rd_ver noV
      · refine ⟨_, rfl, hB, ?_⟩
        rw [hit_bvs hi hh]
        exact rd_ver v

end Go.Proofs.Ytnhnnkljlglhbaa

/-! G7 -/
/-
  Contracts of the program's Rows of chains, Seen, Clear of engines.
-/
namespace Go.Proofs.Ytnhnnkljlglhbaa
open Go.AX Go.RF

set_option maxRecDepth 100000
set_option maxHeartbeats 4000000

theorem ok_prows (l : List Chain) (b : Int) (hl : l.length ≤ 268435456) (hv : ∀ c ∈ l, c.vs.length ≤ 268435456) (hs : Srt Chain.key l) : FnOk Try.prog 18 [.d (encChains l), .d (dint b)] (.tup [encRows (rowsAt l b).1, dbool (rowsAt l b).2]) := by
  refine fnOk_of tbl_ok mixed_ok Try.func18 rfl (by kernel_rfl) rfl rfl fun w0 own0 => ?_
  repeat (first | ((with_reducible apply s1); exact rfl) | (with_reducible first | apply CW.seq | apply CW.block | apply CW.region | apply CW.draw | apply CW.skip | apply CW.exit | apply CW.ret | apply q_then | apply q_then_exit | apply q_then_ret | apply q_block | apply q_block_ret | apply q_block_hit | apply q_ret | apply q_end | apply q_loop_exit | apply q_loop_ret | apply q_loopT_exit | apply q_loopT_ret | apply RW.nil) | ((with_reducible apply s3); exact rfl; exact by_k) | ((with_reducible apply s2); exact rfl; exact by_k) | ((with_reducible apply s4); exact rfl) | ((with_reducible apply s5); (first | exact by_oa); exact by_g) | ((with_reducible apply CW.cond_t); exact rfl; exact by_ks) | ((with_reducible apply CW.cond_f); exact rfl; exact by_ks) | ((with_reducible apply q_block_miss); exact rfl) | (refine And.intro (show chk [] [] _ _ = true by kernel_rfl) ?_))
  refine CW.stut (stut_promote (i := 6) 57 2) ⟨rfl, rfl, trivial⟩ ?_
  refine CW.loopT (fun t : Nat × List Pair => [(.s 0, .av (.d (encChains l))), (.s 1, .av (.d (dint b))), (.s 6, .av (.own 0 t.2.length)), (.o 0, .ob (.arr 57 2 (t.2.map Pair.enc))), (.s 10, .av (.d (encChains l))), (.s 11, .av (.d (dint l.length))), (.s 12, .av (.d (dint t.1))), (.nx, .num 1)])
    (fun t => t.1 ≤ l.length ∧ t.2.length ≤ t.1 ∧ rowsAtGo l b t.2 (l.drop t.1) = rowsAt l b) (fun t => l.length - t.1) (0, []) ⟨by omega, by simp, rfl⟩ ?_ ?_
  ·
    exact by_less
  · rintro ⟨i, out⟩ ⟨hi, ho, hI⟩
    dsimp only at hi ho hI ⊢
    rcases drop_case hi with ⟨h1, h2⟩ | ⟨c, h1, h2, h3⟩
    · rw [h1] at hI
      simp only [rowsAtGo] at hI
      repeat (first | ((with_reducible apply s1); exact rfl) | (with_reducible first | apply CW.seq | apply CW.block | apply CW.region | apply CW.draw | apply CW.skip | apply CW.exit | apply CW.ret | apply q_then | apply q_then_exit | apply q_then_ret | apply q_block | apply q_block_ret | apply q_block_hit | apply q_ret | apply q_end | apply q_loop_exit | apply q_loop_ret | apply q_loopT_exit | apply q_loopT_ret | apply RW.nil) | ((with_reducible apply s3); exact rfl; exact by_k) | ((with_reducible apply s2); exact rfl; exact by_k) | ((with_reducible apply s4); exact rfl) | ((with_reducible apply s5); (first | exact by_oa); exact by_g) | ((with_reducible apply CW.cond_t); exact rfl; exact by_ks) | ((with_reducible apply CW.cond_f); exact rfl; exact by_ks) | ((with_reducible apply q_block_miss); exact rfl) | (refine And.intro (show chk [] [] _ _ = true by kernel_rfl) ?_))
      rw [← hI]
      exact .two (.tmp rfl (.one (.own rfl (by simp) (.refl _)))) (.tmp rfl (.one (.d (.refl _))))
    · rw [h1] at hI
      simp only [rowsAtGo] at hI
      have hc := ok_pbefore l c.key b hl hv hs
      generalize before l c.key b = v at hc hI
      obtain ⟨vb, vm, vh, vn⟩ := v
      dsimp only at hI
      cases vm
      · rw [if_pos rfl] at hI
        repeat (first | ((with_reducible apply s1); exact rfl) | (with_reducible first | apply CW.seq | apply CW.block | apply CW.region | apply CW.draw | apply CW.skip | apply CW.exit | apply CW.ret | apply q_then | apply q_then_exit | apply q_then_ret | apply q_block | apply q_block_ret | apply q_block_hit | apply q_ret | apply q_end | apply q_loop_exit | apply q_loop_ret | apply q_loopT_exit | apply q_loopT_ret | apply RW.nil) | ((with_reducible apply s3); exact rfl; exact by_k) | ((with_reducible apply s2); exact rfl; exact by_k) | ((with_reducible apply s4); exact rfl) | ((with_reducible apply s5); (first | (focus ((with_reducible apply a_call); exact hc; exact rfl; (repeat (first | exact SubsE.nil | (apply SubsE.cons; exact rfl; (first | exact .d (.refl _) | exact .d (.nil _) | exact .agg rfl (.refl _) | exact .pd | exact .ptr rfl); (first | exact trivial | exact ⟨rfl, trivial⟩)))); done)) | exact by_oa); exact by_g) | ((with_reducible apply CW.cond_t); exact rfl; exact by_ks) | ((with_reducible apply CW.cond_f); exact rfl; exact by_ks) | ((with_reducible apply q_block_miss); exact rfl) | (refine And.intro (show chk [] [] _ _ = true by kernel_rfl) ?_))
        rw [← hI]
        exact .two (.tmp rfl (.one (.d (.nil 2)))) (.tmp rfl (.one (.d (.refl _))))
      · rw [if_neg (by simp)] at hI
        cases vh
        · rw [if_neg (by simp)] at hI
          repeat (first | ((with_reducible apply s1); exact rfl) | (with_reducible first | apply CW.seq | apply CW.block | apply CW.region | apply CW.draw | apply CW.skip | apply CW.exit | apply CW.ret | apply q_then | apply q_then_exit | apply q_then_ret | apply q_block | apply q_block_ret | apply q_block_hit | apply q_ret | apply q_end | apply q_loop_exit | apply q_loop_ret | apply q_loopT_exit | apply q_loopT_ret | apply RW.nil) | ((with_reducible apply s3); exact rfl; exact by_k) | ((with_reducible apply s2); exact rfl; exact by_k) | ((with_reducible apply s4); exact rfl) | ((with_reducible apply s5); (first | (focus ((with_reducible apply a_call); exact hc; exact rfl; (repeat (first | exact SubsE.nil | (apply SubsE.cons; exact rfl; (first | exact .d (.refl _) | exact .d (.nil _) | exact .agg rfl (.refl _) | exact .pd | exact .ptr rfl); (first | exact trivial | exact ⟨rfl, trivial⟩)))); done)) | exact by_oa); exact by_g) | ((with_reducible apply CW.cond_t); exact rfl; exact by_ks) | ((with_reducible apply CW.cond_f); exact rfl; exact by_ks) | ((with_reducible apply q_block_miss); exact rfl) | (refine And.intro (show chk [] [] _ _ = true by kernel_rfl) ?_))
          refine q_loopT (i + 1, out) ⟨by dsimp only; omega, by dsimp only; omega, hI⟩ (by dsimp only; omega) ?_
          exact by_less
        · rw [if_pos rfl] at hI
          repeat (first | ((with_reducible apply s1); exact rfl) | (with_reducible first | apply CW.seq | apply CW.block | apply CW.region | apply CW.draw | apply CW.skip | apply CW.exit | apply CW.ret | apply q_then | apply q_then_exit | apply q_then_ret | apply q_block | apply q_block_ret | apply q_block_hit | apply q_ret | apply q_end | apply q_loop_exit | apply q_loop_ret | apply q_loopT_exit | apply q_loopT_ret | apply RW.nil) | ((with_reducible apply s3); exact rfl; exact by_k) | ((with_reducible apply s2); exact rfl; exact by_k) | ((with_reducible apply s4); exact rfl) | ((with_reducible apply s5); (first | (focus ((with_reducible apply a_call); exact hc; exact rfl; (repeat (first | exact SubsE.nil | (apply SubsE.cons; exact rfl; (first | exact .d (.refl _) | exact .d (.nil _) | exact .agg rfl (.refl _) | exact .pd | exact .ptr rfl); (first | exact trivial | exact ⟨rfl, trivial⟩)))); done)) | exact by_oa); exact by_g) | ((with_reducible apply CW.cond_t); exact rfl; exact by_ks) | ((with_reducible apply CW.cond_f); exact rfl; exact by_ks) | ((with_reducible apply q_block_miss); exact rfl) | (refine And.intro (show chk [] [] _ _ = true by kernel_rfl) ?_))
          refine q_loopT (i + 1, _) ⟨by dsimp only; omega, by dsimp only; simp; omega, hI⟩ (by dsimp only; omega) ?_
          exact by_less

def pclearE (e : Engine) : Engine := ⟨pclear (e.base + markN e.state) e.chains, e.deeds.drop (markN e.state), e.state.drop (markN e.state), e.ends.drop (markN e.state), e.base + markN e.state⟩

end Go.Proofs.Ytnhnnkljlglhbaa

/-! AxBool -/
/-
  Two truths compared; structs compared that were loaded from a variable of ours.
-/
namespace Go.AX
open Go.RowKit

section
variable {P : Program} {t : TypeId}
theorem bin_bneq {a b : Bool} (h : P.underlying t = some .bool) : BinR P .neq t (.bool a) (.bool b) (.bool (!decide (a = b))) := by
  intro w x y
  rw [Sem.run_bind, eqGuard_at_bool, Sem.run_pure, Result.andThen_ok, run_neq_bool _ _ _ _ h]
  cases a <;> cases b <;> rfl
theorem bin_beql {a b : Bool} (h : P.underlying t = some .bool) : BinR P .eql t (.bool a) (.bool b) (.bool (decide (a = b))) := by
  intro w x y
  simp only [Sem.run_bind, eqGuard_at_bool, Sem.run_pure, Result.andThen_ok, binOp, run_equal_bool _ _ _ _ h]
  cases a <;> cases b <;> rfl
end

variable {cx : Cx} {g : Nat → Value} {σ σ' : St} {a : Act} {w w' : World} {nx : Nat}
variable {ty : TypeId} {pos : String} {af : Array Edge} {gd : Option (Nat × Bool)} {d : Nat}

/-- A struct's cells, all plain. -/
inductive AggV : AV → List Value → Prop
  | d {ds : List D} {us : List Value} (h : ds = us.map D.v) : AggV (.d (.agg ds)) us
  | a {cs : List AV} {us : List Value} (h : cs = us.map fun u => AV.d (.v u)) : AggV (.agg cs) us
theorem rep_aggv {v : Value} {av : AV} {us : List Value} (h : AggV av us) (hr : Rep cx g σ w v av) : v = .agg us.toArray := by
  cases h with
  | d h => subst h; exact rd_agg_v hr
  | a h =>
    subst h
    obtain ⟨cs, rfl, hs, _, hr⟩ := hr
    congr 1
    apply Array.ext_getElem?
    intro j
    have hs' : cs.size = us.length := by simpa using hs
    rcases Nat.lt_or_ge j us.length with hj | hj
    · have h1 := hr j cs[j] (.d (.v us[j])) (by simp [List.getElem?_map, List.getElem?_eq_getElem hj]) (Array.getElem?_eq_getElem (by omega))
      have h2 : cs[j] = us[j] := rd_v h1
      rw [Array.getElem?_eq_getElem (by omega)]
      simp [h2]
    · rw [Array.getElem?_eq_none (by omega)]
      simp [hj]
theorem a_agg2 {op : BinOp} {t t' : TypeId} {x y : Operand} {ax ay : AV} {us vs : List Value} {r : Value} (hb : BinR cx.P op t (.agg us.toArray) (.agg vs.toArray) r) (hx : ev σ x = some ax) (hy : ev σ y = some ay)
    (hu : AggV ax us) (hv : AggV ay vs) (hd : Nat.blt d cx.n = true) : OA cx σ ⟨some d, .binOp op t x y t', ty, pos, af, gd⟩ ⟨rdOf x ax ++ rdOf y ay, [(.s d, .av (.d (.v r)))]⟩ := by
  refine ⟨?_, (ev_out hx).2.append (ev_out hy).2⟩
  have ex := (ev_out hx).1
  have ey := (ev_out hy).1
  refine ok_val rfl (lt_of_blt hd) fun _ a w _ _ hs hr => ⟨r, w, ?_, Below.refl _ _, Rd.v _, trivial⟩
  have h1 := rep_aggv hu (hs.ev ex hr.left).1
  have h2 := rep_aggv hv (hs.ev ey hr.right).1
  have := hb w x y
  simp only [execOp, h1, h2, Sem.run_bind, Sem.run_pure] at this ⊢
  rw [this]
  rfl

end Go.AX

/-! AxFam -/
/-
  A region in whatever order, one of whose operations may leave one of many states: all that stand behind it in the text wait for it.
-/
namespace Go.AX
open Go.RowKit

variable {cx : Cx} {σ σ' : St} {a a' : Act} {w w' : World} {ops : Array Oper}

theorem wpAny_but {ts : List Tr} {s0 : Nat} {Q : Exit → Act → World → Prop} (hA : ∀ i o, ops[i]? = some o → i ≠ s0 → ∃ t, ts[i]? = some t ∧ TrOk cx ops o t) (hlen : ts.length = ops.size) (hfit : Fit ops.toList ts) :
    ∀ (fuel : Nat) (listed : Array Bool) (σ : St) (a : Act) (w : World), listed.size = ops.size → listed.getD s0 true = true → Closed ops listed → Run (left ts listed 0) σ → (left ts listed 0).length = fuel → Sim cx σ a w →
      (∀ a' w', Sim cx (fin (left ts listed 0) σ) a' w' → Q .normal a' w') → wpAny cx.P .any ops Q fuel listed a w := by
  intro fuel
  induction fuel with
  | zero =>
    intro listed σ a w hsz hls hcl hrun hl hs hq
    have hnil : left ts listed 0 = [] := List.eq_nil_of_length_eq_zero hl
    refine ⟨?_, hq a w (by rw [hnil]; exact hs)⟩
    refine List.eq_nil_iff_forall_not_mem.2 fun i hi => ?_
    obtain ⟨h1, o, ho, _⟩ := mem_ready.1 hi
    have := left_nil hnil i (by rw [hlen]; exact (Array.getElem?_eq_some_iff.1 ho).1)
    rw [Nat.zero_add, h1] at this
    cases this
  | succ fuel ih =>
    intro listed σ a w hsz hls hcl hrun hl hs hq
    refine ⟨fun hr => ?_, fun i hi => ?_⟩
    · have hne : left ts listed 0 ≠ [] := by intro e; rw [e] at hl; simp at hl
      obtain ⟨i, h1, h2, h3⟩ := left_ne hne
      rw [Nat.zero_add] at h2
      have hi : i < ops.size := by omega
      have hm : i ∈ Region.ready .any ops listed := mem_ready.2 ⟨h2, ops[i], Array.getElem?_eq_getElem hi, fun j hj => by
        have hj' := hfit.down i ops[i] (by simp [hi]) j hj
        have := h3 j hj'
        rw [Nat.zero_add] at this
        rw [← getD_tf (by omega)]; exact this⟩
      rw [hr] at hm
      cases hm
    · obtain ⟨h1, o, ho, h2⟩ := mem_ready.1 hi
      have hi' : i < ops.size := (Array.getElem?_eq_some_iff.1 ho).1
      have his : i ≠ s0 := fun e => by subst e; rw [hls] at h1; cases h1
      obtain ⟨t, ht, htr⟩ := hA i o ho his
      obtain ⟨pre, post, h3, h4, h5⟩ := left_split (k := 0) ht (by rw [Nat.zero_add]; exact h1) (by omega)
      rw [Nat.zero_add] at h4
      rw [h3] at hrun hq hl
      have hap : ∀ s ∈ pre, Apart s t := by
        intro s hsm
        obtain ⟨j, h6, h7, h8⟩ := h5 s hsm
        rw [Nat.zero_add] at h8
        rcases hfit.apart i j s t h6 h7 ht with h9 | h9
        · exfalso
          have hanc : ∀ m, m ∈ edges o → Anc ops.toList j m → False := fun m hm hma => by
            have hml : listed.getD m false = true := h2 m hm
            have hms := hfit.down i o (by simpa using ho) m hm
            have := hcl.anc hsz hma (by rw [getD_tf (by omega)]; exact hml) (by omega)
            rw [← getD_tf (by omega)] at this
            rw [h8] at this; cases this
          cases h9 with
          | one ho' h =>
            rw [show ops.toList[i]? = some o by simpa using ho] at ho'
            cases ho'
            have := h2 j h
            rw [← getD_tf (by omega)] at this
            rw [h8] at this; cases this
          | step ho' h hm =>
            rw [show ops.toList[i]? = some o by simpa using ho] at ho'
            cases ho'
            exact hanc _ h hm
        · exact h9
      obtain ⟨h6, h7⟩ := Run.front hap hrun
      unfold wpOp
      rw [ho]
      have hstep := htr σ a w (wpAny cx.P .any ops Q fuel (listed.setIfInBounds i true)) Q hs h6.1 fun a' w' hs' => by
        refine ih _ _ a' w' (by simp [hsz]) (by simpa only [Array.getD_eq_getD_getElem?, Array.getElem?_setIfInBounds, if_neg his] using hls) (fun i' o' ho' hi2 hli j hj => ?_) (by rw [h4]; exact h6.2) (by rw [h4]; simp at hl ⊢; omega) hs' (fun a2 w2 hs2 => hq a2 w2 ?_)
        · by_cases he : i' = i
          · subst he
            rw [ho] at ho'
            cases ho'
            have hne : j ≠ i' := fun e => by have := hfit.down i' o (by simpa using ho) j hj; omega
            simp only [Array.getD_eq_getD_getElem?, Array.getElem?_setIfInBounds, if_neg (show ¬ i' = j from fun e => hne e.symm)]
            simpa only [Array.getD_eq_getD_getElem?] using h2 j hj
          · have hli' : listed.getD i' true = true := by
              simpa only [Array.getD_eq_getD_getElem?, Array.getElem?_setIfInBounds, if_neg (show ¬ i = i' from fun e => he e.symm)] using hli
            have hjl := hcl i' o' ho' (by simpa using hi2) hli' j hj
            by_cases hji : i = j
            · subst hji
              simp [Array.getD_eq_getD_getElem?, hsz, hi']
            · simpa only [Array.getD_eq_getD_getElem?, Array.getElem?_setIfInBounds, if_neg hji] using hjl
        · rw [h4] at hs2
          exact hs2.eqv h7.symm
      dsimp only
      split
      · rename_i hw; rw [if_pos hw] at hstep; exact .inl hstep
      · rename_i hw; rw [if_neg hw] at hstep; exact hstep


theorem wpAny_fam {ι : Type} {ts : ι → List Tr} {s0 : Nat} {os : Oper} {rs : List (Key × Val)} {Q : Exit → Act → World → Prop} (x0 : ι) (hA : ∀ x i o, ops[i]? = some o → i ≠ s0 → ∃ t, (ts x)[i]? = some t ∧ TrOk cx ops o t)
    (hpre : ∀ x i, i < s0 → (ts x)[i]? = (ts x0)[i]?) (hlen : ∀ x, (ts x).length = ops.size) (hfit : ∀ x, Fit ops.toList (ts x))
    (hos : ops[s0]? = some os) (hgs : os.guard = none) (hrs : ∀ x, ∃ t, (ts x)[s0]? = some t ∧ t.rd = rs)
    (hsp : ∀ (σ : St) (a : Act) (w : World) (K : Act → World → Prop) (Q : Exit → Act → World → Prop), Sim cx σ a w → App σ rs → (∀ x t a' w', (ts x)[s0]? = some t → Sim cx (t.wr ++ σ) a' w' → K a' w') → os.wp cx.P a w K Q)
    (hanc : ∀ i, s0 < i → i < ops.size → Anc ops.toList s0 i) :
    ∀ (fuel : Nat) (listed : Array Bool) (σ : St) (a : Act) (w : World), listed.size = ops.size → listed.getD s0 true = false → Closed ops listed → (∀ x, Run (left (ts x) listed 0) σ) → (∀ x, (left (ts x) listed 0).length = fuel) → Sim cx σ a w →
      (∀ x a' w', Sim cx (fin (left (ts x) listed 0) σ) a' w' → Q .normal a' w') → wpAny cx.P .any ops Q fuel listed a w := by
  intro fuel
  induction fuel with
  | zero =>
    intro listed σ a w hsz hls hcl hrun hl hs hq
    have hnil : left (ts x0) listed 0 = [] := List.eq_nil_of_length_eq_zero (hl x0)
    have := left_nil hnil s0 (by rw [hlen]; exact (Array.getElem?_eq_some_iff.1 hos).1)
    rw [Nat.zero_add, hls] at this
    cases this
  | succ fuel ih =>
    intro listed σ a w hsz hls hcl hrun hl hs hq
    refine ⟨fun hr => ?_, fun i hi => ?_⟩
    · have hne : left (ts x0) listed 0 ≠ [] := by intro e; have := hl x0; rw [e] at this; simp at this
      obtain ⟨i, h1, h2, h3⟩ := left_ne hne
      rw [Nat.zero_add] at h2
      have hi : i < ops.size := by have := hlen x0; omega
      have hm : i ∈ Region.ready .any ops listed := mem_ready.2 ⟨h2, ops[i], Array.getElem?_eq_getElem hi, fun j hj => by
        have hj' := (hfit x0).down i ops[i] (by simp [hi]) j hj
        have := h3 j hj'
        rw [Nat.zero_add] at this
        rw [← getD_tf (by omega)]; exact this⟩
      rw [hr] at hm
      cases hm
    · obtain ⟨h1, o, ho, h2⟩ := mem_ready.1 hi
      have hi' : i < ops.size := (Array.getElem?_eq_some_iff.1 ho).1
      -- the listed places are closed still
      have hcl' : Closed ops (listed.setIfInBounds i true) := fun i' o' ho' hi2 hli j hj => by
        by_cases he : i' = i
        · subst he
          rw [ho] at ho'
          cases ho'
          have hne : j ≠ i' := fun e => by have := (hfit x0).down i' o (by simpa using ho) j hj; omega
          simp only [Array.getD_eq_getD_getElem?, Array.getElem?_setIfInBounds, if_neg (show ¬ i' = j from fun e => hne e.symm)]
          simpa only [Array.getD_eq_getD_getElem?] using h2 j hj
        · have hli' : listed.getD i' true = true := by
            simpa only [Array.getD_eq_getD_getElem?, Array.getElem?_setIfInBounds, if_neg (show ¬ i = i' from fun e => he e.symm)] using hli
          have hjl := hcl i' o' ho' (by simpa using hi2) hli' j hj
          by_cases hji : i = j
          · subst hji
            simp [Array.getD_eq_getD_getElem?, hsz, hi']
          · simpa only [Array.getD_eq_getD_getElem?, Array.getElem?_setIfInBounds, if_neg hji] using hjl
      -- what stands ahead of it in the text, and is still to come, is apart from it
      have hapx : ∀ (x : ι) (t : Tr) (pre : List Tr), (ts x)[i]? = some t → (∀ s ∈ pre, ∃ j, j < i ∧ (ts x)[j]? = some s ∧ listed.getD (0 + j) true = false) → ∀ s ∈ pre, Apart s t := by
        intro x t pre ht h5 s hsm
        obtain ⟨j, h6, h7, h8⟩ := h5 s hsm
        rw [Nat.zero_add] at h8
        rcases (hfit x).apart i j s t h6 h7 ht with h9 | h9
        · exfalso
          have hanc2 : ∀ m, m ∈ edges o → Anc ops.toList j m → False := fun m hm hma => by
            have hml : listed.getD m false = true := h2 m hm
            have hms := (hfit x).down i o (by simpa using ho) m hm
            have := hcl.anc hsz hma (by rw [getD_tf (by omega)]; exact hml) (by omega)
            rw [← getD_tf (by omega)] at this
            rw [h8] at this; cases this
          cases h9 with
          | one ho' h =>
            rw [show ops.toList[i]? = some o by simpa using ho] at ho'
            cases ho'
            have := h2 j h
            rw [← getD_tf (by omega)] at this
            rw [h8] at this; cases this
          | step ho' h hm =>
            rw [show ops.toList[i]? = some o by simpa using ho] at ho'
            cases ho'
            exact hanc2 _ h hm
        · exact h9
      by_cases his : i = s0
      · -- the special one
        subst his
        rw [hos] at ho
        cases ho
        unfold wpOp
        rw [hos]
        have hrs0 : App σ rs := by
          obtain ⟨t, ht, htr⟩ := hrs x0
          obtain ⟨pre, post, h3, h4, h5⟩ := left_split (k := 0) ht (by rw [Nat.zero_add]; exact h1) (by omega)
          have hr0 := hrun x0
          rw [h3] at hr0
          have := (Run.front (hapx x0 t pre ht h5) hr0).1.1
          rwa [htr] at this
        have hstep := hsp σ a w (wpAny cx.P .any ops Q fuel (listed.setIfInBounds i true)) Q hs hrs0 fun x t a' w' ht hs' => by
          obtain ⟨pre, post, h3, h4, h5⟩ := left_split (k := 0) ht (by rw [Nat.zero_add]; exact h1) (by omega)
          rw [Nat.zero_add] at h4
          have hr0 := hrun x
          have hl0 := hl x
          rw [h3] at hr0 hl0
          obtain ⟨h6, h7⟩ := Run.front (hapx x t pre ht h5) hr0
          refine wpAny_but (s0 := i) (hA x) (hlen x) (hfit x) fuel _ _ a' w' (by simp [hsz]) (by simp [Array.getD_eq_getD_getElem?, hsz, hi']) hcl' (by rw [h4]; exact h6.2) (by rw [h4]; simp at hl0 ⊢; omega) hs' fun a2 w2 hs2 => hq x a2 w2 ?_
          rw [h4] at hs2
          rw [h3]
          exact hs2.eqv h7.symm
        dsimp only
        rw [if_pos (by simp [Region.wanted, hgs])]
        exact .inl hstep
      · -- one ahead of it
        have hlt : i < s0 := by
          rcases Nat.lt_or_ge i s0 with h | h
          · exact h
          · exfalso
            have ha := hanc i (by omega) hi'
            cases ha with
            | one ho' h =>
              rw [show ops.toList[i]? = some o by simpa using ho] at ho'
              cases ho'
              have := h2 s0 h
              have hs0 : s0 < ops.size := (Array.getElem?_eq_some_iff.1 hos).1
              rw [← getD_tf (by omega), hls] at this; cases this
            | @step _ _ m _ ho' h hm =>
              rw [show ops.toList[i]? = some o by simpa using ho] at ho'
              cases ho'
              have hml : listed.getD m false = true := h2 m h
              have hms := (hfit x0).down i o (by simpa using ho) m h
              have := hcl.anc hsz hm (by rw [getD_tf (by omega)]; exact hml) (by omega)
              have hs0 : s0 < ops.size := (Array.getElem?_eq_some_iff.1 hos).1
              rw [← getD_tf (by omega), hls] at this; cases this
        obtain ⟨t, ht, htr⟩ := hA x0 i o ho his
        have htx : ∀ x, (ts x)[i]? = some t := fun x => (hpre x i hlt).trans ht
        have hspl : ∀ x, App σ t.rd ∧ Run (left (ts x) (listed.setIfInBounds i true) 0) (t.wr ++ σ) ∧ (left (ts x) (listed.setIfInBounds i true) 0).length = fuel ∧
            Eqv (fin (left (ts x) listed 0) σ) (fin (left (ts x) (listed.setIfInBounds i true) 0) (t.wr ++ σ)) := by
          intro x
          obtain ⟨pre, post, h3, h4, h5⟩ := left_split (k := 0) (htx x) (by rw [Nat.zero_add]; exact h1) (by omega)
          rw [Nat.zero_add] at h4
          have hr0 := hrun x
          have hl0 := hl x
          rw [h3] at hr0 hl0
          obtain ⟨h6, h7⟩ := Run.front (hapx x t pre (htx x) h5) hr0
          rw [h3, h4]
          exact ⟨h6.1, h6.2, by simp at hl0 ⊢; omega, h7⟩
        unfold wpOp
        rw [ho]
        have hstep := htr σ a w (wpAny cx.P .any ops Q fuel (listed.setIfInBounds i true)) Q hs (hspl x0).1 fun a' w' hs' =>
          ih _ _ a' w' (by simp [hsz]) (by simpa only [Array.getD_eq_getD_getElem?, Array.getElem?_setIfInBounds, if_neg his] using hls) hcl' (fun x => (hspl x).2.1) (fun x => (hspl x).2.2.1) hs' fun x a2 w2 hs2 => hq x a2 w2 (hs2.eqv (hspl x).2.2.2.symm)
        dsimp only
        split
        · rename_i hw; rw [if_pos hw] at hstep; exact .inl hstep
        · rename_i hw; rw [if_neg hw] at hstep; exact hstep

end Go.AX

/-! AxFam2 -/
/-
  The same, for a walk.
-/
namespace Go.AX
open Go.RowKit

variable {cx : Cx} {σ σ' : St} {a a' : Act} {w w' : World} {ops : Array Oper} {Q : Exit → St → Prop}
variable {ty : TypeId} {pos : String} {af : Array Edge} {gd : Option (Nat × Bool)} {d nx : Nat} {g : Nat → Value}

theorem Run.append : ∀ {t1 t2 : List Tr} {σ : St}, Run t1 σ → Run t2 (fin t1 σ) → Run (t1 ++ t2) σ ∧ fin (t1 ++ t2) σ = fin t2 (fin t1 σ)
  | [], t2, σ, _, h => ⟨h, rfl⟩
  | t :: t1, t2, σ, h1, h2 => by
    obtain ⟨h3, h4⟩ := Run.append h1.2 h2
    exact ⟨⟨h1.1, h3⟩, h4⟩

/-- All that stand behind the place in the text wait for it. -/
def ancB (s0 : Nat) : Nat → List Oper → Bool
  | _, [] => true
  | i, o :: l => (Nat.ble i s0 || (edges o).any fun j => Nat.ble s0 j && Nat.blt j i) && ancB s0 (i + 1) l
theorem ancB_at {s0 : Nat} : ∀ {l : List Oper} {k i : Nat} {o : Oper}, ancB s0 k l = true → l[i]? = some o → s0 < k + i → ∃ j ∈ edges o, s0 ≤ j ∧ j < k + i
  | [], k, i, o, _, h, _ => by simp at h
  | o' :: l, k, i, o, h, ho, hs => by
    simp only [ancB, Bool.and_eq_true, Bool.or_eq_true] at h
    cases i with
    | zero =>
      obtain rfl : o' = o := by simpa using ho
      rcases h.1 with h1 | h1
      · have := Nat.le_of_ble_eq_true h1; omega
      · obtain ⟨j, hj, hb⟩ := List.any_eq_true.1 h1
        simp only [Bool.and_eq_true] at hb
        exact ⟨j, hj, Nat.le_of_ble_eq_true hb.1, by have := hb.2; simp [Nat.blt_eq] at this; omega⟩
    | succ i =>
      obtain ⟨j, h1, h2, h3⟩ := ancB_at (k := k + 1) (i := i) h.2 (by simpa using ho) (by omega)
      exact ⟨j, h1, h2, by omega⟩
theorem anc_of {s0 : Nat} {l : List Oper} (h : ancB s0 0 l = true) : ∀ (n i : Nat), i < n → s0 < i → i < l.length → Anc l s0 i
  | 0, i, hn, _, _ => by omega
  | n + 1, i, hn, hs, hl => by
    obtain ⟨j, h1, h2, h3⟩ := ancB_at (k := 0) (i := i) h (List.getElem?_eq_getElem hl) (by omega)
    rcases Nat.lt_or_ge s0 j with h4 | h4
    · exact .step (List.getElem?_eq_getElem hl) h1 (anc_of h n j (by omega) h4 (by omega))
    · obtain rfl : j = s0 := by omega
      exact .one (List.getElem?_eq_getElem hl) h1

theorem CW.drawF {ι : Type} (x0 : ι) {id : Nat} {l l1 l2 : List Oper} {os : Oper} {tS : ι → Tr} {rs : List (Key × Val)} (hl : l = l1 ++ os :: l2) (hgs : os.guard = none) (hrs : ∀ x, (tS x).rd = rs)
    (hsp : ∀ (σ : St) (a : Act) (w : World) (K : Act → World → Prop) (Q : Exit → Act → World → Prop), Sim cx σ a w → App σ rs → (∀ x a' w', Sim cx ((tS x).wr ++ σ) a' w' → K a' w') → os.wp cx.P a w K Q)
    (hanc : ancB l1.length 0 l = true)
    (h : RW cx l.toArray (fun ts1 σ1 => App σ1 rs ∧ ∀ x, RW cx l.toArray (fun ts2 σ2 => chk [] [] l (ts1 ++ tS x :: ts2) = true ∧ Q .normal σ2) [] l2 ((tS x).wr ++ σ1)) [] l1 σ) : CW cx (.region id l.toArray true) Q σ := by
  obtain ⟨ts1, σ1, h1, h2, h3⟩ := h
  rw [List.nil_append] at h3
  obtain ⟨F, hF⟩ : ∃ F : ι → List Tr × St, ∀ x, Steps' cx l.toArray l2 ((tS x).wr ++ σ1) (F x).1 (F x).2 ∧ chk [] [] l (ts1 ++ tS x :: (F x).1) = true ∧ Q .normal (F x).2 := by
    refine ⟨fun x => (Classical.choose (h3 x), Classical.choose (Classical.choose_spec (h3 x))), fun x => ?_⟩
    have := Classical.choose_spec (Classical.choose_spec (h3 x))
    exact ⟨this.1, by simpa using this.2.1, this.2.2⟩
  have hlenA : ∀ {ops : Array Oper} {l : List Oper} {ts : List Tr}, All2 cx ops l ts → ts.length = l.length := by
    intro ops l
    induction l with
    | nil => intro ts h; cases ts with
      | nil => rfl
      | cons t ts => exact h.elim
    | cons o l ih => intro ts h; cases ts with
      | nil => exact h.elim
      | cons t ts => simp [ih h.2]
  have hA1 := h1.trs
  have hl1 := hlenA hA1
  have hl2 : ∀ x, (F x).1.length = l2.length := fun x => hlenA (hF x).1.trs
  have hleft : ∀ (ts : List Tr) (n k : Nat), k + ts.length ≤ n → left ts (Array.replicate n false) k = ts := by
    intro ts
    induction ts with
    | nil => intro n k _; rfl
    | cons t ts ih =>
      intro n k hk
      simp at hk
      have h0 : (Array.replicate n false).getD k true = false := by simp [Array.getD, show k < n by omega]
      simp only [left, h0]
      rw [if_neg (by simp), ih n (k + 1) (by omega)]
  have hsz : l.toArray.size = l1.length + (l2.length + 1) := by subst hl; simp
  have hl0 : ∀ x, left (ts1 ++ tS x :: (F x).1) (Array.replicate l.toArray.size false) 0 = ts1 ++ tS x :: (F x).1 := fun x => hleft _ _ _ (by have := hl2 x; rw [hsz]; simp; omega)
  have hrun : ∀ x, Run (ts1 ++ tS x :: (F x).1) σ ∧ fin (ts1 ++ tS x :: (F x).1) σ = (F x).2 := fun x => by
    obtain ⟨r1, r2⟩ := h1.run
    obtain ⟨r3, r4⟩ := (hF x).1.run
    obtain ⟨r5, r6⟩ := Run.append (t2 := tS x :: (F x).1) r1 (by rw [r2]; exact ⟨by rw [hrs]; exact h2, r3⟩)
    exact ⟨r5, by rw [r6, r2]; exact r4⟩
  intro a w hs
  refine wp_region_any cx.mixed (wpAny_fam (ts := fun x => ts1 ++ tS x :: (F x).1) (s0 := l1.length) (os := os) (rs := rs) x0 (fun x i o ho hne => ?_) (fun x i hi => ?_) (fun x => by have := hl2 x; rw [hsz]; simp; omega) (fun x => fit_of_chk (hF x).2.1) (by subst hl; simp) hgs (fun x => ⟨tS x, by simp [← hl1], hrs x⟩)
    (fun σ a w K Q hs ha hK => hsp σ a w K Q hs ha fun x a' w' hs' => hK x (tS x) a' w' (by simp [← hl1]) hs') (fun i hi hil => anc_of hanc (i + 1) i (by omega) hi (by simpa using hil)) l.toArray.size _ σ a _ (by simp) ?_ (fun i o _ hi hli => ?_) (fun x => by rw [hl0]; exact (hrun x).1) (fun x => by rw [hl0]; have := hl2 x; rw [hsz]; simp; omega) hs.drawn fun x a' w' hs' => ⟨(F x).2, by rw [hl0, (hrun x).2] at hs'; exact hs', (hF x).2.2⟩)
  · have ho' : l[i]? = some o := by simpa using ho
    rw [hl] at ho'
    rcases Nat.lt_or_ge i l1.length with hi | hi
    · rw [List.getElem?_append_left hi] at ho'
      obtain ⟨t, h4, h5⟩ := hA1.at ho'
      exact ⟨t, by rw [List.getElem?_append_left (by omega)]; exact h4, h5⟩
    · rw [List.getElem?_append_right hi] at ho'
      obtain ⟨j, rfl⟩ : ∃ j, i = l1.length + (j + 1) := ⟨i - l1.length - 1, by omega⟩
      rw [show l1.length + (j + 1) - l1.length = j + 1 by omega, List.getElem?_cons_succ] at ho'
      obtain ⟨t, h4, h5⟩ := (hF x).1.trs.at ho'
      exact ⟨t, by rw [List.getElem?_append_right (by omega), hl1, show l1.length + (j + 1) - l1.length = j + 1 by omega, List.getElem?_cons_succ]; exact h4, h5⟩
  · show (ts1 ++ tS x :: (F x).1)[i]? = (ts1 ++ tS x0 :: (F x0).1)[i]?
    rw [List.getElem?_append_left (by omega), List.getElem?_append_left (by omega)]
  · simp [Array.getD, hsz]
  · have h9 : i < l.length := by simpa using hi
    simp [Array.getD] at hli
    omega

/-- A call whose result is new, and whose handle is known at once. -/
theorem fam_newpin {f : FuncId} {xs : List Operand} {avs : List AV} {ys : List Arg} {l : List (Key × Val)} {e k : Nat} {rows : List (List D)} {ats : Array TypeId} (hd : Nat.blt d cx.n = true) (hc : FnNew cx.P f ys e k rows) (hsub : Subs xs avs ys l)
    (σ : St) (a : Act) (w : World) (K : Act → World → Prop) (Q : Exit → Act → World → Prop) (hs : Sim cx σ a w) (hr : App σ (l ++ [(.nx, .num nx)]))
    (hK : ∀ (x : Option Addr × Nat × Nat) a' w', Sim cx ([(.s d, .av (.d (.v (.slice x.1 x.2.1 x.2.2)))), (.o nx, .ob (.pin e k rows (.slice x.1 x.2.1 x.2.2))), (.nx, .num (nx + 1))] ++ σ) a' w' → K a' w') :
    Oper.wp cx.P ⟨some d, .call { callee := .value (.func f), args := ⟨xs⟩, argTypes := ats }, ty, pos, af, gd⟩ a w K Q := by
  obtain ⟨g, n', hs⟩ := hs
  have hnx : n' = nx := by
    have h2 := hr.right.1
    rw [hs.hnx] at h2
    simpa using h2
  subst hnx
  have hcall := hc.calls w (cx.own g σ) (xs.map a.eval) (fun b hb => own_lt hs hb) (hsub.ok hs hr.left)
  unfold Oper.wp
  rw [call_run hc.run]
  refine hcall.mono fun r w' he => ?_
  obtain ⟨v, rfl, hb, hres⟩ := he
  have hG := SimG.join hs hb hres (.inr rfl)
  have hsl : ∃ p n c, v = .slice p n c := by
    obtain ⟨xs, h1, _⟩ := hres
    rcases h1.2 with ⟨h, _⟩ | ⟨g, cap, cur, h, _⟩
    · exact ⟨_, _, _, h⟩
    · exact ⟨_, _, _, h⟩
  obtain ⟨p, n, c, rfl⟩ := hsl
  exact hK (p, n, c) _ _ (Sim.put hG (lt_of_blt hd) (Below.refl _ _) (av := .d (.v (.slice p n c))) (Rd.v _) trivial)

theorem own2_ret {t e k e2 k2 id n id2 : Nat} {rowsF : Value → List (List D)} {rows2 : List (List D)} {x : Value} (h1 : get σ (.s t) = .av (.own id n)) (h2 : get σ (.o id) = .ob (.arr e k (rowsF x))) (h3 : n = (rowsF x).length)
    (h4 : get σ (.o id2) = .ob (.pin e2 k2 rows2 x)) : own2Q t e k rowsF e2 k2 rows2 .ret σ := ⟨id, n, id2, x, h1, h2, h3, h4⟩

end Go.AX
