/-
  Part 4 of what the claim leans on: F19 F20 F21 G1 G3 G4 P1 Sh G2 G5 G6 G7 F4 L1.
-/
import Derived.Test.YtpgmolgkofgkoaaK3
import Derived.Shelf.Small.Strs
import Derived.Test.YtpgmolgkofgkoaaProg
import Derived.RangeFuncNested
import Derived.RangeFuncLeaves
import Derived.Shelf.Abstract
import Derived.WalkKit
import Derived.OwnWalkIn
import Derived.TacticsInMore
import Derived.LoopNIn
import Derived.LoopIn

/-! F19 -/
/-
  Contract of the references' Go of engines.
-/
namespace Go.Proofs.Ytpgmolgkofgkoaa
open Go.AX Go.RF

set_option maxRecDepth 100000
set_option maxHeartbeats 8000000

def goRows (cs : List Chain) (b : Int) : List Pair → List Str → List Pair
  | r, [] => r
  | r, k :: ks => goRows cs b (if (before cs k b).has = true then put r k (before cs k b).n true else r) ks
def goSets (r : List Pair) (b : Int) : List Chain → List Str → List Chain
  | cs, [] => cs
  | cs, k :: ks => goSets r b (setChains cs k ⟨b, true, (RF.get r k).2, (RF.get r k).1⟩) ks
def goDone (e : Engine) (at_ : Nat) (d : Deed) : List Pair × Done := doD (goRows e.chains (e.base + at_) [] (keysD d)) d
def goNew (e : Engine) (at_ : Nat) (d : Deed) : Engine :=
  ⟨goSets (goDone e at_ d).1 (e.base + at_) e.chains d.writes, e.deeds, e.state.set at_ 1, e.ends.set at_ (goDone e at_ d).2, e.base⟩
def goAt (e : Engine) (at_ : Nat) : Engine × Int := match e.deeds[at_]? with
  | some d => if e.state[at_]? = some 1 then (e, 11) else if needs e at_ d = [] then (goNew e at_ d, 0) else (e, 10)
  | none => (e, 6)
def goE (e : Engine) (at_ : Int) : Engine × Int := if at_ < 0 then (e, 6) else goAt e at_.toNat

/-- Deeds that may be done. -/
structure Deed.Ok (d : Deed) : Prop where
  i : ∀ i ∈ d.code, i.Ok
  r : d.reads.length ≤ 5
  w : d.writes.length ≤ 5
  c : d.code.length ≤ 12
theorem Deed.Ok.keys {d : Deed} (h : Deed.Ok d) : (keysD d).length ≤ 10 := by
  have := keysGo_len (d.reads ++ d.writes) []
  have h1 := h.r
  have h2 := h.w
  simp at this
  unfold keysD
  omega
def chOk (l : List Chain) : Prop := ∀ c ∈ l, ∀ v ∈ c.vs, nOk v.n

theorem bvs_ok {h : Bool} {b : Int} : ∀ {l : List Version} {out : Version}, nOk out.n → (∀ v ∈ l, nOk v.n) → nOk (bvs h b out l).n
  | [], out, ho, _ => ho
  | v :: l, out, ho, hl => by
    simp only [bvs]
    refine bvs_ok ?_ fun w hw => hl w (List.mem_cons_of_mem _ hw)
    split
    · exact hl v (List.mem_cons_self ..)
    · exact ho
theorem beforeGo_ok {k : Str} {b : Int} : ∀ {l : List Chain} {out : Version}, nOk out.n → chOk l → nOk (beforeGo k b out l).n
  | [], out, ho, _ => ho
  | c :: l, out, ho, hl => by
    simp only [beforeGo]
    exact beforeGo_ok (bvs_ok ho (hl c (List.mem_cons_self ..))) fun x hx => hl x (List.mem_cons_of_mem _ hx)
theorem before_ok {l : List Chain} (h : chOk l) (k : Str) (b : Int) : nOk (before l k b).n := beforeGo_ok (by simp [nOk]) h
theorem goRows_ok {cs : List Chain} {b : Int} (h : chOk cs) : ∀ {ks : List Str} {r : List Pair}, rowsOk r → rowsOk (goRows cs b r ks) ∧ (goRows cs b r ks).length ≤ r.length + ks.length
  | [], r, hr => ⟨hr, by simp [goRows]⟩
  | k :: ks, r, hr => by
    simp only [goRows]
    by_cases hh : (before cs k b).has = true
    · rw [if_pos hh]
      have := goRows_ok (b := b) h (ks := ks) (put_ok hr k (before_ok h k b) true)
      refine ⟨this.1, ?_⟩
      have h2 := put_len r k (before cs k b).n true
      have h3 := this.2
      simp; omega
    · rw [if_neg hh]
      have := goRows_ok (b := b) h (ks := ks) hr
      exact ⟨this.1, by have h3 := this.2; simp; omega⟩
theorem doGo_len {r0 : List Pair} : ∀ (l : List Ins) (sk : Int) (now : List Pair) (e : Done), (doGo r0 sk now e l).1.length ≤ max r0.length (now.length + l.length)
  | [], sk, now, e => by simp only [doGo]; simp; omega
  | i :: l, sk, now, e => by
    have ih := fun sk now e => doGo_len (r0 := r0) l sk now e
    have h1 := put_len now i.key (rget e i.a.toNat) true
    have h2 := put_len now i.key 0 false
    simp only [doGo, List.length_cons]
    repeat' split
    all_goals first
      | (refine Nat.le_trans (ih _ _ _) ?_; omega)
      | (simp only []; omega)
theorem doD_len (r : List Pair) (d : Deed) : (doD r d).1.length ≤ r.length + d.code.length := by
  have := doGo_len (r0 := r) d.code 0 r done0
  unfold doD
  omega
theorem setC_len {k : Str} {v : Version} {c : Chain} : (setC k v c).vs.length = c.vs.length := by simp [setC]
theorem set_vs {l : List Chain} {k : Str} {v : Version} {M : Nat} (h : ∀ c ∈ l, c.vs.length ≤ M) : ∀ c ∈ setChains l k v, c.vs.length ≤ M := by
  intro c hc
  obtain ⟨c0, h0, rfl⟩ := List.mem_map.1 hc
  rw [setC_len]; exact h c0 h0

theorem ok_go (e : Engine) (at_ : Int) (N : Nat) (hz : Engine.Sz e N) (hN : N ≤ 100000000) (hd : ∀ d ∈ e.deeds, Deed.Ok d) (hch : chOk e.chains) :
    FnOk Try.prog 19 [.d (.agg e.enc), .d (dint at_)] (.tup [.agg (goE e at_).1.enc, dint (goE e at_).2]) := by
  refine fnOk_of tbl_ok mixed_ok Try.func19 rfl (by kernel_rfl) rfl rfl fun w0 own0 => ?_
  have hsm := hz.sm (by omega)
  have hc := hz.c
  have hv := hz.v
  have hdl := hz.d
  have hsl := hz.s
  have hnl := hz.n
  have hb := hz.b
  unfold goE
  by_cases a1 : at_ < 0
  · rw [if_pos a1]
    repeat (first | ((with_reducible apply s1); exact rfl) | (with_reducible first | apply CW.seq | apply CW.block | apply CW.region | apply CW.draw | apply CW.skip | apply CW.exit | apply CW.ret | apply q_then | apply q_then_exit | apply q_then_ret | apply q_block | apply q_block_ret | apply q_block_hit | apply q_ret | apply q_end | apply q_loop_exit | apply q_loop_ret | apply q_loopT_exit | apply q_loopT_ret | apply RW.nil) | ((with_reducible apply s3); exact rfl; exact by_k) | ((with_reducible apply s2); exact rfl; exact by_k) | ((with_reducible apply s4); exact rfl) | ((with_reducible apply s5); (first | exact by_oa); exact by_g) | ((with_reducible apply CW.cond_t); exact rfl; exact by_ks) | ((with_reducible apply CW.cond_f); exact rfl; exact by_ks) | ((with_reducible apply q_block_miss); exact rfl) | (refine And.intro (show chk [] [] _ _ = true by kernel_rfl) ?_))
    exact .two (.cell rfl rfl rfl rfl (.aggd (ds := e.enc) rfl (.refl _))) (.tmp rfl (.one (.d (.refl _))))
  rw [if_neg a1]
  obtain ⟨A, rfl⟩ := Int.eq_ofNat_of_zero_le (show 0 ≤ at_ by omega)
  rw [Int.toNat_natCast]
  unfold goAt
  by_cases a2 : e.deeds.length ≤ A
  · rw [List.getElem?_eq_none a2]
    repeat (first | ((with_reducible apply s1); exact rfl) | (with_reducible first | apply CW.seq | apply CW.block | apply CW.region | apply CW.draw | apply CW.skip | apply CW.exit | apply CW.ret | apply q_then | apply q_then_exit | apply q_then_ret | apply q_block | apply q_block_ret | apply q_block_hit | apply q_ret | apply q_end | apply q_loop_exit | apply q_loop_ret | apply q_loopT_exit | apply q_loopT_ret | apply RW.nil) | ((with_reducible apply s3); exact rfl; exact by_k) | ((with_reducible apply s2); exact rfl; exact by_k) | ((with_reducible apply s4); exact rfl) | ((with_reducible apply s5); (first | exact by_oa); exact by_g) | ((with_reducible apply CW.cond_t); exact rfl; exact by_ks) | ((with_reducible apply CW.cond_f); exact rfl; exact by_ks) | ((with_reducible apply q_block_miss); exact rfl) | (refine And.intro (show chk [] [] _ _ = true by kernel_rfl) ?_))
    exact .two (.cell rfl rfl rfl rfl (.aggd (ds := e.enc) rfl (.refl _))) (.tmp rfl (.one (.d (.refl _))))
  have a3 : A < e.deeds.length := by omega
  obtain ⟨d, hA⟩ : ∃ d, e.deeds[A]? = some d := ⟨e.deeds[A], List.getElem?_eq_getElem a3⟩
  obtain ⟨s, hS⟩ : ∃ s, e.state[A]? = some s := ⟨e.state[A]'(by omega), List.getElem?_eq_getElem (by omega)⟩
  obtain ⟨n0, hE⟩ : ∃ n0, e.ends[A]? = some n0 := ⟨e.ends[A]'(by omega), List.getElem?_eq_getElem (by omega)⟩
  rw [hA, hS]
  dsimp only
  have cn := ok_needs e A d hsm hA
  have hnl2 : (needs e A d).length ≤ A := by have := needs_len e.chains e.base (e.base + A) (keysD d) (List.range A) 0; simpa [needs] using this
  by_cases a4 : s = 1
  · rw [if_pos (by rw [a4])]
    repeat (first | ((with_reducible apply s1); exact rfl) | (with_reducible first | apply CW.seq | apply CW.block | apply CW.region | apply CW.draw | apply CW.skip | apply CW.exit | apply CW.ret | apply q_then | apply q_then_exit | apply q_then_ret | apply q_block | apply q_block_ret | apply q_block_hit | apply q_ret | apply q_end | apply q_loop_exit | apply q_loop_ret | apply q_loopT_exit | apply q_loopT_ret | apply RW.nil) | ((with_reducible apply s3); exact rfl; exact by_k) | ((with_reducible apply s2); exact rfl; exact by_k) | ((with_reducible apply s4); exact rfl) | ((with_reducible apply s5); (first | exact by_oa); exact by_g) | ((with_reducible apply CW.cond_t); exact rfl; exact by_ks) | ((with_reducible apply CW.cond_f); exact rfl; exact by_ks) | ((with_reducible apply q_block_miss); exact rfl) | (refine And.intro (show chk [] [] _ _ = true by kernel_rfl) ?_))
    exact .two (.cell rfl rfl rfl rfl (.aggd (ds := e.enc) rfl (.refl _))) (.tmp rfl (.one (.d (.refl _))))
  rw [if_neg (by simpa using a4)]
  by_cases a5 : needs e A d = []
  · rw [if_pos a5]
    have a6 : (needs e A d).length = 0 := by rw [a5]; rfl
    have hdm := List.mem_of_getElem? hA
    have hds := hsm.dd d hdm
    have ck := ok_keys d hds.r hds.w
    have hdo := hd d hdm
    have hkl := hdo.keys
    have hw5 := hdo.w
    repeat (first | ((with_reducible apply s1); exact rfl) | (with_reducible first | apply CW.seq | apply CW.block | apply CW.region | apply CW.draw | apply CW.skip | apply CW.exit | apply CW.ret | apply q_then | apply q_then_exit | apply q_then_ret | apply q_block | apply q_block_ret | apply q_block_hit | apply q_ret | apply q_end | apply q_loop_exit | apply q_loop_ret | apply q_loopT_exit | apply q_loopT_ret | apply RW.nil) | ((with_reducible apply s3); exact rfl; exact by_k) | ((with_reducible apply s2); exact rfl; exact by_k) | ((with_reducible apply s4); exact rfl) | ((with_reducible apply s5); (first | (focus ((with_reducible apply a_call); exact cn; exact rfl; (repeat (first | exact SubsE.nil | (apply SubsE.cons; exact rfl; (first | exact .d (.refl _) | exact .d (.nil _) | exact .agg rfl (.refl _) | exact .pd | exact .ptr rfl); (first | exact trivial | exact ⟨rfl, trivial⟩)))); done)) | (focus ((with_reducible apply a_call); exact ck; exact rfl; (repeat (first | exact SubsE.nil | (apply SubsE.cons; exact rfl; (first | exact .d (.refl _) | exact .d (.nil _) | exact .agg rfl (.refl _) | exact .pd | exact .ptr rfl); (first | exact trivial | exact ⟨rfl, trivial⟩)))); done)) | exact by_oa); exact by_g) | ((with_reducible apply CW.cond_t); exact rfl; exact by_ks) | ((with_reducible apply CW.cond_f); exact rfl; exact by_ks) | ((with_reducible apply q_block_miss); exact rfl) | (refine And.intro (show chk [] [] _ _ = true by kernel_rfl) ?_))
    refine CW.stut (stut_le (i := 6) (dle_nil 2)) ⟨rfl, trivial⟩ ?_
    refine CW.loopT (fun t : Nat × List Pair => [sd 1 (dint A), sp 2 0, ob 0 e.enc, sp 4 1, ob 1 noE.enc0, sd 6 (encRows t.2), sd 43 (encStrs (keysD d)), sd 44 (dint (keysD d).length), sd 45 (dint t.1), nxt 2])
      (fun t => t.1 ≤ (keysD d).length ∧ t.2.length ≤ t.1 ∧ rowsOk t.2 ∧ goRows e.chains (e.base + A) t.2 ((keysD d).drop t.1) = goRows e.chains (e.base + A) [] (keysD d)) (fun t => (keysD d).length - t.1) (0, []) ⟨by omega, by simp, by simp [rowsOk], rfl⟩ ?_ ?_
    ·
      exact by_less
    · rintro ⟨j, r⟩ ⟨hj, hrl, hrk, hJ⟩
      dsimp only at hj hrl hrk hJ ⊢
      rcases drop_case hj with ⟨g1, g2⟩ | ⟨k, g1, g2, g3⟩
      · rw [g1] at hJ
        simp only [goRows] at hJ
        have cd := ok_do r d (by omega) hrk (by have := hdo.c; omega) hdo.i
        have hlw : ∀ r : List Pair, r.length ≤ 134217728 → True := fun _ _ => trivial
        have hout := doD_len r d
        have hdone : goDone e A d = doD r d := by rw [goDone, hJ]
        rw [show goNew e A d = ⟨goSets (doD r d).1 (e.base + A) e.chains d.writes, e.deeds, e.state.set A 1, e.ends.set A (doD r d).2, e.base⟩ by rw [goNew, hdone]]
        have hc12 := hdo.c
        clear hlw hJ hdone hrk
        generalize doD r d = x at cd hout
        obtain ⟨x, en⟩ := x
        dsimp only at cd hout ⊢
        obtain ⟨chs, dds, sts, ens, bs⟩ := e
        dsimp only at hc hv hdl hsl hnl hb hA hS hE a3
        repeat (first | ((with_reducible apply s1); exact rfl) | (with_reducible first | apply CW.seq | apply CW.block | apply CW.region | apply CW.draw | apply CW.skip | apply CW.exit | apply CW.ret | apply q_then | apply q_then_exit | apply q_then_ret | apply q_block | apply q_block_ret | apply q_block_hit | apply q_ret | apply q_end | apply q_loop_exit | apply q_loop_ret | apply q_loopT_exit | apply q_loopT_ret | apply RW.nil) | ((with_reducible apply s3); exact rfl; exact by_k) | ((with_reducible apply s2); exact rfl; exact by_k) | ((with_reducible apply s4); exact rfl) | ((with_reducible apply s5); (first | (focus ((with_reducible apply a_call); exact cd; exact rfl; (repeat (first | exact SubsE.nil | (apply SubsE.cons; exact rfl; (first | exact .d (.refl _) | exact .d (.nil _) | exact .agg rfl (.refl _) | exact .pd | exact .ptr rfl); (first | exact trivial | exact ⟨rfl, trivial⟩)))); done)) | exact by_oa); exact by_g) | ((with_reducible apply CW.cond_t); exact rfl; exact by_ks) | ((with_reducible apply CW.cond_f); exact rfl; exact by_ks) | ((with_reducible apply q_block_miss); exact rfl) | (refine And.intro (show chk [] [] _ _ = true by kernel_rfl) ?_))
        refine CW.loopT (fun t : Nat × List Chain => [sd 1 (dint A), sp 2 0, ob 0 (Engine.enc ⟨t.2, dds, sts, ens, bs⟩), sp 4 1, ob 1 noE.enc0, sd 6 (encRows x), sp 10 2, ob 2 en.enc, sd 80 (encStrs d.writes), sd 81 (dint d.writes.length), sd 82 (dint t.1), nxt 3])
          (fun t => t.1 ≤ d.writes.length ∧ (t.2.length ≤ N ∧ ∀ c ∈ t.2, c.vs.length ≤ N) ∧ goSets x (bs + A) t.2 (d.writes.drop t.1) = goSets x (bs + A) chs d.writes) (fun t => d.writes.length - t.1) (0, chs) ⟨by omega, ⟨hc, hv⟩, rfl⟩ ?_ ?_
        ·
          exact by_less
        · rintro ⟨i, cs⟩ ⟨hi, ⟨hcl, hcv⟩, hK⟩
          dsimp only at hi hcl hcv hK ⊢
          rcases drop_case hi with ⟨e1, e2⟩ | ⟨k, e1, e2, e3⟩
          · rw [e1] at hK
            simp only [goSets] at hK
            rw [← hK]
            have hAs : A < sts.length := by omega
            have hAn : A < ens.length := by omega
            have hS' : ([] ++ sts.map encInt1)[A]? = some (encInt1 s) := by simp [hS]
            have hE' : ([] ++ ens.map Done.enc)[A]? = some n0.enc := by simp [hE]
            repeat (first | (with_reducible apply stop_reg 24) | ((with_reducible apply s1); exact rfl) | (with_reducible first | apply CW.seq | apply CW.block | apply CW.region | apply CW.draw | apply CW.skip | apply CW.exit | apply CW.ret | apply q_then | apply q_then_exit | apply q_then_ret | apply q_block | apply q_block_ret | apply q_block_hit | apply q_ret | apply q_end | apply q_loop_exit | apply q_loop_ret | apply q_loopT_exit | apply q_loopT_ret | apply RW.nil) | ((with_reducible apply s3); exact rfl; exact by_k) | ((with_reducible apply s2); exact rfl; exact by_k) | ((with_reducible apply s4); exact rfl) | ((with_reducible apply s5); (first | exact by_oa); exact by_g) | ((with_reducible apply CW.cond_t); exact rfl; exact by_ks) | ((with_reducible apply CW.cond_f); exact rfl; exact by_ks) | ((with_reducible apply q_block_miss); exact rfl) | (refine And.intro (show chk [] [] _ _ = true by kernel_rfl) ?_))
            refine Stop.go (CW.stut (stut_freeze_cell (id := 0) (j := 2) (i := 3) rfl (by simp)) ⟨rfl, rfl, trivial⟩ ?_)
            repeat (first | (with_reducible apply stop_reg 26) | ((with_reducible apply s1); exact rfl) | (with_reducible first | apply CW.seq | apply CW.block | apply CW.region | apply CW.draw | apply CW.skip | apply CW.exit | apply CW.ret | apply q_then | apply q_then_exit | apply q_then_ret | apply q_block | apply q_block_ret | apply q_block_hit | apply q_ret | apply q_end | apply q_loop_exit | apply q_loop_ret | apply q_loopT_exit | apply q_loopT_ret | apply RW.nil) | ((with_reducible apply s3); exact rfl; exact by_k) | ((with_reducible apply s2); exact rfl; exact by_k) | ((with_reducible apply s4); exact rfl) | ((with_reducible apply s5); (first | exact by_oa); exact by_g) | ((with_reducible apply CW.cond_t); exact rfl; exact by_ks) | ((with_reducible apply CW.cond_f); exact rfl; exact by_ks) | ((with_reducible apply q_block_miss); exact rfl) | (refine And.intro (show chk [] [] _ _ = true by kernel_rfl) ?_))
            refine Stop.go (CW.stut (stut_freeze_cell (id := 0) (j := 3) (i := 4) rfl (by simp)) ⟨rfl, rfl, trivial⟩ ?_)
            repeat (first | ((with_reducible apply s1); exact rfl) | (with_reducible first | apply CW.seq | apply CW.block | apply CW.region | apply CW.draw | apply CW.skip | apply CW.exit | apply CW.ret | apply q_then | apply q_then_exit | apply q_then_ret | apply q_block | apply q_block_ret | apply q_block_hit | apply q_ret | apply q_end | apply q_loop_exit | apply q_loop_ret | apply q_loopT_exit | apply q_loopT_ret | apply RW.nil) | ((with_reducible apply s3); exact rfl; exact by_k) | ((with_reducible apply s2); exact rfl; exact by_k) | ((with_reducible apply s4); exact rfl) | ((with_reducible apply s5); (first | exact by_oa); exact by_g) | ((with_reducible apply CW.cond_t); exact rfl; exact by_ks) | ((with_reducible apply CW.cond_f); exact rfl; exact by_ks) | ((with_reducible apply q_block_miss); exact rfl) | (refine And.intro (show chk [] [] _ _ = true by kernel_rfl) ?_))
            exact .two (.cell rfl rfl rfl rfl (.aggd (ds := [encChains cs, encDeeds dds, .sl 1 (([] ++ sts.map encInt1).set A [dint 1]), .sl 5 (([] ++ ens.map Done.enc).set A en.enc), dint bs]) rfl
              (dle_eq (by simp [Engine.enc, encInts, encEnds, encInt1, List.map_set])))) (.tmp rfl (.one (.d (.refl _))))
          · rw [e1] at hK
            simp only [goSets] at hK
            have cg := ok_get x k (by omega)
            obtain ⟨⟨gn, gh⟩, hg⟩ : ∃ g, RF.get x k = g := ⟨_, rfl⟩
            rw [hg] at cg hK
            have cs' := ok_set cs k ⟨bs + A, true, gh, gn⟩ (by omega) (fun c h => by have := hcv c h; omega)
            repeat (first | ((with_reducible apply s1); exact rfl) | (with_reducible first | apply CW.seq | apply CW.block | apply CW.region | apply CW.draw | apply CW.skip | apply CW.exit | apply CW.ret | apply q_then | apply q_then_exit | apply q_then_ret | apply q_block | apply q_block_ret | apply q_block_hit | apply q_ret | apply q_end | apply q_loop_exit | apply q_loop_ret | apply q_loopT_exit | apply q_loopT_ret | apply RW.nil) | ((with_reducible apply s3); exact rfl; exact by_k) | ((with_reducible apply s2); exact rfl; exact by_k) | ((with_reducible apply s4); exact rfl) | ((with_reducible apply s5); (first | (focus ((with_reducible apply a_call); exact cg; exact rfl; (repeat (first | exact SubsE.nil | (apply SubsE.cons; exact rfl; (first | exact .d (.refl _) | exact .d (.nil _) | exact .agg rfl (.refl _) | exact .pd | exact .ptr rfl); (first | exact trivial | exact ⟨rfl, trivial⟩)))); done)) | (focus ((with_reducible apply a_call); exact cs'; exact rfl; (repeat (first | exact SubsE.nil | (apply SubsE.cons; exact rfl; (first | exact .d (.refl _) | exact .d (.nil _) | exact .agg rfl (.refl _) | exact .pd | exact .ptr rfl); (first | exact trivial | exact ⟨rfl, trivial⟩)))); done)) | exact by_oa); exact by_g) | ((with_reducible apply CW.cond_t); exact rfl; exact by_ks) | ((with_reducible apply CW.cond_f); exact rfl; exact by_ks) | ((with_reducible apply q_block_miss); exact rfl) | (refine And.intro (show chk [] [] _ _ = true by kernel_rfl) ?_))
            refine q_loopT (i + 1, setChains cs k ⟨bs + A, true, gh, gn⟩) ⟨by dsimp only; omega, ⟨by dsimp only; simp [setChains]; exact hcl, set_vs hcv⟩, hK⟩ (by dsimp only; omega) ?_
            exact by_less
      · rw [g1] at hJ
        simp only [goRows] at hJ
        have cb := ok_before e.chains k (e.base + A) (by omega) (fun c h => by have := hv c h; omega)
        have hbn := before_ok hch k (e.base + A)
        obtain ⟨⟨vb, vm, vh, vn⟩, hbv⟩ : ∃ v, before e.chains k (e.base + A) = v := ⟨_, rfl⟩
        rw [hbv] at cb hbn
        have cp := ok_put r k vn true (by omega)
        have hpl := put_len r k vn true
        cases vh
        · rw [if_neg (by rw [hbv]; simp)] at hJ
          repeat (first | ((with_reducible apply s1); exact rfl) | (with_reducible first | apply CW.seq | apply CW.block | apply CW.region | apply CW.draw | apply CW.skip | apply CW.exit | apply CW.ret | apply q_then | apply q_then_exit | apply q_then_ret | apply q_block | apply q_block_ret | apply q_block_hit | apply q_ret | apply q_end | apply q_loop_exit | apply q_loop_ret | apply q_loopT_exit | apply q_loopT_ret | apply RW.nil) | ((with_reducible apply s3); exact rfl; exact by_k) | ((with_reducible apply s2); exact rfl; exact by_k) | ((with_reducible apply s4); exact rfl) | ((with_reducible apply s5); (first | (focus ((with_reducible apply a_call); exact cb; exact rfl; (repeat (first | exact SubsE.nil | (apply SubsE.cons; exact rfl; (first | exact .d (.refl _) | exact .d (.nil _) | exact .agg rfl (.refl _) | exact .pd | exact .ptr rfl); (first | exact trivial | exact ⟨rfl, trivial⟩)))); done)) | exact by_oa); exact by_g) | ((with_reducible apply CW.cond_t); exact rfl; exact by_ks) | ((with_reducible apply CW.cond_f); exact rfl; exact by_ks) | ((with_reducible apply q_block_miss); exact rfl) | (refine And.intro (show chk [] [] _ _ = true by kernel_rfl) ?_))
          refine q_loopT (j + 1, r) ⟨by dsimp only; omega, by dsimp only; omega, hrk, hJ⟩ (by dsimp only; omega) ?_
          exact by_less
        · rw [if_pos (by rw [hbv]), hbv] at hJ
          repeat (first | ((with_reducible apply s1); exact rfl) | (with_reducible first | apply CW.seq | apply CW.block | apply CW.region | apply CW.draw | apply CW.skip | apply CW.exit | apply CW.ret | apply q_then | apply q_then_exit | apply q_then_ret | apply q_block | apply q_block_ret | apply q_block_hit | apply q_ret | apply q_end | apply q_loop_exit | apply q_loop_ret | apply q_loopT_exit | apply q_loopT_ret | apply RW.nil) | ((with_reducible apply s3); exact rfl; exact by_k) | ((with_reducible apply s2); exact rfl; exact by_k) | ((with_reducible apply s4); exact rfl) | ((with_reducible apply s5); (first | (focus ((with_reducible apply a_call); exact cb; exact rfl; (repeat (first | exact SubsE.nil | (apply SubsE.cons; exact rfl; (first | exact .d (.refl _) | exact .d (.nil _) | exact .agg rfl (.refl _) | exact .pd | exact .ptr rfl); (first | exact trivial | exact ⟨rfl, trivial⟩)))); done)) | (focus ((with_reducible apply a_call); exact cp; exact rfl; (repeat (first | exact SubsE.nil | (apply SubsE.cons; exact rfl; (first | exact .d (.refl _) | exact .d (.nil _) | exact .agg rfl (.refl _) | exact .pd | exact .ptr rfl); (first | exact trivial | exact ⟨rfl, trivial⟩)))); done)) | exact by_oa); exact by_g) | ((with_reducible apply CW.cond_t); exact rfl; exact by_ks) | ((with_reducible apply CW.cond_f); exact rfl; exact by_ks) | ((with_reducible apply q_block_miss); exact rfl) | (refine And.intro (show chk [] [] _ _ = true by kernel_rfl) ?_))
          refine q_loopT (j + 1, put r k vn true) ⟨by dsimp only; omega, by dsimp only; omega, put_ok hrk k hbn true, hJ⟩ (by dsimp only; omega) ?_
          exact by_less
  · rw [if_neg a5]
    have a6 : ¬ (needs e A d).length = 0 := by simpa using a5
    repeat (first | ((with_reducible apply s1); exact rfl) | (with_reducible first | apply CW.seq | apply CW.block | apply CW.region | apply CW.draw | apply CW.skip | apply CW.exit | apply CW.ret | apply q_then | apply q_then_exit | apply q_then_ret | apply q_block | apply q_block_ret | apply q_block_hit | apply q_ret | apply q_end | apply q_loop_exit | apply q_loop_ret | apply q_loopT_exit | apply q_loopT_ret | apply RW.nil) | ((with_reducible apply s3); exact rfl; exact by_k) | ((with_reducible apply s2); exact rfl; exact by_k) | ((with_reducible apply s4); exact rfl) | ((with_reducible apply s5); (first | (focus ((with_reducible apply a_call); exact cn; exact rfl; (repeat (first | exact SubsE.nil | (apply SubsE.cons; exact rfl; (first | exact .d (.refl _) | exact .d (.nil _) | exact .agg rfl (.refl _) | exact .pd | exact .ptr rfl); (first | exact trivial | exact ⟨rfl, trivial⟩)))); done)) | exact by_oa); exact by_g) | ((with_reducible apply CW.cond_t); exact rfl; exact by_ks) | ((with_reducible apply CW.cond_f); exact rfl; exact by_ks) | ((with_reducible apply q_block_miss); exact rfl) | (refine And.intro (show chk [] [] _ _ = true by kernel_rfl) ?_))
    exact .two (.cell rfl rfl rfl rfl (.aggd (ds := e.enc) rfl (.refl _))) (.tmp rfl (.one (.d (.refl _))))

end Go.Proofs.Ytpgmolgkofgkoaa

/-! F20 -/
/-
  Engines as they are built: what holds of them; plain facts.
-/
namespace Go.Proofs.Ytpgmolgkofgkoaa
open Go.AX Go.RF

structure EInv (e : Engine) (N : Nat) : Prop where
  z : Engine.Sz e N
  o : ∀ d ∈ e.deeds, Deed.Ok d
  c : chOk e.chains

theorem EInv.mono {e : Engine} {N M : Nat} (h : EInv e N) (hm : N ≤ M) : EInv e M := by
  obtain ⟨hz, ho, hc⟩ := h
  refine ⟨⟨by have := hz.c; omega, fun c hc => by have := hz.v c hc; omega, by have := hz.d; omega, hz.s, hz.n, by have := hz.b; omega, hz.dd⟩, ho, hc⟩

theorem codeGo_mem {d : Deed} : ∀ {l : List Ins} {k : Nat}, codeGo d k l = 0 → ∀ j i, l[j]? = some i → wrongIns d ((d.code.length : Int) - 1 - ((k + j : Nat) : Int)) i = 0
  | [], k, _, j, i, hj => by simp at hj
  | x :: l, k, h, j, i, hj => by
    simp only [codeGo] at h
    by_cases h0 : wrongIns d ((d.code.length : Int) - 1 - k) x = 0
    · rw [if_pos h0] at h
      cases j with
      | zero => simp at hj; subst hj; simpa using h0
      | succ j =>
        have := codeGo_mem h j i (by simpa using hj)
        rw [show k + (j + 1) = k + 1 + j by omega]
        exact this
    · rw [if_neg h0] at h; exact absurd h h0

theorem has_ins {k : Int} (h : 1 ≤ k ∧ k ≤ 9) : insA k.toNat ≤ 3 ∧ insB k.toNat ≤ 3 := by
  unfold insA insB
  constructor <;> split <;> omega

theorem wrongIns_ok {d : Deed} {m : Int} (hm : m ≤ 11) {i : Ins} (h : wrongIns d m i = 0) : i.Ok := by
  unfold wrongIns at h
  by_cases hk : i.kind < 1 ∨ 9 < i.kind
  · rw [if_pos hk] at h; simp at h
  rw [if_neg hk] at h
  by_cases ho : insOut i.kind.toNat i.a i.b i.n m = true
  · rw [if_pos ho] at h; simp at h
  have hkk : 1 ≤ i.kind ∧ i.kind ≤ 9 := by omega
  have hs := has_ins hkk
  simp only [insOut, Bool.or_eq_true, decide_eq_true_eq, not_or] at ho
  obtain ⟨h1, h2, h3, h4, h5, h6⟩ := ho
  refine ⟨hkk, by omega, by omega, fun hc => ?_, fun hc => ?_⟩
  · rw [hc] at h5 h6
    simp [insLow, insHigh] at h5 h6
    unfold nOk; omega
  · rw [hc] at h5 h6
    simp [insLow, insHigh] at h5 h6
    omega

theorem wrongDeed_ok {d : Deed} (h : wrongDeed d = 0) : Deed.Ok d := by
  obtain ⟨h1, h2, h3⟩ := wrong_writes h
  refine ⟨fun i hi => ?_, h1, h2, h3⟩
  unfold wrongDeed at h
  by_cases h0 : lsGo [d.reads, d.writes] = 0
  · rw [if_pos h0] at h
    by_cases hc : 12 < d.code.length
    · rw [if_pos hc] at h; simp at h
    · rw [if_neg hc] at h
      obtain ⟨j, hj⟩ := List.getElem?_of_mem hi
      exact wrongIns_ok (by omega) (codeGo_mem h j i hj)
  · rw [if_neg h0] at h; exact absurd h h0

theorem addGo_ch {k : Str} {b : Int} {P : Version → Prop} (h0 : P ⟨b, false, false, 0⟩) : ∀ {l : List Chain} {dn : Bool} {out : List Chain}, (∀ c ∈ l, ∀ v ∈ c.vs, P v) → (∀ c ∈ out, ∀ v ∈ c.vs, P v) → ∀ c ∈ addGo k b dn out l, ∀ v ∈ c.vs, P v
  | [], dn, out, _, ho, c, hc => by
    simp only [addGo] at hc
    split at hc
    · exact ho c hc
    · rcases List.mem_append.1 hc with hc | hc
      · exact ho c hc
      · simp at hc; subst hc; simpa using h0
  | x :: l, dn, out, hl, ho, c, hc => by
    simp only [addGo] at hc
    have h1 : ∀ (g : Bool), ∀ c ∈ (if g = true then out ++ [⟨k, [⟨b, false, false, 0⟩]⟩] else out), ∀ v ∈ c.vs, P v := by
      intro g c hc
      split at hc
      · rcases List.mem_append.1 hc with hc | hc
        · exact ho c hc
        · simp at hc; subst hc; simpa using h0
      · exact ho c hc
    have hx := hl x (List.mem_cons_self ..)
    split at hc
    · refine addGo_ch h0 (fun c hc => hl c (List.mem_cons_of_mem _ hc)) (fun c hc => ?_) c hc
      rcases List.mem_append.1 hc with hc | hc
      · exact h1 _ c hc
      · simp at hc; subst hc
        intro v hv
        rcases List.mem_append.1 hv with hv | hv
        · exact hx v hv
        · simp at hv; subst hv; exact h0
    · refine addGo_ch h0 (fun c hc => hl c (List.mem_cons_of_mem _ hc)) (fun c hc => ?_) c hc
      rcases List.mem_append.1 hc with hc | hc
      · exact h1 _ c hc
      · simp at hc; subst hc; exact hx
theorem addC_ok {l : List Chain} (h : chOk l) (k : Str) (b : Int) : chOk (addC l k b) := addGo_ch (P := fun v => nOk v.n) (by simp [nOk]) h (by simp)
theorem addKeys_ok {b : Int} : ∀ {ks : List Str} {l : List Chain}, chOk l → chOk (addKeys b l ks)
  | [], l, h => h
  | k :: ks, l, h => by simp only [addKeys]; exact addKeys_ok (addC_ok h k b)
theorem EInv.add1 {e : Engine} {N : Nat} (h : EInv e N) {d : Deed} (hs : d.Sm) (ho : Deed.Ok d) : EInv (add1 e d) (N + 5) := by
  refine ⟨add1_sz h.z hs ho.w, fun x hx => ?_, addKeys_ok h.c⟩
  rcases List.mem_append.1 hx with hx | hx
  · exact h.o x hx
  · simp at hx; subst hx; exact ho
theorem EInv.addAll : ∀ {l : List Deed} {e : Engine} {N : Nat}, EInv e N → (∀ d ∈ l, d.Sm ∧ Deed.Ok d) → EInv (addAll e l) (N + 5 * l.length)
  | [], e, N, h, _ => h
  | d :: l, e, N, h, hl => by
    have := EInv.addAll (h.add1 (hl d (List.mem_cons_self ..)).1 (hl d (List.mem_cons_self ..)).2) fun x hx => hl x (List.mem_cons_of_mem _ hx)
    simp only [RF.addAll, List.length_cons]
    rw [show N + 5 * (l.length + 1) = N + 5 + 5 * l.length by omega]
    exact this
theorem EInv.addE {e : Engine} {N : Nat} (h : EInv e N) {l : List Deed} (hs : ∀ d ∈ l, d.Sm) (hw : (addE e l).2 = 0) : EInv (addE e l).1 (N + 5 * l.length) := by
  unfold RF.addE at hw ⊢
  by_cases h0 : wrongs l = 0
  · rw [if_pos h0]
    exact h.addAll fun d hd => ⟨hs d hd, wrongDeed_ok (wrongs_mem h0 d hd)⟩
  · rw [if_neg h0] at hw; exact absurd hw h0
theorem newE_inv {r : List Pair} (hr : rowsOk r) : EInv (newE r) (r.length + 1) := by
  refine ⟨⟨by simp [newE], fun c hc => ?_, by simp [newE], by simp [newE], by simp [newE], by simp [newE]; omega, by simp [newE]⟩, by simp [newE], fun c hc v hv => ?_⟩
  · obtain ⟨p, hp, rfl⟩ := List.mem_map.1 hc
    simp [rowChain]
  · obtain ⟨p, hp, rfl⟩ := List.mem_map.1 hc
    simp [rowChain] at hv
    subst hv
    exact hr p hp

theorem doGo_ok {r0 : List Pair} (h0 : rowsOk r0) : ∀ {l : List Ins} {sk : Int} {now : List Pair} {e : Done}, (∀ i ∈ l, i.Ok) → rowsOk now → e.Ok → rowsOk (doGo r0 sk now e l).1 ∧ (doGo r0 sk now e l).2.Ok
  | [], sk, now, e, _, hn, he => ⟨hn, he⟩
  | i :: l, sk, now, e, hl, hn, he => by
    have hio := hl i (List.mem_cons_self ..)
    have ih := fun (sk : Int) (now : List Pair) (e : Done) (h1 : rowsOk now) (h2 : e.Ok) => doGo_ok h0 (l := l) (sk := sk) (now := now) (e := e) (fun j hj => hl j (List.mem_cons_of_mem _ hj)) h1 h2
    simp only [doGo]
    split
    · exact ih _ _ _ hn he
    split
    · exact ih _ _ _ hn (rset_ok he _ (get_ok hn _))
    split
    · next hk => exact ih _ _ _ hn (rset_ok he _ (hio.c hk))
    split
    · exact ih _ _ _ hn (rset_ok he _ (round_ok _))
    split
    · exact ih _ _ _ hn (rset_ok he _ (round_ok _))
    split
    · exact ih _ _ _ hn (rset_ok he _ (round_ok _))
    split
    · exact ih _ _ _ (put_ok hn _ (rget_ok he _) _) he
    split
    · exact ih _ _ _ (put_ok hn _ (by simp [nOk]) _) he
    split
    · exact ih _ _ _ hn he
    split
    · exact ⟨h0, ⟨he.a, he.b, he.c, he.d⟩⟩
    · exact ih _ _ _ hn he
theorem done0_ok : done0.Ok := ⟨by simp [nOk, done0], by simp [nOk, done0], by simp [nOk, done0], by simp [nOk, done0]⟩
theorem doD_ok {r : List Pair} {d : Deed} (h0 : rowsOk r) (hd : Deed.Ok d) : rowsOk (doD r d).1 := (doGo_ok h0 hd.i h0 done0_ok).1
theorem set_ok {l : List Chain} (h : chOk l) (k : Str) {v : Version} (hv : nOk v.n) : chOk (setChains l k v) := by
  intro c hc w hw
  obtain ⟨c0, h0, rfl⟩ := List.mem_map.1 hc
  simp only [setC] at hw
  obtain ⟨w0, hw0, rfl⟩ := List.mem_map.1 hw
  unfold setV
  split
  · exact hv
  · exact h c0 h0 w0 hw0
theorem goSets_ok {r : List Pair} (hr : rowsOk r) {b : Int} {M : Nat} : ∀ {ks : List Str} {l : List Chain}, chOk l → (∀ c ∈ l, c.vs.length ≤ M) → chOk (goSets r b l ks) ∧ (goSets r b l ks).length = l.length ∧ ∀ c ∈ goSets r b l ks, c.vs.length ≤ M
  | [], l, h, hv => ⟨h, rfl, hv⟩
  | k :: ks, l, h, hv => by
    simp only [goSets]
    have := goSets_ok hr (b := b) (ks := ks) (set_ok h k (v := ⟨b, true, (RF.get r k).2, (RF.get r k).1⟩) (get_ok hr k)) (set_vs hv)
    refine ⟨this.1, by rw [this.2.1]; simp [setChains], this.2.2⟩
theorem EInv.goNew {e : Engine} {N : Nat} (h : EInv e N) {A : Nat} {d : Deed} (hd : d ∈ e.deeds) : EInv (goNew e A d) N := by
  obtain ⟨hz, ho, hc⟩ := h
  have hr := doD_ok (goRows_ok (b := e.base + A) hc (ks := keysD d) (r := []) (by simp [rowsOk])).1 (ho d hd)
  have := goSets_ok hr (b := e.base + A) (ks := d.writes) hc hz.v
  refine ⟨⟨?_, this.2.2, hz.d, ?_, ?_, hz.b, hz.dd⟩, ho, this.1⟩
  · show (goSets _ _ _ _).length ≤ N
    rw [goDone, this.2.1]; exact hz.c
  · simp [Proofs.Ytpgmolgkofgkoaa.goNew]; exact hz.s
  · simp [Proofs.Ytpgmolgkofgkoaa.goNew]; exact hz.n
theorem EInv.goE {e : Engine} {N : Nat} (h : EInv e N) (at_ : Int) : EInv (goE e at_).1 N := by
  unfold Proofs.Ytpgmolgkofgkoaa.goE
  split
  · exact h
  unfold goAt
  cases hA : e.deeds[at_.toNat]? with
  | none => exact h
  | some d =>
    dsimp only
    split
    · exact h
    split
    · exact h.goNew (List.mem_of_getElem? hA)
    · exact h
theorem clrV_sub {b : Int} : ∀ {l : List Version} {v : Version}, v ∈ clrV b l → v ∈ l
  | [], v, h => by simp [clrV] at h
  | x :: l, v, h => by
    simp only [clrV] at h
    split at h
    · exact List.mem_cons_of_mem _ (clrV_sub h)
    · rcases List.mem_cons.1 h with rfl | h
      · exact List.mem_cons_self ..
      · exact List.mem_cons_of_mem _ (clrV_sub h)
theorem clrV_len {b : Int} : ∀ (l : List Version), (clrV b l).length ≤ l.length
  | [] => by simp [clrV]
  | x :: l => by
    have := clrV_len (b := b) l
    simp only [clrV]
    split <;> simp <;> omega
theorem clear_mem {b : Int} : ∀ {l : List Chain} {c : Chain}, c ∈ clear b l → ∃ c0 ∈ l, c = ⟨c0.key, clrV b c0.vs⟩
  | [], c, h => by simp [clear] at h
  | x :: l, c, h => by
    simp only [clear] at h
    split at h
    · obtain ⟨c0, h0, h1⟩ := clear_mem h
      exact ⟨c0, List.mem_cons_of_mem _ h0, h1⟩
    · rcases List.mem_cons.1 h with rfl | h
      · exact ⟨x, List.mem_cons_self .., rfl⟩
      · obtain ⟨c0, h0, h1⟩ := clear_mem h
        exact ⟨c0, List.mem_cons_of_mem _ h0, h1⟩
theorem clear_len {b : Int} : ∀ (l : List Chain), (clear b l).length ≤ l.length
  | [] => by simp [clear]
  | x :: l => by
    have := clear_len (b := b) l
    simp only [clear]
    split <;> simp <;> omega
theorem EInv.clearE {e : Engine} {N : Nat} (h : EInv e N) : EInv (clearE e) N := by
  obtain ⟨hz, ho, hc⟩ := h
  have hm := markN_le e.state
  have hsl := hz.s
  have hnl := hz.n
  have hd := hz.d
  have hb := hz.b
  refine ⟨⟨?_, fun c hcc => ?_, ?_, ?_, ?_, ?_, fun d hd => hz.dd d (List.mem_of_mem_drop hd)⟩, fun d hd => ho d (List.mem_of_mem_drop hd), fun c hcc v hv => ?_⟩
  · have := clear_len (b := e.base + markN e.state) e.chains
    have := hz.c
    simp only [RF.clearE]; omega
  · obtain ⟨c0, h0, rfl⟩ := clear_mem hcc
    have := clrV_len (b := e.base + markN e.state) c0.vs
    have := hz.v c0 h0
    simp only []; omega
  · simp only [RF.clearE, List.length_drop]; omega
  · simp only [RF.clearE, List.length_drop]; omega
  · simp only [RF.clearE, List.length_drop]; omega
  · simp only [RF.clearE, List.length_drop]; omega
  · obtain ⟨c0, h0, rfl⟩ := clear_mem hcc
    exact hc c0 h0 v (clrV_sub hv)

end Go.Proofs.Ytpgmolgkofgkoaa

/-! F21 -/
/-
  Contract of the references' Build of engines.
-/
namespace Go.Proofs.Ytpgmolgkofgkoaa
open Go.AX Go.RF

set_option maxRecDepth 100000
set_option maxHeartbeats 8000000

def pickE (e : Engine) (n : Int) : Engine := if n = 7 then clearE e else if n < 0 then e else match (ready e)[n.toNat]? with
  | some x => (goE e x).1
  | none => e
def pickGo : Nat → Engine → List Int → Engine × List Int
  | 0, e, p => (e, p)
  | _ + 1, e, [] => (e, [])
  | k + 1, e, n :: p => pickGo k (pickE e n) p
def batchE (e : Engine) (b : List Deed) : Engine := if (addE e b).2 = 0 then (addE e b).1 else e
def buildGo : Engine → List (List Deed) → List Int → Engine
  | e, [], _ => e
  | e, b :: bs, p => buildGo (pickGo 3 (batchE e b) p).1 bs (pickGo 3 (batchE e b) p).2
def buildE (r : List Pair) (bs : List (List Deed)) (p : List Int) : Engine := buildGo (newE r) bs p
def sumLen : List (List Deed) → Nat
  | [] => 0
  | b :: bs => b.length + sumLen bs

theorem EInv.pickE {e : Engine} {N : Nat} (h : EInv e N) (n : Int) : EInv (pickE e n) N := by
  unfold Proofs.Ytpgmolgkofgkoaa.pickE
  split
  · exact h.clearE
  split
  · exact h
  split
  · exact h.goE _
  · exact h
theorem EInv.batchE {e : Engine} {N : Nat} (h : EInv e N) {b : List Deed} (hs : ∀ d ∈ b, d.Sm) : EInv (batchE e b) (N + 5 * b.length) := by
  unfold Proofs.Ytpgmolgkofgkoaa.batchE
  split
  · next hw => exact h.addE hs hw
  · exact h.mono (by omega)
theorem EInv.pickGo : ∀ {k : Nat} {e : Engine} {p : List Int} {N : Nat}, EInv e N → EInv (pickGo k e p).1 N
  | 0, e, p, N, h => h
  | k + 1, e, [], N, h => h
  | k + 1, e, n :: p, N, h => by
    simp only [Proofs.Ytpgmolgkofgkoaa.pickGo]
    exact EInv.pickGo (h.pickE n)
theorem EInv.buildGo : ∀ {bs : List (List Deed)} {e : Engine} {p : List Int} {N : Nat}, EInv e N → (∀ b ∈ bs, ∀ d ∈ b, d.Sm) → EInv (buildGo e bs p) (N + 5 * sumLen bs)
  | [], e, p, N, h, _ => h
  | b :: bs, e, p, N, h, hb => by
    simp only [Proofs.Ytpgmolgkofgkoaa.buildGo, sumLen]
    have := EInv.buildGo (p := (Proofs.Ytpgmolgkofgkoaa.pickGo 3 (Proofs.Ytpgmolgkofgkoaa.batchE e b) p).2) ((h.batchE (hb b (List.mem_cons_self ..))).pickGo (k := 3) (p := p)) fun x hx => hb x (List.mem_cons_of_mem _ hx)
    rw [show N + 5 * (b.length + sumLen bs) = N + 5 * b.length + 5 * sumLen bs by omega]
    exact this
theorem sumLen_at : ∀ {bs : List (List Deed)} {j : Nat} {b : List Deed}, bs[j]? = some b → b.length + sumLen (bs.drop (j + 1)) = sumLen (bs.drop j)
  | [], j, b, h => by simp at h
  | x :: bs, 0, b, h => by simp at h; subst h; simp [sumLen]
  | x :: bs, j + 1, b, h => by simpa using sumLen_at (bs := bs) (j := j) (by simpa using h)

theorem readyGo_len {e : Engine} : ∀ (l : List Int) (i : Nat), (readyGo e i l).length ≤ l.length
  | [], i => by simp [readyGo]
  | s :: l, i => by
    have := readyGo_len (e := e) l (i + 1)
    simp only [readyGo]
    split <;> simp <;> omega

theorem ok_build (r : List Pair) (bs : List (List Deed)) (p : List Int) (hr : rowsOk r) (hrl : r.length ≤ 10000000) (hb : ∀ b ∈ bs, b.length ≤ 10000000 ∧ ∀ d ∈ b, d.Sm) (hbl : bs.length ≤ 10000000) (hsum : sumLen bs ≤ 10000000) (hp : p.length ≤ 10000000) :
    FnOk Try.prog 5 [.d (encRows r), .d (encBatches bs), .d (encInts p)] (.one (.agg (buildE r bs p).enc)) := by
  refine fnOk_of tbl_ok mixed_ok Try.func5 rfl (by kernel_rfl) rfl rfl fun w0 own0 => ?_
  have cn := ok_new r (by omega)
  repeat (first | ((with_reducible apply s1); exact rfl) | (with_reducible first | apply CW.seq | apply CW.block | apply CW.region | apply CW.draw | apply CW.skip | apply CW.exit | apply CW.ret | apply q_then | apply q_then_exit | apply q_then_ret | apply q_block | apply q_block_ret | apply q_block_hit | apply q_ret | apply q_end | apply q_loop_exit | apply q_loop_ret | apply q_loopT_exit | apply q_loopT_ret | apply RW.nil) | ((with_reducible apply s3); exact rfl; exact by_k) | ((with_reducible apply s2); exact rfl; exact by_k) | ((with_reducible apply s4); exact rfl) | ((with_reducible apply s5); (first | (focus ((with_reducible apply a_call); exact cn; exact rfl; (repeat (first | exact SubsE.nil | (apply SubsE.cons; exact rfl; (first | exact .d (.refl _) | exact .d (.nil _) | exact .agg rfl (.refl _) | exact .pd | exact .ptr rfl); (first | exact trivial | exact ⟨rfl, trivial⟩)))); done)) | exact by_oa); exact by_g) | ((with_reducible apply CW.cond_t); exact rfl; exact by_ks) | ((with_reducible apply CW.cond_f); exact rfl; exact by_ks) | ((with_reducible apply q_block_miss); exact rfl) | (refine And.intro (show chk [] [] _ _ = true by kernel_rfl) ?_))
  refine CW.loopT (fun t : Nat × Engine × List Int => [sp 6 0, ob 0 noE.enc0, sp 7 1, ob 1 t.2.1.enc, sd 2 (encInts t.2.2), sd 17 (encBatches bs), sd 18 (dint bs.length), sd 19 (dint t.1), nxt 2])
    (fun t => t.1 ≤ bs.length ∧ t.2.2.length ≤ 10000000 ∧ (∃ M, M + 5 * sumLen (bs.drop t.1) ≤ 90000000 ∧ EInv t.2.1 M) ∧ buildGo t.2.1 (bs.drop t.1) t.2.2 = buildE r bs p) (fun t => bs.length - t.1) (0, newE r, p)
    ⟨by omega, hp, ⟨r.length + 1, by simp; omega, newE_inv hr⟩, rfl⟩ ?_ ?_
  ·
    exact by_less
  · rintro ⟨i, e, q⟩ ⟨hi, hq, ⟨M, hM, hE⟩, hI⟩
    dsimp only at hi hq hM hE hI ⊢
    rcases drop_case hi with ⟨h1, h2⟩ | ⟨b, h1, h2, h3⟩
    · rw [h1] at hI
      simp only [buildGo] at hI
      repeat (first | ((with_reducible apply s1); exact rfl) | (with_reducible first | apply CW.seq | apply CW.block | apply CW.region | apply CW.draw | apply CW.skip | apply CW.exit | apply CW.ret | apply q_then | apply q_then_exit | apply q_then_ret | apply q_block | apply q_block_ret | apply q_block_hit | apply q_ret | apply q_end | apply q_loop_exit | apply q_loop_ret | apply q_loopT_exit | apply q_loopT_ret | apply RW.nil) | ((with_reducible apply s3); exact rfl; exact by_k) | ((with_reducible apply s2); exact rfl; exact by_k) | ((with_reducible apply s4); exact rfl) | ((with_reducible apply s5); (first | exact by_oa); exact by_g) | ((with_reducible apply CW.cond_t); exact rfl; exact by_ks) | ((with_reducible apply CW.cond_f); exact rfl; exact by_ks) | ((with_reducible apply q_block_miss); exact rfl) | (refine And.intro (show chk [] [] _ _ = true by kernel_rfl) ?_))
      exact .one (.cell rfl rfl rfl rfl (.aggd (ds := e.enc) rfl (dle_eq (by rw [hI]))))
    · have hsl := sumLen_at h2
      rw [h1] at hI
      simp only [buildGo] at hI
      obtain ⟨hbl1, hbs⟩ := hb b (List.mem_of_getElem? h2)
      have ca := ok_addE e b M hE.z hbs (by omega) (by omega)
      have hE2 : EInv (batchE e b) (M + 5 * b.length) := hE.batchE hbs
      have hM2 : M + 5 * b.length + 5 * sumLen (bs.drop (i + 1)) ≤ 90000000 := by omega
      repeat (first | ((with_reducible apply stop_at 5); exact rfl) | ((with_reducible apply s1); exact rfl) | (with_reducible first | apply CW.seq | apply CW.block | apply CW.region | apply CW.draw | apply CW.skip | apply CW.exit | apply CW.ret | apply q_then | apply q_then_exit | apply q_then_ret | apply q_block | apply q_block_ret | apply q_block_hit | apply q_ret | apply q_end | apply q_loop_exit | apply q_loop_ret | apply q_loopT_exit | apply q_loopT_ret | apply RW.nil) | ((with_reducible apply s3); exact rfl; exact by_k) | ((with_reducible apply s2); exact rfl; exact by_k) | ((with_reducible apply s4); exact rfl) | ((with_reducible apply s5); (first | exact by_oa); exact by_g) | ((with_reducible apply CW.cond_t); exact rfl; exact by_ks) | ((with_reducible apply CW.cond_f); exact rfl; exact by_ks) | ((with_reducible apply q_block_miss); exact rfl) | (refine And.intro (show chk [] [] _ _ = true by kernel_rfl) ?_))
      refine Stop.cutk [ob 1 (batchE e b).enc] [.s 6, .o 0, .s 7, .s 2, .s 17, .s 18, .s 19, .nx] ?_ ?_
      · unfold batchE
        by_cases h0 : (addE e b).2 = 0
        · rw [if_pos h0]
          repeat (first | ((with_reducible apply s1); exact rfl) | (with_reducible first | apply CW.seq | apply CW.block | apply CW.region | apply CW.draw | apply CW.skip | apply CW.exit | apply CW.ret | apply q_then | apply q_then_exit | apply q_then_ret | apply q_block | apply q_block_ret | apply q_block_hit | apply q_ret | apply q_end | apply q_loop_exit | apply q_loop_ret | apply q_loopT_exit | apply q_loopT_ret | apply RW.nil) | ((with_reducible apply s3); exact rfl; exact by_k) | ((with_reducible apply s2); exact rfl; exact by_k) | ((with_reducible apply s4); exact rfl) | ((with_reducible apply s5); (first | (focus ((with_reducible apply a_call); exact ca; exact rfl; (repeat (first | exact SubsE.nil | (apply SubsE.cons; exact rfl; (first | exact .d (.refl _) | exact .d (.nil _) | exact .agg rfl (.refl _) | exact .pd | exact .ptr rfl); (first | exact trivial | exact ⟨rfl, trivial⟩)))); done)) | exact by_oa); exact by_g) | ((with_reducible apply CW.cond_t); exact rfl; exact by_ks) | ((with_reducible apply CW.cond_f); exact rfl; exact by_ks) | ((with_reducible apply q_block_miss); exact rfl) | (refine And.intro (show chk [] [] _ _ = true by kernel_rfl) ?_))
          refine q_cut ?_
          exact by_less
        · rw [if_neg h0]
          repeat (first | ((with_reducible apply s1); exact rfl) | (with_reducible first | apply CW.seq | apply CW.block | apply CW.region | apply CW.draw | apply CW.skip | apply CW.exit | apply CW.ret | apply q_then | apply q_then_exit | apply q_then_ret | apply q_block | apply q_block_ret | apply q_block_hit | apply q_ret | apply q_end | apply q_loop_exit | apply q_loop_ret | apply q_loopT_exit | apply q_loopT_ret | apply RW.nil) | ((with_reducible apply s3); exact rfl; exact by_k) | ((with_reducible apply s2); exact rfl; exact by_k) | ((with_reducible apply s4); exact rfl) | ((with_reducible apply s5); (first | (focus ((with_reducible apply a_call); exact ca; exact rfl; (repeat (first | exact SubsE.nil | (apply SubsE.cons; exact rfl; (first | exact .d (.refl _) | exact .d (.nil _) | exact .agg rfl (.refl _) | exact .pd | exact .ptr rfl); (first | exact trivial | exact ⟨rfl, trivial⟩)))); done)) | exact by_oa); exact by_g) | ((with_reducible apply CW.cond_t); exact rfl; exact by_ks) | ((with_reducible apply CW.cond_f); exact rfl; exact by_ks) | ((with_reducible apply q_block_miss); exact rfl) | (refine And.intro (show chk [] [] _ _ = true by kernel_rfl) ?_))
          refine q_cut ?_
          exact by_less
      generalize M + 5 * b.length = M2 at hE2 hM2
      generalize batchE e b = e2 at hE2 hI
      clear ca hE hM h1
      repeat (first | ((with_reducible apply s1); exact rfl) | (with_reducible first | apply CW.seq | apply CW.block | apply CW.region | apply CW.draw | apply CW.skip | apply CW.exit | apply CW.ret | apply q_then | apply q_then_exit | apply q_then_ret | apply q_block | apply q_block_ret | apply q_block_hit | apply q_ret | apply q_end | apply q_loop_exit | apply q_loop_ret | apply q_loopT_exit | apply q_loopT_ret | apply RW.nil) | ((with_reducible apply s3); exact rfl; exact by_k) | ((with_reducible apply s2); exact rfl; exact by_k) | ((with_reducible apply s4); exact rfl) | ((with_reducible apply s5); (first | exact by_oa); exact by_g) | ((with_reducible apply CW.cond_t); exact rfl; exact by_ks) | ((with_reducible apply CW.cond_f); exact rfl; exact by_ks) | ((with_reducible apply q_block_miss); exact rfl) | (refine And.intro (show chk [] [] _ _ = true by kernel_rfl) ?_))
      refine CW.loopT (fun t : Nat × Engine × List Int => [sp 6 0, ob 0 noE.enc0, sp 7 1, ob 1 t.2.1.enc, sd 2 (encInts t.2.2), sd 17 (encBatches bs), sd 18 (dint bs.length), sd 19 (dint i), sd 32 (dint t.1), nxt 2])
        (fun t => t.1 ≤ 3 ∧ t.2.2.length ≤ 10000000 ∧ EInv t.2.1 M2 ∧ pickGo (3 - t.1) t.2.1 t.2.2 = pickGo 3 e2 q) (fun t => 3 - t.1) (0, e2, q) ⟨by omega, hq, hE2, rfl⟩ ?_ ?_
      ·
        exact by_less
      · rintro ⟨k, e, q'⟩ ⟨hk, hq', hE, hK⟩
        dsimp only at hk hq' hE hK ⊢
        by_cases k3 : k = 3
        · subst k3
          simp only [Nat.sub_self, pickGo] at hK
          rw [← hK] at hI
          dsimp only at hI
          repeat (first | ((with_reducible apply s1); exact rfl) | (with_reducible first | apply CW.seq | apply CW.block | apply CW.region | apply CW.draw | apply CW.skip | apply CW.exit | apply CW.ret | apply q_then | apply q_then_exit | apply q_then_ret | apply q_block | apply q_block_ret | apply q_block_hit | apply q_ret | apply q_end | apply q_loop_exit | apply q_loop_ret | apply q_loopT_exit | apply q_loopT_ret | apply RW.nil) | ((with_reducible apply s3); exact rfl; exact by_k) | ((with_reducible apply s2); exact rfl; exact by_k) | ((with_reducible apply s4); exact rfl) | ((with_reducible apply s5); (first | exact by_oa); exact by_g) | ((with_reducible apply CW.cond_t); exact rfl; exact by_ks) | ((with_reducible apply CW.cond_f); exact rfl; exact by_ks) | ((with_reducible apply q_block_miss); exact rfl) | (refine And.intro (show chk [] [] _ _ = true by kernel_rfl) ?_))
          refine q_loopT (i + 1, e, q') ⟨by dsimp only; omega, hq', ⟨M2, hM2, hE⟩, hI⟩ (by dsimp only; omega) ?_
          exact by_less
        obtain ⟨j, hj⟩ : ∃ j, 3 - k = j + 1 := ⟨2 - k, by omega⟩
        rw [hj] at hK
        cases q' with
        | nil =>
          simp only [pickGo] at hK
          rw [← hK] at hI
          dsimp only at hI
          repeat (first | ((with_reducible apply s1); exact rfl) | (with_reducible first | apply CW.seq | apply CW.block | apply CW.region | apply CW.draw | apply CW.skip | apply CW.exit | apply CW.ret | apply q_then | apply q_then_exit | apply q_then_ret | apply q_block | apply q_block_ret | apply q_block_hit | apply q_ret | apply q_end | apply q_loop_exit | apply q_loop_ret | apply q_loopT_exit | apply q_loopT_ret | apply RW.nil) | ((with_reducible apply s3); exact rfl; exact by_k) | ((with_reducible apply s2); exact rfl; exact by_k) | ((with_reducible apply s4); exact rfl) | ((with_reducible apply s5); (first | exact by_oa); exact by_g) | ((with_reducible apply CW.cond_t); exact rfl; exact by_ks) | ((with_reducible apply CW.cond_f); exact rfl; exact by_ks) | ((with_reducible apply q_block_miss); exact rfl) | (refine And.intro (show chk [] [] _ _ = true by kernel_rfl) ?_))
          refine q_loopT (i + 1, e, []) ⟨by dsimp only; omega, by simp, ⟨M2, hM2, hE⟩, hI⟩ (by dsimp only; omega) ?_
          exact by_less
        | cons n q' =>
          simp only [pickGo] at hK
          have hn0 : ¬ (n :: q').length = 0 := by simp
          have hp0 : (n :: q')[0]? = some n := rfl
          have hsm := hE.z.sm (by omega)
          have cr := ok_ready e hsm hE.z.s
          have cc := ok_clearE e hsm hE.z.s hE.z.n
          have hrl2 : (ready e).length ≤ 100000000 := by
            have := readyGo_len (e := e) e.state 0
            have h5 := hE.z.d
            have h6 := hE.z.s
            unfold ready; omega
          have hEn := hE.pickE n
          have hql : q'.length ≤ 10000000 := by simp at hq'; omega
          have hjk : j = 3 - (k + 1) := by omega
          subst hjk
          by_cases n7 : n = 7
          · rw [pickE, if_pos n7] at hK hEn
            repeat (first | ((with_reducible apply s1); exact rfl) | (with_reducible first | apply CW.seq | apply CW.block | apply CW.region | apply CW.draw | apply CW.skip | apply CW.exit | apply CW.ret | apply q_then | apply q_then_exit | apply q_then_ret | apply q_block | apply q_block_ret | apply q_block_hit | apply q_ret | apply q_end | apply q_loop_exit | apply q_loop_ret | apply q_loopT_exit | apply q_loopT_ret | apply RW.nil) | ((with_reducible apply s3); exact rfl; exact by_k) | ((with_reducible apply s2); exact rfl; exact by_k) | ((with_reducible apply s4); exact rfl) | ((with_reducible apply s5); (first | (focus ((with_reducible apply a_call); exact cr; exact rfl; (repeat (first | exact SubsE.nil | (apply SubsE.cons; exact rfl; (first | exact .d (.refl _) | exact .d (.nil _) | exact .agg rfl (.refl _) | exact .pd | exact .ptr rfl); (first | exact trivial | exact ⟨rfl, trivial⟩)))); done)) | (focus ((with_reducible apply a_call); exact cc; exact rfl; (repeat (first | exact SubsE.nil | (apply SubsE.cons; exact rfl; (first | exact .d (.refl _) | exact .d (.nil _) | exact .agg rfl (.refl _) | exact .pd | exact .ptr rfl); (first | exact trivial | exact ⟨rfl, trivial⟩)))); done)) | ((with_reducible apply a_ia); (iterate 5 exact rfl); exact idx_map (k := 0) hp0) | ((with_reducible apply a_from); (iterate 5 exact rfl); exact cut_from (n := 1) (by simp)) | exact by_oa); exact by_g) | ((with_reducible apply CW.cond_t); exact rfl; exact by_ks) | ((with_reducible apply CW.cond_f); exact rfl; exact by_ks) | ((with_reducible apply q_block_miss); exact rfl) | (refine And.intro (show chk [] [] _ _ = true by kernel_rfl) ?_))
            refine q_loopT (k + 1, clearE e, q') ⟨by dsimp only; omega, hql, hEn, hK⟩ (by dsimp only; omega) ?_
            exact by_less
          rw [pickE, if_neg n7] at hK hEn
          by_cases n0 : n < 0
          · rw [if_pos n0] at hK hEn
            repeat (first | ((with_reducible apply s1); exact rfl) | (with_reducible first | apply CW.seq | apply CW.block | apply CW.region | apply CW.draw | apply CW.skip | apply CW.exit | apply CW.ret | apply q_then | apply q_then_exit | apply q_then_ret | apply q_block | apply q_block_ret | apply q_block_hit | apply q_ret | apply q_end | apply q_loop_exit | apply q_loop_ret | apply q_loopT_exit | apply q_loopT_ret | apply RW.nil) | ((with_reducible apply s3); exact rfl; exact by_k) | ((with_reducible apply s2); exact rfl; exact by_k) | ((with_reducible apply s4); exact rfl) | ((with_reducible apply s5); (first | (focus ((with_reducible apply a_call); exact cr; exact rfl; (repeat (first | exact SubsE.nil | (apply SubsE.cons; exact rfl; (first | exact .d (.refl _) | exact .d (.nil _) | exact .agg rfl (.refl _) | exact .pd | exact .ptr rfl); (first | exact trivial | exact ⟨rfl, trivial⟩)))); done)) | (focus ((with_reducible apply a_call); exact cc; exact rfl; (repeat (first | exact SubsE.nil | (apply SubsE.cons; exact rfl; (first | exact .d (.refl _) | exact .d (.nil _) | exact .agg rfl (.refl _) | exact .pd | exact .ptr rfl); (first | exact trivial | exact ⟨rfl, trivial⟩)))); done)) | ((with_reducible apply a_ia); (iterate 5 exact rfl); exact idx_map (k := 0) hp0) | ((with_reducible apply a_from); (iterate 5 exact rfl); exact cut_from (n := 1) (by simp)) | exact by_oa); exact by_g) | ((with_reducible apply CW.cond_t); exact rfl; exact by_ks) | ((with_reducible apply CW.cond_f); exact rfl; exact by_ks) | ((with_reducible apply q_block_miss); exact rfl) | (refine And.intro (show chk [] [] _ _ = true by kernel_rfl) ?_))
            refine q_loopT (k + 1, e, q') ⟨by dsimp only; omega, hql, hEn, hK⟩ (by dsimp only; omega) ?_
            exact by_less
          rw [if_neg n0] at hK hEn
          obtain ⟨m, rfl⟩ := Int.eq_ofNat_of_zero_le (show 0 ≤ n by omega)
          rw [Int.toNat_natCast] at hK hEn
          by_cases hm : m < (ready e).length
          · obtain ⟨x, hx⟩ : ∃ x, (ready e)[m]? = some x := ⟨(ready e)[m], List.getElem?_eq_getElem hm⟩
            rw [hx] at hK hEn
            dsimp only at hK hEn
            have cg := ok_go e x M2 hE.z (by omega) hE.o hE.c
            repeat (first | ((with_reducible apply s1); exact rfl) | (with_reducible first | apply CW.seq | apply CW.block | apply CW.region | apply CW.draw | apply CW.skip | apply CW.exit | apply CW.ret | apply q_then | apply q_then_exit | apply q_then_ret | apply q_block | apply q_block_ret | apply q_block_hit | apply q_ret | apply q_end | apply q_loop_exit | apply q_loop_ret | apply q_loopT_exit | apply q_loopT_ret | apply RW.nil) | ((with_reducible apply s3); exact rfl; exact by_k) | ((with_reducible apply s2); exact rfl; exact by_k) | ((with_reducible apply s4); exact rfl) | ((with_reducible apply s5); (first | (focus ((with_reducible apply a_call); exact cr; exact rfl; (repeat (first | exact SubsE.nil | (apply SubsE.cons; exact rfl; (first | exact .d (.refl _) | exact .d (.nil _) | exact .agg rfl (.refl _) | exact .pd | exact .ptr rfl); (first | exact trivial | exact ⟨rfl, trivial⟩)))); done)) | (focus ((with_reducible apply a_call); exact cg; exact rfl; (repeat (first | exact SubsE.nil | (apply SubsE.cons; exact rfl; (first | exact .d (.refl _) | exact .d (.nil _) | exact .agg rfl (.refl _) | exact .pd | exact .ptr rfl); (first | exact trivial | exact ⟨rfl, trivial⟩)))); done)) | ((with_reducible apply a_ia); (iterate 5 exact rfl); exact idx_map (k := 0) hp0) | ((with_reducible apply a_from); (iterate 5 exact rfl); exact cut_from (n := 1) (by simp)) | exact by_oa); exact by_g) | ((with_reducible apply CW.cond_t); exact rfl; exact by_ks) | ((with_reducible apply CW.cond_f); exact rfl; exact by_ks) | ((with_reducible apply q_block_miss); exact rfl) | (refine And.intro (show chk [] [] _ _ = true by kernel_rfl) ?_))
            refine q_loopT (k + 1, (goE e x).1, q') ⟨by dsimp only; omega, hql, hEn, hK⟩ (by dsimp only; omega) ?_
            exact by_less
          · rw [List.getElem?_eq_none (by omega)] at hK hEn
            dsimp only at hK hEn
            repeat (first | ((with_reducible apply s1); exact rfl) | (with_reducible first | apply CW.seq | apply CW.block | apply CW.region | apply CW.draw | apply CW.skip | apply CW.exit | apply CW.ret | apply q_then | apply q_then_exit | apply q_then_ret | apply q_block | apply q_block_ret | apply q_block_hit | apply q_ret | apply q_end | apply q_loop_exit | apply q_loop_ret | apply q_loopT_exit | apply q_loopT_ret | apply RW.nil) | ((with_reducible apply s3); exact rfl; exact by_k) | ((with_reducible apply s2); exact rfl; exact by_k) | ((with_reducible apply s4); exact rfl) | ((with_reducible apply s5); (first | (focus ((with_reducible apply a_call); exact cr; exact rfl; (repeat (first | exact SubsE.nil | (apply SubsE.cons; exact rfl; (first | exact .d (.refl _) | exact .d (.nil _) | exact .agg rfl (.refl _) | exact .pd | exact .ptr rfl); (first | exact trivial | exact ⟨rfl, trivial⟩)))); done)) | ((with_reducible apply a_ia); (iterate 5 exact rfl); exact idx_map (k := 0) hp0) | ((with_reducible apply a_from); (iterate 5 exact rfl); exact cut_from (n := 1) (by simp)) | exact by_oa); exact by_g) | ((with_reducible apply CW.cond_t); exact rfl; exact by_ks) | ((with_reducible apply CW.cond_f); exact rfl; exact by_ks) | ((with_reducible apply q_block_miss); exact rfl) | (refine And.intro (show chk [] [] _ _ = true by kernel_rfl) ?_))
            refine q_loopT (k + 1, e, q') ⟨by dsimp only; omega, hql, hEn, hK⟩ (by dsimp only; omega) ?_
            exact by_less

end Go.Proofs.Ytpgmolgkofgkoaa

/-! G1 -/
/-
  Contracts of the library's Clone.
-/
namespace Go.Proofs.Ytpgmolgkofgkoaa
open Go.AX Go.RF

set_option maxRecDepth 100000
set_option maxHeartbeats 4000000

theorem ok_clone_version (rows : List (List D)) (hl : rows.length ≤ 536870912) : FnOk Try.prog 50 [.d (.sl 4 rows)] (.one (.sl 4 rows)) := by
  refine fnOk_of tbl_ok mixed_ok Try.func50 rfl (by kernel_rfl) rfl rfl fun w0 own0 => ?_
  cases rows with
  | nil =>
    refine CW.empty 0 rfl fun p cp => ?_
    cases p with
    | none =>
      repeat (first | ((with_reducible apply s1); exact rfl) | (with_reducible first | apply CW.seq | apply CW.block | apply CW.region | apply CW.draw | apply CW.skip | apply CW.exit | apply CW.ret | apply q_then | apply q_then_exit | apply q_then_ret | apply q_block | apply q_block_ret | apply q_block_hit | apply q_ret | apply q_end | apply q_loop_exit | apply q_loop_ret | apply q_loopT_exit | apply q_loopT_ret | apply RW.nil) | ((with_reducible apply s3); exact rfl; exact by_k) | ((with_reducible apply s2); exact rfl; exact by_k) | ((with_reducible apply s4); exact rfl) | ((with_reducible apply s5); (first | exact by_oa); exact by_g) | ((with_reducible apply CW.cond_t); exact rfl; exact by_ks) | ((with_reducible apply CW.cond_f); exact rfl; exact by_ks) | ((with_reducible apply q_block_miss); exact rfl) | (refine And.intro (show chk [] [] _ _ = true by kernel_rfl) ?_))
      exact .one (.tmp rfl (.one (.d (.nil 4))))
    | some ad =>
      repeat (first | (with_reducible apply stop_reg 3) | ((with_reducible apply s1); exact rfl) | (with_reducible first | apply CW.seq | apply CW.block | apply CW.region | apply CW.draw | apply CW.skip | apply CW.exit | apply CW.ret | apply q_then | apply q_then_exit | apply q_then_ret | apply q_block | apply q_block_ret | apply q_block_hit | apply q_ret | apply q_end | apply q_loop_exit | apply q_loop_ret | apply q_loopT_exit | apply q_loopT_ret | apply RW.nil) | ((with_reducible apply s3); exact rfl; exact by_k) | ((with_reducible apply s2); exact rfl; exact by_k) | ((with_reducible apply s4); exact rfl) | ((with_reducible apply s5); (first | exact by_oa); exact by_g) | ((with_reducible apply CW.cond_t); exact rfl; exact by_ks) | ((with_reducible apply CW.cond_f); exact rfl; exact by_ks) | ((with_reducible apply q_block_miss); exact rfl) | (refine And.intro (show chk [] [] _ _ = true by kernel_rfl) ?_))
      refine Stop.go (CW.stut (stut_nilv (i := 0) (k := 4)) ⟨rfl, trivial⟩ ?_)
      repeat (first | ((with_reducible apply s1); exact rfl) | (with_reducible first | apply CW.seq | apply CW.block | apply CW.region | apply CW.draw | apply CW.skip | apply CW.exit | apply CW.ret | apply q_then | apply q_then_exit | apply q_then_ret | apply q_block | apply q_block_ret | apply q_block_hit | apply q_ret | apply q_end | apply q_loop_exit | apply q_loop_ret | apply q_loopT_exit | apply q_loopT_ret | apply RW.nil) | ((with_reducible apply s3); exact rfl; exact by_k) | ((with_reducible apply s2); exact rfl; exact by_k) | ((with_reducible apply s4); exact rfl) | ((with_reducible apply s5); (first | exact by_oa); exact by_g) | ((with_reducible apply CW.cond_t); exact rfl; exact by_ks) | ((with_reducible apply CW.cond_f); exact rfl; exact by_ks) | ((with_reducible apply q_block_miss); exact rfl) | (refine And.intro (show chk [] [] _ _ = true by kernel_rfl) ?_))
      exact .one (.tmp rfl (.one (.own rfl rfl (.refl _))))
  | cons r rows =>
    have hl2 : rows.length ≤ 536870911 := by simp at hl; omega
    repeat (first | ((with_reducible apply s1); exact rfl) | (with_reducible first | apply CW.seq | apply CW.block | apply CW.region | apply CW.draw | apply CW.skip | apply CW.exit | apply CW.ret | apply q_then | apply q_then_exit | apply q_then_ret | apply q_block | apply q_block_ret | apply q_block_hit | apply q_ret | apply q_end | apply q_loop_exit | apply q_loop_ret | apply q_loopT_exit | apply q_loopT_ret | apply RW.nil) | ((with_reducible apply s3); exact rfl; exact by_k) | ((with_reducible apply s2); exact rfl; exact by_k) | ((with_reducible apply s4); exact rfl) | ((with_reducible apply s5); (first | exact by_oa); exact by_g) | ((with_reducible apply CW.cond_t); exact rfl; exact by_ks) | ((with_reducible apply CW.cond_f); exact rfl; exact by_ks) | ((with_reducible apply q_block_miss); exact rfl) | (refine And.intro (show chk [] [] _ _ = true by kernel_rfl) ?_))
    exact .one (.tmp rfl (.one (.own rfl (by simp) (.refl _))))

theorem ok_clone_int (rows : List (List D)) (hl : rows.length ≤ 536870912) : FnOk Try.prog 41 [.d (.sl 1 rows)] (.one (.sl 1 rows)) := by
  refine fnOk_of tbl_ok mixed_ok Try.func41 rfl (by kernel_rfl) rfl rfl fun w0 own0 => ?_
  cases rows with
  | nil =>
    refine CW.empty 0 rfl fun p cp => ?_
    cases p with
    | none =>
      repeat (first | ((with_reducible apply s1); exact rfl) | (with_reducible first | apply CW.seq | apply CW.block | apply CW.region | apply CW.draw | apply CW.skip | apply CW.exit | apply CW.ret | apply q_then | apply q_then_exit | apply q_then_ret | apply q_block | apply q_block_ret | apply q_block_hit | apply q_ret | apply q_end | apply q_loop_exit | apply q_loop_ret | apply q_loopT_exit | apply q_loopT_ret | apply RW.nil) | ((with_reducible apply s3); exact rfl; exact by_k) | ((with_reducible apply s2); exact rfl; exact by_k) | ((with_reducible apply s4); exact rfl) | ((with_reducible apply s5); (first | exact by_oa); exact by_g) | ((with_reducible apply CW.cond_t); exact rfl; exact by_ks) | ((with_reducible apply CW.cond_f); exact rfl; exact by_ks) | ((with_reducible apply q_block_miss); exact rfl) | (refine And.intro (show chk [] [] _ _ = true by kernel_rfl) ?_))
      exact .one (.tmp rfl (.one (.d (.nil 1))))
    | some ad =>
      repeat (first | (with_reducible apply stop_reg 3) | ((with_reducible apply s1); exact rfl) | (with_reducible first | apply CW.seq | apply CW.block | apply CW.region | apply CW.draw | apply CW.skip | apply CW.exit | apply CW.ret | apply q_then | apply q_then_exit | apply q_then_ret | apply q_block | apply q_block_ret | apply q_block_hit | apply q_ret | apply q_end | apply q_loop_exit | apply q_loop_ret | apply q_loopT_exit | apply q_loopT_ret | apply RW.nil) | ((with_reducible apply s3); exact rfl; exact by_k) | ((with_reducible apply s2); exact rfl; exact by_k) | ((with_reducible apply s4); exact rfl) | ((with_reducible apply s5); (first | exact by_oa); exact by_g) | ((with_reducible apply CW.cond_t); exact rfl; exact by_ks) | ((with_reducible apply CW.cond_f); exact rfl; exact by_ks) | ((with_reducible apply q_block_miss); exact rfl) | (refine And.intro (show chk [] [] _ _ = true by kernel_rfl) ?_))
      refine Stop.go (CW.stut (stut_nilv (i := 0) (k := 1)) ⟨rfl, trivial⟩ ?_)
      repeat (first | ((with_reducible apply s1); exact rfl) | (with_reducible first | apply CW.seq | apply CW.block | apply CW.region | apply CW.draw | apply CW.skip | apply CW.exit | apply CW.ret | apply q_then | apply q_then_exit | apply q_then_ret | apply q_block | apply q_block_ret | apply q_block_hit | apply q_ret | apply q_end | apply q_loop_exit | apply q_loop_ret | apply q_loopT_exit | apply q_loopT_ret | apply RW.nil) | ((with_reducible apply s3); exact rfl; exact by_k) | ((with_reducible apply s2); exact rfl; exact by_k) | ((with_reducible apply s4); exact rfl) | ((with_reducible apply s5); (first | exact by_oa); exact by_g) | ((with_reducible apply CW.cond_t); exact rfl; exact by_ks) | ((with_reducible apply CW.cond_f); exact rfl; exact by_ks) | ((with_reducible apply q_block_miss); exact rfl) | (refine And.intro (show chk [] [] _ _ = true by kernel_rfl) ?_))
      exact .one (.tmp rfl (.one (.own rfl rfl (.refl _))))
  | cons r rows =>
    have hl2 : rows.length ≤ 536870911 := by simp at hl; omega
    repeat (first | ((with_reducible apply s1); exact rfl) | (with_reducible first | apply CW.seq | apply CW.block | apply CW.region | apply CW.draw | apply CW.skip | apply CW.exit | apply CW.ret | apply q_then | apply q_then_exit | apply q_then_ret | apply q_block | apply q_block_ret | apply q_block_hit | apply q_ret | apply q_end | apply q_loop_exit | apply q_loop_ret | apply q_loopT_exit | apply q_loopT_ret | apply RW.nil) | ((with_reducible apply s3); exact rfl; exact by_k) | ((with_reducible apply s2); exact rfl; exact by_k) | ((with_reducible apply s4); exact rfl) | ((with_reducible apply s5); (first | exact by_oa); exact by_g) | ((with_reducible apply CW.cond_t); exact rfl; exact by_ks) | ((with_reducible apply CW.cond_f); exact rfl; exact by_ks) | ((with_reducible apply q_block_miss); exact rfl) | (refine And.intro (show chk [] [] _ _ = true by kernel_rfl) ?_))
    exact .one (.tmp rfl (.one (.own rfl (by simp) (.refl _))))

theorem ok_clone_done (rows : List (List D)) (hl : rows.length ≤ 536870912) : FnOk Try.prog 42 [.d (.sl 5 rows)] (.one (.sl 5 rows)) := by
  refine fnOk_of tbl_ok mixed_ok Try.func42 rfl (by kernel_rfl) rfl rfl fun w0 own0 => ?_
  cases rows with
  | nil =>
    refine CW.empty 0 rfl fun p cp => ?_
    cases p with
    | none =>
      repeat (first | ((with_reducible apply s1); exact rfl) | (with_reducible first | apply CW.seq | apply CW.block | apply CW.region | apply CW.draw | apply CW.skip | apply CW.exit | apply CW.ret | apply q_then | apply q_then_exit | apply q_then_ret | apply q_block | apply q_block_ret | apply q_block_hit | apply q_ret | apply q_end | apply q_loop_exit | apply q_loop_ret | apply q_loopT_exit | apply q_loopT_ret | apply RW.nil) | ((with_reducible apply s3); exact rfl; exact by_k) | ((with_reducible apply s2); exact rfl; exact by_k) | ((with_reducible apply s4); exact rfl) | ((with_reducible apply s5); (first | exact by_oa); exact by_g) | ((with_reducible apply CW.cond_t); exact rfl; exact by_ks) | ((with_reducible apply CW.cond_f); exact rfl; exact by_ks) | ((with_reducible apply q_block_miss); exact rfl) | (refine And.intro (show chk [] [] _ _ = true by kernel_rfl) ?_))
      exact .one (.tmp rfl (.one (.d (.nil 5))))
    | some ad =>
      repeat (first | (with_reducible apply stop_reg 3) | ((with_reducible apply s1); exact rfl) | (with_reducible first | apply CW.seq | apply CW.block | apply CW.region | apply CW.draw | apply CW.skip | apply CW.exit | apply CW.ret | apply q_then | apply q_then_exit | apply q_then_ret | apply q_block | apply q_block_ret | apply q_block_hit | apply q_ret | apply q_end | apply q_loop_exit | apply q_loop_ret | apply q_loopT_exit | apply q_loopT_ret | apply RW.nil) | ((with_reducible apply s3); exact rfl; exact by_k) | ((with_reducible apply s2); exact rfl; exact by_k) | ((with_reducible apply s4); exact rfl) | ((with_reducible apply s5); (first | exact by_oa); exact by_g) | ((with_reducible apply CW.cond_t); exact rfl; exact by_ks) | ((with_reducible apply CW.cond_f); exact rfl; exact by_ks) | ((with_reducible apply q_block_miss); exact rfl) | (refine And.intro (show chk [] [] _ _ = true by kernel_rfl) ?_))
      refine Stop.go (CW.stut (stut_nilv (i := 0) (k := 5)) ⟨rfl, trivial⟩ ?_)
      repeat (first | ((with_reducible apply s1); exact rfl) | (with_reducible first | apply CW.seq | apply CW.block | apply CW.region | apply CW.draw | apply CW.skip | apply CW.exit | apply CW.ret | apply q_then | apply q_then_exit | apply q_then_ret | apply q_block | apply q_block_ret | apply q_block_hit | apply q_ret | apply q_end | apply q_loop_exit | apply q_loop_ret | apply q_loopT_exit | apply q_loopT_ret | apply RW.nil) | ((with_reducible apply s3); exact rfl; exact by_k) | ((with_reducible apply s2); exact rfl; exact by_k) | ((with_reducible apply s4); exact rfl) | ((with_reducible apply s5); (first | exact by_oa); exact by_g) | ((with_reducible apply CW.cond_t); exact rfl; exact by_ks) | ((with_reducible apply CW.cond_f); exact rfl; exact by_ks) | ((with_reducible apply q_block_miss); exact rfl) | (refine And.intro (show chk [] [] _ _ = true by kernel_rfl) ?_))
      exact .one (.tmp rfl (.one (.own rfl rfl (.refl _))))
  | cons r rows =>
    have hl2 : rows.length ≤ 536870911 := by simp at hl; omega
    repeat (first | ((with_reducible apply s1); exact rfl) | (with_reducible first | apply CW.seq | apply CW.block | apply CW.region | apply CW.draw | apply CW.skip | apply CW.exit | apply CW.ret | apply q_then | apply q_then_exit | apply q_then_ret | apply q_block | apply q_block_ret | apply q_block_hit | apply q_ret | apply q_end | apply q_loop_exit | apply q_loop_ret | apply q_loopT_exit | apply q_loopT_ret | apply RW.nil) | ((with_reducible apply s3); exact rfl; exact by_k) | ((with_reducible apply s2); exact rfl; exact by_k) | ((with_reducible apply s4); exact rfl) | ((with_reducible apply s5); (first | exact by_oa); exact by_g) | ((with_reducible apply CW.cond_t); exact rfl; exact by_ks) | ((with_reducible apply CW.cond_f); exact rfl; exact by_ks) | ((with_reducible apply q_block_miss); exact rfl) | (refine And.intro (show chk [] [] _ _ = true by kernel_rfl) ?_))
    exact .one (.tmp rfl (.one (.own rfl (by simp) (.refl _))))

theorem ok_clone_str (rows : List (List D)) (hl : rows.length ≤ 536870912) : FnOk Try.prog 51 [.d (.sl 1 rows)] (.one (.sl 1 rows)) := by
  refine fnOk_of tbl_ok mixed_ok Try.func51 rfl (by kernel_rfl) rfl rfl fun w0 own0 => ?_
  cases rows with
  | nil =>
    refine CW.empty 0 rfl fun p cp => ?_
    cases p with
    | none =>
      repeat (first | ((with_reducible apply s1); exact rfl) | (with_reducible first | apply CW.seq | apply CW.block | apply CW.region | apply CW.draw | apply CW.skip | apply CW.exit | apply CW.ret | apply q_then | apply q_then_exit | apply q_then_ret | apply q_block | apply q_block_ret | apply q_block_hit | apply q_ret | apply q_end | apply q_loop_exit | apply q_loop_ret | apply q_loopT_exit | apply q_loopT_ret | apply RW.nil) | ((with_reducible apply s3); exact rfl; exact by_k) | ((with_reducible apply s2); exact rfl; exact by_k) | ((with_reducible apply s4); exact rfl) | ((with_reducible apply s5); (first | exact by_oa); exact by_g) | ((with_reducible apply CW.cond_t); exact rfl; exact by_ks) | ((with_reducible apply CW.cond_f); exact rfl; exact by_ks) | ((with_reducible apply q_block_miss); exact rfl) | (refine And.intro (show chk [] [] _ _ = true by kernel_rfl) ?_))
      exact .one (.tmp rfl (.one (.d (.nil 1))))
    | some ad =>
      repeat (first | (with_reducible apply stop_reg 3) | ((with_reducible apply s1); exact rfl) | (with_reducible first | apply CW.seq | apply CW.block | apply CW.region | apply CW.draw | apply CW.skip | apply CW.exit | apply CW.ret | apply q_then | apply q_then_exit | apply q_then_ret | apply q_block | apply q_block_ret | apply q_block_hit | apply q_ret | apply q_end | apply q_loop_exit | apply q_loop_ret | apply q_loopT_exit | apply q_loopT_ret | apply RW.nil) | ((with_reducible apply s3); exact rfl; exact by_k) | ((with_reducible apply s2); exact rfl; exact by_k) | ((with_reducible apply s4); exact rfl) | ((with_reducible apply s5); (first | exact by_oa); exact by_g) | ((with_reducible apply CW.cond_t); exact rfl; exact by_ks) | ((with_reducible apply CW.cond_f); exact rfl; exact by_ks) | ((with_reducible apply q_block_miss); exact rfl) | (refine And.intro (show chk [] [] _ _ = true by kernel_rfl) ?_))
      refine Stop.go (CW.stut (stut_nilv (i := 0) (k := 1)) ⟨rfl, trivial⟩ ?_)
      repeat (first | ((with_reducible apply s1); exact rfl) | (with_reducible first | apply CW.seq | apply CW.block | apply CW.region | apply CW.draw | apply CW.skip | apply CW.exit | apply CW.ret | apply q_then | apply q_then_exit | apply q_then_ret | apply q_block | apply q_block_ret | apply q_block_hit | apply q_ret | apply q_end | apply q_loop_exit | apply q_loop_ret | apply q_loopT_exit | apply q_loopT_ret | apply RW.nil) | ((with_reducible apply s3); exact rfl; exact by_k) | ((with_reducible apply s2); exact rfl; exact by_k) | ((with_reducible apply s4); exact rfl) | ((with_reducible apply s5); (first | exact by_oa); exact by_g) | ((with_reducible apply CW.cond_t); exact rfl; exact by_ks) | ((with_reducible apply CW.cond_f); exact rfl; exact by_ks) | ((with_reducible apply q_block_miss); exact rfl) | (refine And.intro (show chk [] [] _ _ = true by kernel_rfl) ?_))
      exact .one (.tmp rfl (.one (.own rfl rfl (.refl _))))
  | cons r rows =>
    have hl2 : rows.length ≤ 536870911 := by simp at hl; omega
    repeat (first | ((with_reducible apply s1); exact rfl) | (with_reducible first | apply CW.seq | apply CW.block | apply CW.region | apply CW.draw | apply CW.skip | apply CW.exit | apply CW.ret | apply q_then | apply q_then_exit | apply q_then_ret | apply q_block | apply q_block_ret | apply q_block_hit | apply q_ret | apply q_end | apply q_loop_exit | apply q_loop_ret | apply q_loopT_exit | apply q_loopT_ret | apply RW.nil) | ((with_reducible apply s3); exact rfl; exact by_k) | ((with_reducible apply s2); exact rfl; exact by_k) | ((with_reducible apply s4); exact rfl) | ((with_reducible apply s5); (first | exact by_oa); exact by_g) | ((with_reducible apply CW.cond_t); exact rfl; exact by_ks) | ((with_reducible apply CW.cond_f); exact rfl; exact by_ks) | ((with_reducible apply q_block_miss); exact rfl) | (refine And.intro (show chk [] [] _ _ = true by kernel_rfl) ?_))
    exact .one (.tmp rfl (.one (.own rfl (by simp) (.refl _))))

theorem ok_clone_ins (rows : List (List D)) (hl : rows.length ≤ 536870912) : FnOk Try.prog 52 [.d (.sl 5 rows)] (.one (.sl 5 rows)) := by
  refine fnOk_of tbl_ok mixed_ok Try.func52 rfl (by kernel_rfl) rfl rfl fun w0 own0 => ?_
  cases rows with
  | nil =>
    refine CW.empty 0 rfl fun p cp => ?_
    cases p with
    | none =>
      repeat (first | ((with_reducible apply s1); exact rfl) | (with_reducible first | apply CW.seq | apply CW.block | apply CW.region | apply CW.draw | apply CW.skip | apply CW.exit | apply CW.ret | apply q_then | apply q_then_exit | apply q_then_ret | apply q_block | apply q_block_ret | apply q_block_hit | apply q_ret | apply q_end | apply q_loop_exit | apply q_loop_ret | apply q_loopT_exit | apply q_loopT_ret | apply RW.nil) | ((with_reducible apply s3); exact rfl; exact by_k) | ((with_reducible apply s2); exact rfl; exact by_k) | ((with_reducible apply s4); exact rfl) | ((with_reducible apply s5); (first | exact by_oa); exact by_g) | ((with_reducible apply CW.cond_t); exact rfl; exact by_ks) | ((with_reducible apply CW.cond_f); exact rfl; exact by_ks) | ((with_reducible apply q_block_miss); exact rfl) | (refine And.intro (show chk [] [] _ _ = true by kernel_rfl) ?_))
      exact .one (.tmp rfl (.one (.d (.nil 5))))
    | some ad =>
      repeat (first | (with_reducible apply stop_reg 3) | ((with_reducible apply s1); exact rfl) | (with_reducible first | apply CW.seq | apply CW.block | apply CW.region | apply CW.draw | apply CW.skip | apply CW.exit | apply CW.ret | apply q_then | apply q_then_exit | apply q_then_ret | apply q_block | apply q_block_ret | apply q_block_hit | apply q_ret | apply q_end | apply q_loop_exit | apply q_loop_ret | apply q_loopT_exit | apply q_loopT_ret | apply RW.nil) | ((with_reducible apply s3); exact rfl; exact by_k) | ((with_reducible apply s2); exact rfl; exact by_k) | ((with_reducible apply s4); exact rfl) | ((with_reducible apply s5); (first | exact by_oa); exact by_g) | ((with_reducible apply CW.cond_t); exact rfl; exact by_ks) | ((with_reducible apply CW.cond_f); exact rfl; exact by_ks) | ((with_reducible apply q_block_miss); exact rfl) | (refine And.intro (show chk [] [] _ _ = true by kernel_rfl) ?_))
      refine Stop.go (CW.stut (stut_nilv (i := 0) (k := 5)) ⟨rfl, trivial⟩ ?_)
      repeat (first | ((with_reducible apply s1); exact rfl) | (with_reducible first | apply CW.seq | apply CW.block | apply CW.region | apply CW.draw | apply CW.skip | apply CW.exit | apply CW.ret | apply q_then | apply q_then_exit | apply q_then_ret | apply q_block | apply q_block_ret | apply q_block_hit | apply q_ret | apply q_end | apply q_loop_exit | apply q_loop_ret | apply q_loopT_exit | apply q_loopT_ret | apply RW.nil) | ((with_reducible apply s3); exact rfl; exact by_k) | ((with_reducible apply s2); exact rfl; exact by_k) | ((with_reducible apply s4); exact rfl) | ((with_reducible apply s5); (first | exact by_oa); exact by_g) | ((with_reducible apply CW.cond_t); exact rfl; exact by_ks) | ((with_reducible apply CW.cond_f); exact rfl; exact by_ks) | ((with_reducible apply q_block_miss); exact rfl) | (refine And.intro (show chk [] [] _ _ = true by kernel_rfl) ?_))
      exact .one (.tmp rfl (.one (.own rfl rfl (.refl _))))
  | cons r rows =>
    have hl2 : rows.length ≤ 536870911 := by simp at hl; omega
    repeat (first | ((with_reducible apply s1); exact rfl) | (with_reducible first | apply CW.seq | apply CW.block | apply CW.region | apply CW.draw | apply CW.skip | apply CW.exit | apply CW.ret | apply q_then | apply q_then_exit | apply q_then_ret | apply q_block | apply q_block_ret | apply q_block_hit | apply q_ret | apply q_end | apply q_loop_exit | apply q_loop_ret | apply q_loopT_exit | apply q_loopT_ret | apply RW.nil) | ((with_reducible apply s3); exact rfl; exact by_k) | ((with_reducible apply s2); exact rfl; exact by_k) | ((with_reducible apply s4); exact rfl) | ((with_reducible apply s5); (first | exact by_oa); exact by_g) | ((with_reducible apply CW.cond_t); exact rfl; exact by_ks) | ((with_reducible apply CW.cond_f); exact rfl; exact by_ks) | ((with_reducible apply q_block_miss); exact rfl) | (refine And.intro (show chk [] [] _ _ = true by kernel_rfl) ?_))
    exact .one (.tmp rfl (.one (.own rfl (by simp) (.refl _))))

end Go.Proofs.Ytpgmolgkofgkoaa

/-! G3 -/
/-
  Contracts of the program's copies, and of what it counts in engines.
-/
namespace Go.Proofs.Ytpgmolgkofgkoaa
open Go.AX Go.RF

set_option maxRecDepth 100000
set_option maxHeartbeats 4000000

theorem ok_chainOwn (l : List Chain) (hl : l.length ≤ 268435456) (hv : ∀ c ∈ l, c.vs.length ≤ 268435456) : FnOk Try.prog 40 [.d (encChains l)] (.one (encChains l)) := by
  refine fnOk_of tbl_ok mixed_ok Try.func40 rfl (by kernel_rfl) rfl rfl fun w0 own0 => ?_
  repeat (first | ((with_reducible apply s1); exact rfl) | (with_reducible first | apply CW.seq | apply CW.block | apply CW.region | apply CW.draw | apply CW.skip | apply CW.exit | apply CW.ret | apply q_then | apply q_then_exit | apply q_then_ret | apply q_block | apply q_block_ret | apply q_block_hit | apply q_ret | apply q_end | apply q_loop_exit | apply q_loop_ret | apply q_loopT_exit | apply q_loopT_ret | apply RW.nil) | ((with_reducible apply s3); exact rfl; exact by_k) | ((with_reducible apply s2); exact rfl; exact by_k) | ((with_reducible apply s4); exact rfl) | ((with_reducible apply s5); (first | exact by_oa); exact by_g) | ((with_reducible apply CW.cond_t); exact rfl; exact by_ks) | ((with_reducible apply CW.cond_f); exact rfl; exact by_ks) | ((with_reducible apply q_block_miss); exact rfl) | (refine And.intro (show chk [] [] _ _ = true by kernel_rfl) ?_))
  refine CW.stut (stut_promote (i := 3) 36 2) ⟨rfl, rfl, trivial⟩ ?_
  refine CW.loopT (fun i : Nat => [sd 6 (encChains l), sd 7 (dint l.length), sd 8 (dint i), so 3 0 i, oa 0 36 2 ((l.take i).map Chain.enc), nxt 1]) (fun i => i ≤ l.length) (fun i => l.length - i) 0 (by omega) ?_ ?_
  ·
    exact by_less
  · rintro i hi
    rcases drop_case hi with ⟨h1, h2⟩ | ⟨c, h1, h2, h3⟩
    ·
      repeat (first | ((with_reducible apply s1); exact rfl) | (with_reducible first | apply CW.seq | apply CW.block | apply CW.region | apply CW.draw | apply CW.skip | apply CW.exit | apply CW.ret | apply q_then | apply q_then_exit | apply q_then_ret | apply q_block | apply q_block_ret | apply q_block_hit | apply q_ret | apply q_end | apply q_loop_exit | apply q_loop_ret | apply q_loopT_exit | apply q_loopT_ret | apply RW.nil) | ((with_reducible apply s3); exact rfl; exact by_k) | ((with_reducible apply s2); exact rfl; exact by_k) | ((with_reducible apply s4); exact rfl) | ((with_reducible apply s5); (first | exact by_oa); exact by_g) | ((with_reducible apply CW.cond_t); exact rfl; exact by_ks) | ((with_reducible apply CW.cond_f); exact rfl; exact by_ks) | ((with_reducible apply q_block_miss); exact rfl) | (refine And.intro (show chk [] [] _ _ = true by kernel_rfl) ?_))
      exact .one (.tmp rfl (.one (.own rfl (by simp; omega) (dle_eq (by rw [h2, List.take_length]; rfl)))))
    · have h4 : (l.take i).map Chain.enc ++ [c.enc] = (l.take (i + 1)).map Chain.enc := by rw [List.take_add_one, h2]; simp
      have hcv := hv c (List.mem_of_getElem? h2)
      have hc := ok_clone_version (c.vs.map Version.enc) (by simp; omega)
      repeat (first | ((with_reducible apply s1); exact rfl) | (with_reducible first | apply CW.seq | apply CW.block | apply CW.region | apply CW.draw | apply CW.skip | apply CW.exit | apply CW.ret | apply q_then | apply q_then_exit | apply q_then_ret | apply q_block | apply q_block_ret | apply q_block_hit | apply q_ret | apply q_end | apply q_loop_exit | apply q_loop_ret | apply q_loopT_exit | apply q_loopT_ret | apply RW.nil) | ((with_reducible apply s3); exact rfl; exact by_k) | ((with_reducible apply s2); exact rfl; exact by_k) | ((with_reducible apply s4); exact rfl) | ((with_reducible apply s5); (first | (focus ((with_reducible apply a_call); exact hc; exact rfl; (repeat (first | exact SubsE.nil | (apply SubsE.cons; exact rfl; (first | exact .d (.refl _) | exact .d (.nil _) | exact .agg rfl (.refl _) | exact .pd | exact .ptr rfl); (first | exact trivial | exact ⟨rfl, trivial⟩)))); done)) | exact by_oa); exact by_g) | ((with_reducible apply CW.cond_t); exact rfl; exact by_ks) | ((with_reducible apply CW.cond_f); exact rfl; exact by_ks) | ((with_reducible apply q_block_miss); exact rfl) | (refine And.intro (show chk [] [] _ _ = true by kernel_rfl) ?_))
      refine q_loopT (i + 1) (by omega) (by omega) ?_
      exact by_less

theorem ok_deedOwn (d : Deed) (hs : d.Sm) : FnOk Try.prog 43 [.d (.agg d.enc)] (.one (.agg d.enc)) := by
  refine fnOk_of tbl_ok mixed_ok Try.func43 rfl (by kernel_rfl) rfl rfl fun w0 own0 => ?_
  have h1 := hs.r
  have h2 := hs.w
  have h3 := hs.c
  have c1 := ok_clone_str (d.reads.map encStr1) (by simp; omega)
  have c2 := ok_clone_str (d.writes.map encStr1) (by simp; omega)
  have c3 := ok_clone_ins (d.code.map Ins.enc) (by simp; omega)
  repeat (first | ((with_reducible apply s1); exact rfl) | (with_reducible first | apply CW.seq | apply CW.block | apply CW.region | apply CW.draw | apply CW.skip | apply CW.exit | apply CW.ret | apply q_then | apply q_then_exit | apply q_then_ret | apply q_block | apply q_block_ret | apply q_block_hit | apply q_ret | apply q_end | apply q_loop_exit | apply q_loop_ret | apply q_loopT_exit | apply q_loopT_ret | apply RW.nil) | ((with_reducible apply s3); exact rfl; exact by_k) | ((with_reducible apply s2); exact rfl; exact by_k) | ((with_reducible apply s4); exact rfl) | ((with_reducible apply s5); (first | (focus ((with_reducible apply a_call); exact c1; exact rfl; (repeat (first | exact SubsE.nil | (apply SubsE.cons; exact rfl; (first | exact .d (.refl _) | exact .d (.nil _) | exact .agg rfl (.refl _) | exact .pd | exact .ptr rfl); (first | exact trivial | exact ⟨rfl, trivial⟩)))); done)) | (focus ((with_reducible apply a_call); exact c2; exact rfl; (repeat (first | exact SubsE.nil | (apply SubsE.cons; exact rfl; (first | exact .d (.refl _) | exact .d (.nil _) | exact .agg rfl (.refl _) | exact .pd | exact .ptr rfl); (first | exact trivial | exact ⟨rfl, trivial⟩)))); done)) | (focus ((with_reducible apply a_call); exact c3; exact rfl; (repeat (first | exact SubsE.nil | (apply SubsE.cons; exact rfl; (first | exact .d (.refl _) | exact .d (.nil _) | exact .agg rfl (.refl _) | exact .pd | exact .ptr rfl); (first | exact trivial | exact ⟨rfl, trivial⟩)))); done)) | exact by_oa); exact by_g) | ((with_reducible apply CW.cond_t); exact rfl; exact by_ks) | ((with_reducible apply CW.cond_f); exact rfl; exact by_ks) | ((with_reducible apply q_block_miss); exact rfl) | (refine And.intro (show chk [] [] _ _ = true by kernel_rfl) ?_))
  exact .one (.cell rfl rfl rfl rfl (.aggd (ds := d.enc) rfl (.refl _)))

theorem ok_planOwn (e : Engine) (hs : e.Sm) : FnOk Try.prog 26 [.d (.agg e.enc)] (.one (.agg e.enc)) := by
  refine fnOk_of tbl_ok mixed_ok Try.func26 rfl (by kernel_rfl) rfl rfl fun w0 own0 => ?_
  have h1 := hs.c
  have h2 := hs.s
  have h3 := hs.n
  have h4 := hs.d
  have c1 := ok_chainOwn e.chains (by omega) (fun c hc => by have := hs.v c hc; omega)
  have c2 := ok_clone_int (e.state.map encInt1) (by simp; omega)
  have c3 := ok_clone_done (e.ends.map Done.enc) (by simp; omega)
  repeat (first | ((with_reducible apply s1); exact rfl) | (with_reducible first | apply CW.seq | apply CW.block | apply CW.region | apply CW.draw | apply CW.skip | apply CW.exit | apply CW.ret | apply q_then | apply q_then_exit | apply q_then_ret | apply q_block | apply q_block_ret | apply q_block_hit | apply q_ret | apply q_end | apply q_loop_exit | apply q_loop_ret | apply q_loopT_exit | apply q_loopT_ret | apply RW.nil) | ((with_reducible apply s3); exact rfl; exact by_k) | ((with_reducible apply s2); exact rfl; exact by_k) | ((with_reducible apply s4); exact rfl) | ((with_reducible apply s5); (first | (focus ((with_reducible apply a_call); exact c1; exact rfl; (repeat (first | exact SubsE.nil | (apply SubsE.cons; exact rfl; (first | exact .d (.refl _) | exact .d (.nil _) | exact .agg rfl (.refl _) | exact .pd | exact .ptr rfl); (first | exact trivial | exact ⟨rfl, trivial⟩)))); done)) | (focus ((with_reducible apply a_call); exact c2; exact rfl; (repeat (first | exact SubsE.nil | (apply SubsE.cons; exact rfl; (first | exact .d (.refl _) | exact .d (.nil _) | exact .agg rfl (.refl _) | exact .pd | exact .ptr rfl); (first | exact trivial | exact ⟨rfl, trivial⟩)))); done)) | (focus ((with_reducible apply a_call); exact c3; exact rfl; (repeat (first | exact SubsE.nil | (apply SubsE.cons; exact rfl; (first | exact .d (.refl _) | exact .d (.nil _) | exact .agg rfl (.refl _) | exact .pd | exact .ptr rfl); (first | exact trivial | exact ⟨rfl, trivial⟩)))); done)) | exact by_oa); exact by_g) | ((with_reducible apply CW.cond_t); exact rfl; exact by_ks) | ((with_reducible apply CW.cond_f); exact rfl; exact by_ks) | ((with_reducible apply q_block_miss); exact rfl) | (refine And.intro (show chk [] [] _ _ = true by kernel_rfl) ?_))
  refine CW.stut (stut_promote_cell (id := 2) (j := 1) 64 3 rfl) ⟨rfl, rfl, trivial⟩ ?_
  refine CW.loopT (fun i : Nat => [sp 2 1, ob 1 noE.enc0, sp 3 2, (.o 2, .ob (.box [.d (encChains e.chains), .own 3 i, .d (encInts e.state), .d (encEnds e.ends), .d (dint e.base)])), sd 19 (encDeeds e.deeds), sd 20 (dint e.deeds.length), sd 21 (dint i),
      oa 3 64 3 ((e.deeds.take i).map Deed.enc), nxt 4]) (fun i => i ≤ e.deeds.length) (fun i => e.deeds.length - i) 0 (by omega) ?_ ?_
  ·
    exact by_less
  · rintro i hi
    rcases drop_case hi with ⟨h5, h6⟩ | ⟨d, h5, h6, h7⟩
    · have h8 : (e.deeds.take i).map Deed.enc = e.deeds.map Deed.enc := by rw [h6, List.take_length]
      repeat (first | (with_reducible apply stop_reg 7) | ((with_reducible apply s1); exact rfl) | (with_reducible first | apply CW.seq | apply CW.block | apply CW.region | apply CW.draw | apply CW.skip | apply CW.exit | apply CW.ret | apply q_then | apply q_then_exit | apply q_then_ret | apply q_block | apply q_block_ret | apply q_block_hit | apply q_ret | apply q_end | apply q_loop_exit | apply q_loop_ret | apply q_loopT_exit | apply q_loopT_ret | apply RW.nil) | ((with_reducible apply s3); exact rfl; exact by_k) | ((with_reducible apply s2); exact rfl; exact by_k) | ((with_reducible apply s4); exact rfl) | ((with_reducible apply s5); (first | exact by_oa); exact by_g) | ((with_reducible apply CW.cond_t); exact rfl; exact by_ks) | ((with_reducible apply CW.cond_f); exact rfl; exact by_ks) | ((with_reducible apply q_block_miss); exact rfl) | (refine And.intro (show chk [] [] _ _ = true by kernel_rfl) ?_))
      refine Stop.go (CW.stut (stut_freeze_cell (id := 2) (j := 1) (i := 3) rfl (by simp; omega)) ⟨rfl, rfl, trivial⟩ ?_)
      repeat (first | ((with_reducible apply s1); exact rfl) | (with_reducible first | apply CW.seq | apply CW.block | apply CW.region | apply CW.draw | apply CW.skip | apply CW.exit | apply CW.ret | apply q_then | apply q_then_exit | apply q_then_ret | apply q_block | apply q_block_ret | apply q_block_hit | apply q_ret | apply q_end | apply q_loop_exit | apply q_loop_ret | apply q_loopT_exit | apply q_loopT_ret | apply RW.nil) | ((with_reducible apply s3); exact rfl; exact by_k) | ((with_reducible apply s2); exact rfl; exact by_k) | ((with_reducible apply s4); exact rfl) | ((with_reducible apply s5); (first | exact by_oa); exact by_g) | ((with_reducible apply CW.cond_t); exact rfl; exact by_ks) | ((with_reducible apply CW.cond_f); exact rfl; exact by_ks) | ((with_reducible apply q_block_miss); exact rfl) | (refine And.intro (show chk [] [] _ _ = true by kernel_rfl) ?_))
      exact .one (.cell rfl rfl rfl rfl (.aggd (ds := [encChains e.chains, .sl 3 ((e.deeds.take i).map Deed.enc), encInts e.state, encEnds e.ends, dint e.base]) rfl (dle_eq (by rw [h8]; rfl))))
    · have h8 : (e.deeds.take i).map Deed.enc ++ [d.enc] = (e.deeds.take (i + 1)).map Deed.enc := by rw [List.take_add_one, h6]; simp
      have hd := ok_deedOwn d (hs.dd d (List.mem_of_getElem? h6))
      repeat (first | ((with_reducible apply s1); exact rfl) | (with_reducible first | apply CW.seq | apply CW.block | apply CW.region | apply CW.draw | apply CW.skip | apply CW.exit | apply CW.ret | apply q_then | apply q_then_exit | apply q_then_ret | apply q_block | apply q_block_ret | apply q_block_hit | apply q_ret | apply q_end | apply q_loop_exit | apply q_loop_ret | apply q_loopT_exit | apply q_loopT_ret | apply RW.nil) | ((with_reducible apply s3); exact rfl; exact by_k) | ((with_reducible apply s2); exact rfl; exact by_k) | ((with_reducible apply s4); exact rfl) | ((with_reducible apply s5); (first | (focus ((with_reducible apply a_call); exact hd; exact rfl; (repeat (first | exact SubsE.nil | (apply SubsE.cons; exact rfl; (first | exact .d (.refl _) | exact .d (.nil _) | exact .agg rfl (.refl _) | exact .pd | exact .ptr rfl); (first | exact trivial | exact ⟨rfl, trivial⟩)))); done)) | exact by_oa); exact by_g) | ((with_reducible apply CW.cond_t); exact rfl; exact by_ks) | ((with_reducible apply CW.cond_f); exact rfl; exact by_ks) | ((with_reducible apply q_block_miss); exact rfl) | (refine And.intro (show chk [] [] _ _ = true by kernel_rfl) ?_))
      refine q_loopT (i + 1) (by omega) (by omega) ?_
      exact by_less

end Go.Proofs.Ytpgmolgkofgkoaa

/-! G4 -/
/-
  Contracts of the program's Clear of chains, Of, Size, Mark.
-/
namespace Go.Proofs.Ytpgmolgkofgkoaa
open Go.AX Go.RF

set_option maxRecDepth 100000
set_option maxHeartbeats 8000000

def lastGo (b : Int) : Nat → Int → List Version → Int
  | _, la, [] => la
  | k, la, v :: r => lastGo b (k + 1) (if v.by_ < b then (k : Int) else la) r
def keepB (la : Int) (k : Nat) (v : Version) : Bool := decide (la ≤ k) && !(decide ((k : Int) = la) && (v.made && !v.has))
def keepGo (la : Int) : Nat → List Version → List Version
  | _, [] => []
  | k, v :: r => if keepB la k v = true then v :: keepGo la (k + 1) r else keepGo la (k + 1) r
def pclrV (b : Int) (l : List Version) : List Version := keepGo (lastGo b 0 (-1) l) 0 l
def pclear (b : Int) : List Chain → List Chain
  | [] => []
  | c :: r => if pclrV b c.vs = [] then pclear b r else ⟨c.key, pclrV b c.vs⟩ :: pclear b r

theorem ok_pclear (l : List Chain) (b : Int) (hl : l.length ≤ 268435456) (hv : ∀ c ∈ l, c.vs.length ≤ 268435456) : FnOk Try.prog 27 [.d (encChains l), .d (dint b)] (.one (encChains (pclear b l))) := by
  refine fnOk_of tbl_ok mixed_ok Try.func27 rfl (by kernel_rfl) rfl rfl fun w0 own0 => ?_
  repeat (first | ((with_reducible apply s1); exact rfl) | (with_reducible first | apply CW.seq | apply CW.block | apply CW.region | apply CW.draw | apply CW.skip | apply CW.exit | apply CW.ret | apply q_then | apply q_then_exit | apply q_then_ret | apply q_block | apply q_block_ret | apply q_block_hit | apply q_ret | apply q_end | apply q_loop_exit | apply q_loop_ret | apply q_loopT_exit | apply q_loopT_ret | apply RW.nil) | ((with_reducible apply s3); exact rfl; exact by_k) | ((with_reducible apply s2); exact rfl; exact by_k) | ((with_reducible apply s4); exact rfl) | ((with_reducible apply s5); (first | exact by_oa); exact by_g) | ((with_reducible apply CW.cond_t); exact rfl; exact by_ks) | ((with_reducible apply CW.cond_f); exact rfl; exact by_ks) | ((with_reducible apply q_block_miss); exact rfl) | (refine And.intro (show chk [] [] _ _ = true by kernel_rfl) ?_))
  refine CW.stut (stut_promote (i := 5) 36 2) ⟨rfl, rfl, trivial⟩ ?_
  refine CW.loopT (fun t : Nat × List Chain => [sd 1 (dint b), so 5 0 t.2.length, oa 0 36 2 (t.2.map Chain.enc), sd 14 (encChains l), sd 15 (dint l.length), sd 16 (dint t.1), nxt 1])
    (fun t => t.1 ≤ l.length ∧ t.2.length ≤ t.1 ∧ t.2 ++ pclear b (l.drop t.1) = pclear b l) (fun t => l.length - t.1) (0, []) ⟨by omega, by simp, rfl⟩ ?_ ?_
  ·
    exact by_less
  · rintro ⟨i, out⟩ ⟨hi, ho, hI⟩
    dsimp only at hi ho hI ⊢
    rcases drop_case hi with ⟨h1, h2⟩ | ⟨c, h1, h2, h3⟩
    · rw [h1, pclear, List.append_nil] at hI
      repeat (first | ((with_reducible apply s1); exact rfl) | (with_reducible first | apply CW.seq | apply CW.block | apply CW.region | apply CW.draw | apply CW.skip | apply CW.exit | apply CW.ret | apply q_then | apply q_then_exit | apply q_then_ret | apply q_block | apply q_block_ret | apply q_block_hit | apply q_ret | apply q_end | apply q_loop_exit | apply q_loop_ret | apply q_loopT_exit | apply q_loopT_ret | apply RW.nil) | ((with_reducible apply s3); exact rfl; exact by_k) | ((with_reducible apply s2); exact rfl; exact by_k) | ((with_reducible apply s4); exact rfl) | ((with_reducible apply s5); (first | exact by_oa); exact by_g) | ((with_reducible apply CW.cond_t); exact rfl; exact by_ks) | ((with_reducible apply CW.cond_f); exact rfl; exact by_ks) | ((with_reducible apply q_block_miss); exact rfl) | (refine And.intro (show chk [] [] _ _ = true by kernel_rfl) ?_))
      rw [← hI]
      exact .one (.tmp rfl (.one (.own rfl (by simp) (.refl _))))
    · rw [h1, pclear] at hI
      have hcv := hv c (List.mem_of_getElem? h2)
      repeat (first | ((with_reducible apply s1); exact rfl) | (with_reducible first | apply CW.seq | apply CW.block | apply CW.region | apply CW.draw | apply CW.skip | apply CW.exit | apply CW.ret | apply q_then | apply q_then_exit | apply q_then_ret | apply q_block | apply q_block_ret | apply q_block_hit | apply q_ret | apply q_end | apply q_loop_exit | apply q_loop_ret | apply q_loopT_exit | apply q_loopT_ret | apply RW.nil) | ((with_reducible apply s3); exact rfl; exact by_k) | ((with_reducible apply s2); exact rfl; exact by_k) | ((with_reducible apply s4); exact rfl) | ((with_reducible apply s5); (first | exact by_oa); exact by_g) | ((with_reducible apply CW.cond_t); exact rfl; exact by_ks) | ((with_reducible apply CW.cond_f); exact rfl; exact by_ks) | ((with_reducible apply q_block_miss); exact rfl) | (refine And.intro (show chk [] [] _ _ = true by kernel_rfl) ?_))
      refine CW.loopT (fun t : Nat × Int => [sd 1 (dint b), so 5 0 out.length, oa 0 36 2 (out.map Chain.enc), sd 14 (encChains l), sd 15 (dint l.length), sd 16 (dint i), sp 7 1, ob 1 c.enc, sd 8 (dint t.2), sd 21 (encVs c.vs), sd 22 (dint c.vs.length), sd 23 (dint t.1), nxt 2])
        (fun t => t.1 ≤ c.vs.length ∧ lastGo b t.1 t.2 (c.vs.drop t.1) = lastGo b 0 (-1) c.vs) (fun t => c.vs.length - t.1) (0, -1) ⟨by omega, rfl⟩ ?_ ?_
      ·
        exact by_less
      · rintro ⟨j, la⟩ ⟨hj, hJ⟩
        dsimp only at hj hJ ⊢
        rcases drop_case hj with ⟨h5, h6⟩ | ⟨x, h5, h6, h7⟩
        · rw [h5, lastGo] at hJ
          rw [pclrV, ← hJ] at hI
          clear hJ h5
          repeat (first | ((with_reducible apply s1); exact rfl) | (with_reducible first | apply CW.seq | apply CW.block | apply CW.region | apply CW.draw | apply CW.skip | apply CW.exit | apply CW.ret | apply q_then | apply q_then_exit | apply q_then_ret | apply q_block | apply q_block_ret | apply q_block_hit | apply q_ret | apply q_end | apply q_loop_exit | apply q_loop_ret | apply q_loopT_exit | apply q_loopT_ret | apply RW.nil) | ((with_reducible apply s3); exact rfl; exact by_k) | ((with_reducible apply s2); exact rfl; exact by_k) | ((with_reducible apply s4); exact rfl) | ((with_reducible apply s5); (first | exact by_oa); exact by_g) | ((with_reducible apply CW.cond_t); exact rfl; exact by_ks) | ((with_reducible apply CW.cond_f); exact rfl; exact by_ks) | ((with_reducible apply q_block_miss); exact rfl) | (refine And.intro (show chk [] [] _ _ = true by kernel_rfl) ?_))
          refine CW.stut (stut_promote (i := 11) 60 4) ⟨rfl, rfl, trivial⟩ ?_
          refine CW.loopT (fun t : Nat × List Version => [sd 1 (dint b), so 5 0 out.length, oa 0 36 2 (out.map Chain.enc), sd 14 (encChains l), sd 15 (dint l.length), sd 16 (dint i), sp 7 1, ob 1 c.enc, sd 8 (dint la), so 11 2 t.2.length, oa 2 60 4 (t.2.map Version.enc), sd 35 (encVs c.vs), sd 36 (dint c.vs.length), sd 37 (dint t.1), nxt 3])
            (fun t => t.1 ≤ c.vs.length ∧ t.2.length ≤ t.1 ∧ t.2 ++ keepGo la t.1 (c.vs.drop t.1) = keepGo la 0 c.vs) (fun t => c.vs.length - t.1) (0, []) ⟨by omega, by simp, rfl⟩ ?_ ?_
          ·
            exact by_less
          · rintro ⟨k, vs⟩ ⟨hk, hvs, hK⟩
            dsimp only at hk hvs hK ⊢
            rcases drop_case hk with ⟨g1, g2⟩ | ⟨x, g1, g2, g3⟩
            · rw [g1, keepGo, List.append_nil] at hK
              rw [← hK] at hI
              repeat (first | (with_reducible apply stop_reg 19) | ((with_reducible apply s1); exact rfl) | (with_reducible first | apply CW.seq | apply CW.block | apply CW.region | apply CW.draw | apply CW.skip | apply CW.exit | apply CW.ret | apply q_then | apply q_then_exit | apply q_then_ret | apply q_block | apply q_block_ret | apply q_block_hit | apply q_ret | apply q_end | apply q_loop_exit | apply q_loop_ret | apply q_loopT_exit | apply q_loopT_ret | apply RW.nil) | ((with_reducible apply s3); exact rfl; exact by_k) | ((with_reducible apply s2); exact rfl; exact by_k) | ((with_reducible apply s4); exact rfl) | ((with_reducible apply s5); (first | exact by_oa); exact by_g) | ((with_reducible apply CW.cond_t); exact rfl; exact by_ks) | ((with_reducible apply CW.cond_f); exact rfl; exact by_ks) | ((with_reducible apply q_block_miss); exact rfl) | (refine And.intro (show chk [] [] _ _ = true by kernel_rfl) ?_))
              refine Stop.go (CW.stut (stut_freeze (i := 11) (id := 2) (by simp)) ⟨rfl, rfl, trivial⟩ ?_)
              cases vs with
              | nil =>
                rw [if_pos rfl] at hI
                repeat (first | ((with_reducible apply s1); exact rfl) | (with_reducible first | apply CW.seq | apply CW.block | apply CW.region | apply CW.draw | apply CW.skip | apply CW.exit | apply CW.ret | apply q_then | apply q_then_exit | apply q_then_ret | apply q_block | apply q_block_ret | apply q_block_hit | apply q_ret | apply q_end | apply q_loop_exit | apply q_loop_ret | apply q_loopT_exit | apply q_loopT_ret | apply RW.nil) | ((with_reducible apply s3); exact rfl; exact by_k) | ((with_reducible apply s2); exact rfl; exact by_k) | ((with_reducible apply s4); exact rfl) | ((with_reducible apply s5); (first | exact by_oa); exact by_g) | ((with_reducible apply CW.cond_t); exact rfl; exact by_ks) | ((with_reducible apply CW.cond_f); exact rfl; exact by_ks) | ((with_reducible apply q_block_miss); exact rfl) | (refine And.intro (show chk [] [] _ _ = true by kernel_rfl) ?_))
                refine q_loopT (i + 1, out) ⟨by dsimp only; omega, by dsimp only; omega, hI⟩ (by dsimp only; omega) ?_
                exact by_less
              | cons v0 vs =>
                rw [if_neg (by simp)] at hI
                repeat (first | ((with_reducible apply s1); exact rfl) | (with_reducible first | apply CW.seq | apply CW.block | apply CW.region | apply CW.draw | apply CW.skip | apply CW.exit | apply CW.ret | apply q_then | apply q_then_exit | apply q_then_ret | apply q_block | apply q_block_ret | apply q_block_hit | apply q_ret | apply q_end | apply q_loop_exit | apply q_loop_ret | apply q_loopT_exit | apply q_loopT_ret | apply RW.nil) | ((with_reducible apply s3); exact rfl; exact by_k) | ((with_reducible apply s2); exact rfl; exact by_k) | ((with_reducible apply s4); exact rfl) | ((with_reducible apply s5); (first | exact by_oa); exact by_g) | ((with_reducible apply CW.cond_t); exact rfl; exact by_ks) | ((with_reducible apply CW.cond_f); exact rfl; exact by_ks) | ((with_reducible apply q_block_miss); exact rfl) | (refine And.intro (show chk [] [] _ _ = true by kernel_rfl) ?_))
                refine q_loopT (i + 1, out ++ [⟨c.key, v0 :: vs⟩]) ⟨by dsimp only; omega, by dsimp only; simp; omega, by rw [← hI]; simp⟩ (by dsimp only; omega) ?_
                exact by_less
            · rw [g1, keepGo] at hK
              obtain ⟨xb, xm, xh, xn⟩ := x
              have hyes : keepB la k ⟨xb, xm, xh, xn⟩ = true → (vs ++ [⟨xb, xm, xh, xn⟩]) ++ keepGo la (k + 1) (c.vs.drop (k + 1)) = keepGo la 0 c.vs := fun e => by
                rw [if_pos e] at hK; rw [← hK]; simp
              have hno : keepB la k ⟨xb, xm, xh, xn⟩ = false → vs ++ keepGo la (k + 1) (c.vs.drop (k + 1)) = keepGo la 0 c.vs := fun e => by
                rw [if_neg (by rw [e]; simp)] at hK; exact hK
              clear hK
              by_cases e1 : la ≤ (k : Int)
              · by_cases e2 : (k : Int) = la
                · cases xm
                  ·
                    repeat (first | ((with_reducible apply s1); exact rfl) | (with_reducible first | apply CW.seq | apply CW.block | apply CW.region | apply CW.draw | apply CW.skip | apply CW.exit | apply CW.ret | apply q_then | apply q_then_exit | apply q_then_ret | apply q_block | apply q_block_ret | apply q_block_hit | apply q_ret | apply q_end | apply q_loop_exit | apply q_loop_ret | apply q_loopT_exit | apply q_loopT_ret | apply RW.nil) | ((with_reducible apply s3); exact rfl; exact by_k) | ((with_reducible apply s2); exact rfl; exact by_k) | ((with_reducible apply s4); exact rfl) | ((with_reducible apply s5); (first | exact by_oa); exact by_g) | ((with_reducible apply CW.cond_t); exact rfl; exact by_ks) | ((with_reducible apply CW.cond_f); exact rfl; exact by_ks) | ((with_reducible apply q_block_miss); exact rfl) | (refine And.intro (show chk [] [] _ _ = true by kernel_rfl) ?_))
                    refine q_loopT (k + 1, vs ++ [⟨xb, false, xh, xn⟩]) ⟨by dsimp only; omega, by dsimp only; simp; omega, hyes (by simp [keepB, e1])⟩ (by dsimp only; omega) ?_
                    exact by_less
                  · cases xh
                    ·
                      repeat (first | ((with_reducible apply s1); exact rfl) | (with_reducible first | apply CW.seq | apply CW.block | apply CW.region | apply CW.draw | apply CW.skip | apply CW.exit | apply CW.ret | apply q_then | apply q_then_exit | apply q_then_ret | apply q_block | apply q_block_ret | apply q_block_hit | apply q_ret | apply q_end | apply q_loop_exit | apply q_loop_ret | apply q_loopT_exit | apply q_loopT_ret | apply RW.nil) | ((with_reducible apply s3); exact rfl; exact by_k) | ((with_reducible apply s2); exact rfl; exact by_k) | ((with_reducible apply s4); exact rfl) | ((with_reducible apply s5); (first | exact by_oa); exact by_g) | ((with_reducible apply CW.cond_t); exact rfl; exact by_ks) | ((with_reducible apply CW.cond_f); exact rfl; exact by_ks) | ((with_reducible apply q_block_miss); exact rfl) | (refine And.intro (show chk [] [] _ _ = true by kernel_rfl) ?_))
                      refine q_loopT (k + 1, vs) ⟨by dsimp only; omega, by dsimp only; omega, hno (by simp [keepB, e2])⟩ (by dsimp only; omega) ?_
                      exact by_less
                    ·
                      repeat (first | ((with_reducible apply s1); exact rfl) | (with_reducible first | apply CW.seq | apply CW.block | apply CW.region | apply CW.draw | apply CW.skip | apply CW.exit | apply CW.ret | apply q_then | apply q_then_exit | apply q_then_ret | apply q_block | apply q_block_ret | apply q_block_hit | apply q_ret | apply q_end | apply q_loop_exit | apply q_loop_ret | apply q_loopT_exit | apply q_loopT_ret | apply RW.nil) | ((with_reducible apply s3); exact rfl; exact by_k) | ((with_reducible apply s2); exact rfl; exact by_k) | ((with_reducible apply s4); exact rfl) | ((with_reducible apply s5); (first | exact by_oa); exact by_g) | ((with_reducible apply CW.cond_t); exact rfl; exact by_ks) | ((with_reducible apply CW.cond_f); exact rfl; exact by_ks) | ((with_reducible apply q_block_miss); exact rfl) | (refine And.intro (show chk [] [] _ _ = true by kernel_rfl) ?_))
                      refine q_loopT (k + 1, vs ++ [⟨xb, true, true, xn⟩]) ⟨by dsimp only; omega, by dsimp only; simp; omega, hyes (by simp [keepB, e1])⟩ (by dsimp only; omega) ?_
                      exact by_less
                ·
                  repeat (first | ((with_reducible apply s1); exact rfl) | (with_reducible first | apply CW.seq | apply CW.block | apply CW.region | apply CW.draw | apply CW.skip | apply CW.exit | apply CW.ret | apply q_then | apply q_then_exit | apply q_then_ret | apply q_block | apply q_block_ret | apply q_block_hit | apply q_ret | apply q_end | apply q_loop_exit | apply q_loop_ret | apply q_loopT_exit | apply q_loopT_ret | apply RW.nil) | ((with_reducible apply s3); exact rfl; exact by_k) | ((with_reducible apply s2); exact rfl; exact by_k) | ((with_reducible apply s4); exact rfl) | ((with_reducible apply s5); (first | exact by_oa); exact by_g) | ((with_reducible apply CW.cond_t); exact rfl; exact by_ks) | ((with_reducible apply CW.cond_f); exact rfl; exact by_ks) | ((with_reducible apply q_block_miss); exact rfl) | (refine And.intro (show chk [] [] _ _ = true by kernel_rfl) ?_))
                  refine q_loopT (k + 1, vs ++ [⟨xb, xm, xh, xn⟩]) ⟨by dsimp only; omega, by dsimp only; simp; omega, hyes (by simp [keepB, e1, e2])⟩ (by dsimp only; omega) ?_
                  exact by_less
              ·
                repeat (first | ((with_reducible apply s1); exact rfl) | (with_reducible first | apply CW.seq | apply CW.block | apply CW.region | apply CW.draw | apply CW.skip | apply CW.exit | apply CW.ret | apply q_then | apply q_then_exit | apply q_then_ret | apply q_block | apply q_block_ret | apply q_block_hit | apply q_ret | apply q_end | apply q_loop_exit | apply q_loop_ret | apply q_loopT_exit | apply q_loopT_ret | apply RW.nil) | ((with_reducible apply s3); exact rfl; exact by_k) | ((with_reducible apply s2); exact rfl; exact by_k) | ((with_reducible apply s4); exact rfl) | ((with_reducible apply s5); (first | exact by_oa); exact by_g) | ((with_reducible apply CW.cond_t); exact rfl; exact by_ks) | ((with_reducible apply CW.cond_f); exact rfl; exact by_ks) | ((with_reducible apply q_block_miss); exact rfl) | (refine And.intro (show chk [] [] _ _ = true by kernel_rfl) ?_))
                refine q_loopT (k + 1, vs) ⟨by dsimp only; omega, by dsimp only; omega, hno (by simp [keepB, e1])⟩ (by dsimp only; omega) ?_
                exact by_less
        · rw [h5, lastGo] at hJ
          by_cases h8 : x.by_ < b
          · rw [if_pos h8] at hJ
            repeat (first | ((with_reducible apply s1); exact rfl) | (with_reducible first | apply CW.seq | apply CW.block | apply CW.region | apply CW.draw | apply CW.skip | apply CW.exit | apply CW.ret | apply q_then | apply q_then_exit | apply q_then_ret | apply q_block | apply q_block_ret | apply q_block_hit | apply q_ret | apply q_end | apply q_loop_exit | apply q_loop_ret | apply q_loopT_exit | apply q_loopT_ret | apply RW.nil) | ((with_reducible apply s3); exact rfl; exact by_k) | ((with_reducible apply s2); exact rfl; exact by_k) | ((with_reducible apply s4); exact rfl) | ((with_reducible apply s5); (first | exact by_oa); exact by_g) | ((with_reducible apply CW.cond_t); exact rfl; exact by_ks) | ((with_reducible apply CW.cond_f); exact rfl; exact by_ks) | ((with_reducible apply q_block_miss); exact rfl) | (refine And.intro (show chk [] [] _ _ = true by kernel_rfl) ?_))
            refine q_loopT (j + 1, (j : Int)) ⟨by dsimp only; omega, hJ⟩ (by dsimp only; omega) ?_
            exact by_less
          · rw [if_neg h8] at hJ
            repeat (first | ((with_reducible apply s1); exact rfl) | (with_reducible first | apply CW.seq | apply CW.block | apply CW.region | apply CW.draw | apply CW.skip | apply CW.exit | apply CW.ret | apply q_then | apply q_then_exit | apply q_then_ret | apply q_block | apply q_block_ret | apply q_block_hit | apply q_ret | apply q_end | apply q_loop_exit | apply q_loop_ret | apply q_loopT_exit | apply q_loopT_ret | apply RW.nil) | ((with_reducible apply s3); exact rfl; exact by_k) | ((with_reducible apply s2); exact rfl; exact by_k) | ((with_reducible apply s4); exact rfl) | ((with_reducible apply s5); (first | exact by_oa); exact by_g) | ((with_reducible apply CW.cond_t); exact rfl; exact by_ks) | ((with_reducible apply CW.cond_f); exact rfl; exact by_ks) | ((with_reducible apply q_block_miss); exact rfl) | (refine And.intro (show chk [] [] _ _ = true by kernel_rfl) ?_))
            refine q_loopT (j + 1, la) ⟨by dsimp only; omega, hJ⟩ (by dsimp only; omega) ?_
            exact by_less

def sizeGo : Int → List Chain → Int
  | n, [] => n
  | n, c :: r => sizeGo (n + c.vs.length) r

theorem ok_size (e : Engine) (hs : e.Sm) : FnOk Try.prog 10 [.d (.agg e.enc)] (.one (dint (sizeGo 0 e.chains))) := by
  refine fnOk_of tbl_ok mixed_ok Try.func10 rfl (by kernel_rfl) rfl rfl fun w0 own0 => ?_
  have hc := hs.c
  repeat (first | ((with_reducible apply s1); exact rfl) | (with_reducible first | apply CW.seq | apply CW.block | apply CW.region | apply CW.draw | apply CW.skip | apply CW.exit | apply CW.ret | apply q_then | apply q_then_exit | apply q_then_ret | apply q_block | apply q_block_ret | apply q_block_hit | apply q_ret | apply q_end | apply q_loop_exit | apply q_loop_ret | apply q_loopT_exit | apply q_loopT_ret | apply RW.nil) | ((with_reducible apply s3); exact rfl; exact by_k) | ((with_reducible apply s2); exact rfl; exact by_k) | ((with_reducible apply s4); exact rfl) | ((with_reducible apply s5); (first | exact by_oa); exact by_g) | ((with_reducible apply CW.cond_t); exact rfl; exact by_ks) | ((with_reducible apply CW.cond_f); exact rfl; exact by_ks) | ((with_reducible apply q_block_miss); exact rfl) | (refine And.intro (show chk [] [] _ _ = true by kernel_rfl) ?_))
  refine CW.loopT (fun t : Nat × Int => [sd 3 (dint t.2), sd 7 (encChains e.chains), sd 8 (dint e.chains.length), sd 9 (dint t.1), nxt 1])
    (fun t => t.1 ≤ e.chains.length ∧ (0 ≤ t.2 ∧ t.2 ≤ 134217728 * t.1) ∧ sizeGo t.2 (e.chains.drop t.1) = sizeGo 0 e.chains) (fun t => e.chains.length - t.1) (0, 0) ⟨by omega, by simp, rfl⟩ ?_ ?_
  ·
    exact by_less
  · rintro ⟨i, n⟩ ⟨hi, hn, hI⟩
    dsimp only at hi hn hI ⊢
    rcases drop_case hi with ⟨h1, h2⟩ | ⟨c, h1, h2, h3⟩
    · rw [h1] at hI
      simp only [sizeGo] at hI
      repeat (first | ((with_reducible apply s1); exact rfl) | (with_reducible first | apply CW.seq | apply CW.block | apply CW.region | apply CW.draw | apply CW.skip | apply CW.exit | apply CW.ret | apply q_then | apply q_then_exit | apply q_then_ret | apply q_block | apply q_block_ret | apply q_block_hit | apply q_ret | apply q_end | apply q_loop_exit | apply q_loop_ret | apply q_loopT_exit | apply q_loopT_ret | apply RW.nil) | ((with_reducible apply s3); exact rfl; exact by_k) | ((with_reducible apply s2); exact rfl; exact by_k) | ((with_reducible apply s4); exact rfl) | ((with_reducible apply s5); (first | exact by_oa); exact by_g) | ((with_reducible apply CW.cond_t); exact rfl; exact by_ks) | ((with_reducible apply CW.cond_f); exact rfl; exact by_ks) | ((with_reducible apply q_block_miss); exact rfl) | (refine And.intro (show chk [] [] _ _ = true by kernel_rfl) ?_))
      exact .one (.tmp rfl (.one (.d (dle_int hI))))
    · rw [h1] at hI
      simp only [sizeGo] at hI
      have hv := hs.v c (List.mem_of_getElem? h2)
      repeat (first | ((with_reducible apply s1); exact rfl) | (with_reducible first | apply CW.seq | apply CW.block | apply CW.region | apply CW.draw | apply CW.skip | apply CW.exit | apply CW.ret | apply q_then | apply q_then_exit | apply q_then_ret | apply q_block | apply q_block_ret | apply q_block_hit | apply q_ret | apply q_end | apply q_loop_exit | apply q_loop_ret | apply q_loopT_exit | apply q_loopT_ret | apply RW.nil) | ((with_reducible apply s3); exact rfl; exact by_k) | ((with_reducible apply s2); exact rfl; exact by_k) | ((with_reducible apply s4); exact rfl) | ((with_reducible apply s5); (first | exact by_oa); exact by_g) | ((with_reducible apply CW.cond_t); exact rfl; exact by_ks) | ((with_reducible apply CW.cond_f); exact rfl; exact by_ks) | ((with_reducible apply q_block_miss); exact rfl) | (refine And.intro (show chk [] [] _ _ = true by kernel_rfl) ?_))
      refine q_loopT (i + 1, n + c.vs.length) ⟨by dsimp only; omega, by dsimp only; omega, hI⟩ (by dsimp only; omega) ?_
      exact by_less

theorem ok_tmark (e : Engine) (hs : e.state.length ≤ 134217728) : FnOk Try.prog 8 [.d (.agg e.enc)] (.one (dint (markN e.state))) := by
  refine fnOk_of tbl_ok mixed_ok Try.func8 rfl (by kernel_rfl) rfl rfl fun w0 own0 => ?_
  repeat (first | ((with_reducible apply s1); exact rfl) | (with_reducible first | apply CW.seq | apply CW.block | apply CW.region | apply CW.draw | apply CW.skip | apply CW.exit | apply CW.ret | apply q_then | apply q_then_exit | apply q_then_ret | apply q_block | apply q_block_ret | apply q_block_hit | apply q_ret | apply q_end | apply q_loop_exit | apply q_loop_ret | apply q_loopT_exit | apply q_loopT_ret | apply RW.nil) | ((with_reducible apply s3); exact rfl; exact by_k) | ((with_reducible apply s2); exact rfl; exact by_k) | ((with_reducible apply s4); exact rfl) | ((with_reducible apply s5); (first | exact by_oa); exact by_g) | ((with_reducible apply CW.cond_t); exact rfl; exact by_ks) | ((with_reducible apply CW.cond_f); exact rfl; exact by_ks) | ((with_reducible apply q_block_miss); exact rfl) | (refine And.intro (show chk [] [] _ _ = true by kernel_rfl) ?_))
  refine CW.loopT (fun i : Nat => [sp 1 0, ob 0 e.enc, sd 6 (encInts e.state), sd 7 (dint e.state.length), sd 8 (dint i), nxt 1]) (fun i => i ≤ e.state.length ∧ i + markN (e.state.drop i) = markN e.state) (fun i => e.state.length - i) 0 ⟨by omega, by simp⟩ ?_ ?_
  ·
    exact by_less
  · rintro i ⟨hi, hI⟩
    rcases drop_case hi with ⟨h1, h2⟩ | ⟨s, h1, h2, h3⟩
    · rw [h1] at hI
      simp only [markN] at hI
      repeat (first | ((with_reducible apply s1); exact rfl) | (with_reducible first | apply CW.seq | apply CW.block | apply CW.region | apply CW.draw | apply CW.skip | apply CW.exit | apply CW.ret | apply q_then | apply q_then_exit | apply q_then_ret | apply q_block | apply q_block_ret | apply q_block_hit | apply q_ret | apply q_end | apply q_loop_exit | apply q_loop_ret | apply q_loopT_exit | apply q_loopT_ret | apply RW.nil) | ((with_reducible apply s3); exact rfl; exact by_k) | ((with_reducible apply s2); exact rfl; exact by_k) | ((with_reducible apply s4); exact rfl) | ((with_reducible apply s5); (first | exact by_oa); exact by_g) | ((with_reducible apply CW.cond_t); exact rfl; exact by_ks) | ((with_reducible apply CW.cond_f); exact rfl; exact by_ks) | ((with_reducible apply q_block_miss); exact rfl) | (refine And.intro (show chk [] [] _ _ = true by kernel_rfl) ?_))
      exact .one (.tmp rfl (.one (.d (dle_int (by simp; omega)))))
    · rw [h1] at hI
      simp only [markN] at hI
      by_cases h4 : s = 1
      · rw [if_pos h4] at hI
        repeat (first | ((with_reducible apply s1); exact rfl) | (with_reducible first | apply CW.seq | apply CW.block | apply CW.region | apply CW.draw | apply CW.skip | apply CW.exit | apply CW.ret | apply q_then | apply q_then_exit | apply q_then_ret | apply q_block | apply q_block_ret | apply q_block_hit | apply q_ret | apply q_end | apply q_loop_exit | apply q_loop_ret | apply q_loopT_exit | apply q_loopT_ret | apply RW.nil) | ((with_reducible apply s3); exact rfl; exact by_k) | ((with_reducible apply s2); exact rfl; exact by_k) | ((with_reducible apply s4); exact rfl) | ((with_reducible apply s5); (first | exact by_oa); exact by_g) | ((with_reducible apply CW.cond_t); exact rfl; exact by_ks) | ((with_reducible apply CW.cond_f); exact rfl; exact by_ks) | ((with_reducible apply q_block_miss); exact rfl) | (refine And.intro (show chk [] [] _ _ = true by kernel_rfl) ?_))
        refine q_loopT (i + 1) ⟨by omega, by omega⟩ (by omega) ?_
        exact by_less
      · rw [if_neg h4] at hI
        repeat (first | ((with_reducible apply s1); exact rfl) | (with_reducible first | apply CW.seq | apply CW.block | apply CW.region | apply CW.draw | apply CW.skip | apply CW.exit | apply CW.ret | apply q_then | apply q_then_exit | apply q_then_ret | apply q_block | apply q_block_ret | apply q_block_hit | apply q_ret | apply q_end | apply q_loop_exit | apply q_loop_ret | apply q_loopT_exit | apply q_loopT_ret | apply RW.nil) | ((with_reducible apply s3); exact rfl; exact by_k) | ((with_reducible apply s2); exact rfl; exact by_k) | ((with_reducible apply s4); exact rfl) | ((with_reducible apply s5); (first | exact by_oa); exact by_g) | ((with_reducible apply CW.cond_t); exact rfl; exact by_ks) | ((with_reducible apply CW.cond_f); exact rfl; exact by_ks) | ((with_reducible apply q_block_miss); exact rfl) | (refine And.intro (show chk [] [] _ _ = true by kernel_rfl) ?_))
        exact .one (.tmp rfl (.one (.d (dle_int (by omega)))))

end Go.Proofs.Ytpgmolgkofgkoaa

/-! P1 -/
/-
  Engines as they are built have chains in order, and versions in order: plain facts; what forgetting comes to.
-/
namespace Go.Proofs.Ytpgmolgkofgkoaa
open Go.AX Go.RF

def VSrt (l : List Version) : Prop := l.Pairwise fun a b => a.by_ < b.by_
theorem VSrt.cons {v : Version} {l : List Version} : VSrt (v :: l) ↔ (∀ w ∈ l, v.by_ < w.by_) ∧ VSrt l := List.pairwise_cons

theorem lastGo_ge {b : Int} : ∀ {l : List Version} {k : Nat} {la : Int}, (∀ v ∈ l, b ≤ v.by_) → lastGo b k la l = la
  | [], k, la, _ => rfl
  | v :: l, k, la, h => by
    have := h v (List.mem_cons_self ..)
    simp only [lastGo]
    rw [if_neg (by omega)]
    exact lastGo_ge fun w hw => h w (List.mem_cons_of_mem _ hw)
theorem lastGo_le {b : Int} : ∀ (l : List Version) {k : Nat} {la : Int}, la < k → la ≤ lastGo b k la l
  | [], k, la, _ => Int.le_refl _
  | v :: l, k, la, h => by
    simp only [lastGo]
    split
    · have := lastGo_le (b := b) l (k := k + 1) (la := (k : Int)) (by omega); omega
    · exact lastGo_le l (by omega)
theorem keepGo_all : ∀ {l : List Version} {k : Nat} {la : Int}, la < k → keepGo la k l = l
  | [], k, la, _ => rfl
  | v :: l, k, la, h => by
    simp only [keepGo]
    rw [if_pos (by simp [keepB]; omega), keepGo_all (by omega)]
theorem clrV_all {b : Int} : ∀ {l : List Version}, (∀ v ∈ l, b ≤ v.by_) → clrV b l = l
  | [], _ => rfl
  | v :: l, h => by
    have := h v (List.mem_cons_self ..)
    simp only [clrV]
    rw [if_neg (by simp [old]; omega), clrV_all fun w hw => h w (List.mem_cons_of_mem _ hw)]
theorem pclr_go {b : Int} : ∀ {l : List Version} {k : Nat} {la : Int}, VSrt l → la < k → keepGo (lastGo b k la l) k l = clrV b l
  | [], k, la, _, _ => rfl
  | v :: l, k, la, hs, hk => by
    obtain ⟨h1, h2⟩ := VSrt.cons.1 hs
    by_cases hv : v.by_ < b
    · cases l with
      | nil =>
        simp only [lastGo, if_pos hv, keepGo, clrV]
        cases hm : v.made <;> cases hh : v.has <;> simp [keepB, old, later, hv, hm, hh]
      | cons w l =>
        have ih := pclr_go (b := b) (l := w :: l) (k := k + 1) (la := (k : Int)) h2 (by omega)
        have hl : lastGo b k la (v :: w :: l) = lastGo b (k + 1) k (w :: l) := by rw [lastGo, if_pos hv]
        rw [hl]
        by_cases hw : w.by_ < b
        · have h3 : (k : Int) < lastGo b (k + 1) k (w :: l) := by
            rw [lastGo, if_pos hw]
            have := lastGo_le (b := b) l (k := k + 1 + 1) (la := ((k + 1 : Nat) : Int)) (by omega)
            omega
          rw [keepGo, if_neg (by simp [keepB]; omega), ih, clrV.eq_2 b v (w :: l), if_pos (by simp [old, later, hv, hw])]
        · have hge : ∀ x ∈ w :: l, b ≤ x.by_ := fun x hx => by
            rcases List.mem_cons.1 hx with rfl | hx
            · omega
            · have := (VSrt.cons.1 h2).1 x hx; omega
          rw [lastGo_ge hge, keepGo, keepGo_all (by omega), clrV.eq_2 b v (w :: l), clrV_all hge]
          cases hm : v.made <;> cases hh : v.has <;> simp [keepB, old, later, hv, hw, hm, hh]
    · have hge : ∀ x ∈ v :: l, b ≤ x.by_ := fun x hx => by
        rcases List.mem_cons.1 hx with rfl | hx
        · omega
        · have := h1 x hx; omega
      rw [lastGo_ge hge, keepGo_all hk, clrV_all hge]
theorem pclrV_eq {b : Int} {l : List Version} (hs : VSrt l) : pclrV b l = clrV b l := pclr_go hs (by omega)
theorem pclear_eq {b : Int} : ∀ {l : List Chain}, (∀ c ∈ l, VSrt c.vs) → pclear b l = clear b l
  | [], _ => rfl
  | c :: l, h => by
    simp only [pclear, clear]
    rw [pclrV_eq (h c (List.mem_cons_self ..)), pclear_eq fun d hd => h d (List.mem_cons_of_mem _ hd)]

theorem allB_refl {α : Type} {f : α → α → Bool} (hf : ∀ a, f a a = true) : ∀ l : List α, allB f l l = true
  | [] => rfl
  | a :: l => by simp [allB, hf, allB_refl hf l]
theorem sameC_refl (c : Chain) : sameC c c = true := by simp [sameC, allB_refl]
theorem sameE_refl (e : Engine) : sameE e e = true := by
  simp [sameE, allB_refl, sameC_refl]

/-! ### Rows that are right -/
theorem wrongRowsGo_srt : ∀ {l : List Pair} {i : Nat} {last : Str}, wrongRowsGo (i + 1) last l = 0 → (∀ p ∈ l, slt last p.key = true ∧ key p.key = true ∧ nOk p.n) ∧ Srt Pair.key l
  | [], i, last, _ => ⟨by simp, List.Pairwise.nil⟩
  | p :: l, i, last, h => by
    simp only [wrongRowsGo] at h
    by_cases h1 : key p.key = false
    · rw [if_pos h1] at h; simp at h
    rw [if_neg h1] at h
    by_cases h2 : 0 < i + 1 ∧ sle p.key last = true
    · rw [if_pos h2] at h; simp at h
    rw [if_neg h2] at h
    by_cases h3 : 1073741824 < p.n ∨ p.n < -1073741824
    · rw [if_pos h3] at h; simp at h
    rw [if_neg h3] at h
    obtain ⟨h4, h5⟩ := wrongRowsGo_srt h
    have h6 : slt last p.key = true := by
      have h7 : ¬ sle p.key last = true := fun e => h2 ⟨by omega, e⟩
      simp only [sle, Bool.or_eq_true, decide_eq_true_eq, not_or] at h7
      rcases slt_tri last p.key with h | h | h
      · exact h
      · exact absurd h.symm h7.2
      · exact absurd h h7.1
    refine ⟨fun q hq => ?_, List.pairwise_cons.2 ⟨fun q hq => (h4 q hq).1, h5⟩⟩
    rcases List.mem_cons.1 hq with rfl | hq
    · exact ⟨h6, by simpa using h1, by unfold nOk; omega⟩
    · exact ⟨slt_trans h6 (h4 q hq).1, (h4 q hq).2⟩
theorem wrongRows_srt {l : List Pair} (h : wrongRows l = 0) : Srt Pair.key l ∧ (∀ p ∈ l, key p.key = true) ∧ rowsOk l := by
  cases l with
  | nil => exact ⟨List.Pairwise.nil, by simp, by simp [rowsOk]⟩
  | cons p l =>
    simp only [wrongRows, wrongRowsGo] at h
    by_cases h1 : key p.key = false
    · rw [if_pos h1] at h; simp at h
    rw [if_neg h1, if_neg (by simp)] at h
    by_cases h3 : 1073741824 < p.n ∨ p.n < -1073741824
    · rw [if_pos h3] at h; simp at h
    rw [if_neg h3] at h
    obtain ⟨h4, h5⟩ := wrongRowsGo_srt h
    refine ⟨List.pairwise_cons.2 ⟨fun q hq => (h4 q hq).1, h5⟩, fun q hq => ?_, fun q hq => ?_⟩
    · rcases List.mem_cons.1 hq with rfl | hq
      · simpa using h1
      · exact (h4 q hq).2.1
    · rcases List.mem_cons.1 hq with rfl | hq
      · unfold nOk; omega
      · exact (h4 q hq).2.2

/-! ### A version more, in order -/
def newV (b : Int) : Version := ⟨b, false, false, 0⟩
def addS (k : Str) (b : Int) : List Chain → List Chain
  | [] => [⟨k, [newV b]⟩]
  | c :: r => if c.key = k then ⟨c.key, c.vs ++ [newV b]⟩ :: r else if slt c.key k = true then c :: addS k b r else ⟨k, [newV b]⟩ :: c :: r
theorem addGo_done {k : Str} {b : Int} : ∀ {l out : List Chain}, (∀ c ∈ l, c.key ≠ k) → addGo k b true out l = out ++ l
  | [], out, _ => by simp [addGo]
  | c :: l, out, h => by
    simp only [addGo]
    rw [if_neg (h c (List.mem_cons_self ..))]
    simp only [Bool.not_true, Bool.false_and, Bool.true_or]
    rw [addGo_done fun d hd => h d (List.mem_cons_of_mem _ hd)]
    simp
theorem addGo_srt {k : Str} {b : Int} : ∀ {l out : List Chain}, Srt Chain.key l → addGo k b false out l = out ++ addS k b l
  | [], out, _ => by simp [addGo, addS, newV]
  | c :: l, out, hs => by
    obtain ⟨h1, h2⟩ := List.pairwise_cons.1 hs
    simp only [addGo, addS]
    by_cases hk : c.key = k
    · rw [if_pos hk, if_pos hk]
      simp only [hk, slt_irrefl, decide_true, Bool.or_true, Bool.not_true, Bool.and_false]
      rw [addGo_done fun d hd => ?_]
      · simp [newV]
      · have := h1 d hd
        rw [hk] at this
        exact fun e => slt_ne this e.symm
    · rw [if_neg hk, if_neg hk]
      cases hl : slt c.key k with
      | true =>
        simp only [Bool.true_or, Bool.not_true, Bool.and_false, Bool.or_false]
        rw [addGo_srt h2]
        simp
      | false =>
        simp only [hk, decide_false, Bool.or_false, Bool.not_false, Bool.and_true, Bool.false_or]
        rw [addGo_done fun d hd => ?_]
        · simp [newV]
        · have h3 := h1 d hd
          intro e
          rcases slt_tri c.key k with h | h | h
          · rw [hl] at h; cases h
          · exact hk h
          · rw [e] at h3
            have := slt_trans h h3
            rw [slt_irrefl] at this; cases this
theorem addC_srt {k : Str} {b : Int} {l : List Chain} (hs : Srt Chain.key l) : addC l k b = addS k b l := by
  unfold addC
  rw [addGo_srt hs]
  rfl
theorem addS_mem {k : Str} {b : Int} : ∀ {l : List Chain} {c : Chain}, c ∈ addS k b l → c ∈ l ∨ c = ⟨k, [newV b]⟩ ∨ ∃ c0 ∈ l, c0.key = k ∧ c = ⟨k, c0.vs ++ [newV b]⟩
  | [], c, h => by simp [addS] at h; exact .inr (.inl h)
  | x :: l, c, h => by
    simp only [addS] at h
    by_cases hk : x.key = k
    · rw [if_pos hk] at h
      rcases List.mem_cons.1 h with rfl | h
      · exact .inr (.inr ⟨x, List.mem_cons_self .., hk, by rw [hk]⟩)
      · exact .inl (List.mem_cons_of_mem _ h)
    · rw [if_neg hk] at h
      split at h
      · rcases List.mem_cons.1 h with rfl | h
        · exact .inl (List.mem_cons_self ..)
        · rcases addS_mem h with h | h | ⟨c0, h0, h⟩
          · exact .inl (List.mem_cons_of_mem _ h)
          · exact .inr (.inl h)
          · exact .inr (.inr ⟨c0, List.mem_cons_of_mem _ h0, h⟩)
      · rcases List.mem_cons.1 h with rfl | h
        · exact .inr (.inl rfl)
        · exact .inl h
theorem addS_srt {k : Str} {b : Int} : ∀ {l : List Chain}, Srt Chain.key l → Srt Chain.key (addS k b l)
  | [], _ => List.pairwise_singleton ..
  | c :: l, hs => by
    obtain ⟨h1, h2⟩ := List.pairwise_cons.1 hs
    simp only [addS]
    by_cases hk : c.key = k
    · rw [if_pos hk]; exact List.pairwise_cons.2 ⟨h1, h2⟩
    · rw [if_neg hk]
      cases hl : slt c.key k with
      | true =>
        rw [if_pos rfl]
        refine List.pairwise_cons.2 ⟨fun d hd => ?_, addS_srt h2⟩
        rcases addS_mem hd with h | rfl | ⟨c0, h0, h3, rfl⟩
        · exact h1 d h
        · exact hl
        · exact hl
      | false =>
        rw [if_neg (by simp)]
        have hkc : slt k c.key = true := by
          rcases slt_tri c.key k with h | h | h
          · rw [hl] at h; cases h
          · exact absurd h hk
          · exact h
        refine List.pairwise_cons.2 ⟨fun d hd => ?_, hs⟩
        rcases List.mem_cons.1 hd with rfl | hd
        · exact hkc
        · exact slt_trans hkc (h1 d hd)

/-! ### Engines -/
structure SInv (e : Engine) : Prop where
  k : Srt Chain.key e.chains
  v : ∀ c ∈ e.chains, VSrt c.vs
  b : ∀ c ∈ e.chains, ∀ v ∈ c.vs, v.by_ < e.base + e.deeds.length

theorem newE_srt {r : List Pair} (h : Srt Pair.key r) : SInv (newE r) := by
  refine ⟨List.pairwise_map.2 h, fun c hc => ?_, fun c hc v hv => ?_⟩
  · obtain ⟨p, _, rfl⟩ := List.mem_map.1 hc
    exact List.pairwise_singleton ..
  · obtain ⟨p, _, rfl⟩ := List.mem_map.1 hc
    simp [rowChain] at hv
    subst hv
    simp [newE]

theorem isIn_false {s : Str} : ∀ {l : List Str}, isIn l s = false → s ∉ l
  | [], _, h => by simp at h
  | x :: l, h, hm => by
    simp only [isIn] at h
    by_cases hx : x = s
    · rw [if_pos hx] at h; cases h
    · rw [if_neg hx] at h
      rcases List.mem_cons.1 hm with rfl | hm
      · exact hx rfl
      · exact isIn_false h hm
theorem keysGo_nodup {l : List Str} : ∀ {r : List Str} {i : Nat}, l.drop i = r → (l.take i).Nodup → keysGo l i r = 0 → l.Nodup ∧ ∀ k ∈ r, key k = true
  | [], i, hr, hn, _ => by
    have : l.length ≤ i := by simpa using hr
    rw [List.take_of_length_le this] at hn
    exact ⟨hn, by simp⟩
  | k :: r, i, hr, hn, h => by
    simp only [keysGo] at h
    by_cases h1 : key k = false
    · rw [if_pos h1] at h; simp at h
    rw [if_neg h1] at h
    by_cases h2 : isIn (l.take i) k = true
    · rw [if_pos h2] at h; simp at h
    rw [if_neg h2] at h
    have hk : l[i]? = some k := by
      have : (l.drop i)[0]? = some k := by rw [hr]; rfl
      simpa using this
    have h3 : l.take (i + 1) = l.take i ++ [k] := by rw [List.take_add_one, hk]; rfl
    have hni : k ∉ l.take i := isIn_false (by simpa using h2)
    have := keysGo_nodup (l := l) (r := r) (i := i + 1) (by rw [← List.drop_drop, hr]; rfl) (by
      rw [h3]
      refine List.nodup_append.2 ⟨hn, by simp, fun a ha b hb => ?_⟩
      simp at hb; subst hb
      exact fun e => hni (e ▸ ha)) h
    exact ⟨this.1, fun x hx => by
      rcases List.mem_cons.1 hx with rfl | hx
      · simpa using h1
      · exact this.2 x hx⟩
theorem keysWrong_nodup {l : List Str} (h : keysWrong l = 0) : l.Nodup ∧ (∀ k ∈ l, key k = true) ∧ l.length ≤ 5 := by
  unfold keysWrong at h
  by_cases h1 : 5 < l.length
  · rw [if_pos h1] at h; simp at h
  · rw [if_neg h1] at h
    have := keysGo_nodup (l := l) (r := l) (i := 0) rfl (by simp) h
    exact ⟨this.1, this.2, by omega⟩
theorem wrong_keys {d : Deed} (h : wrongDeed d = 0) : d.reads.Nodup ∧ d.writes.Nodup := by
  unfold wrongDeed at h
  by_cases h0 : lsGo [d.reads, d.writes] = 0
  · simp only [lsGo] at h0
    by_cases h1 : keysWrong d.reads = 0
    · rw [if_pos h1] at h0
      by_cases h2 : keysWrong d.writes = 0
      · exact ⟨(keysWrong_nodup h1).1, (keysWrong_nodup h2).1⟩
      · rw [if_neg h2] at h0; exact absurd h0 h2
    · rw [if_neg h1] at h0; exact absurd h0 h1
  · rw [if_neg h0] at h; exact absurd h h0

theorem addKeys_srt {b : Int} : ∀ {ks : List Str} {l : List Chain}, ks.Nodup → Srt Chain.key l → (∀ c ∈ l, VSrt c.vs ∧ (∀ v ∈ c.vs, v.by_ ≤ b) ∧ (c.key ∈ ks → ∀ v ∈ c.vs, v.by_ < b)) →
    Srt Chain.key (addKeys b l ks) ∧ ∀ c ∈ addKeys b l ks, VSrt c.vs ∧ ∀ v ∈ c.vs, v.by_ ≤ b
  | [], l, _, hs, h => ⟨hs, fun c hc => ⟨(h c hc).1, (h c hc).2.1⟩⟩
  | k :: ks, l, hn, hs, h => by
    obtain ⟨hk, hn⟩ := List.nodup_cons.1 hn
    simp only [addKeys]
    rw [addC_srt hs]
    refine addKeys_srt hn (addS_srt hs) fun c hc => ?_
    rcases addS_mem hc with h0 | rfl | ⟨c0, h0, h1, rfl⟩
    · obtain ⟨h1, h2, h3⟩ := h c h0
      exact ⟨h1, h2, fun hm => h3 (List.mem_cons_of_mem _ hm)⟩
    · exact ⟨List.pairwise_singleton .., fun v hv => by simp at hv; subst hv; exact Int.le_refl _, fun hm => absurd hm hk⟩
    · obtain ⟨h2, h3, h4⟩ := h c0 h0
      have h5 := h4 (by rw [h1]; exact List.mem_cons_self ..)
      refine ⟨List.pairwise_append.2 ⟨h2, List.pairwise_singleton .., fun a ha x hx => ?_⟩, fun v hv => ?_, fun hm => absurd hm hk⟩
      · simp at hx; subst hx; exact h5 a ha
      · rcases List.mem_append.1 hv with hv | hv
        · exact h3 v hv
        · simp at hv; subst hv; exact Int.le_refl _
theorem SInv.add1 {e : Engine} (h : SInv e) {d : Deed} (hw : d.writes.Nodup) : SInv (add1 e d) := by
  have := addKeys_srt (b := e.base + e.deeds.length) hw h.k fun c hc => ⟨h.v c hc, fun v hv => by have := h.b c hc v hv; omega, fun _ v hv => h.b c hc v hv⟩
  refine ⟨this.1, fun c hc => (this.2 c hc).1, fun c hc v hv => ?_⟩
  have := (this.2 c hc).2 v hv
  show v.by_ < e.base + ((e.deeds ++ [d]).length : Nat)
  rw [List.length_append]
  simp only [List.length_singleton]
  omega
theorem SInv.addAll : ∀ {l : List Deed} {e : Engine}, SInv e → (∀ d ∈ l, d.writes.Nodup) → SInv (addAll e l)
  | [], e, h, _ => h
  | d :: l, e, h, hl => by
    simp only [RF.addAll]
    exact SInv.addAll (h.add1 (hl d (List.mem_cons_self ..))) fun x hx => hl x (List.mem_cons_of_mem _ hx)
theorem SInv.addE {e : Engine} (h : SInv e) {l : List Deed} (hw : (addE e l).2 = 0) : SInv (addE e l).1 := by
  unfold RF.addE at hw ⊢
  by_cases h0 : wrongs l = 0
  · rw [if_pos h0]
    exact h.addAll fun d hd => (wrong_keys (wrongs_mem h0 d hd)).2
  · rw [if_neg h0] at hw; exact absurd hw h0

/-- Chains whose keys, and whose versions' deeds, are others' in turn. -/
theorem set_srt {l : List Chain} {k : Str} {v : Version} {N : Int} (hs : Srt Chain.key l) (hv : ∀ c ∈ l, VSrt c.vs ∧ ∀ w ∈ c.vs, w.by_ < N) :
    Srt Chain.key (setChains l k v) ∧ ∀ c ∈ setChains l k v, VSrt c.vs ∧ ∀ w ∈ c.vs, w.by_ < N := by
  have hb : ∀ (h : Bool) (w : Version), (setV h v w).by_ = w.by_ := fun h w => by
    unfold setV
    split
    · next hh => exact hh.2.symm
    · rfl
  refine ⟨List.pairwise_map.2 hs, fun c hc => ?_⟩
  obtain ⟨c0, h0, rfl⟩ := List.mem_map.1 hc
  obtain ⟨h1, h2⟩ := hv c0 h0
  refine ⟨List.pairwise_map.2 (h1.imp fun hab => by rw [hb, hb]; exact hab), fun w hw => ?_⟩
  obtain ⟨w0, hw0, rfl⟩ := List.mem_map.1 hw
  rw [hb]; exact h2 w0 hw0
theorem goSets_srt {r : List Pair} {b N : Int} : ∀ {ks : List Str} {l : List Chain}, Srt Chain.key l → (∀ c ∈ l, VSrt c.vs ∧ ∀ w ∈ c.vs, w.by_ < N) →
    Srt Chain.key (goSets r b l ks) ∧ ∀ c ∈ goSets r b l ks, VSrt c.vs ∧ ∀ w ∈ c.vs, w.by_ < N
  | [], l, hs, hv => ⟨hs, hv⟩
  | k :: ks, l, hs, hv => by
    simp only [goSets]
    have := set_srt (k := k) (v := ⟨b, true, (RF.get r k).2, (RF.get r k).1⟩) hs hv
    exact goSets_srt this.1 this.2
theorem SInv.goNew {e : Engine} (h : SInv e) (A : Nat) (d : Deed) : SInv (goNew e A d) := by
  have := goSets_srt (r := (goDone e A d).1) (b := e.base + A) (ks := d.writes) (N := e.base + e.deeds.length) h.k fun c hc => ⟨h.v c hc, h.b c hc⟩
  exact ⟨this.1, fun c hc => (this.2 c hc).1, fun c hc => (this.2 c hc).2⟩
theorem SInv.goE {e : Engine} (h : SInv e) (at_ : Int) : SInv (goE e at_).1 := by
  unfold Proofs.Ytpgmolgkofgkoaa.goE
  split
  · exact h
  unfold goAt
  cases hA : e.deeds[at_.toNat]? with
  | none => exact h
  | some d =>
    dsimp only
    split
    · exact h
    split
    · exact h.goNew _ _
    · exact h
theorem clrV_sublist {b : Int} : ∀ l : List Version, (clrV b l).Sublist l
  | [] => List.Sublist.slnil
  | v :: l => by
    simp only [clrV]
    split
    · exact (clrV_sublist l).cons _
    · exact (clrV_sublist l).cons_cons _
theorem clear_srt {b : Int} : ∀ {l : List Chain}, Srt Chain.key l → Srt Chain.key (clear b l)
  | [], _ => List.Pairwise.nil
  | c :: l, hs => by
    obtain ⟨h1, h2⟩ := List.pairwise_cons.1 hs
    simp only [clear]
    split
    · exact clear_srt h2
    · refine List.pairwise_cons.2 ⟨fun d hd => ?_, clear_srt h2⟩
      obtain ⟨c0, h0, rfl⟩ := clear_mem hd
      exact h1 c0 h0
theorem SInv.clearE {e : Engine} (h : SInv e) : SInv (clearE e) := by
  have hm := markN_le e.state
  refine ⟨clear_srt h.k, fun c hc => ?_, fun c hc v hv => ?_⟩
  · obtain ⟨c0, h0, rfl⟩ := clear_mem hc
    exact List.Pairwise.sublist (clrV_sublist _) (h.v c0 h0)
  · obtain ⟨c0, h0, rfl⟩ := clear_mem hc
    have := h.b c0 h0 v (clrV_sub hv)
    simp only [RF.clearE, List.length_drop]
    omega
theorem SInv.pickE {e : Engine} (h : SInv e) (n : Int) : SInv (pickE e n) := by
  unfold Proofs.Ytpgmolgkofgkoaa.pickE
  split
  · exact h.clearE
  split
  · exact h
  split
  · exact h.goE _
  · exact h
theorem SInv.batchE {e : Engine} (h : SInv e) (b : List Deed) : SInv (batchE e b) := by
  unfold Proofs.Ytpgmolgkofgkoaa.batchE
  split
  · next hw => exact h.addE hw
  · exact h
theorem SInv.pickGo : ∀ {k : Nat} {e : Engine} {p : List Int}, SInv e → SInv (pickGo k e p).1
  | 0, e, p, h => h
  | k + 1, e, [], h => h
  | k + 1, e, n :: p, h => by
    simp only [Proofs.Ytpgmolgkofgkoaa.pickGo]
    exact SInv.pickGo (h.pickE n)
theorem SInv.buildGo : ∀ {bs : List (List Deed)} {e : Engine} {p : List Int}, SInv e → SInv (buildGo e bs p)
  | [], e, p, h => h
  | b :: bs, e, p, h => by
    simp only [Proofs.Ytpgmolgkofgkoaa.buildGo]
    exact SInv.buildGo ((h.batchE b).pickGo)
theorem build_srt {r : List Pair} (h : wrongRows r = 0) (bs : List (List Deed)) (p : List Int) : SInv (buildE r bs p) := SInv.buildGo (newE_srt (wrongRows_srt h).1)

end Go.Proofs.Ytpgmolgkofgkoaa

/-! Sh -/
/-
  The library's comparison of texts, at this program's numbers.
-/
namespace Go.Proofs
open Go.Shelf Go.RowKit
def Try.lays213_ren : Go.Shelf.Ren := ⟨fun | 213 => 58 | 265 => 59 | n => n, fun | 9 => 9 | 3 => 3 | n => n, fun | n => n⟩
theorem Try.lays213 : Go.Proofs.Lays.n213 Try.prog Try.lays213_ren := {
  mixed := by kernel_rfl
  f213 := Try.func58.trans (congrArg some (by kernel_rfl))
  f265 := Try.func59.trans (congrArg some (by kernel_rfl))
  t3 := Try.underlying3
  a3 := Try.isAgg3
  z3 := Try.sizeOf3
  v3 := Try.zeroValue3
  t9 := Try.underlying9
  a9 := Try.isAgg9
  z9 := Try.sizeOf9
  v9 := Try.zeroValue9 }
theorem Try.bytealg_CompareString (a b : ByteArray) (w : World) :
    Calls Try.prog 58 #[.string a, .string b] w fun e w' => e = .returned (.int .i64 (Lib.compareBytes a.data.toList b.data.toList)) ∧ w' = w := Any.bytealg_CompareString Try.lays213 a b w
def Try.lays106_ren : Go.Shelf.Ren := ⟨fun | 106 => 56 | 213 => 58 | 265 => 59 | n => n, fun | 9 => 9 | 3 => 3 | n => n, fun | n => n⟩
theorem Try.lays106 : Go.Proofs.Lays.n106 Try.prog Try.lays106_ren := {
  mixed := by kernel_rfl
  f106 := Try.func56.trans (congrArg some (by kernel_rfl))
  f213 := Try.func58.trans (congrArg some (by kernel_rfl))
  f265 := Try.func59.trans (congrArg some (by kernel_rfl))
  t3 := Try.underlying3
  a3 := Try.isAgg3
  z3 := Try.sizeOf3
  v3 := Try.zeroValue3
  t9 := Try.underlying9
  a9 := Try.isAgg9
  z9 := Try.sizeOf9
  v9 := Try.zeroValue9 }
theorem Try.strings_Compare (a b : ByteArray) (w : World) :
    Calls Try.prog 56 #[.string a, .string b] w fun e w' => e = .returned (.int .i64 (Lib.compareBytes a.data.toList b.data.toList)) ∧ w' = w := Any.strings_Compare Try.lays106 a b w
end Go.Proofs

/-! G2 -/
/-
  Contracts of the program's find in chains: texts held against each other, and the library's search by halves.
-/
namespace Go.Proofs.Ytpgmolgkofgkoaa
open Go.AX Go.RF Go.RowKit

set_option maxRecDepth 100000
set_option maxHeartbeats 4000000

def cmpT (a b : Str) : Int := if slt a b = true then -1 else if a = b then 0 else 1

theorem compare_eq : ∀ (a b : Str), Lib.compareBytes a b = cmpT a b
  | [], [] => by simp [Lib.compareBytes, cmpT, bl_nil]
  | [], b :: r => by simp [Lib.compareBytes, cmpT, bl_nil_cons]
  | a :: l, [] => by simp [Lib.compareBytes, cmpT, bl_nil]
  | a :: l, b :: r => by
    simp only [Lib.compareBytes, cmpT, bl_cons]
    by_cases h1 : a < b
    · simp [h1]
    · by_cases h2 : b < a
      · have h3 : ¬ a = b := fun h => by subst h; exact h1 h2
        simp [h1, h2, h3]
      · have h3 : a = b := UInt8.le_antisymm (UInt8.not_lt.1 h2) (UInt8.not_lt.1 h1)
        subst h3
        rw [compare_eq l r]
        simp [h1, cmpT]
theorem cmpT_lt {a b : Str} : cmpT a b < 0 ↔ slt a b = true := by
  unfold cmpT
  split
  · next h => simp [h]
  · next h => split <;> simp [h]
theorem cmpT_zero {a b : Str} : cmpT a b = 0 ↔ a = b := by
  unfold cmpT
  split
  · next h =>
    constructor
    · intro h0; simp at h0
    · intro h0; subst h0; rw [slt_irrefl] at h; cases h
  · split <;> simp_all

theorem rd_str {w : World} {own : Nat → Prop} {v : Value} {s : Str} (h : Rd w own v (dstr s)) : v = str s := rd_v h

theorem ok_compare (a b : Str) : FnOk Try.prog 56 [.d (dstr a), .d (dstr b)] (.one (dint (cmpT a b))) := by
  refine ⟨⟨_, Try.func56, rfl, rfl⟩, fun w own vs hown ha => ?_⟩
  match vs, ha with
  | [x, y], ⟨h1, h2, _⟩ =>
    obtain rfl : x = str a := rd_v h1
    obtain rfl : y = str b := rd_v h2
    refine (Try.strings_Compare ⟨a.toArray⟩ ⟨b.toArray⟩ w).mono fun e w' he => ?_
    obtain ⟨rfl, rfl⟩ := he
    exact ⟨_, rfl, Below.refl _ _, by rw [← compare_eq]; exact Rd.v _⟩

theorem ok_find1 (c : Chain) (k : Str) : FnOk Try.prog 55 [.d (.agg c.enc), .d (dstr k)] (.one (dint (cmpT c.key k))) := by
  refine fnOk_of tbl_ok mixed_ok Try.func55 rfl (by kernel_rfl) rfl rfl fun w0 own0 => ?_
  have hc := ok_compare c.key k
  repeat (first | ((with_reducible apply s1); exact rfl) | (with_reducible first | apply CW.seq | apply CW.block | apply CW.region | apply CW.draw | apply CW.skip | apply CW.exit | apply CW.ret | apply q_then | apply q_then_exit | apply q_then_ret | apply q_block | apply q_block_ret | apply q_block_hit | apply q_ret | apply q_end | apply q_loop_exit | apply q_loop_ret | apply q_loopT_exit | apply q_loopT_ret | apply RW.nil) | ((with_reducible apply s3); exact rfl; exact by_k) | ((with_reducible apply s2); exact rfl; exact by_k) | ((with_reducible apply s4); exact rfl) | ((with_reducible apply s5); (first | (focus ((with_reducible apply a_call); exact hc; exact rfl; (repeat (first | exact SubsE.nil | (apply SubsE.cons; exact rfl; (first | exact .d (.refl _) | exact .d (.nil _) | exact .agg rfl (.refl _) | exact .pd | exact .ptr rfl); (first | exact trivial | exact ⟨rfl, trivial⟩)))); done)) | exact by_oa); exact by_g) | ((with_reducible apply CW.cond_t); exact rfl; exact by_ks) | ((with_reducible apply CW.cond_f); exact rfl; exact by_ks) | ((with_reducible apply q_block_miss); exact rfl) | (refine And.intro (show chk [] [] _ _ = true by kernel_rfl) ?_))
  exact .one (.tmp rfl (.one (.d (.refl _))))

abbrev At (l : List Chain) (k : Str) (m : Nat) : Prop := AtK Chain.key l k m
abbrev isAt (l : List Chain) (k : Str) (m : Nat) : Bool := isAtK Chain.key l k m

theorem ok_bsearch (l : List Chain) (k : Str) (m : Nat) (hl : l.length ≤ 268435456) (hm : At l k m) :
    FnOk Try.prog 54 [.d (encChains l), .d (dstr k), .d (.v (.func (.func 55) #[] #[]))] (.tup [dint m, dbool (isAt l k m)]) := by
  refine fnOk_of tbl_ok mixed_ok Try.func54 rfl (by kernel_rfl) rfl rfl fun w0 own0 => ?_
  have hml := hm.le
  repeat (first | ((with_reducible apply s1); exact rfl) | (with_reducible first | apply CW.seq | apply CW.block | apply CW.region | apply CW.draw | apply CW.skip | apply CW.exit | apply CW.ret | apply q_then | apply q_then_exit | apply q_then_ret | apply q_block | apply q_block_ret | apply q_block_hit | apply q_ret | apply q_end | apply q_loop_exit | apply q_loop_ret | apply q_loopT_exit | apply q_loopT_ret | apply RW.nil) | ((with_reducible apply s3); exact rfl; exact by_k) | ((with_reducible apply s2); exact rfl; exact by_k) | ((with_reducible apply s4); exact rfl) | ((with_reducible apply s5); (first | exact by_oa); exact by_g) | ((with_reducible apply CW.cond_t); exact rfl; exact by_ks) | ((with_reducible apply CW.cond_f); exact rfl; exact by_ks) | ((with_reducible apply q_block_miss); exact rfl) | (refine And.intro (show chk [] [] _ _ = true by kernel_rfl) ?_))
  refine CW.loopT (fun t : Nat × Nat => [sd 0 (encChains l), sd 1 (dstr k), sd 2 (.v (.func (.func 55) #[] #[])), sd 8 (dint l.length), sd 9 (dint t.1), sd 10 (dint t.2), nxt 0])
    (fun t => t.1 ≤ m ∧ m ≤ t.2 ∧ t.2 ≤ l.length) (fun t => t.2 - t.1) (0, l.length) ⟨by omega, hm.le, by omega⟩ ?_ ?_
  ·
    exact by_less
  · rintro ⟨i, j⟩ ⟨h1, h2, h3⟩
    dsimp only at h1 h2 h3 ⊢
    by_cases h4 : i < j
    · obtain ⟨c, hc⟩ : ∃ c, l[(i + j) / 2]? = some c := ⟨l[(i + j) / 2]'(by omega), List.getElem?_eq_getElem (by omega)⟩
      have hcall := ok_find1 c k
      repeat (first | (with_reducible apply stop_reg 4) | ((with_reducible apply s1); exact rfl) | (with_reducible first | apply CW.seq | apply CW.block | apply CW.region | apply CW.draw | apply CW.skip | apply CW.exit | apply CW.ret | apply q_then | apply q_then_exit | apply q_then_ret | apply q_block | apply q_block_ret | apply q_block_hit | apply q_ret | apply q_end | apply q_loop_exit | apply q_loop_ret | apply q_loopT_exit | apply q_loopT_ret | apply RW.nil) | ((with_reducible apply s3); exact rfl; exact by_k) | ((with_reducible apply s2); exact rfl; exact by_k) | ((with_reducible apply s4); exact rfl) | ((with_reducible apply s5); (first | exact by_oa); exact by_g) | ((with_reducible apply CW.cond_t); exact rfl; exact by_ks) | ((with_reducible apply CW.cond_f); exact rfl; exact by_ks) | ((with_reducible apply q_block_miss); exact rfl) | (refine And.intro (show chk [] [] _ _ = true by kernel_rfl) ?_))
      refine Stop.cutk [sd 11 (dint ((i + j) / 2 : Nat))] [.s 0, .s 1, .s 2, .s 8, .s 9, .s 10, .nx] ?_ ?_
      ·
        repeat (first | ((with_reducible apply s1); exact rfl) | (with_reducible first | apply CW.seq | apply CW.block | apply CW.region | apply CW.draw | apply CW.skip | apply CW.exit | apply CW.ret | apply q_then | apply q_then_exit | apply q_then_ret | apply q_block | apply q_block_ret | apply q_block_hit | apply q_ret | apply q_end | apply q_loop_exit | apply q_loop_ret | apply q_loopT_exit | apply q_loopT_ret | apply RW.nil) | ((with_reducible apply s3); exact rfl; exact by_k) | ((with_reducible apply s2); exact rfl; exact by_k) | ((with_reducible apply s4); exact rfl) | ((with_reducible apply s5); (first | ((with_reducible apply a_bin); (iterate 2 exact rfl); exact bin_half; exact rfl) | exact by_oa); exact by_g) | ((with_reducible apply CW.cond_t); exact rfl; exact by_ks) | ((with_reducible apply CW.cond_f); exact rfl; exact by_ks) | ((with_reducible apply q_block_miss); exact rfl) | (refine And.intro (show chk [] [] _ _ = true by kernel_rfl) ?_))
        refine q_cut ?_
        exact by_less
      have hcz := @cmpT_lt c.key k
      by_cases h5 : cmpT c.key k < 0
      · have h6 : (i + j) / 2 < m := by
          rcases Nat.lt_or_ge ((i + j) / 2) m with h | h
          · exact h
          · have := hm.ge _ c hc h
            rw [hcz.1 h5] at this; cases this
        repeat (first | ((with_reducible apply s1); exact rfl) | (with_reducible first | apply CW.seq | apply CW.block | apply CW.region | apply CW.draw | apply CW.skip | apply CW.exit | apply CW.ret | apply q_then | apply q_then_exit | apply q_then_ret | apply q_block | apply q_block_ret | apply q_block_hit | apply q_ret | apply q_end | apply q_loop_exit | apply q_loop_ret | apply q_loopT_exit | apply q_loopT_ret | apply RW.nil) | ((with_reducible apply s3); exact rfl; exact by_k) | ((with_reducible apply s2); exact rfl; exact by_k) | ((with_reducible apply s4); exact rfl) | ((with_reducible apply s5); (first | (focus ((with_reducible apply a_callv); exact hcall; (iterate 2 exact rfl); (repeat (first | exact SubsE.nil | (apply SubsE.cons; exact rfl; (first | exact .d (.refl _) | exact .d (.nil _) | exact .agg rfl (.refl _) | exact .pd | exact .ptr rfl); (first | exact trivial | exact ⟨rfl, trivial⟩)))); done)) | exact by_oa); exact by_g) | ((with_reducible apply CW.cond_t); exact rfl; exact by_ks) | ((with_reducible apply CW.cond_f); exact rfl; exact by_ks) | ((with_reducible apply q_block_miss); exact rfl) | (refine And.intro (show chk [] [] _ _ = true by kernel_rfl) ?_))
        refine q_loopT ((i + j) / 2 + 1, j) ⟨by dsimp only; omega, h2, h3⟩ (by dsimp only; omega) ?_
        exact by_less
      · have h6 : m ≤ (i + j) / 2 := by
          rcases Nat.lt_or_ge ((i + j) / 2) m with h | h
          · exact absurd (hcz.2 (hm.lt _ c hc h)) h5
          · exact h
        repeat (first | ((with_reducible apply s1); exact rfl) | (with_reducible first | apply CW.seq | apply CW.block | apply CW.region | apply CW.draw | apply CW.skip | apply CW.exit | apply CW.ret | apply q_then | apply q_then_exit | apply q_then_ret | apply q_block | apply q_block_ret | apply q_block_hit | apply q_ret | apply q_end | apply q_loop_exit | apply q_loop_ret | apply q_loopT_exit | apply q_loopT_ret | apply RW.nil) | ((with_reducible apply s3); exact rfl; exact by_k) | ((with_reducible apply s2); exact rfl; exact by_k) | ((with_reducible apply s4); exact rfl) | ((with_reducible apply s5); (first | (focus ((with_reducible apply a_callv); exact hcall; (iterate 2 exact rfl); (repeat (first | exact SubsE.nil | (apply SubsE.cons; exact rfl; (first | exact .d (.refl _) | exact .d (.nil _) | exact .agg rfl (.refl _) | exact .pd | exact .ptr rfl); (first | exact trivial | exact ⟨rfl, trivial⟩)))); done)) | exact by_oa); exact by_g) | ((with_reducible apply CW.cond_t); exact rfl; exact by_ks) | ((with_reducible apply CW.cond_f); exact rfl; exact by_ks) | ((with_reducible apply q_block_miss); exact rfl) | (refine And.intro (show chk [] [] _ _ = true by kernel_rfl) ?_))
        refine q_loopT (i, (i + j) / 2) ⟨h1, h6, by dsimp only; omega⟩ (by dsimp only; omega) ?_
        exact by_less
    · obtain rfl : i = m := by omega
      cases hc : l[i]? with
      | none =>
        have h5 : l.length ≤ i := by
          rcases Nat.lt_or_ge i l.length with h | h
          · rw [List.getElem?_eq_getElem h] at hc; cases hc
          · exact h
        repeat (first | ((with_reducible apply s1); exact rfl) | (with_reducible first | apply CW.seq | apply CW.block | apply CW.region | apply CW.draw | apply CW.skip | apply CW.exit | apply CW.ret | apply q_then | apply q_then_exit | apply q_then_ret | apply q_block | apply q_block_ret | apply q_block_hit | apply q_ret | apply q_end | apply q_loop_exit | apply q_loop_ret | apply q_loopT_exit | apply q_loopT_ret | apply RW.nil) | ((with_reducible apply s3); exact rfl; exact by_k) | ((with_reducible apply s2); exact rfl; exact by_k) | ((with_reducible apply s4); exact rfl) | ((with_reducible apply s5); (first | exact by_oa); exact by_g) | ((with_reducible apply CW.cond_t); exact rfl; exact by_ks) | ((with_reducible apply CW.cond_f); exact rfl; exact by_ks) | ((with_reducible apply q_block_miss); exact rfl) | (refine And.intro (show chk [] [] _ _ = true by kernel_rfl) ?_))
        exact .two (.tmp rfl (.one (.d (.refl _)))) (.tmp rfl (.one (.d (dle_bool (by simp [isAtK, hc])))))
      | some c =>
        have h5 : i < l.length := (List.getElem?_eq_some_iff.1 hc).1
        have hcall := ok_find1 c k
        repeat (first | ((with_reducible apply s1); exact rfl) | (with_reducible first | apply CW.seq | apply CW.block | apply CW.region | apply CW.draw | apply CW.skip | apply CW.exit | apply CW.ret | apply q_then | apply q_then_exit | apply q_then_ret | apply q_block | apply q_block_ret | apply q_block_hit | apply q_ret | apply q_end | apply q_loop_exit | apply q_loop_ret | apply q_loopT_exit | apply q_loopT_ret | apply RW.nil) | ((with_reducible apply s3); exact rfl; exact by_k) | ((with_reducible apply s2); exact rfl; exact by_k) | ((with_reducible apply s4); exact rfl) | ((with_reducible apply s5); (first | (focus ((with_reducible apply a_callv); exact hcall; (iterate 2 exact rfl); (repeat (first | exact SubsE.nil | (apply SubsE.cons; exact rfl; (first | exact .d (.refl _) | exact .d (.nil _) | exact .agg rfl (.refl _) | exact .pd | exact .ptr rfl); (first | exact trivial | exact ⟨rfl, trivial⟩)))); done)) | exact by_oa); exact by_g) | ((with_reducible apply CW.cond_t); exact rfl; exact by_ks) | ((with_reducible apply CW.cond_f); exact rfl; exact by_ks) | ((with_reducible apply q_block_miss); exact rfl) | (refine And.intro (show chk [] [] _ _ = true by kernel_rfl) ?_))
        refine .two (.tmp rfl (.one (.d (.refl _)))) (.tmp rfl (.one (.d (dle_bool ?_))))
        rw [show isAt l k i = decide (c.key = k) by simp [isAt, isAtK, hc]]
        show decide (cmpT c.key k = 0) = decide (c.key = k)
        rw [decide_eq_decide]
        exact cmpT_zero

theorem ok_find (l : List Chain) (k : Str) (m : Nat) (hl : l.length ≤ 268435456) (hm : At l k m) : FnOk Try.prog 47 [.d (encChains l), .d (dstr k)] (.tup [dint m, dbool (isAt l k m)]) := by
  refine fnOk_of tbl_ok mixed_ok Try.func47 rfl (by kernel_rfl) rfl rfl fun w0 own0 => ?_
  have hc := ok_bsearch l k m hl hm
  repeat (first | ((with_reducible apply s1); exact rfl) | (with_reducible first | apply CW.seq | apply CW.block | apply CW.region | apply CW.draw | apply CW.skip | apply CW.exit | apply CW.ret | apply q_then | apply q_then_exit | apply q_then_ret | apply q_block | apply q_block_ret | apply q_block_hit | apply q_ret | apply q_end | apply q_loop_exit | apply q_loop_ret | apply q_loopT_exit | apply q_loopT_ret | apply RW.nil) | ((with_reducible apply s3); exact rfl; exact by_k) | ((with_reducible apply s2); exact rfl; exact by_k) | ((with_reducible apply s4); exact rfl) | ((with_reducible apply s5); (first | (focus ((with_reducible apply a_call); exact hc; exact rfl; (repeat (first | exact SubsE.nil | (apply SubsE.cons; exact rfl; (first | exact .d (.refl _) | exact .d (.nil _) | exact .agg rfl (.refl _) | exact .pd | exact .ptr rfl); (first | exact trivial | exact ⟨rfl, trivial⟩)))); done)) | exact by_oa); exact by_g) | ((with_reducible apply CW.cond_t); exact rfl; exact by_ks) | ((with_reducible apply CW.cond_f); exact rfl; exact by_ks) | ((with_reducible apply q_block_miss); exact rfl) | (refine And.intro (show chk [] [] _ _ = true by kernel_rfl) ?_))
  exact .two (.tmp rfl (.one (.d (.refl _)))) (.tmp rfl (.one (.d (.refl _))))

end Go.Proofs.Ytpgmolgkofgkoaa

/-! G5 -/
/-
  Contract of the library's Backward over versions: its closure, for every loop body that keeps what lay below.
-/
namespace Go.Proofs.Ytpgmolgkofgkoaa
open Go.AX Go.RF Go.RowKit Go.Shelf

attribute [local go_sem] Oper.semAt_some

def verV (v : Version) : Value := .agg #[.int .i64 v.by_, .bool v.made, .bool v.has, .int .i64 v.n]
def verC (v : Version) (j : Nat) : Value := match j with
  | 0 => .int .i64 v.by_
  | 1 => .bool v.made
  | 2 => .bool v.has
  | _ => .int .i64 v.n
/-- What has come when k rounds are over, from the end on. -/
def back (vs : List Version) (k : Nat) : List (Nat × Version) := (List.range k).map fun j => (vs.length - 1 - j, vs[vs.length - 1 - j]?.getD ⟨0, false, false, 0⟩)
theorem back_succ (vs : List Version) (k : Nat) : back vs (k + 1) = back vs k ++ [(vs.length - 1 - k, vs[vs.length - 1 - k]?.getD ⟨0, false, false, 0⟩)] := by simp [back, List.range_succ]
theorem back_length (vs : List Version) (k : Nat) : (back vs k).length = k := by simp [back]

/-- The slice's cells hold the versions, in a block below n₀. -/
def VerAt (n₀ : Nat) (W : World) (ad : Addr) (vs : List Version) : Prop := ad.block < n₀ ∧ ∀ (i j : Nat) (v : Version), vs[i]? = some v → j < 4 → W.cell? (ad.add (i * 4 + j)) = some (verC v j)
theorem VerAt.below {n₀ : Nat} {A B : World} {ad : Addr} {vs : List Version} (h : VerAt n₀ A ad vs) (hb : Below n₀ A B) : VerAt n₀ B ad vs :=
  ⟨h.1, fun i j v hi hj => (hb.cell (by rw [add_block]; exact h.1)).trans (h.2 i j v hi hj)⟩

theorem ver_cells {n₀ : Nat} {W : World} {ad : Addr} {vs : List Version} (h : VerAt n₀ W ad vs) {i : Nat} {v : Version} (hi : vs[i]? = some v) :
    W.cell? (ad.add (i * 4)) = some (.int .i64 v.by_) ∧ W.cell? ⟨(ad.add (i * 4)).block, (ad.add (i * 4)).off + 1, none⟩ = some (.bool v.made) ∧
      W.cell? ⟨(ad.add (i * 4)).block, (ad.add (i * 4)).off + 2, none⟩ = some (.bool v.has) ∧ W.cell? ⟨(ad.add (i * 4)).block, (ad.add (i * 4)).off + 3, none⟩ = some (.int .i64 v.n) := by
  have hx : ∀ j, j < 4 → W.cell? ((ad.add (i * 4)).add j) = some (verC v j) := fun j hj => by rw [add_add]; exact h.2 i j v hi hj
  exact ⟨hx 0 (by omega), hx 1 (by omega), hx 2 (by omega), hx 3 (by omega)⟩

set_option maxRecDepth 100000 in
set_option maxHeartbeats 2000000 in
theorem backward1_in (F : Fence) (n : Nat) (hF : F.fn 57) (hro : F.round = none) (hn : 1 ≤ n) (l Bs n₀ cap : Nat) (ad : Addr) (vs : List Version) (hreach : vs.length ≤ 268435456) (J Jx : List (Nat × Version) → World → Prop)
    (hY : ∀ pre x W, J pre W → pre.length < vs.length → YieldAt F (n - 1) Try.prog l #[.int .i64 (x.1 : Int), verV x.2] W fun e W' =>
      (e = .returned (.bool true) ∧ J (pre ++ [x]) W' ∧ Below n₀ W W') ∨ (e = .returned (.bool false) ∧ Jx (pre ++ [x]) W'))
    (W : World) (hBs : W.cell? ⟨Bs, 0, none⟩ = some (.slice (some ad) vs.length cap)) (hBl : Bs < n₀) (hc : VerAt n₀ W ad vs) (h0 : J [] W) :
    CallsIn F n Try.prog 57 #[.func (.yield l) #[] #[], .pointer (some ⟨Bs, 0, none⟩)] W fun e W' => (∃ v, e = .returned v) ∧
      ((∃ ys, ys = back vs vs.length ∧ J ys W') ∨ (∃ pre, (∃ k, k ≤ vs.length ∧ pre = back vs k) ∧ Jx pre W')) := by
  refine callsIn_of_wp Try.func57 rfl hF ?_ hro
  simp only [Try.ntmps57, List.size_toArray, List.length_cons, List.length_nil, Nat.reduceAdd, Nat.reduceSub, Array.replicate_succ, Array.replicate_zero, List.push_toArray, List.append_toArray, List.nil_append, List.cons_append]
  gi_wp2
  gi_loopw [3] (fun i wr => ∃ k : Nat, k ≤ vs.length ∧ i = .int .i64 ((vs.length : Int) - 1 - k) ∧ J (back vs k) wr ∧ Below n₀ W wr)
    (fun i _ => (intOf i + 1).toNat)
  case atStart => exact ⟨0, Nat.zero_le _, by simp, h0, Below.refl _ _⟩
  case round =>
    obtain ⟨k, hk, rfl, hJs, hnx⟩ := hrel
    by_cases hlt : k < vs.length
    · obtain ⟨i, hi, hi2⟩ : ∃ i : Nat, (vs.length : Int) - 1 - k = i ∧ i = vs.length - 1 - k := ⟨vs.length - 1 - k, by omega, rfl⟩
      obtain ⟨v, hv⟩ : ∃ v, vs[i]? = some v := ⟨vs[i]'(by omega), List.getElem?_eq_getElem (by omega)⟩
      have hB2 : wr.cell? ⟨Bs, 0, none⟩ = some (.slice (some ad) vs.length cap) := (hnx.cell (p := ⟨Bs, 0, none⟩) hBl).trans hBs
      obtain ⟨hc0, hc1, hc2, hc3⟩ := ver_cells (hc.below hnx) hv
      obtain ⟨fn, tmps, assign, body, hy, hR⟩ := hY _ (i, v) wr hJs (by rw [back_length]; exact hlt)
      dsimp only at hy
      have hi0 : (0 : Int) ≤ (i : Int) := by omega
      have hlen : i < vs.length := by omega
      have hnext : back vs k ++ [(i, v)] = back vs (k + 1) := by rw [back_succ, ← hi2, hv]; rfl
      rw [hi]
      clear hi2
      unfold verV at hy
      gi_wp2
      refine hR.mono ?_
      rintro e W3 (⟨rfl, hJ3, hk3⟩ | ⟨rfl, hJx3⟩)
      · gi_wp2
        go_roundw
        case rel => exact ⟨k + 1, by omega, by congr 1 <;> omega, by rw [← hnext]; exact hJ3, hnx.trans hk3⟩
        case measure => simp [intOf] <;> omega
      · gi_wp2
        refine bodyPost_ret (results_none rfl _ _ _) rfl ?_
        exact ⟨⟨_, rfl⟩, .inr ⟨_, ⟨k + 1, by omega, hnext⟩, hJx3⟩⟩
    · obtain rfl : k = vs.length := by omega
      have hi : (vs.length : Int) - 1 - vs.length = -1 := by omega
      rw [hi]
      gi_wp2
      go_end0
      exact ⟨⟨_, rfl⟩, .inl ⟨_, rfl, hJs⟩⟩

set_option maxRecDepth 100000 in
set_option maxHeartbeats 1000000 in
/-- .. at a slice of no element: no round. -/
theorem backward1_nil_in (F : Fence) (n : Nat) (hF : F.fn 57) (hro : F.round = none) (l Bs cap : Nat) (p : Option Addr) (J : List (Nat × Version) → World → Prop) (W : World) (hBs : W.cell? ⟨Bs, 0, none⟩ = some (.slice p 0 cap)) (h0 : J [] W) :
    CallsIn F n Try.prog 57 #[.func (.yield l) #[] #[], .pointer (some ⟨Bs, 0, none⟩)] W fun e W' => (∃ v, e = .returned v) ∧ J [] W' := by
  refine callsIn_of_wp Try.func57 rfl hF ?_ hro
  simp only [Try.ntmps57, List.size_toArray, List.length_cons, List.length_nil, Nat.reduceAdd, Nat.reduceSub, Array.replicate_succ, Array.replicate_zero, List.push_toArray, List.append_toArray, List.nil_append, List.cons_append]
  gi_wp2
  gi_loopw [3] (fun i wr => i = .int .i64 (-1) ∧ J [] wr) (fun _ _ => 0)
  case atStart => exact ⟨rfl, h0⟩
  case round =>
    obtain ⟨rfl, hJs⟩ := hrel
    gi_wp2
    go_end0
    exact ⟨⟨_, rfl⟩, hJs⟩

set_option maxHeartbeats 1000000 in
/-- Backward itself: the slice value is boxed; the function value captures the box. -/
theorem backward_in (F : Fence) (n : Nat) (hF : F.fn 48) (hro : F.round = none) (a : Option Addr) (len cap : Nat) (w : World) :
    CallsIn F n Try.prog 48 #[.slice a len cap] w fun e w' => e = .returned (.func (.func 57) #[] #[.pointer (some ⟨w.heap.size, 0, none⟩)]) ∧ w' = w.alloc (.cells #[.slice a len cap] 34) := by
  refine callsIn_of_wp Try.func48 rfl hF ?_ hro
  simp only [Try.ntmps48, List.size_toArray, List.length_cons, List.length_nil, Nat.reduceAdd, Nat.reduceSub, Array.replicate_succ, Array.replicate_zero, List.push_toArray, List.append_toArray, List.nil_append, List.cons_append]
  gi_wp2
  go_ret
  exact ⟨rfl, rfl⟩

/-- A slice value that holds versions, in a block below n₀; or it has none. -/
def Vers (n₀ : Nat) (W : World) (sv : Value) (vs : List Version) : Prop :=
  ∃ p cap, sv = .slice p vs.length cap ∧ (vs = [] ∨ ∃ ad, p = some ad ∧ VerAt n₀ W ad vs)
theorem Vers.below {n₀ : Nat} {A B : World} (h : Below n₀ A B) {sv : Value} {vs : List Version} : Vers n₀ A sv vs → Vers n₀ B sv vs
  | ⟨p, cap, e, .inl h0⟩ => ⟨p, cap, e, .inl h0⟩
  | ⟨p, cap, e, .inr ⟨ad, h1, h2⟩⟩ => ⟨p, cap, e, .inr ⟨ad, h1, h2.below h⟩⟩
theorem Vers.mono {n₀ n₁ : Nat} {A : World} (h : n₀ ≤ n₁) {sv : Value} {vs : List Version} : Vers n₀ A sv vs → Vers n₁ A sv vs
  | ⟨p, cap, e, .inl h0⟩ => ⟨p, cap, e, .inl h0⟩
  | ⟨p, cap, e, .inr ⟨ad, h1, h2⟩⟩ => ⟨p, cap, e, .inr ⟨ad, h1, ⟨Nat.lt_of_lt_of_le h2.1 h, h2.2⟩⟩⟩

theorem backward_stops (F : Fence) (n : Nat) (hF : F.fn 57) (hro : F.round = none) (hn : 1 ≤ n) (Bs n₀ : Nat) (sv : Value) (vs : List Version) (hreach : vs.length ≤ 268435456) (w : World) (hBs : Bs < n₀) (hn₀ : n₀ ≤ w.heap.size)
    (hc : w.cell? ⟨Bs, 0, none⟩ = some sv) (hI : Vers n₀ w sv vs) :
    SeqStopsK F n Try.prog 57 #[.pointer (some ⟨Bs, 0, none⟩)] (fun x : Nat × Version => #[Value.int .i64 (x.1 : Int), verV x.2]) (Below n₀) (fun ys => ys = back vs vs.length)
      (fun pre => ∃ k, k ≤ vs.length ∧ pre = back vs k) vs.length w := fun l J Jx W hW _ _ hY h0 => by
  have hc' := (hW.cell (p := ⟨Bs, 0, none⟩) (show Bs < w.heap.size by omega)).trans hc
  obtain ⟨p, cap, rfl, rfl | ⟨ad, rfl, hv⟩⟩ := hI.below (hW.mono hn₀)
  · exact (backward1_nil_in F n hF hro l Bs cap p J W hc' h0).mono fun e W' ⟨he, hj⟩ => ⟨he, .inl ⟨_, rfl, hj⟩⟩
  · exact backward1_in F n hF hro hn l Bs n₀ cap ad vs hreach J Jx hY W hc' hBs hv h0

end Go.Proofs.Ytpgmolgkofgkoaa

/-! G6 -/
/-
  Contract of the program's Before.
-/
namespace Go.Proofs.Ytpgmolgkofgkoaa
open Go.AX Go.RF Go.RowKit Go.Shelf

attribute [local go_sem] Oper.semAt_some

def AllGe (b : Int) (pre : List (Nat × Version)) : Prop := ∀ x ∈ pre, b ≤ x.2.by_
def Hit (b : Int) (pre : List (Nat × Version)) (v : Version) : Prop := ∃ ini i, pre = ini ++ [(i, v)] ∧ AllGe b ini ∧ v.by_ < b
theorem AllGe.snoc {b : Int} {pre : List (Nat × Version)} (h : AllGe b pre) {i : Nat} {v : Version} (hv : b ≤ v.by_) : AllGe b (pre ++ [(i, v)]) := fun x hx => by
  rcases List.mem_append.1 hx with hx | hx
  · exact h x hx
  · simp at hx; subst hx; exact hv
/-- A version in a box. -/
def Box4 (W : World) (B : Nat) (v : Version) : Prop := W.heap[B]? = some (.cells #[.int .i64 v.by_, .bool v.made, .bool v.has, .int .i64 v.n] 60 (0, 0))
theorem Box4.lt {W : World} {B : Nat} {v : Version} (h : Box4 W B v) : B < W.heap.size := (Array.getElem?_eq_some_iff.1 h).1
theorem Box4.cells {W : World} {B : Nat} {v : Version} (h : Box4 W B v) : W.cell? ⟨B, 0, none⟩ = some (.int .i64 v.by_) ∧ W.cell? ⟨B, 1, none⟩ = some (.bool v.made) ∧ W.cell? ⟨B, 2, none⟩ = some (.bool v.has) ∧ W.cell? ⟨B, 3, none⟩ = some (.int .i64 v.n) := by
  have h' : W.heap[B]? = _ := h
  refine ⟨?_, ?_, ?_, ?_⟩ <;> simp [World.cell?, h']
theorem Box4.frozens {W : World} {B : Nat} {v : Version} (h : Box4 W B v) : W.frozen? ⟨B, 0, none⟩ = false ∧ W.frozen? ⟨B, 1, none⟩ = false ∧ W.frozen? ⟨B, 2, none⟩ = false ∧ W.frozen? ⟨B, 3, none⟩ = false := by
  have h' : W.heap[B]? = _ := h
  refine ⟨?_, ?_, ?_, ?_⟩ <;> simp [World.frozen?, h']
theorem Box4.kept {W W' : World} {row : Option Nat} {B : Nat} {v : Version} (h : Box4 W B v) (hg : W.grownBy W' row) (hne : some B ≠ row) : Box4 W' B v := (hg.block B h.lt hne).trans h
theorem Box4.alloc {W : World} {B : Nat} {v : Version} (h : Box4 W B v) (o : Obj) : Box4 (W.alloc o) B v := h.kept (World.grownBy_alloc W o none) (by simp)
theorem Box4.below {n : Nat} {W W' : World} {B : Nat} {v : Version} (h : Box4 W B v) (hb : Below n W W') (hB : B < n) : Box4 W' B v := (hb.block B hB).trans h
theorem box4_own (B : Nat) {β : Type} (f : β → Version) : Own (fun s W => Box4 W B (f s)) := fun s X Y row hs hg hrow =>
  Box4.kept hs hg (fun e => by
    obtain ⟨o, ho, hc⟩ := hrow B e.symm
    rw [show X.heap[B]? = _ from hs] at ho
    cases ho
    simp [Obj.isCells] at hc)
theorem sets_box {W : World} {B : Nat} {v : Version} (h : Box4 W B v) (u : Version) :
    Box4 ((((W.setCell ⟨B, 0, none⟩ (.int .i64 u.by_)).setCell ⟨B, 1, none⟩ (.bool u.made)).setCell ⟨B, 2, none⟩ (.bool u.has)).setCell ⟨B, 3, none⟩ (.int .i64 u.n)) B u := by
  have h' : W.heap[B]? = _ := h
  simp [Box4, World.setCell, Array.getElem?_modify, h']
theorem sets_keeps (W : World) (B : Nat) (a b c d : Value) : KeepsOthers W ((((W.setCell ⟨B, 0, none⟩ a).setCell ⟨B, 1, none⟩ b).setCell ⟨B, 2, none⟩ c).setCell ⟨B, 3, none⟩ d) :=
  (((KeepsOthers.setCell W _ _).trans (KeepsOthers.setCell _ _ _)).trans (KeepsOthers.setCell _ _ _)).trans (KeepsOthers.setCell _ _ _)
theorem sets_below {W : World} {n B : Nat} {a b c d : Value} (h : n ≤ B) : Below n W ((((W.setCell ⟨B, 0, none⟩ a).setCell ⟨B, 1, none⟩ b).setCell ⟨B, 2, none⟩ c).setCell ⟨B, 3, none⟩ d) :=
  ((((Below.refl n W).setCell (p := ⟨B, 0, none⟩) h _).setCell (p := ⟨B, 1, none⟩) h _).setCell (p := ⟨B, 2, none⟩) h _).setCell (p := ⟨B, 3, none⟩) h _

theorem results_box {W : World} {B : Nat} {v : Version} {x : Array Value} (c0 : W.cell? ⟨B, 0, none⟩ = some (.int .i64 v.by_)) (c1 : W.cell? ⟨B, 1, none⟩ = some (.bool v.made)) (c2 : W.cell? ⟨B, 2, none⟩ = some (.bool v.has)) (c3 : W.cell? ⟨B, 3, none⟩ = some (.int .i64 v.n))
    (hx : x[6]? = some (.pointer (some ⟨B, 0, none⟩)) := by rfl) : (results Try.f38 x).run Try.prog W = .ok (verV v) W := by
  simp [results, Try.f38, go_sem, hx, c0, c1, c2, c3, verV, Act.eval, Array.getD_eq_getD_getElem?]

set_option maxRecDepth 100000 in
set_option maxHeartbeats 4000000 in
theorem before_raw (m : Nat) (by_ : Int) (k : ByteArray) (ad : Addr) (n cp : Nat) (sv : Value) (vs : List Version) (w : World) (hm : m < n) (had : ad.block < w.heap.size)
    (hcell : w.cell? (ad.add (m * 2 + 1)) = some sv) (hvs : Vers w.heap.size w sv vs) (hreach : vs.length ≤ 268435456)
    (hf : ∀ W : World, w.heap.size ≤ W.heap.size → Below w.heap.size w W → Calls Try.prog 47 #[.slice (some ad) n cp, .string k] W fun e W' => e = .returned (.tuple #[.int .i64 (m : Int), .bool true]) ∧ Below W.heap.size W W') :
    Calls Try.prog 38 #[.slice (some ad) n cp, .string k, .int .i64 by_] w fun e W' =>
      ((e = .returned (verV noV) ∧ AllGe by_ (back vs vs.length)) ∨ ∃ k v, k ≤ vs.length ∧ Hit by_ (back vs k) v ∧ e = .returned (verV v)) ∧ Below w.heap.size w W' := by
  refine (callsIn_wide (n := 3)).1 ?_
  refine callsIn_of_wp_marks Try.func38 rfl trivial ?_
  simp only [Try.ntmps38, List.size_toArray, List.length_cons, List.length_nil, Nat.reduceAdd, Nat.reduceSub, Array.replicate_succ, Array.replicate_zero, List.push_toArray, List.append_toArray, List.nil_append, List.cons_append]
  have hB1 : Below w.heap.size w ((w.alloc (.cells #[.int .i64 by_] 3)).alloc (.cells #[.int .i64 0, .bool false, .bool false, .int .i64 0] 60)) := ((Below.refl _ w).alloc (Nat.le_refl _) _).alloc (by simp) _
  have hf1 := hf _ hB1.size hB1
  obtain ⟨p, cap, rfl, hvs1⟩ := hvs
  have hcell' : w.cell? ⟨(ad.add (m * 2)).block, (ad.add (m * 2)).off + 1, none⟩ = some (.slice p vs.length cap) := by
    rw [← add_add] at hcell
    exact hcell
  have hc0 : ∀ {w1 : World}, Below w.heap.size w w1 → w1.cell? ⟨(ad.add (m * 2)).block, (ad.add (m * 2)).off + 1, none⟩ = some (.slice p vs.length cap) := fun hB =>
    (hB.cell (p := ⟨(ad.add (m * 2)).block, (ad.add (m * 2)).off + 1, none⟩) (by show (ad.add (m * 2)).block < _; rw [add_block]; exact had)).trans hcell'
  gi_wp2_with (refine ⟨trivial, ?_⟩; first | (gi_at_call 47; refine (callsIn_wide.2 hf1).mono ?_; clear hf1; rintro e w1 ⟨rfl, hb1⟩; have hB2 := hB1.trans (hb1.mono hB1.size); have hc1 := hc0 hB2) |
    (gi_at_call 48; refine (backward_in _ _ trivial rfl _ _ _ _).mono ?_; rintro e w' ⟨rfl, rfl⟩))
  have hsz1 : w.heap.size + 1 + 1 ≤ w1.heap.size := by have := hb1.size; simpa using this
  have bY : Boxed w1 w.heap.size 3 (.int .i64 by_) := by
    have h0 := (Boxed.new w 3 (.int .i64 by_)).alloc (.cells #[.int .i64 0, .bool false, .bool false, .int .i64 0] 60)
    exact (hb1.block _ (by simp; omega)).trans h0
  have bR : Box4 w1 (w.heap.size + 1) ⟨0, false, false, 0⟩ := by
    have h0 : Box4 ((w.alloc (.cells #[.int .i64 by_] 3)).alloc (.cells #[.int .i64 0, .bool false, .bool false, .int .i64 0] 60)) (w.heap.size + 1) ⟨0, false, false, 0⟩ := by
      have := World.alloc_heap_new (w.alloc (.cells #[.int .i64 by_] 3)) (.cells #[.int .i64 0, .bool false, .bool false, .int .i64 0] 60)
      simpa [Box4] using this
    exact h0.below hb1 (by simp)
  have bN := Boxed.new w1 34 (.slice p vs.length cap)
  have hV1 : Vers w.heap.size w1 (.slice p vs.length cap) vs := Vers.below hB2 ⟨p, cap, rfl, hvs1⟩
  obtain ⟨W0, hW0⟩ : ∃ W0, w1.alloc (.cells #[.slice p vs.length cap] 34) = W0 := ⟨_, rfl⟩
  have hBW : Below w1.heap.size w1 W0 := by rw [← hW0]; exact (Below.refl _ w1).alloc (Nat.le_refl _) _
  have hsz0 : W0.heap.size = w1.heap.size + 1 := by rw [← hW0]; simp
  rw [hW0] at bN ⊢
  have bY0 : Boxed W0 w.heap.size 3 (.int .i64 by_) := (hBW.block _ (by omega)).trans bY
  have bR0 : Box4 W0 (w.heap.size + 1) ⟨0, false, false, 0⟩ := bR.below hBW (by omega)
  have hB0 : Below w.heap.size w W0 := hB2.trans (hBW.mono hB2.size)
  clear hW0
  refine wpIn_rangeFunc_ownH (F := Fence.wide) rfl (by omega) (gf := 57) (lb := #[.pointer (some ⟨w1.heap.size, 0, none⟩)]) rfl trivial (enters_of Try.func57 (by kernel_rfl) rfl)
    (backward_stops Fence.wide (3 - 1) trivial rfl (by omega) w1.heap.size W0.heap.size _ vs hreach W0 (by omega) (Nat.le_refl _) bN.cell (Vers.mono hB0.size (Vers.below (hBW.mono hB2.size) hV1))) belowK_t (belowK_b (Nat.le_refl _)) (Below.refl _ _) (fun _ => rfl)
    (fun pre W => AllGe by_ pre ∧ Below W0.heap.size W0 W)
    (fun c pre W => (c = .ret ∧ ∃ v, Hit by_ pre v ∧ Box4 W (w.heap.size + 1) v) ∧ Below w.heap.size w W)
    (OwnFrom.and (Own.from (fun s A B row hs hg hr => hs) _) (ownFrom_below (Nat.le_refl _) (Nat.le_refl _)))
    (fun c => OwnFrom.and (Own.from (fun s A B row hs hg hr => by obtain ⟨hc, v, e1, e4⟩ := hs; exact ⟨hc, v, e1, box4_own (w.heap.size + 1) (fun (_ : Unit) => v) () A B row e4 hg hr⟩) _) (ownFrom_below (Nat.le_refl _) hB0.size))
    ⟨fun x hx => by simp at hx, Below.refl _ _⟩
    (fun x a' W => ∃ Bx, w.heap.size + 1 < Bx ∧ Box4 W Bx x.2 ∧ a' = { tmps := #[.slice (some ad) n cp, .string k, .int .i64 by_, undef, undef, .pointer (some ⟨w.heap.size, 0, none⟩), .pointer (some ⟨w.heap.size + 1, 0, none⟩), .int .i64 (m : Int), .bool true, undef, .pointer (some ⟨Bx, 0, none⟩),
      .tuple #[.int .i64 (m : Int), .bool true], .slice (some ad) n cp, .string k, .tuple #[.int .i64 (m : Int), .bool true], .int .i64 (m : Int), .bool true, .bool true, .slice (some ad) n cp, .int .i64 (m : Int), .pointer (some (ad.add (m * 2))), .pointer (some ⟨(ad.add (m * 2)).block, (ad.add (m * 2)).off + 1, none⟩), .slice p vs.length cap,
      .func (.func 57) #[] #[.pointer (some ⟨w1.heap.size, 0, none⟩)], .int .i64 (x.1 : Int), verV x.2, undef, undef, undef, undef, undef, undef], defers := [] })
    (fun x a' _ X Y row hs hg hr => by obtain ⟨Bx, h1, h2, h3⟩ := hs; exact ⟨Bx, h1, box4_own Bx (fun (_ : Unit) => x.2) () X Y row h2 hg (fun r e => (hr r e).2), h3⟩)
    ?assign ?body ?done ?stop
  case assign =>
    rintro l pre ⟨xi, xb, xm, xh, xn⟩ W K ⟨hp, hB⟩ hK
    simp only [verV]
    gi_wp2
    have hbx : Below W0.heap.size W (W.alloc (.cells #[.int .i64 xb, .bool xm, .bool xh, .int .i64 xn] 60)) := (Below.refl _ W).alloc hB.size _
    exact hK _ _ ((KeepsOthers.alloc _ _).from _) hbx ⟨hp, hB.trans hbx⟩ ⟨W.heap.size, by have := hB.size; omega, World.alloc_heap_new W _, rfl⟩
  case body =>
    rintro l pre ⟨xi, xb, xm, xh, xn⟩ a' W hl ⟨r, hr⟩ ⟨hp, hB⟩ ⟨Bx, hBx, bX, rfl⟩ hlt
    simp only [verV]
    have bR1 := bR0.below hB (by omega)
    have bY1 : Boxed W w.heap.size 3 (.int .i64 by_) := (hB.block _ (by omega)).trans bY0
    obtain ⟨x0, x1, x2, x3⟩ := bX.cells
    obtain ⟨y0, y1, y2, y3⟩ := bR1.cells
    obtain ⟨z0, z1, z2, z3⟩ := bR1.frozens
    have cY := bY1.cell
    have hB9 : Below w.heap.size w W := hB0.trans (hB.mono hB0.size)
    dsimp only at x0 x1 x2 x3
    gi_wp2
    · have hx : xb < by_ := by assumption
      exact ⟨(sets_keeps W _ _ _ _ _).from _, ⟨rfl, ⟨xb, xm, xh, xn⟩, ⟨pre, xi, rfl, hp, hx⟩, sets_box bR1 ⟨xb, xm, xh, xn⟩⟩, hB9.trans (sets_below (by omega))⟩
    · have hx : by_ ≤ xb := by assumption
      exact ⟨KeepsFrom.refl _ _, Below.refl _ _, hp.snoc hx, by rw [← hsz0]; exact hB⟩
  case done =>
    rintro D ys W hD rfl ⟨hne, hB⟩ hK
    have bR1 := bR0.below hB (by omega)
    obtain ⟨y0, y1, y2, y3⟩ := bR1.cells
    obtain ⟨z0, z1, z2, z3⟩ := bR1.frozens
    gi_wp2
    have hK' := (sets_keeps W (w.heap.size + 1) (.int .i64 (-1)) (.bool true) (.bool false) (.int .i64 0)).same D _ hK rfl
    have bF := sets_box bR1 noV
    have hB9 : Below w.heap.size w W := hB0.trans (hB.mono hB0.size)
    have hBs := hB9.trans (sets_below (W := W) (n := w.heap.size) (B := w.heap.size + 1) (a := .int .i64 (-1)) (b := .bool true) (c := .bool false) (d := .int .i64 0) (by omega))
    refine ⟨by simp, .inl ⟨_, _, rfl, run_takeDeferred hK', ?_⟩⟩
    have hD' : w.heap.size + 1 ≠ D := by have := bR1.lt; omega
    obtain ⟨c0, c1, c2, c3⟩ := Box4.cells (Box4.kept bF (grownBy_putObj' _ D (.deferred none)) (fun e => hD' (by cases e; rfl)))
    refine ⟨verV noV, ?_, .inl rfl, hBs.trans (belowK_b (w := w) (Nat.le_refl _) _ D _ _ (by have := hB0.size; omega) hK' rfl rfl)⟩
    exact results_box c0 c1 c2 c3
  case stop =>
    rintro D c pre W hD ⟨k, hk, rfl⟩ ⟨⟨rfl, v, hv, hcr⟩, hB⟩ hK
    gi_wp2
    refine ⟨by simp, .inl ⟨_, _, rfl, run_takeDeferred hK, ?_⟩⟩
    have hD' : w.heap.size + 1 ≠ D := by have := hB0.size; omega
    obtain ⟨c0, c1, c2, c3⟩ := Box4.cells (Box4.kept hcr (grownBy_putObj' _ D (.deferred none)) (fun e => hD' (by cases e; rfl)))
    exact ⟨verV v, results_box c0 c1 c2 c3, .inr ⟨k, v, hk, hv, rfl⟩, hB.trans (belowK_b (w := w) (Nat.le_refl _) W D _ _ (by have := hB0.size; omega) hK rfl rfl)⟩

/-! ### The contract -/
theorem rd_ver {w : World} {own : Nat → Prop} (v : Version) : Rd w own (verV v) (.agg v.enc) := by
  refine .agg _ _ rfl (fun j c hc => ?_) fun j d c hd hc => ?_
  · match j, hc with
    | 0, hc => simp at hc; subst hc; rfl
    | 1, hc => simp at hc; subst hc; rfl
    | 2, hc => simp at hc; subst hc; rfl
    | 3, hc => simp at hc; subst hc; rfl
  · match j, hd, hc with
    | 0, hd, hc => simp [Version.enc] at hc hd; subst hc hd; exact .v _
    | 1, hd, hc => simp [Version.enc] at hc hd; subst hc hd; exact .v _
    | 2, hd, hc => simp [Version.enc] at hc hd; subst hc hd; exact .v _
    | 3, hd, hc => simp [Version.enc] at hc hd; subst hc hd; exact .v _
theorem rd_vers {w : World} {own : Nat → Prop} {sv : Value} {vs : List Version} (h : Rd w own sv (encVs vs)) : Vers w.heap.size w sv vs := by
  unfold encVs at h
  generalize hr : vs.map Version.enc = rows at h
  generalize hd : D.sl 4 rows = d at h
  cases h with
  | v => cases hd
  | agg => cases hd
  | nil a cap k =>
    cases hd
    have : vs = [] := by simpa using hr
    subst this
    exact ⟨a, cap, rfl, .inl rfl⟩
  | sl ad cap k rows f hb hs hcap hk hc h1 hr' =>
    cases hd
    subst hr
    refine ⟨some ad, cap, by simp, .inr ⟨ad, rfl, hs, fun i j v hi hj => ?_⟩⟩
    have hi' : (vs.map Version.enc)[i]? = some v.enc := by simp [hi]
    have hval : ∀ d, v.enc[j]? = some d → ∀ x, d = .v x → w.cell? (ad.add (i * 4 + j)) = some x := fun d hd x hx => by
      subst hx
      rw [hc i j _ _ hi' hd, rd_v (hr' i j _ _ hi' hd)]
    match j, hj with
    | 0, _ => exact hval _ rfl _ rfl
    | 1, _ => exact hval _ rfl _ rfl
    | 2, _ => exact hval _ rfl _ rfl
    | 3, _ => exact hval _ rfl _ rfl

theorem back_ge {b : Int} {vs : List Version} {k : Nat} (hk : k ≤ vs.length) (h : AllGe b (back vs k)) : ∀ v ∈ vs.drop (vs.length - k), b ≤ v.by_ := fun v hv => by
  obtain ⟨j, hj⟩ := List.getElem?_of_mem hv
  rw [List.getElem?_drop] at hj
  have hlt := (List.getElem?_eq_some_iff.1 hj).1
  have hmem : (vs.length - k + j, v) ∈ back vs k := by
    unfold back
    refine List.mem_map.2 ⟨k - 1 - j, by simp; omega, ?_⟩
    rw [show vs.length - 1 - (k - 1 - j) = vs.length - k + j by omega, hj]
    rfl
  exact h _ hmem
theorem hit_bvs {b : Int} {vs : List Version} {k : Nat} {v : Version} (hk : k ≤ vs.length) (h : Hit b (back vs k) v) : bvs true b noV vs = v := by
  obtain ⟨ini, i, h1, h2, h3⟩ := h
  cases k with
  | zero => simp [back] at h1
  | succ k =>
    rw [back_succ] at h1
    obtain ⟨rfl, h5⟩ := List.append_inj' h1 rfl
    simp only [List.cons.injEq, Prod.mk.injEq, and_true] at h5
    obtain ⟨rfl, h5⟩ := h5
    have hlt : vs.length - 1 - k < vs.length := by omega
    have hv : vs[vs.length - 1 - k]? = some v := by
      rw [List.getElem?_eq_getElem hlt] at h5 ⊢
      simpa using h5
    have hge := back_ge (by omega) h2
    rw [split_at hv, bvs_append]
    simp only [bvs]
    rw [if_pos (by simpa using h3), show vs.length - 1 - k + 1 = vs.length - k by omega, bvs_ge hge]

theorem isAt_some {l : List Chain} {k : Str} {m : Nat} (h : isAt l k m = true) : ∃ c, l[m]? = some c ∧ c.key = k := by
  unfold isAt isAtK at h
  split at h
  · next c hc => exact ⟨c, hc, of_decide_eq_true h⟩
  · cases h

theorem ok_pbefore (l : List Chain) (k : Str) (b : Int) (hl : l.length ≤ 268435456) (hv : ∀ c ∈ l, c.vs.length ≤ 268435456) (hs : Srt Chain.key l) :
    FnOk Try.prog 38 [.d (encChains l), .d (dstr k), .d (dint b)] (.one (.agg (before l k b).enc)) := by
  obtain ⟨m, hm⟩ := hs.at k
  have hf := ok_find l k m hl hm
  cases hb : isAt l k m with
  | false =>
    refine fnOk_of tbl_ok mixed_ok Try.func38 rfl (by kernel_rfl) rfl rfl fun w0 own0 => ?_
    rw [hb] at hf
    rw [before_no hs hm hb]
    repeat (first | ((with_reducible apply s1); exact rfl) | (with_reducible first | apply CW.seq | apply CW.block | apply CW.region | apply CW.draw | apply CW.skip | apply CW.exit | apply CW.ret | apply q_then | apply q_then_exit | apply q_then_ret | apply q_block | apply q_block_ret | apply q_block_hit | apply q_ret | apply q_end | apply q_loop_exit | apply q_loop_ret | apply q_loopT_exit | apply q_loopT_ret | apply RW.nil) | ((with_reducible apply s3); exact rfl; exact by_k) | ((with_reducible apply s2); exact rfl; exact by_k) | ((with_reducible apply s4); exact rfl) | ((with_reducible apply s5); (first | (focus ((with_reducible apply a_call); exact hf; exact rfl; (repeat (first | exact SubsE.nil | (apply SubsE.cons; exact rfl; (first | exact .d (.refl _) | exact .d (.nil _) | exact .agg rfl (.refl _) | exact .pd | exact .ptr rfl); (first | exact trivial | exact ⟨rfl, trivial⟩)))); done)) | exact by_oa); exact by_g) | ((with_reducible apply CW.cond_t); exact rfl; exact by_ks) | ((with_reducible apply CW.cond_f); exact rfl; exact by_ks) | ((with_reducible apply q_block_miss); exact rfl) | (refine And.intro (show chk [] [] _ _ = true by kernel_rfl) ?_))
    exact .one (.cell rfl rfl rfl rfl (.aggd (ds := noV.enc) rfl (.refl _)))
  | true =>
    obtain ⟨c, hc, hck⟩ := isAt_some hb
    rw [before_yes hs hc hck]
    refine ⟨⟨_, Try.func38, rfl, rfl⟩, fun w own vs hown ha => ?_⟩
    match vs, ha with
    | [x, y, z], ⟨h1, h2, h3, _⟩ =>
      obtain rfl : y = str k := rd_v h2
      obtain rfl : z = .int .i64 b := rd_v h3
      have hfc : ∀ W : World, w.heap.size ≤ W.heap.size → Below w.heap.size w W → Calls Try.prog 47 #[x, str k] W fun e W' => e = .returned (.tuple #[.int .i64 (m : Int), .bool true]) ∧ Below W.heap.size W W' := fun W hsz hB => by
        have h1' : Rd W own x (encChains l) := Rd.step (Ext.of_below hB) (fun b h => .inl h) h1
        refine (hf.calls W own [x, str k] (fun b hb => Nat.lt_of_lt_of_le (hown b hb) hsz) ⟨h1', Rd.v _, trivial⟩).mono fun e W' he => ?_
        obtain ⟨v, rfl, hB', vs, rfl, hsz', hr⟩ := he
        refine ⟨?_, hB'⟩
        obtain ⟨vl⟩ := vs
        match vl, hsz', hr with
        | [a, d], _, hr =>
          obtain rfl : a = .int .i64 (m : Int) := rd_v (hr 0 a (dint m) rfl rfl)
          obtain rfl : d = .bool (isAt l k m) := rd_v (hr 1 d (dbool (isAt l k m)) rfl rfl)
          rw [hb]
      have hcm : m < l.length := (List.getElem?_eq_some_iff.1 hc).1
      have hcv := hv c (List.mem_of_getElem? hc)
      have key : ∃ ad n cp sv, x = .slice (some ad) n cp ∧ m < n ∧ ad.block < w.heap.size ∧ w.cell? (ad.add (m * 2 + 1)) = some sv ∧ Rd w own sv (encVs c.vs) := by
        have h1' := h1
        unfold ArgOk encChains at h1'
        generalize hr : l.map Chain.enc = rows at h1'
        generalize hd : D.sl 2 rows = d at h1'
        cases h1' with
        | v => cases hd
        | agg => cases hd
        | nil a cap k' =>
          cases hd
          have : l = [] := by simpa using hr
          subst this
          simp at hc
        | sl ad cap k' rows f hb' hsz hcap hk hcc h1c hr' =>
          cases hd
          subst hr
          have hi : (l.map Chain.enc)[m]? = some c.enc := by simp [hc]
          exact ⟨ad, _, cap, f m 1, rfl, by simpa using hcm, hsz, hcc m 1 _ _ hi rfl, hr' m 1 _ (encVs c.vs) hi rfl⟩
      obtain ⟨ad, n, cp, sv, rfl, hmn, had, hcell, hrd⟩ := key
      refine (before_raw m b ⟨k.toArray⟩ ad n cp sv c.vs w hmn had hcell (rd_vers hrd) hcv hfc).mono fun e W' ⟨he, hB⟩ => ?_
      rcases he with ⟨rfl, hall⟩ | ⟨i, v, hi, hh, rfl⟩
      · refine ⟨_, rfl, hB, ?_⟩
        have := back_ge (Nat.le_refl _) hall
        rw [Nat.sub_self, List.drop_zero] at this
        rw [bvs_ge this]
        exact rd_ver noV
      · refine ⟨_, rfl, hB, ?_⟩
        rw [hit_bvs hi hh]
        exact rd_ver v

end Go.Proofs.Ytpgmolgkofgkoaa

/-! G7 -/
/-
  Contracts of the program's Rows of chains, Seen, Clear of engines.
-/
namespace Go.Proofs.Ytpgmolgkofgkoaa
open Go.AX Go.RF

set_option maxRecDepth 100000
set_option maxHeartbeats 4000000

theorem ok_prows (l : List Chain) (b : Int) (hl : l.length ≤ 268435456) (hv : ∀ c ∈ l, c.vs.length ≤ 268435456) (hs : Srt Chain.key l) : FnOk Try.prog 20 [.d (encChains l), .d (dint b)] (.tup [encRows (rowsAt l b).1, dbool (rowsAt l b).2]) := by
  refine fnOk_of tbl_ok mixed_ok Try.func20 rfl (by kernel_rfl) rfl rfl fun w0 own0 => ?_
  repeat (first | ((with_reducible apply s1); exact rfl) | (with_reducible first | apply CW.seq | apply CW.block | apply CW.region | apply CW.draw | apply CW.skip | apply CW.exit | apply CW.ret | apply q_then | apply q_then_exit | apply q_then_ret | apply q_block | apply q_block_ret | apply q_block_hit | apply q_ret | apply q_end | apply q_loop_exit | apply q_loop_ret | apply q_loopT_exit | apply q_loopT_ret | apply RW.nil) | ((with_reducible apply s3); exact rfl; exact by_k) | ((with_reducible apply s2); exact rfl; exact by_k) | ((with_reducible apply s4); exact rfl) | ((with_reducible apply s5); (first | exact by_oa); exact by_g) | ((with_reducible apply CW.cond_t); exact rfl; exact by_ks) | ((with_reducible apply CW.cond_f); exact rfl; exact by_ks) | ((with_reducible apply q_block_miss); exact rfl) | (refine And.intro (show chk [] [] _ _ = true by kernel_rfl) ?_))
  refine CW.stut (stut_promote (i := 6) 45 2) ⟨rfl, rfl, trivial⟩ ?_
  refine CW.loopT (fun t : Nat × List Pair => [(.s 0, .av (.d (encChains l))), (.s 1, .av (.d (dint b))), (.s 6, .av (.own 0 t.2.length)), (.o 0, .ob (.arr 45 2 (t.2.map Pair.enc))), (.s 10, .av (.d (encChains l))), (.s 11, .av (.d (dint l.length))), (.s 12, .av (.d (dint t.1))), (.nx, .num 1)])
    (fun t => t.1 ≤ l.length ∧ t.2.length ≤ t.1 ∧ rowsAtGo l b t.2 (l.drop t.1) = rowsAt l b) (fun t => l.length - t.1) (0, []) ⟨by omega, by simp, rfl⟩ ?_ ?_
  ·
    exact by_less
  · rintro ⟨i, out⟩ ⟨hi, ho, hI⟩
    dsimp only at hi ho hI ⊢
    rcases drop_case hi with ⟨h1, h2⟩ | ⟨c, h1, h2, h3⟩
    · rw [h1] at hI
      simp only [rowsAtGo] at hI
      repeat (first | ((with_reducible apply s1); exact rfl) | (with_reducible first | apply CW.seq | apply CW.block | apply CW.region | apply CW.draw | apply CW.skip | apply CW.exit | apply CW.ret | apply q_then | apply q_then_exit | apply q_then_ret | apply q_block | apply q_block_ret | apply q_block_hit | apply q_ret | apply q_end | apply q_loop_exit | apply q_loop_ret | apply q_loopT_exit | apply q_loopT_ret | apply RW.nil) | ((with_reducible apply s3); exact rfl; exact by_k) | ((with_reducible apply s2); exact rfl; exact by_k) | ((with_reducible apply s4); exact rfl) | ((with_reducible apply s5); (first | exact by_oa); exact by_g) | ((with_reducible apply CW.cond_t); exact rfl; exact by_ks) | ((with_reducible apply CW.cond_f); exact rfl; exact by_ks) | ((with_reducible apply q_block_miss); exact rfl) | (refine And.intro (show chk [] [] _ _ = true by kernel_rfl) ?_))
      rw [← hI]
      exact .two (.tmp rfl (.one (.own rfl (by simp) (.refl _)))) (.tmp rfl (.one (.d (.refl _))))
    · rw [h1] at hI
      simp only [rowsAtGo] at hI
      have hc := ok_pbefore l c.key b hl hv hs
      generalize before l c.key b = v at hc hI
      obtain ⟨vb, vm, vh, vn⟩ := v
      dsimp only at hI
      cases vm
      · rw [if_pos rfl] at hI
        repeat (first | ((with_reducible apply s1); exact rfl) | (with_reducible first | apply CW.seq | apply CW.block | apply CW.region | apply CW.draw | apply CW.skip | apply CW.exit | apply CW.ret | apply q_then | apply q_then_exit | apply q_then_ret | apply q_block | apply q_block_ret | apply q_block_hit | apply q_ret | apply q_end | apply q_loop_exit | apply q_loop_ret | apply q_loopT_exit | apply q_loopT_ret | apply RW.nil) | ((with_reducible apply s3); exact rfl; exact by_k) | ((with_reducible apply s2); exact rfl; exact by_k) | ((with_reducible apply s4); exact rfl) | ((with_reducible apply s5); (first | (focus ((with_reducible apply a_call); exact hc; exact rfl; (repeat (first | exact SubsE.nil | (apply SubsE.cons; exact rfl; (first | exact .d (.refl _) | exact .d (.nil _) | exact .agg rfl (.refl _) | exact .pd | exact .ptr rfl); (first | exact trivial | exact ⟨rfl, trivial⟩)))); done)) | exact by_oa); exact by_g) | ((with_reducible apply CW.cond_t); exact rfl; exact by_ks) | ((with_reducible apply CW.cond_f); exact rfl; exact by_ks) | ((with_reducible apply q_block_miss); exact rfl) | (refine And.intro (show chk [] [] _ _ = true by kernel_rfl) ?_))
        rw [← hI]
        exact .two (.tmp rfl (.one (.d (.nil 2)))) (.tmp rfl (.one (.d (.refl _))))
      · rw [if_neg (by simp)] at hI
        cases vh
        · rw [if_neg (by simp)] at hI
          repeat (first | ((with_reducible apply s1); exact rfl) | (with_reducible first | apply CW.seq | apply CW.block | apply CW.region | apply CW.draw | apply CW.skip | apply CW.exit | apply CW.ret | apply q_then | apply q_then_exit | apply q_then_ret | apply q_block | apply q_block_ret | apply q_block_hit | apply q_ret | apply q_end | apply q_loop_exit | apply q_loop_ret | apply q_loopT_exit | apply q_loopT_ret | apply RW.nil) | ((with_reducible apply s3); exact rfl; exact by_k) | ((with_reducible apply s2); exact rfl; exact by_k) | ((with_reducible apply s4); exact rfl) | ((with_reducible apply s5); (first | (focus ((with_reducible apply a_call); exact hc; exact rfl; (repeat (first | exact SubsE.nil | (apply SubsE.cons; exact rfl; (first | exact .d (.refl _) | exact .d (.nil _) | exact .agg rfl (.refl _) | exact .pd | exact .ptr rfl); (first | exact trivial | exact ⟨rfl, trivial⟩)))); done)) | exact by_oa); exact by_g) | ((with_reducible apply CW.cond_t); exact rfl; exact by_ks) | ((with_reducible apply CW.cond_f); exact rfl; exact by_ks) | ((with_reducible apply q_block_miss); exact rfl) | (refine And.intro (show chk [] [] _ _ = true by kernel_rfl) ?_))
          refine q_loopT (i + 1, out) ⟨by dsimp only; omega, by dsimp only; omega, hI⟩ (by dsimp only; omega) ?_
          exact by_less
        · rw [if_pos rfl] at hI
          repeat (first | ((with_reducible apply s1); exact rfl) | (with_reducible first | apply CW.seq | apply CW.block | apply CW.region | apply CW.draw | apply CW.skip | apply CW.exit | apply CW.ret | apply q_then | apply q_then_exit | apply q_then_ret | apply q_block | apply q_block_ret | apply q_block_hit | apply q_ret | apply q_end | apply q_loop_exit | apply q_loop_ret | apply q_loopT_exit | apply q_loopT_ret | apply RW.nil) | ((with_reducible apply s3); exact rfl; exact by_k) | ((with_reducible apply s2); exact rfl; exact by_k) | ((with_reducible apply s4); exact rfl) | ((with_reducible apply s5); (first | (focus ((with_reducible apply a_call); exact hc; exact rfl; (repeat (first | exact SubsE.nil | (apply SubsE.cons; exact rfl; (first | exact .d (.refl _) | exact .d (.nil _) | exact .agg rfl (.refl _) | exact .pd | exact .ptr rfl); (first | exact trivial | exact ⟨rfl, trivial⟩)))); done)) | exact by_oa); exact by_g) | ((with_reducible apply CW.cond_t); exact rfl; exact by_ks) | ((with_reducible apply CW.cond_f); exact rfl; exact by_ks) | ((with_reducible apply q_block_miss); exact rfl) | (refine And.intro (show chk [] [] _ _ = true by kernel_rfl) ?_))
          refine q_loopT (i + 1, _) ⟨by dsimp only; omega, by dsimp only; simp; omega, hI⟩ (by dsimp only; omega) ?_
          exact by_less

theorem ok_pseen (e : Engine) (at_ : Int) (hs : e.Sm) (hk : Srt Chain.key e.chains) : FnOk Try.prog 6 [.d (.agg e.enc), .d (dint at_)] (.tup [encRows (seenE e at_).1, dint (seenE e at_).2]) := by
  refine fnOk_of tbl_ok mixed_ok Try.func6 rfl (by kernel_rfl) rfl rfl fun w0 own0 => ?_
  have hd := hs.d
  have hb := hs.b
  have hc := ok_prows e.chains (e.base + at_) (by have := hs.c; omega) (fun c h => by have := hs.v c h; omega) hk
  unfold seenE
  by_cases h1 : at_ < 0
  · rw [if_pos (.inl h1)]
    repeat (first | ((with_reducible apply s1); exact rfl) | (with_reducible first | apply CW.seq | apply CW.block | apply CW.region | apply CW.draw | apply CW.skip | apply CW.exit | apply CW.ret | apply q_then | apply q_then_exit | apply q_then_ret | apply q_block | apply q_block_ret | apply q_block_hit | apply q_ret | apply q_end | apply q_loop_exit | apply q_loop_ret | apply q_loopT_exit | apply q_loopT_ret | apply RW.nil) | ((with_reducible apply s3); exact rfl; exact by_k) | ((with_reducible apply s2); exact rfl; exact by_k) | ((with_reducible apply s4); exact rfl) | ((with_reducible apply s5); (first | exact by_oa); exact by_g) | ((with_reducible apply CW.cond_t); exact rfl; exact by_ks) | ((with_reducible apply CW.cond_f); exact rfl; exact by_ks) | ((with_reducible apply q_block_miss); exact rfl) | (refine And.intro (show chk [] [] _ _ = true by kernel_rfl) ?_))
    exact .two (.tmp rfl (.one (.d (.nil 2)))) (.tmp rfl (.one (.d (.refl _))))
  · by_cases h2 : (e.deeds.length : Int) < at_
    · rw [if_pos (.inr h2)]
      repeat (first | ((with_reducible apply s1); exact rfl) | (with_reducible first | apply CW.seq | apply CW.block | apply CW.region | apply CW.draw | apply CW.skip | apply CW.exit | apply CW.ret | apply q_then | apply q_then_exit | apply q_then_ret | apply q_block | apply q_block_ret | apply q_block_hit | apply q_ret | apply q_end | apply q_loop_exit | apply q_loop_ret | apply q_loopT_exit | apply q_loopT_ret | apply RW.nil) | ((with_reducible apply s3); exact rfl; exact by_k) | ((with_reducible apply s2); exact rfl; exact by_k) | ((with_reducible apply s4); exact rfl) | ((with_reducible apply s5); (first | exact by_oa); exact by_g) | ((with_reducible apply CW.cond_t); exact rfl; exact by_ks) | ((with_reducible apply CW.cond_f); exact rfl; exact by_ks) | ((with_reducible apply q_block_miss); exact rfl) | (refine And.intro (show chk [] [] _ _ = true by kernel_rfl) ?_))
      exact .two (.tmp rfl (.one (.d (.nil 2)))) (.tmp rfl (.one (.d (.refl _))))
    · rw [if_neg (by omega)]
      cases h3 : (rowsAt e.chains (e.base + at_)).2
      · rw [if_neg (by simp)]
        rw [h3] at hc
        repeat (first | ((with_reducible apply s1); exact rfl) | (with_reducible first | apply CW.seq | apply CW.block | apply CW.region | apply CW.draw | apply CW.skip | apply CW.exit | apply CW.ret | apply q_then | apply q_then_exit | apply q_then_ret | apply q_block | apply q_block_ret | apply q_block_hit | apply q_ret | apply q_end | apply q_loop_exit | apply q_loop_ret | apply q_loopT_exit | apply q_loopT_ret | apply RW.nil) | ((with_reducible apply s3); exact rfl; exact by_k) | ((with_reducible apply s2); exact rfl; exact by_k) | ((with_reducible apply s4); exact rfl) | ((with_reducible apply s5); (first | (focus ((with_reducible apply a_call); exact hc; exact rfl; (repeat (first | exact SubsE.nil | (apply SubsE.cons; exact rfl; (first | exact .d (.refl _) | exact .d (.nil _) | exact .agg rfl (.refl _) | exact .pd | exact .ptr rfl); (first | exact trivial | exact ⟨rfl, trivial⟩)))); done)) | exact by_oa); exact by_g) | ((with_reducible apply CW.cond_t); exact rfl; exact by_ks) | ((with_reducible apply CW.cond_f); exact rfl; exact by_ks) | ((with_reducible apply q_block_miss); exact rfl) | (refine And.intro (show chk [] [] _ _ = true by kernel_rfl) ?_))
        exact .two (.tmp rfl (.one (.d (.nil 2)))) (.tmp rfl (.one (.d (.refl _))))
      · rw [if_pos rfl]
        rw [h3] at hc
        repeat (first | ((with_reducible apply s1); exact rfl) | (with_reducible first | apply CW.seq | apply CW.block | apply CW.region | apply CW.draw | apply CW.skip | apply CW.exit | apply CW.ret | apply q_then | apply q_then_exit | apply q_then_ret | apply q_block | apply q_block_ret | apply q_block_hit | apply q_ret | apply q_end | apply q_loop_exit | apply q_loop_ret | apply q_loopT_exit | apply q_loopT_ret | apply RW.nil) | ((with_reducible apply s3); exact rfl; exact by_k) | ((with_reducible apply s2); exact rfl; exact by_k) | ((with_reducible apply s4); exact rfl) | ((with_reducible apply s5); (first | (focus ((with_reducible apply a_call); exact hc; exact rfl; (repeat (first | exact SubsE.nil | (apply SubsE.cons; exact rfl; (first | exact .d (.refl _) | exact .d (.nil _) | exact .agg rfl (.refl _) | exact .pd | exact .ptr rfl); (first | exact trivial | exact ⟨rfl, trivial⟩)))); done)) | exact by_oa); exact by_g) | ((with_reducible apply CW.cond_t); exact rfl; exact by_ks) | ((with_reducible apply CW.cond_f); exact rfl; exact by_ks) | ((with_reducible apply q_block_miss); exact rfl) | (refine And.intro (show chk [] [] _ _ = true by kernel_rfl) ?_))
        exact .two (.tmp rfl (.one (.d (.refl _)))) (.tmp rfl (.one (.d (.refl _))))

def pclearE (e : Engine) : Engine := ⟨pclear (e.base + markN e.state) e.chains, e.deeds.drop (markN e.state), e.state.drop (markN e.state), e.ends.drop (markN e.state), e.base + markN e.state⟩

theorem ok_pclearE (e : Engine) (hs : e.Sm) (h1 : e.state.length = e.deeds.length) (h2 : e.ends.length = e.deeds.length) : FnOk Try.prog 13 [.d (.agg e.enc)] (.one (.agg (pclearE e).enc)) := by
  refine fnOk_of tbl_ok mixed_ok Try.func13 rfl (by kernel_rfl) rfl rfl fun w0 own0 => ?_
  have ho := ok_planOwn e hs
  have hm := ok_tmark e hs.s
  have hml := markN_le e.state
  have hd := hs.d
  have hb := hs.b
  have hc := ok_pclear e.chains (e.base + markN e.state) (by have := hs.c; omega) (fun c h => by have := hs.v c h; omega)
  repeat (first | ((with_reducible apply s1); exact rfl) | (with_reducible first | apply CW.seq | apply CW.block | apply CW.region | apply CW.draw | apply CW.skip | apply CW.exit | apply CW.ret | apply q_then | apply q_then_exit | apply q_then_ret | apply q_block | apply q_block_ret | apply q_block_hit | apply q_ret | apply q_end | apply q_loop_exit | apply q_loop_ret | apply q_loopT_exit | apply q_loopT_ret | apply RW.nil) | ((with_reducible apply s3); exact rfl; exact by_k) | ((with_reducible apply s2); exact rfl; exact by_k) | ((with_reducible apply s4); exact rfl) | ((with_reducible apply s5); (first | (focus ((with_reducible apply a_call); exact ho; exact rfl; (repeat (first | exact SubsE.nil | (apply SubsE.cons; exact rfl; (first | exact .d (.refl _) | exact .d (.nil _) | exact .agg rfl (.refl _) | exact .pd | exact .ptr rfl); (first | exact trivial | exact ⟨rfl, trivial⟩)))); done)) | (focus ((with_reducible apply a_call); exact hm; exact rfl; (repeat (first | exact SubsE.nil | (apply SubsE.cons; exact rfl; (first | exact .d (.refl _) | exact .d (.nil _) | exact .agg rfl (.refl _) | exact .pd | exact .ptr rfl); (first | exact trivial | exact ⟨rfl, trivial⟩)))); done)) | (focus ((with_reducible apply a_call); exact hc; exact rfl; (repeat (first | exact SubsE.nil | (apply SubsE.cons; exact rfl; (first | exact .d (.refl _) | exact .d (.nil _) | exact .agg rfl (.refl _) | exact .pd | exact .ptr rfl); (first | exact trivial | exact ⟨rfl, trivial⟩)))); done)) | exact by_oa); exact by_g) | ((with_reducible apply CW.cond_t); exact rfl; exact by_ks) | ((with_reducible apply CW.cond_f); exact rfl; exact by_ks) | ((with_reducible apply q_block_miss); exact rfl) | (refine And.intro (show chk [] [] _ _ = true by kernel_rfl) ?_))
  exact .one (.cell rfl rfl rfl rfl (.aggd (ds := [encChains (pclear (e.base + markN e.state) e.chains), .sl 3 ((e.deeds.map Deed.enc).drop (markN e.state)), .sl 1 ((e.state.map encInt1).drop (markN e.state)), .sl 5 ((e.ends.map Done.enc).drop (markN e.state)), dint (e.base + markN e.state)]) rfl
    (dle_eq (by simp [pclearE, Engine.enc, encDeeds, encInts, encEnds]))))

end Go.Proofs.Ytpgmolgkofgkoaa

/-! F4 -/
/-
  Contract of the references' WrongRows.
-/
namespace Go.Proofs.Ytpgmolgkofgkoaa
open Go.AX Go.RF

set_option maxRecDepth 100000
set_option maxHeartbeats 4000000

theorem ok_wrongRows (l : List Pair) (hl : l.length ≤ 268435456) (hk : ∀ p ∈ l, p.key.length ≤ 1073741824) : FnOk Try.prog 4 [.d (encRows l)] (.one (dint (wrongRows l))) := by
  refine fnOk_of tbl_ok mixed_ok Try.func4 rfl (by kernel_rfl) rfl rfl fun w0 own0 => ?_
  repeat (first | ((with_reducible apply s1); exact rfl) | (with_reducible first | apply CW.seq | apply CW.block | apply CW.region | apply CW.draw | apply CW.skip | apply CW.exit | apply CW.ret | apply q_then | apply q_then_exit | apply q_then_ret | apply q_block | apply q_block_ret | apply q_block_hit | apply q_ret | apply q_end | apply q_loop_exit | apply q_loop_ret | apply q_loopT_exit | apply q_loopT_ret | apply RW.nil) | ((with_reducible apply s3); exact rfl; exact by_k) | ((with_reducible apply s2); exact rfl; exact by_k) | ((with_reducible apply s4); exact rfl) | ((with_reducible apply s5); (first | exact by_oa); exact by_g) | ((with_reducible apply CW.cond_t); exact rfl; exact by_ks) | ((with_reducible apply CW.cond_f); exact rfl; exact by_ks) | ((with_reducible apply q_block_miss); exact rfl) | (refine And.intro (show chk [] [] _ _ = true by kernel_rfl) ?_))
  refine CW.loopT (fun t : Nat × Str => [(.s 3, .av (.d (dstr t.2))), (.s 6, .av (.d (encRows l))), (.s 7, .av (.d (dint l.length))), (.s 8, .av (.d (dint t.1))), (.nx, .num 0)])
    (fun t => t.1 ≤ l.length ∧ wrongRowsGo t.1 t.2 (l.drop t.1) = wrongRows l) (fun t => l.length - t.1) (0, []) ⟨by omega, rfl⟩ ?_ ?_
  ·
    exact by_less
  · rintro ⟨i, last⟩ ⟨hi, hI⟩
    dsimp only at hi hI ⊢
    rcases drop_case hi with ⟨h1, h2⟩ | ⟨p, h1, h2, h3⟩
    · rw [h1] at hI
      simp only [wrongRowsGo] at hI
      repeat (first | ((with_reducible apply s1); exact rfl) | (with_reducible first | apply CW.seq | apply CW.block | apply CW.region | apply CW.draw | apply CW.skip | apply CW.exit | apply CW.ret | apply q_then | apply q_then_exit | apply q_then_ret | apply q_block | apply q_block_ret | apply q_block_hit | apply q_ret | apply q_end | apply q_loop_exit | apply q_loop_ret | apply q_loopT_exit | apply q_loopT_ret | apply RW.nil) | ((with_reducible apply s3); exact rfl; exact by_k) | ((with_reducible apply s2); exact rfl; exact by_k) | ((with_reducible apply s4); exact rfl) | ((with_reducible apply s5); (first | exact by_oa); exact by_g) | ((with_reducible apply CW.cond_t); exact rfl; exact by_ks) | ((with_reducible apply CW.cond_f); exact rfl; exact by_ks) | ((with_reducible apply q_block_miss); exact rfl) | (refine And.intro (show chk [] [] _ _ = true by kernel_rfl) ?_))
      exact .one (.tmp rfl (.one (.d (dle_int hI))))
    · rw [h1] at hI
      simp only [wrongRowsGo] at hI
      have hc := ok_key p.key (hk p (List.mem_of_getElem? h2))
      cases h4 : key p.key
      · rw [if_pos h4] at hI
        repeat (first | ((with_reducible apply s1); exact rfl) | (with_reducible first | apply CW.seq | apply CW.block | apply CW.region | apply CW.draw | apply CW.skip | apply CW.exit | apply CW.ret | apply q_then | apply q_then_exit | apply q_then_ret | apply q_block | apply q_block_ret | apply q_block_hit | apply q_ret | apply q_end | apply q_loop_exit | apply q_loop_ret | apply q_loopT_exit | apply q_loopT_ret | apply RW.nil) | ((with_reducible apply s3); exact rfl; exact by_k) | ((with_reducible apply s2); exact rfl; exact by_k) | ((with_reducible apply s4); exact rfl) | ((with_reducible apply s5); (first | (focus ((with_reducible apply a_call); exact hc; exact rfl; (repeat (first | exact SubsE.nil | (apply SubsE.cons; exact rfl; (first | exact .d (.refl _) | exact .d (.nil _) | exact .agg rfl (.refl _) | exact .pd | exact .ptr rfl); (first | exact trivial | exact ⟨rfl, trivial⟩)))); done)) | exact by_oa); exact by_g) | ((with_reducible apply CW.cond_t); exact rfl; exact by_ks) | ((with_reducible apply CW.cond_f); exact rfl; exact by_ks) | ((with_reducible apply q_block_miss); exact rfl) | (refine And.intro (show chk [] [] _ _ = true by kernel_rfl) ?_))
        exact .one (.tmp rfl (.one (.d (dle_int hI))))
      · rw [if_neg (by simp [h4])] at hI
        by_cases h5 : 0 < i
        · cases h6 : sle p.key last
          · rw [if_neg (by simp [h6])] at hI
            have h6' : (Go.Op.bytesLess p.key last || decide (p.key = last)) = false := h6
            by_cases h7 : 1073741824 < p.n
            · rw [if_pos (.inl h7)] at hI
              repeat (first | ((with_reducible apply s1); exact rfl) | (with_reducible first | apply CW.seq | apply CW.block | apply CW.region | apply CW.draw | apply CW.skip | apply CW.exit | apply CW.ret | apply q_then | apply q_then_exit | apply q_then_ret | apply q_block | apply q_block_ret | apply q_block_hit | apply q_ret | apply q_end | apply q_loop_exit | apply q_loop_ret | apply q_loopT_exit | apply q_loopT_ret | apply RW.nil) | ((with_reducible apply s3); exact rfl; exact by_k) | ((with_reducible apply s2); exact rfl; exact by_k) | ((with_reducible apply s4); exact rfl) | ((with_reducible apply s5); (first | (focus ((with_reducible apply a_call); exact hc; exact rfl; (repeat (first | exact SubsE.nil | (apply SubsE.cons; exact rfl; (first | exact .d (.refl _) | exact .d (.nil _) | exact .agg rfl (.refl _) | exact .pd | exact .ptr rfl); (first | exact trivial | exact ⟨rfl, trivial⟩)))); done)) | exact by_oa); exact by_g) | ((with_reducible apply CW.cond_t); exact rfl; exact by_ks) | ((with_reducible apply CW.cond_f); exact rfl; exact by_ks) | ((with_reducible apply q_block_miss); exact rfl) | (refine And.intro (show chk [] [] _ _ = true by kernel_rfl) ?_))
              exact .one (.tmp rfl (.one (.d (dle_int hI))))
            · by_cases h8 : p.n < -1073741824
              · rw [if_pos (.inr h8)] at hI
                repeat (first | ((with_reducible apply s1); exact rfl) | (with_reducible first | apply CW.seq | apply CW.block | apply CW.region | apply CW.draw | apply CW.skip | apply CW.exit | apply CW.ret | apply q_then | apply q_then_exit | apply q_then_ret | apply q_block | apply q_block_ret | apply q_block_hit | apply q_ret | apply q_end | apply q_loop_exit | apply q_loop_ret | apply q_loopT_exit | apply q_loopT_ret | apply RW.nil) | ((with_reducible apply s3); exact rfl; exact by_k) | ((with_reducible apply s2); exact rfl; exact by_k) | ((with_reducible apply s4); exact rfl) | ((with_reducible apply s5); (first | (focus ((with_reducible apply a_call); exact hc; exact rfl; (repeat (first | exact SubsE.nil | (apply SubsE.cons; exact rfl; (first | exact .d (.refl _) | exact .d (.nil _) | exact .agg rfl (.refl _) | exact .pd | exact .ptr rfl); (first | exact trivial | exact ⟨rfl, trivial⟩)))); done)) | exact by_oa); exact by_g) | ((with_reducible apply CW.cond_t); exact rfl; exact by_ks) | ((with_reducible apply CW.cond_f); exact rfl; exact by_ks) | ((with_reducible apply q_block_miss); exact rfl) | (refine And.intro (show chk [] [] _ _ = true by kernel_rfl) ?_))
                exact .one (.tmp rfl (.one (.d (dle_int hI))))
              · rw [if_neg (by omega)] at hI
                repeat (first | ((with_reducible apply s1); exact rfl) | (with_reducible first | apply CW.seq | apply CW.block | apply CW.region | apply CW.draw | apply CW.skip | apply CW.exit | apply CW.ret | apply q_then | apply q_then_exit | apply q_then_ret | apply q_block | apply q_block_ret | apply q_block_hit | apply q_ret | apply q_end | apply q_loop_exit | apply q_loop_ret | apply q_loopT_exit | apply q_loopT_ret | apply RW.nil) | ((with_reducible apply s3); exact rfl; exact by_k) | ((with_reducible apply s2); exact rfl; exact by_k) | ((with_reducible apply s4); exact rfl) | ((with_reducible apply s5); (first | (focus ((with_reducible apply a_call); exact hc; exact rfl; (repeat (first | exact SubsE.nil | (apply SubsE.cons; exact rfl; (first | exact .d (.refl _) | exact .d (.nil _) | exact .agg rfl (.refl _) | exact .pd | exact .ptr rfl); (first | exact trivial | exact ⟨rfl, trivial⟩)))); done)) | exact by_oa); exact by_g) | ((with_reducible apply CW.cond_t); exact rfl; exact by_ks) | ((with_reducible apply CW.cond_f); exact rfl; exact by_ks) | ((with_reducible apply q_block_miss); exact rfl) | (refine And.intro (show chk [] [] _ _ = true by kernel_rfl) ?_))
                refine q_loopT (i + 1, _) ⟨by omega, hI⟩ (by dsimp only; omega) ?_
                exact by_less
          · rw [if_pos ⟨h5, h6⟩] at hI
            have h6' : (Go.Op.bytesLess p.key last || decide (p.key = last)) = true := h6
            repeat (first | ((with_reducible apply s1); exact rfl) | (with_reducible first | apply CW.seq | apply CW.block | apply CW.region | apply CW.draw | apply CW.skip | apply CW.exit | apply CW.ret | apply q_then | apply q_then_exit | apply q_then_ret | apply q_block | apply q_block_ret | apply q_block_hit | apply q_ret | apply q_end | apply q_loop_exit | apply q_loop_ret | apply q_loopT_exit | apply q_loopT_ret | apply RW.nil) | ((with_reducible apply s3); exact rfl; exact by_k) | ((with_reducible apply s2); exact rfl; exact by_k) | ((with_reducible apply s4); exact rfl) | ((with_reducible apply s5); (first | (focus ((with_reducible apply a_call); exact hc; exact rfl; (repeat (first | exact SubsE.nil | (apply SubsE.cons; exact rfl; (first | exact .d (.refl _) | exact .d (.nil _) | exact .agg rfl (.refl _) | exact .pd | exact .ptr rfl); (first | exact trivial | exact ⟨rfl, trivial⟩)))); done)) | exact by_oa); exact by_g) | ((with_reducible apply CW.cond_t); exact rfl; exact by_ks) | ((with_reducible apply CW.cond_f); exact rfl; exact by_ks) | ((with_reducible apply q_block_miss); exact rfl) | (refine And.intro (show chk [] [] _ _ = true by kernel_rfl) ?_))
            exact .one (.tmp rfl (.one (.d (dle_int hI))))
        · rw [if_neg (by simp; omega)] at hI
          by_cases h7 : 1073741824 < p.n
          · rw [if_pos (.inl h7)] at hI
            repeat (first | ((with_reducible apply s1); exact rfl) | (with_reducible first | apply CW.seq | apply CW.block | apply CW.region | apply CW.draw | apply CW.skip | apply CW.exit | apply CW.ret | apply q_then | apply q_then_exit | apply q_then_ret | apply q_block | apply q_block_ret | apply q_block_hit | apply q_ret | apply q_end | apply q_loop_exit | apply q_loop_ret | apply q_loopT_exit | apply q_loopT_ret | apply RW.nil) | ((with_reducible apply s3); exact rfl; exact by_k) | ((with_reducible apply s2); exact rfl; exact by_k) | ((with_reducible apply s4); exact rfl) | ((with_reducible apply s5); (first | (focus ((with_reducible apply a_call); exact hc; exact rfl; (repeat (first | exact SubsE.nil | (apply SubsE.cons; exact rfl; (first | exact .d (.refl _) | exact .d (.nil _) | exact .agg rfl (.refl _) | exact .pd | exact .ptr rfl); (first | exact trivial | exact ⟨rfl, trivial⟩)))); done)) | exact by_oa); exact by_g) | ((with_reducible apply CW.cond_t); exact rfl; exact by_ks) | ((with_reducible apply CW.cond_f); exact rfl; exact by_ks) | ((with_reducible apply q_block_miss); exact rfl) | (refine And.intro (show chk [] [] _ _ = true by kernel_rfl) ?_))
            exact .one (.tmp rfl (.one (.d (dle_int hI))))
          · by_cases h8 : p.n < -1073741824
            · rw [if_pos (.inr h8)] at hI
              repeat (first | ((with_reducible apply s1); exact rfl) | (with_reducible first | apply CW.seq | apply CW.block | apply CW.region | apply CW.draw | apply CW.skip | apply CW.exit | apply CW.ret | apply q_then | apply q_then_exit | apply q_then_ret | apply q_block | apply q_block_ret | apply q_block_hit | apply q_ret | apply q_end | apply q_loop_exit | apply q_loop_ret | apply q_loopT_exit | apply q_loopT_ret | apply RW.nil) | ((with_reducible apply s3); exact rfl; exact by_k) | ((with_reducible apply s2); exact rfl; exact by_k) | ((with_reducible apply s4); exact rfl) | ((with_reducible apply s5); (first | (focus ((with_reducible apply a_call); exact hc; exact rfl; (repeat (first | exact SubsE.nil | (apply SubsE.cons; exact rfl; (first | exact .d (.refl _) | exact .d (.nil _) | exact .agg rfl (.refl _) | exact .pd | exact .ptr rfl); (first | exact trivial | exact ⟨rfl, trivial⟩)))); done)) | exact by_oa); exact by_g) | ((with_reducible apply CW.cond_t); exact rfl; exact by_ks) | ((with_reducible apply CW.cond_f); exact rfl; exact by_ks) | ((with_reducible apply q_block_miss); exact rfl) | (refine And.intro (show chk [] [] _ _ = true by kernel_rfl) ?_))
              exact .one (.tmp rfl (.one (.d (dle_int hI))))
            · rw [if_neg (by omega)] at hI
              repeat (first | ((with_reducible apply s1); exact rfl) | (with_reducible first | apply CW.seq | apply CW.block | apply CW.region | apply CW.draw | apply CW.skip | apply CW.exit | apply CW.ret | apply q_then | apply q_then_exit | apply q_then_ret | apply q_block | apply q_block_ret | apply q_block_hit | apply q_ret | apply q_end | apply q_loop_exit | apply q_loop_ret | apply q_loopT_exit | apply q_loopT_ret | apply RW.nil) | ((with_reducible apply s3); exact rfl; exact by_k) | ((with_reducible apply s2); exact rfl; exact by_k) | ((with_reducible apply s4); exact rfl) | ((with_reducible apply s5); (first | (focus ((with_reducible apply a_call); exact hc; exact rfl; (repeat (first | exact SubsE.nil | (apply SubsE.cons; exact rfl; (first | exact .d (.refl _) | exact .d (.nil _) | exact .agg rfl (.refl _) | exact .pd | exact .ptr rfl); (first | exact trivial | exact ⟨rfl, trivial⟩)))); done)) | exact by_oa); exact by_g) | ((with_reducible apply CW.cond_t); exact rfl; exact by_ks) | ((with_reducible apply CW.cond_f); exact rfl; exact by_ks) | ((with_reducible apply q_block_miss); exact rfl) | (refine And.intro (show chk [] [] _ _ = true by kernel_rfl) ?_))
              refine q_loopT (i + 1, _) ⟨by omega, hI⟩ (by dsimp only; omega) ?_
              exact by_less

end Go.Proofs.Ytpgmolgkofgkoaa

/-! L1 -/
/-
  The law TidyTells answers true of whatever data.
-/
namespace Go.Proofs.Ytpgmolgkofgkoaa
open Go.AX Go.RF

set_option maxRecDepth 100000
set_option maxHeartbeats 8000000

theorem pclearE_eq {e : Engine} (h : SInv e) : pclearE e = clearE e := by
  unfold pclearE clearE
  rw [pclear_eq h.v]

theorem sumLen_eq (bs : List (List Deed)) : sumLen bs = (bs.map List.length).sum := by
  induction bs with
  | nil => rfl
  | cons b bs ih => simp [sumLen, ih]
theorem rowsAtGo_len {l0 : List Chain} {b : Int} : ∀ (l : List Chain) (out : List Pair), (rowsAtGo l0 b out l).1.length ≤ out.length + l.length
  | [], out => by simp [rowsAtGo]
  | c :: l, out => by
    simp only [rowsAtGo]
    split
    · simp
    split
    · have := rowsAtGo_len (l0 := l0) (b := b) l (out ++ [⟨c.key, (before l0 c.key b).n⟩]); simp at this ⊢; omega
    · have := rowsAtGo_len (l0 := l0) (b := b) l out; simp at this ⊢; omega
theorem rowsAt_len (l : List Chain) (b : Int) : (rowsAt l b).1.length ≤ l.length := by
  have := rowsAtGo_len (l0 := l) (b := b) l []
  unfold rowsAt
  simpa using this
theorem seenE_len (e : Engine) (at_ : Int) : (seenE e at_).1.length ≤ e.chains.length := by
  unfold seenE
  split
  · simp
  split
  · exact rowsAt_len _ _
  · simp

theorem ok_TidyTells (r : List Pair) (bs : List (List Deed)) (p : List Int) (at_ : Int) (hrl : r.length ≤ 1048576) (hrk : ∀ q ∈ r, q.key.length ≤ 1073741824) (hb : ∀ b ∈ bs, b.length ≤ 1048576 ∧ ∀ d ∈ b, d.Sm) (hbl : bs.length ≤ 1048576) (hsum : sumLen bs ≤ 1048576) (hp : p.length ≤ 1048576) :
    FnOk Try.prog 3 [.d (encRows r), .d (encBatches bs), .d (encInts p), .d (dint at_)] (.one (dbool true)) := by
  refine fnOk_of tbl_ok mixed_ok Try.func3 rfl (by kernel_rfl) rfl rfl fun w0 own0 => ?_
  have c1 := ok_wrongRows r (by omega) hrk
  by_cases hw : wrongRows r = 0
  · obtain ⟨hsrt, _, hok⟩ := wrongRows_srt hw
    have c2 := ok_build r bs p hok (by omega) (fun b h => ⟨by have := (hb b h).1; omega, (hb b h).2⟩) (by omega) (by omega) (by omega)
    have hE : EInv (buildE r bs p) (r.length + 1 + 5 * sumLen bs) := EInv.buildGo (p := p) (newE_inv hok) (fun b h => (hb b h).2)
    have hS := build_srt hw bs p
    generalize buildE r bs p = e at c2 hE hS
    have hz := hE.z.sm (by omega)
    have hz2 := hE.clearE.z.sm (by omega)
    have c3 := ok_pseen e at_ hz hS.k
    have c4 := ok_seen e at_ hz
    have c5 := ok_tmark e hz.s
    have c6 := ok_mark e hz.s
    have c7 := ok_size e hz
    have c8 := ok_pclearE e hz hE.z.s hE.z.n
    rw [pclearE_eq hS] at c8
    have c9 := ok_clearE e hz hE.z.s hE.z.n
    have c10 := ok_sameE (clearE e) (clearE e) hz2
    rw [sameE_refl] at c10
    have hc := hz.c
    have c11 := ok_SameRows (seenE e at_).1 (seenE e at_).1 (by have := seenE_len e at_; omega)
    rw [allB_refl (by simp)] at c11
    repeat (first | ((with_reducible apply s1); exact rfl) | (with_reducible first | apply CW.seq | apply CW.block | apply CW.region | apply CW.draw | apply CW.skip | apply CW.exit | apply CW.ret | apply q_then | apply q_then_exit | apply q_then_ret | apply q_block | apply q_block_ret | apply q_block_hit | apply q_ret | apply q_end | apply q_loop_exit | apply q_loop_ret | apply q_loopT_exit | apply q_loopT_ret | apply RW.nil) | ((with_reducible apply s3); exact rfl; exact by_k) | ((with_reducible apply s2); exact rfl; exact by_k) | ((with_reducible apply s4); exact rfl) | ((with_reducible apply s5); (first | (focus ((with_reducible apply a_call); exact c1; exact rfl; (repeat (first | exact SubsE.nil | (apply SubsE.cons; exact rfl; (first | exact .d (.refl _) | exact .d (.nil _) | exact .agg rfl (.refl _) | exact .pd | exact .ptr rfl); (first | exact trivial | exact ⟨rfl, trivial⟩)))); done)) | (focus ((with_reducible apply a_call); exact c2; exact rfl; (repeat (first | exact SubsE.nil | (apply SubsE.cons; exact rfl; (first | exact .d (.refl _) | exact .d (.nil _) | exact .agg rfl (.refl _) | exact .pd | exact .ptr rfl); (first | exact trivial | exact ⟨rfl, trivial⟩)))); done)) | exact by_oa); exact by_g) | ((with_reducible apply CW.cond_t); exact rfl; exact by_ks) | ((with_reducible apply CW.cond_f); exact rfl; exact by_ks) | ((with_reducible apply q_block_miss); exact rfl) | (refine And.intro (show chk [] [] _ _ = true by kernel_rfl) ?_))
    refine CW.loopT (fun t : Nat × Int => [sd 3 (dint at_), sp 9 0, ob 0 e.enc, sd 10 (dint t.2), sd 25 (encChains e.chains), sd 26 (dint e.chains.length), sd 27 (dint t.1), nxt 1])
      (fun t => t.1 ≤ e.chains.length ∧ (0 ≤ t.2 ∧ t.2 ≤ 134217728 * t.1) ∧ sizeGo t.2 (e.chains.drop t.1) = sizeGo 0 e.chains) (fun t => e.chains.length - t.1) (0, 0) ⟨by omega, by simp, rfl⟩ ?_ ?_
    ·
      exact by_less
    · rintro ⟨i, n⟩ ⟨hi, hn, hI⟩
      dsimp only at hi hn hI ⊢
      rcases drop_case hi with ⟨h1, h2⟩ | ⟨c, h1, h2, h3⟩
      · rw [h1] at hI
        simp only [sizeGo] at hI
        rw [hI]
        repeat (first | ((with_reducible apply s1); exact rfl) | (with_reducible first | apply CW.seq | apply CW.block | apply CW.region | apply CW.draw | apply CW.skip | apply CW.exit | apply CW.ret | apply q_then | apply q_then_exit | apply q_then_ret | apply q_block | apply q_block_ret | apply q_block_hit | apply q_ret | apply q_end | apply q_loop_exit | apply q_loop_ret | apply q_loopT_exit | apply q_loopT_ret | apply RW.nil) | ((with_reducible apply s3); exact rfl; exact by_k) | ((with_reducible apply s2); exact rfl; exact by_k) | ((with_reducible apply s4); exact rfl) | ((with_reducible apply s5); (first | (focus ((with_reducible apply a_call); exact c3; exact rfl; (repeat (first | exact SubsE.nil | (apply SubsE.cons; exact rfl; (first | exact .d (.refl _) | exact .d (.nil _) | exact .agg rfl (.refl _) | exact .pd | exact .ptr rfl); (first | exact trivial | exact ⟨rfl, trivial⟩)))); done)) | (focus ((with_reducible apply a_call); exact c4; exact rfl; (repeat (first | exact SubsE.nil | (apply SubsE.cons; exact rfl; (first | exact .d (.refl _) | exact .d (.nil _) | exact .agg rfl (.refl _) | exact .pd | exact .ptr rfl); (first | exact trivial | exact ⟨rfl, trivial⟩)))); done)) | (focus ((with_reducible apply a_call); exact c5; exact rfl; (repeat (first | exact SubsE.nil | (apply SubsE.cons; exact rfl; (first | exact .d (.refl _) | exact .d (.nil _) | exact .agg rfl (.refl _) | exact .pd | exact .ptr rfl); (first | exact trivial | exact ⟨rfl, trivial⟩)))); done)) | (focus ((with_reducible apply a_call); exact c6; exact rfl; (repeat (first | exact SubsE.nil | (apply SubsE.cons; exact rfl; (first | exact .d (.refl _) | exact .d (.nil _) | exact .agg rfl (.refl _) | exact .pd | exact .ptr rfl); (first | exact trivial | exact ⟨rfl, trivial⟩)))); done)) | (focus ((with_reducible apply a_call); exact c7; exact rfl; (repeat (first | exact SubsE.nil | (apply SubsE.cons; exact rfl; (first | exact .d (.refl _) | exact .d (.nil _) | exact .agg rfl (.refl _) | exact .pd | exact .ptr rfl); (first | exact trivial | exact ⟨rfl, trivial⟩)))); done)) | (focus ((with_reducible apply a_call); exact c8; exact rfl; (repeat (first | exact SubsE.nil | (apply SubsE.cons; exact rfl; (first | exact .d (.refl _) | exact .d (.nil _) | exact .agg rfl (.refl _) | exact .pd | exact .ptr rfl); (first | exact trivial | exact ⟨rfl, trivial⟩)))); done)) | (focus ((with_reducible apply a_call); exact c9; exact rfl; (repeat (first | exact SubsE.nil | (apply SubsE.cons; exact rfl; (first | exact .d (.refl _) | exact .d (.nil _) | exact .agg rfl (.refl _) | exact .pd | exact .ptr rfl); (first | exact trivial | exact ⟨rfl, trivial⟩)))); done)) | (focus ((with_reducible apply a_call); exact c10; exact rfl; (repeat (first | exact SubsE.nil | (apply SubsE.cons; exact rfl; (first | exact .d (.refl _) | exact .d (.nil _) | exact .agg rfl (.refl _) | exact .pd | exact .ptr rfl); (first | exact trivial | exact ⟨rfl, trivial⟩)))); done)) | (focus ((with_reducible apply a_call); exact c11; exact rfl; (repeat (first | exact SubsE.nil | (apply SubsE.cons; exact rfl; (first | exact .d (.refl _) | exact .d (.nil _) | exact .agg rfl (.refl _) | exact .pd | exact .ptr rfl); (first | exact trivial | exact ⟨rfl, trivial⟩)))); done)) | exact by_oa); exact by_g) | ((with_reducible apply CW.cond_t); exact rfl; exact by_ks) | ((with_reducible apply CW.cond_f); exact rfl; exact by_ks) | ((with_reducible apply q_block_miss); exact rfl) | (refine And.intro (show chk [] [] _ _ = true by kernel_rfl) ?_))
        exact .one (.tmp rfl (.one (.d (.refl _))))
      · rw [h1] at hI
        simp only [sizeGo] at hI
        have hv := hz.v c (List.mem_of_getElem? h2)
        repeat (first | ((with_reducible apply s1); exact rfl) | (with_reducible first | apply CW.seq | apply CW.block | apply CW.region | apply CW.draw | apply CW.skip | apply CW.exit | apply CW.ret | apply q_then | apply q_then_exit | apply q_then_ret | apply q_block | apply q_block_ret | apply q_block_hit | apply q_ret | apply q_end | apply q_loop_exit | apply q_loop_ret | apply q_loopT_exit | apply q_loopT_ret | apply RW.nil) | ((with_reducible apply s3); exact rfl; exact by_k) | ((with_reducible apply s2); exact rfl; exact by_k) | ((with_reducible apply s4); exact rfl) | ((with_reducible apply s5); (first | exact by_oa); exact by_g) | ((with_reducible apply CW.cond_t); exact rfl; exact by_ks) | ((with_reducible apply CW.cond_f); exact rfl; exact by_ks) | ((with_reducible apply q_block_miss); exact rfl) | (refine And.intro (show chk [] [] _ _ = true by kernel_rfl) ?_))
        refine q_loopT (i + 1, n + c.vs.length) ⟨by dsimp only; omega, by dsimp only; omega, hI⟩ (by dsimp only; omega) ?_
        exact by_less
  ·
    repeat (first | ((with_reducible apply s1); exact rfl) | (with_reducible first | apply CW.seq | apply CW.block | apply CW.region | apply CW.draw | apply CW.skip | apply CW.exit | apply CW.ret | apply q_then | apply q_then_exit | apply q_then_ret | apply q_block | apply q_block_ret | apply q_block_hit | apply q_ret | apply q_end | apply q_loop_exit | apply q_loop_ret | apply q_loopT_exit | apply q_loopT_ret | apply RW.nil) | ((with_reducible apply s3); exact rfl; exact by_k) | ((with_reducible apply s2); exact rfl; exact by_k) | ((with_reducible apply s4); exact rfl) | ((with_reducible apply s5); (first | (focus ((with_reducible apply a_call); exact c1; exact rfl; (repeat (first | exact SubsE.nil | (apply SubsE.cons; exact rfl; (first | exact .d (.refl _) | exact .d (.nil _) | exact .agg rfl (.refl _) | exact .pd | exact .ptr rfl); (first | exact trivial | exact ⟨rfl, trivial⟩)))); done)) | exact by_oa); exact by_g) | ((with_reducible apply CW.cond_t); exact rfl; exact by_ks) | ((with_reducible apply CW.cond_f); exact rfl; exact by_ks) | ((with_reducible apply q_block_miss); exact rfl) | (refine And.intro (show chk [] [] _ _ = true by kernel_rfl) ?_))
    exact .one (.tmp rfl (.one (.d (.refl _))))

end Go.Proofs.Ytpgmolgkofgkoaa
