/-
  Part 6 of what the claim leans on: G10 G19 P7 F4 L1 L6.
-/
import Derived.Test.YtjopijlkpipljaaK5

/-! G10 -/
/-
  Contract of the program's Set of chains.
-/
namespace Go.Proofs.Ytjopijlkpipljaa
open Go.AX Go.RF

set_option maxRecDepth 100000
set_option maxHeartbeats 8000000

theorem setV_false (v w : Version) : setV false v w = w := by simp [setV]
theorem setC_ne {k : Str} {v : Version} {c : Chain} (h : c.key ≠ k) : setC k v c = c := by
  unfold setC
  rw [decide_eq_false h]
  have : c.vs.map (setV false v) = c.vs := by
    rw [show setV false v = id from funext fun w => setV_false v w]; simp
  rw [this]
theorem set_found {k : Str} {v : Version} {l : List Chain} {m : Nat} {c : Chain} (hs : Srt Chain.key l) (hc : l[m]? = some c) (hk : c.key = k) : setChains l k v = l.set m ⟨c.key, c.vs.map (setV true v)⟩ := by
  apply List.ext_getElem?
  intro j
  unfold setChains
  rw [List.getElem?_map]
  by_cases hj : m = j
  · subst hj
    rw [List.getElem?_set_self (List.getElem?_eq_some_iff.1 hc).1, hc]
    simp [setC, hk]
  · rw [List.getElem?_set_ne hj]
    cases hd : l[j]? with
    | none => rfl
    | some d =>
      have : d.key ≠ k := by rw [← hk]; exact hs.ne hd hc fun e => hj e.symm
      simp [setC_ne this]
theorem set_none {k : Str} {v : Version} {l : List Chain} {m : Nat} (hs : Srt Chain.key l) (hm : AtK Chain.key l k m) (hn : isAtK Chain.key l k m = false) : setChains l k v = l := by
  have key : ∀ c ∈ l, setC k v c = c := fun c hc => setC_ne fun e => by
    obtain ⟨j, hj⟩ := List.getElem?_of_mem hc
    rcases Nat.lt_trichotomy j m with h | h | h
    · have := hm.lt j c hj h
      rw [e, slt_irrefl] at this; cases this
    · subst h
      rw [isAtK, hj] at hn
      simp [e] at hn
    · have hml : m < l.length := by have := (List.getElem?_eq_some_iff.1 hj).1; omega
      have hme : l[m]? = some l[m] := List.getElem?_eq_getElem hml
      have h1 := hm.ge m l[m] hme (Nat.le_refl _)
      have h2 := hs.lt hme hj h
      rw [e, h1] at h2; cases h2
  unfold setChains
  conv => rhs; rw [← List.map_id l]
  exact List.map_congr_left key

def midV (v : Version) (vs : List Version) (i : Nat) : List Version := (vs.take i).map (setV true v) ++ vs.drop i
theorem midV_at {v : Version} {vs : List Version} {i : Nat} {x : Version} (h : vs[i]? = some x) : ((midV v vs i).map Version.enc)[i]? = some x.enc ∧ ((midV v vs i).map Version.enc).set i (setV true v x).enc = (midV v vs (i + 1)).map Version.enc := by
  have hlt := (List.getElem?_eq_some_iff.1 h).1
  have h1 : vs.drop i = x :: vs.drop (i + 1) := by
    have := List.drop_eq_getElem_cons hlt
    rw [(List.getElem?_eq_some_iff.1 h).2] at this
    exact this
  have h2 : vs.take (i + 1) = vs.take i ++ [x] := by rw [List.take_add_one, h]; rfl
  have hl : ((vs.take i).map (setV true v)).length = i := by simp; omega
  unfold midV
  constructor
  · rw [List.map_append, List.getElem?_append_right (by simp; omega), h1]
    simp [Nat.min_eq_left (Nat.le_of_lt hlt)]
  · rw [h1, h2, List.map_append, List.set_append_right _ _ (by simp; omega)]
    simp [Nat.min_eq_left (Nat.le_of_lt hlt)]

theorem ok_pset (l : List Chain) (k : Str) (v : Version) (hl : l.length ≤ 268435455) (hv : ∀ c ∈ l, c.vs.length ≤ 268435455) (hs : Srt Chain.key l) :
    FnOk Try.prog 21 [.d (encChains l), .d (dstr k), .d (.agg v.enc)] (.one (encChains (setChains l k v))) := by
  refine fnOk_of tbl_ok mixed_ok Try.func21 rfl (by kernel_rfl) rfl rfl fun w0 own0 => ?_
  obtain ⟨m, hm⟩ := hs.at k
  have hml := hm.le
  have hf := ok_find l k m (by omega) hm
  have hvv : ∀ c ∈ l, c.vs.length ≤ 268435456 := fun c hc => by have := hv c hc; omega
  cases hb : isAt l k m with
  | true =>
    obtain ⟨c, hc, hck⟩ := isAt_some hb
    rw [hb] at hf
    have hmlt := (List.getElem?_eq_some_iff.1 hc).1
    have hcv := hv c (List.mem_of_getElem? hc)
    rw [set_found hs hc hck]
    have ho2 := own2_chain l m c hc (by omega) hvv
    repeat (first | (with_reducible apply stop_reg 1) | ((with_reducible apply s1); exact rfl) | (with_reducible first | apply CW.seq | apply CW.block | apply CW.region | apply CW.draw | apply CW.skip | apply CW.exit | apply CW.ret | apply q_then | apply q_then_exit | apply q_then_ret | apply q_block | apply q_block_ret | apply q_block_hit | apply q_ret | apply q_end | apply q_loop_exit | apply q_loop_ret | apply q_loopT_exit | apply q_loopT_ret | apply RW.nil) | ((with_reducible apply s3); exact rfl; exact by_k) | ((with_reducible apply s2); exact rfl; exact by_k) | ((with_reducible apply s4); exact rfl) | ((with_reducible apply s5); (first | exact by_oa); exact by_g) | ((with_reducible apply CW.cond_t); exact rfl; exact by_ks) | ((with_reducible apply CW.cond_f); exact rfl; exact by_ks) | ((with_reducible apply q_block_miss); exact rfl) | (refine And.intro (show chk [] [] _ _ = true by kernel_rfl) ?_))
    refine Stop.go (CW.seq (CW.regionS ?_))
    repeat (first | ((with_reducible apply SW.s1); exact rfl) | ((with_reducible apply SW.s5); exact by_oa; exact rfl))
    refine SW.fam rfl (fam_own2 (nx := 1) ho2 rfl rfl (.cons rfl (.d (.refl _)) trivial .nil)) fun x => ?_
    refine SW.rw ?_
    have hkl : (keptRows l m c x).length = l.length := by simp [keptRows]
    have hrow := kept_at l m c x hc
    rw [← kept_back l m c x hc] at hf
    repeat (first | (with_reducible apply stop_reg 4) | ((with_reducible apply s1); exact rfl) | (with_reducible first | apply CW.seq | apply CW.block | apply CW.region | apply CW.draw | apply CW.skip | apply CW.exit | apply CW.ret | apply q_then | apply q_then_exit | apply q_then_ret | apply q_block | apply q_block_ret | apply q_block_hit | apply q_ret | apply q_end | apply q_loop_exit | apply q_loop_ret | apply q_loopT_exit | apply q_loopT_ret | apply RW.nil) | ((with_reducible apply s3); exact rfl; exact by_k) | ((with_reducible apply s2); exact rfl; exact by_k) | ((with_reducible apply s4); exact rfl) | ((with_reducible apply s5); (first | (focus (with_reducible apply a_lend); exact hf; exact rfl; exact .pin (id2 := 2) rfl hrow rfl rfl; exact rfl; exact rfl; exact rfl; apply SubsE.cons; exact rfl; exact .d (.refl _); exact trivial; exact SubsE.nil) | exact by_oa); exact by_g) | ((with_reducible apply CW.cond_t); exact rfl; exact by_ks) | ((with_reducible apply CW.cond_f); exact rfl; exact by_ks) | ((with_reducible apply q_block_miss); exact rfl) | (refine And.intro (show chk [] [] _ _ = true by kernel_rfl) ?_))
    refine Stop.go (CW.fact (pin_slice (id := 2) rfl) ?_)
    rintro ⟨p, cp, rfl⟩
    have hmk : m < (keptRows l m c (.slice p (c.vs.map Version.enc).length cp)).length := by omega
    repeat (first | ((with_reducible apply s1); exact rfl) | (with_reducible first | apply CW.seq | apply CW.block | apply CW.region | apply CW.draw | apply CW.skip | apply CW.exit | apply CW.ret | apply q_then | apply q_then_exit | apply q_then_ret | apply q_block | apply q_block_ret | apply q_block_hit | apply q_ret | apply q_end | apply q_loop_exit | apply q_loop_ret | apply q_loopT_exit | apply q_loopT_ret | apply RW.nil) | ((with_reducible apply s3); exact rfl; exact by_k) | ((with_reducible apply s2); exact rfl; exact by_k) | ((with_reducible apply s4); exact rfl) | ((with_reducible apply s5); (first | ((with_reducible apply a_lenv); (iterate 4 exact rfl)) | exact by_oa); exact by_g) | ((with_reducible apply CW.cond_t); exact rfl; exact by_ks) | ((with_reducible apply CW.cond_f); exact rfl; exact by_ks) | ((with_reducible apply q_block_miss); exact rfl) | (refine And.intro (show chk [] [] _ _ = true by kernel_rfl) ?_))
    have hvl : (c.vs.map Version.enc).length = c.vs.length := by simp
    rw [hvl] at hrow hmk hkl ⊢
    generalize hx : Value.slice p c.vs.length cp = x at hrow hmk hkl ⊢
    refine CW.loopT (fun t : Nat => [sp 5 0, ob 0 v.enc, so 7 1 (keptRows l m c x).length, oa 1 72 2 (keptRows l m c x), (.o 2, .ob (.pin 48 4 ((midV v c.vs t).map Version.enc) x)), sd 8 (dint m), sd 25 (dint c.vs.length), sd 26 (dint t), nxt 3])
      (fun t => t ≤ c.vs.length) (fun t => c.vs.length - t) 0 (Nat.zero_le _) ?_ ?_
    ·
      exact by_less
    · rintro t ht
      rcases drop_case ht with ⟨h1, h2⟩ | ⟨y, h1, h2, h3⟩
      · subst h2
        have hmid : midV v c.vs c.vs.length = c.vs.map (setV true v) := by simp [midV]
        rw [hmid]
        repeat (first | (with_reducible apply stop_reg 10) | ((with_reducible apply s1); exact rfl) | (with_reducible first | apply CW.seq | apply CW.block | apply CW.region | apply CW.draw | apply CW.skip | apply CW.exit | apply CW.ret | apply q_then | apply q_then_exit | apply q_then_ret | apply q_block | apply q_block_ret | apply q_block_hit | apply q_ret | apply q_end | apply q_loop_exit | apply q_loop_ret | apply q_loopT_exit | apply q_loopT_ret | apply RW.nil) | ((with_reducible apply s3); exact rfl; exact by_k) | ((with_reducible apply s2); exact rfl; exact by_k) | ((with_reducible apply s4); exact rfl) | ((with_reducible apply s5); (first | exact by_oa); exact by_g) | ((with_reducible apply CW.cond_t); exact rfl; exact by_ks) | ((with_reducible apply CW.cond_f); exact rfl; exact by_ks) | ((with_reducible apply q_block_miss); exact rfl) | (refine And.intro (show chk [] [] _ _ = true by kernel_rfl) ?_))
        refine Stop.go (CW.stut (stut_fold (id := 1) (id2 := 2) (j := 1) hrow rfl) ⟨rfl, rfl, trivial⟩ ?_)
        repeat (first | ((with_reducible apply s1); exact rfl) | (with_reducible first | apply CW.seq | apply CW.block | apply CW.region | apply CW.draw | apply CW.skip | apply CW.exit | apply CW.ret | apply q_then | apply q_then_exit | apply q_then_ret | apply q_block | apply q_block_ret | apply q_block_hit | apply q_ret | apply q_end | apply q_loop_exit | apply q_loop_ret | apply q_loopT_exit | apply q_loopT_ret | apply RW.nil) | ((with_reducible apply s3); exact rfl; exact by_k) | ((with_reducible apply s2); exact rfl; exact by_k) | ((with_reducible apply s4); exact rfl) | ((with_reducible apply s5); (first | exact by_oa); exact by_g) | ((with_reducible apply CW.cond_t); exact rfl; exact by_ks) | ((with_reducible apply CW.cond_f); exact rfl; exact by_ks) | ((with_reducible apply q_block_miss); exact rfl) | (refine And.intro (show chk [] [] _ _ = true by kernel_rfl) ?_))
        refine .one (.tmp rfl (.one (.own rfl (by simp) (dle_eq ?_))))
        exact congrArg _ (kept_set l m c x (c.vs.map (setV true v)))
      · obtain ⟨hat, hset⟩ := midV_at (v := v) h2
        have hne : (midV v c.vs t).map Version.enc ≠ [] := by
          intro e
          have := congrArg List.length e
          simp [midV] at this
          omega
        refine CW.fact (pin_shape (id := 2) rfl hne) ?_
        rintro ⟨b, cp', hxe⟩
        have hml2 : ((midV v c.vs t).map Version.enc).length = c.vs.length := by simp [midV]; omega
        rw [hml2] at hxe
        subst hxe
        by_cases h4 : y.by_ = v.by_
        · have hsv : setV true v y = v := by simp [setV, h4]
          rw [hsv] at hset
          repeat (first | ((with_reducible apply s1); exact rfl) | (with_reducible first | apply CW.seq | apply CW.block | apply CW.region | apply CW.draw | apply CW.skip | apply CW.exit | apply CW.ret | apply q_then | apply q_then_exit | apply q_then_ret | apply q_block | apply q_block_ret | apply q_block_hit | apply q_ret | apply q_end | apply q_loop_exit | apply q_loop_ret | apply q_loopT_exit | apply q_loopT_ret | apply RW.nil) | ((with_reducible apply s3); exact rfl; exact by_k) | ((with_reducible apply s2); exact rfl; exact by_k) | ((with_reducible apply s4); exact rfl) | ((with_reducible apply s5); (first | ((with_reducible apply a_iav); (iterate 5 exact rfl); omega) | ((with_reducible apply a_fav); (iterate 4 exact rfl)) | ((with_reducible apply (a_lpin 2 t 0)); (iterate 4 exact rfl); exact hat; exact rfl; (first | rfl | omega)) | ((with_reducible apply (a_spin 2 t 0)); (iterate 6 exact rfl); exact hat; exact rfl; (first | rfl | omega)) | exact by_oa); exact by_g) | ((with_reducible apply CW.cond_t); exact rfl; exact by_ks) | ((with_reducible apply CW.cond_f); exact rfl; exact by_ks) | ((with_reducible apply q_block_miss); exact rfl) | (refine And.intro (show chk [] [] _ _ = true by kernel_rfl) ?_))
          refine q_loopT (t + 1) (by omega) (by omega) ?_
          dsimp only
          rw [← hset]
          exact by_less
        · have hsv : setV true v y = y := by unfold setV; rw [if_neg (by simpa using h4)]
          rw [hsv] at hset
          have hset2 : (midV v c.vs t).map Version.enc = (midV v c.vs (t + 1)).map Version.enc := by
            rw [← hset]
            refine (List.ext_getElem? fun j => ?_)
            by_cases hj : t = j
            · subst hj
              rw [List.getElem?_set_self (by rw [hml2]; exact (List.getElem?_eq_some_iff.1 h2).1), hat]
            · rw [List.getElem?_set_ne hj]
          repeat (first | ((with_reducible apply s1); exact rfl) | (with_reducible first | apply CW.seq | apply CW.block | apply CW.region | apply CW.draw | apply CW.skip | apply CW.exit | apply CW.ret | apply q_then | apply q_then_exit | apply q_then_ret | apply q_block | apply q_block_ret | apply q_block_hit | apply q_ret | apply q_end | apply q_loop_exit | apply q_loop_ret | apply q_loopT_exit | apply q_loopT_ret | apply RW.nil) | ((with_reducible apply s3); exact rfl; exact by_k) | ((with_reducible apply s2); exact rfl; exact by_k) | ((with_reducible apply s4); exact rfl) | ((with_reducible apply s5); (first | ((with_reducible apply a_iav); (iterate 5 exact rfl); omega) | ((with_reducible apply a_fav); (iterate 4 exact rfl)) | ((with_reducible apply (a_lpin 2 t 0)); (iterate 4 exact rfl); exact hat; exact rfl; (first | rfl | omega)) | exact by_oa); exact by_g) | ((with_reducible apply CW.cond_t); exact rfl; exact by_ks) | ((with_reducible apply CW.cond_f); exact rfl; exact by_ks) | ((with_reducible apply q_block_miss); exact rfl) | (refine And.intro (show chk [] [] _ _ = true by kernel_rfl) ?_))
          refine q_loopT (t + 1) (by omega) (by omega) ?_
          rw [hset2]
          exact by_less
  | false =>
    rw [hb] at hf
    have hn := new_chainOwn l (by omega) hvv
    rw [set_none hs hm hb]
    repeat (first | ((with_reducible apply s1); exact rfl) | (with_reducible first | apply CW.seq | apply CW.block | apply CW.region | apply CW.draw | apply CW.skip | apply CW.exit | apply CW.ret | apply q_then | apply q_then_exit | apply q_then_ret | apply q_block | apply q_block_ret | apply q_block_hit | apply q_ret | apply q_end | apply q_loop_exit | apply q_loop_ret | apply q_loopT_exit | apply q_loopT_ret | apply RW.nil) | ((with_reducible apply s3); exact rfl; exact by_k) | ((with_reducible apply s2); exact rfl; exact by_k) | ((with_reducible apply s4); exact rfl) | ((with_reducible apply s5); (first | (focus ((with_reducible apply a_callnew); exact hn; (iterate 2 exact rfl); (repeat (first | exact SubsE.nil | (apply SubsE.cons; exact rfl; (first | exact .d (.refl _) | exact .d (.nil _) | exact .agg rfl (.refl _) | exact .pd | exact .ptr rfl); (first | exact trivial | exact ⟨rfl, trivial⟩)))); done)) | (focus ((with_reducible apply a_lend); exact hf; exact rfl; exact .plain rfl; (focus first | exact rfl | (simp; done) | (simp; omega)); (iterate 2 exact rfl); (repeat (first | exact SubsE.nil | (apply SubsE.cons; exact rfl; (first | exact .d (.refl _) | exact .d (.nil _) | exact .agg rfl (.refl _) | exact .pd | exact .ptr rfl); (first | exact trivial | exact ⟨rfl, trivial⟩)))); done)) | exact by_oa); exact by_g) | ((with_reducible apply CW.cond_t); exact rfl; exact by_ks) | ((with_reducible apply CW.cond_f); exact rfl; exact by_ks) | ((with_reducible apply q_block_miss); exact rfl) | (refine And.intro (show chk [] [] _ _ = true by kernel_rfl) ?_))
    exact .one (.tmp rfl (.one (.own rfl (by simp) (.refl _))))

end Go.Proofs.Ytjopijlkpipljaa

/-! G19 -/
/-
  Contract of the program's Go of engines.
-/
namespace Go.Proofs.Ytjopijlkpipljaa
open Go.AX Go.RF

set_option maxRecDepth 100000
set_option maxHeartbeats 8000000

/-- The last of what was made of a key, or else what it was. -/
def pickV (k : Str) : Version → List (Str × (Bool × Int)) → Version
  | v, [] => v
  | v, c :: r => pickV k (if c.1 = k then chVer c else v) r
def madeV (cs : List Chain) (b : Int) (ch : List (Str × (Bool × Int))) (k : Str) : Version := ⟨b, true, (pickV k (before cs k b) ch).has, (pickV k (before cs k b) ch).n⟩
def pgoSets (cs0 : List Chain) (b : Int) (ch : List (Str × (Bool × Int))) : List Chain → List Str → List Chain
  | cs, [] => cs
  | cs, k :: ks => pgoSets cs0 b ch (setChains cs k (madeV cs0 b ch k)) ks
def viewE (cs : List Chain) (b : Int) (k : Str) : Int × Bool := ((before cs k b).n, (before cs k b).has)
def pgoNew (e : Engine) (A : Nat) (d : Deed) : Engine :=
  ⟨pgoSets e.chains (e.base + A) (runC (viewE e.chains (e.base + A)) d) e.chains d.writes, e.deeds, e.state.set A 1, e.ends.set A (runM (viewE e.chains (e.base + A)) d).2, e.base⟩

theorem ok_viewE (e : Engine) (b : Int) (k : Str) (hs : e.Sm) (hk : Srt Chain.key e.chains) : FnOk Try.prog 18 [.d (dstr k), .pd e.enc, .pd [dint b]] (.tup [dint (viewE e.chains b k).1, dbool (viewE e.chains b k).2]) := by
  refine fnOk_of tbl_ok mixed_ok Try.func18 rfl (by kernel_rfl) rfl rfl fun w0 own0 => ?_
  have c1 := ok_pbefore e.chains k b (by have := hs.c; omega) (fun c h => by have := hs.v c h; omega) hk
  unfold viewE
  obtain ⟨⟨vb, vm, vh, vn⟩, hv⟩ : ∃ v, before e.chains k b = v := ⟨_, rfl⟩
  rw [hv] at c1 ⊢
  repeat (first | ((with_reducible apply s1); exact rfl) | (with_reducible first | apply CW.seq | apply CW.block | apply CW.region | apply CW.draw | apply CW.skip | apply CW.exit | apply CW.ret | apply q_then | apply q_then_exit | apply q_then_ret | apply q_block | apply q_block_ret | apply q_block_hit | apply q_ret | apply q_end | apply q_loop_exit | apply q_loop_ret | apply q_loopT_exit | apply q_loopT_ret | apply RW.nil) | ((with_reducible apply s3); exact rfl; exact by_k) | ((with_reducible apply s2); exact rfl; exact by_k) | ((with_reducible apply s4); exact rfl) | ((with_reducible apply s5); (first | (focus ((with_reducible apply a_call); exact c1; exact rfl; (repeat (first | exact SubsE.nil | (apply SubsE.cons; exact rfl; (first | exact .d (.refl _) | exact .d (.nil _) | exact .agg rfl (.refl _) | exact .pd | exact .ptr rfl); (first | exact trivial | exact ⟨rfl, trivial⟩)))); done)) | exact by_oa); exact by_g) | ((with_reducible apply CW.cond_t); exact rfl; exact by_ks) | ((with_reducible apply CW.cond_f); exact rfl; exact by_ks) | ((with_reducible apply q_block_miss); exact rfl) | (refine And.intro (show chk [] [] _ _ = true by kernel_rfl) ?_))
  exact .two (.tmp rfl (.one (.d (.refl _)))) (.tmp rfl (.one (.d (.refl _))))

theorem pgo_loop (e : Engine) (A : Nat) (d : Deed) (hs : e.Sm) (hd : e.deeds[A]? = some d) (hst : e.state.length = e.deeds.length) (hen : e.ends.length = e.deeds.length) (hk : Srt Chain.key e.chains)
    (hw : wrongDeed d = 0) (hch : chOk e.chains) (N : Int) (hb : ∀ c ∈ e.chains, VSrt c.vs ∧ ∀ v ∈ c.vs, v.by_ < N) (hne : needs e A d = []) (s : Int) (hsA : e.state[A]? = some s) (hs1 : ¬ s = 1) (hn : FnOk Try.prog 17 [.d (.agg e.enc), .d (dint A)] (.one (encInts []))) :
    FnOk Try.prog 6 [.d (.agg e.enc), .d (dint A)] (.tup [.agg (pgoNew e A d).enc, dint 0]) := by
  refine fnOk_of tbl_ok mixed_ok Try.func6 rfl (by kernel_rfl) rfl rfl fun w0 own0 => ?_
  have hA := (List.getElem?_eq_some_iff.1 hd).1
  have hdl := hs.d
  have hbase := hs.b
  have hcl := hs.c
  have ho := wrongDeed_ok hw
  have hwl := ho.w
  have co := news_planOwn e hs
  have cr := ok_run 18 [refD e.enc, refD [dint (e.base + A)]] [.pd e.enc, .pd [dint (e.base + A)]] (viewE e.chains (e.base + A)) d (.ref (.ref .nil)) (fun k _ => ok_viewE e (e.base + A) k hs hk)
    (fun k => before_ok hch k _) (by have := ho.c; omega) (by omega) ho.i (wrong_reads hw)
  unfold pgoNew
  have hrl : (runC (viewE e.chains (e.base + A)) d).length ≤ 5 := by
    unfold runC
    split
    · simp
    · exact Nat.le_trans (chg_len _ _) hwl
  unfold runRes at cr
  generalize runC (viewE e.chains (e.base + A)) d = ch at cr hrl ⊢
  generalize (runM (viewE e.chains (e.base + A)) d).2 = dn at cr ⊢
  have hAl : ¬ ((A : Int) < 0) := by omega
  repeat (first | (with_reducible apply stop_reg 9) | ((with_reducible apply s1); exact rfl) | (with_reducible first | apply CW.seq | apply CW.block | apply CW.region | apply CW.draw | apply CW.skip | apply CW.exit | apply CW.ret | apply q_then | apply q_then_exit | apply q_then_ret | apply q_block | apply q_block_ret | apply q_block_hit | apply q_ret | apply q_end | apply q_loop_exit | apply q_loop_ret | apply q_loopT_exit | apply q_loopT_ret | apply RW.nil) | ((with_reducible apply s3); exact rfl; exact by_k) | ((with_reducible apply s2); exact rfl; exact by_k) | ((with_reducible apply s4); exact rfl) | ((with_reducible apply s5); (first | (focus ((with_reducible apply a_call); exact hn; exact rfl; (repeat (first | exact SubsE.nil | (apply SubsE.cons; exact rfl; (first | exact .d (.refl _) | exact .d (.nil _) | exact .agg rfl (.refl _) | exact .pd | exact .ptr rfl); (first | exact trivial | exact ⟨rfl, trivial⟩)))); done)) | (focus ((with_reducible apply a_callnews); exact co; (iterate 2 exact rfl); (repeat (first | exact SubsE.nil | (apply SubsE.cons; exact rfl; (first | exact .d (.refl _) | exact .d (.nil _) | exact .agg rfl (.refl _) | exact .pd | exact .ptr rfl); (first | exact trivial | exact ⟨rfl, trivial⟩)))); done)) | exact by_oa); exact by_g) | ((with_reducible apply CW.cond_t); exact rfl; exact by_ks) | ((with_reducible apply CW.cond_f); exact rfl; exact by_ks) | ((with_reducible apply q_block_miss); exact rfl) | (refine And.intro (show chk [] [] _ _ = true by kernel_rfl) ?_))
  refine Stop.go (CW.stut (stut_freezebox (i := 2) (id := 0) (ds := e.enc) rfl) ⟨rfl, rfl, trivial⟩ ?_)
  refine CW.stut (stut_freezebox (i := 7) (id := 6) (ds := [dint (e.base + A)]) rfl) ⟨rfl, rfl, trivial⟩ ?_
  repeat (first | (with_reducible apply stop_reg 10) | ((with_reducible apply s1); exact rfl) | (with_reducible first | apply CW.seq | apply CW.block | apply CW.region | apply CW.draw | apply CW.skip | apply CW.exit | apply CW.ret | apply q_then | apply q_then_exit | apply q_then_ret | apply q_block | apply q_block_ret | apply q_block_hit | apply q_ret | apply q_end | apply q_loop_exit | apply q_loop_ret | apply q_loopT_exit | apply q_loopT_ret | apply RW.nil) | ((with_reducible apply s3); exact rfl; exact by_k) | ((with_reducible apply s2); exact rfl; exact by_k) | ((with_reducible apply s4); exact rfl) | ((with_reducible apply s5); (first | ((with_reducible apply (a_mkfn (ds := [refD e.enc, refD [dint (e.base + A)]]))); exact rfl; apply SubsE.cons; exact rfl; exact .d (.refl _); exact trivial; apply SubsE.cons; exact rfl; exact .d (.refl _); exact trivial; exact SubsE.nil) | exact by_oa); exact by_g) | ((with_reducible apply CW.cond_t); exact rfl; exact by_ks) | ((with_reducible apply CW.cond_f); exact rfl; exact by_ks) | ((with_reducible apply q_block_miss); exact rfl) | (refine And.intro (show chk [] [] _ _ = true by kernel_rfl) ?_))
  refine Stop.go (CW.stut (stut_refpd (i := 2)) ⟨rfl, trivial⟩ ?_)
  refine CW.stut (stut_refpd (i := 7)) ⟨rfl, trivial⟩ ?_
  repeat (first | ((with_reducible apply s1); exact rfl) | (with_reducible first | apply CW.seq | apply CW.block | apply CW.region | apply CW.draw | apply CW.skip | apply CW.exit | apply CW.ret | apply q_then | apply q_then_exit | apply q_then_ret | apply q_block | apply q_block_ret | apply q_block_hit | apply q_ret | apply q_end | apply q_loop_exit | apply q_loop_ret | apply q_loopT_exit | apply q_loopT_ret | apply RW.nil) | ((with_reducible apply s3); exact rfl; exact by_k) | ((with_reducible apply s2); exact rfl; exact by_k) | ((with_reducible apply s4); exact rfl) | ((with_reducible apply s5); (first | (focus ((with_reducible apply a_call); exact cr; exact rfl; (repeat (first | exact SubsE.nil | (apply SubsE.cons; exact rfl; (first | exact .d (.refl _) | exact .d (.nil _) | exact .agg rfl (.refl _) | exact .pd | exact .ptr rfl); (first | exact trivial | exact ⟨rfl, trivial⟩)))); done)) | exact by_oa); exact by_g) | ((with_reducible apply CW.cond_t); exact rfl; exact by_ks) | ((with_reducible apply CW.cond_f); exact rfl; exact by_ks) | ((with_reducible apply q_block_miss); exact rfl) | (refine And.intro (show chk [] [] _ _ = true by kernel_rfl) ?_))
  refine CW.loopT (fun t : Nat × List Chain => [sd 1 (dint A), (.s 2, .av (.pd e.enc)), sp 4 1, ob 1 noE.enc0, sd 5 (dint 0), sp 6 5, (.o 5, .ob (.box [.d (encChains t.2), .own 2 (e.deeds.map Deed.enc).length, .own 3 (e.state.map encInt1).length, .own 4 (e.ends.map Done.enc).length, .d (dint e.base)])), (.s 7, .av (.pd [dint (e.base + A)])), sp 9 7, ob 7 dn.enc, sd 10 (encVs (ch.map chVer)), sd 11 (encStrs (ch.map (·.1))), sd 69 (encStrs d.writes), sd 70 (dint d.writes.length), sd 71 (dint t.1), oa 2 60 3 (e.deeds.map Deed.enc), oa 3 3 1 (e.state.map encInt1), oa 4 53 5 (e.ends.map Done.enc), nxt 8])
    (fun t => t.1 ≤ d.writes.length ∧ t.2.length ≤ 134217728 ∧ (∀ c ∈ t.2, c.vs.length ≤ 134217728) ∧ (Srt Chain.key t.2 ∧ ∀ c ∈ t.2, VSrt c.vs ∧ ∀ v ∈ c.vs, v.by_ < N) ∧ pgoSets e.chains (e.base + A) ch t.2 (d.writes.drop t.1) = pgoSets e.chains (e.base + A) ch e.chains d.writes) (fun t => d.writes.length - t.1) (0, e.chains) ⟨by omega, hcl, hs.v, ⟨hk, hb⟩, rfl⟩ ?_ ?_
  ·
    exact by_less
  · rintro ⟨j, cs⟩ ⟨hj, hl1, hl2, hl3, hJ⟩
    dsimp only at hj hl1 hl2 hl3 hJ ⊢
    rcases drop_case hj with ⟨h1, h2⟩ | ⟨k, h1, h2, h3⟩
    · rw [h1, pgoSets] at hJ
      have hsA' : (e.state.map encInt1)[A]? = some (encInt1 s) := by rw [List.getElem?_map, hsA]; rfl
      have hEl : A < e.ends.length := by omega
      obtain ⟨q, hq⟩ : ∃ q, e.ends[A]? = some q := ⟨e.ends[A], List.getElem?_eq_getElem hEl⟩
      have hq' : (e.ends.map Done.enc)[A]? = some q.enc := by rw [List.getElem?_map, hq]; rfl
      have hAs : A < (e.state.map encInt1).length := by simp; omega
      have hAe : A < (e.ends.map Done.enc).length := by simp; omega
      repeat (first | ((with_reducible apply s1); exact rfl) | (with_reducible first | apply CW.seq | apply CW.block | apply CW.region | apply CW.draw | apply CW.skip | apply CW.exit | apply CW.ret | apply q_then | apply q_then_exit | apply q_then_ret | apply q_block | apply q_block_ret | apply q_block_hit | apply q_ret | apply q_end | apply q_loop_exit | apply q_loop_ret | apply q_loopT_exit | apply q_loopT_ret | apply RW.nil) | ((with_reducible apply s3); exact rfl; exact by_k) | ((with_reducible apply s2); exact rfl; exact by_k) | ((with_reducible apply s4); exact rfl) | ((with_reducible apply s5); (first | exact by_oa); exact by_g) | ((with_reducible apply CW.cond_t); exact rfl; exact by_ks) | ((with_reducible apply CW.cond_f); exact rfl; exact by_ks) | ((with_reducible apply q_block_miss); exact rfl) | (refine And.intro (show chk [] [] _ _ = true by kernel_rfl) ?_))
      rw [← hJ]
      refine .two (.cell rfl rfl rfl rfl (.agg (.cons (.d (.refl _)) (.cons (.own rfl (by simp) (.refl _)) (.cons (.own rfl (by simp) (dle_eq ?_)) (.cons (.own rfl (by simp) (dle_eq ?_)) (.cons (.d (.refl _)) .nil))))))) (.tmp rfl (.one (.d (.refl _))))
      · show D.sl 1 _ = D.sl 1 _
        rw [List.map_set]; rfl
      · show D.sl 5 _ = D.sl 5 _
        rw [List.map_set]; rfl
    · rw [h1, pgoSets] at hJ
      have cb := ok_pbefore e.chains k (e.base + A) (by omega) (fun c h => by have := hs.v c h; omega) hk
      repeat (first | ((with_reducible apply s1); exact rfl) | (with_reducible first | apply CW.seq | apply CW.block | apply CW.region | apply CW.draw | apply CW.skip | apply CW.exit | apply CW.ret | apply q_then | apply q_then_exit | apply q_then_ret | apply q_block | apply q_block_ret | apply q_block_hit | apply q_ret | apply q_end | apply q_loop_exit | apply q_loop_ret | apply q_loopT_exit | apply q_loopT_ret | apply RW.nil) | ((with_reducible apply s3); exact rfl; exact by_k) | ((with_reducible apply s2); exact rfl; exact by_k) | ((with_reducible apply s4); exact rfl) | ((with_reducible apply s5); (first | (focus ((with_reducible apply a_call); exact cb; exact rfl; (repeat (first | exact SubsE.nil | (apply SubsE.cons; exact rfl; (first | exact .d (.refl _) | exact .d (.nil _) | exact .agg rfl (.refl _) | exact .pd | exact .ptr rfl); (first | exact trivial | exact ⟨rfl, trivial⟩)))); done)) | exact by_oa); exact by_g) | ((with_reducible apply CW.cond_t); exact rfl; exact by_ks) | ((with_reducible apply CW.cond_f); exact rfl; exact by_ks) | ((with_reducible apply q_block_miss); exact rfl) | (refine And.intro (show chk [] [] _ _ = true by kernel_rfl) ?_))
      refine CW.loopT (fun t : Nat × Version => [sd 1 (dint A), (.s 2, .av (.pd e.enc)), sp 4 1, ob 1 noE.enc0, sd 5 (dint 0), sp 6 5, (.o 5, .ob (.box [.d (encChains cs), .own 2 (e.deeds.map Deed.enc).length, .own 3 (e.state.map encInt1).length, .own 4 (e.ends.map Done.enc).length, .d (dint e.base)])), (.s 7, .av (.pd [dint (e.base + A)])), sp 9 7, ob 7 dn.enc, sd 10 (encVs (ch.map chVer)), sd 11 (encStrs (ch.map (·.1))), sd 69 (encStrs d.writes), sd 70 (dint d.writes.length), sd 71 (dint j), oa 2 60 3 (e.deeds.map Deed.enc), oa 3 3 1 (e.state.map encInt1), oa 4 53 5 (e.ends.map Done.enc), sd 13 (dstr k), sp 14 8, ob 8 t.2.enc, sd 80 (encStrs (ch.map (·.1))), sd 81 (dint (ch.map (·.1)).length), sd 82 (dint t.1), nxt 9])
        (fun t => t.1 ≤ ch.length ∧ pickV k t.2 (ch.drop t.1) = pickV k (before e.chains k (e.base + A)) ch) (fun t => ch.length - t.1) (0, before e.chains k (e.base + A)) ⟨by omega, rfl⟩ ?_ ?_
      ·
        exact by_less
      · rintro ⟨i, v⟩ ⟨hi, hI⟩
        dsimp only at hi hI ⊢
        rcases drop_case hi with ⟨g1, g2⟩ | ⟨c, g1, g2, g3⟩
        · rw [g1, pickV] at hI
          have hmv : madeV e.chains (e.base + A) ch k = ⟨e.base + A, true, v.has, v.n⟩ := by unfold madeV; rw [← hI]
          have cset := ok_pset cs k ⟨e.base + A, true, v.has, v.n⟩ (by omega) (fun c h => by have := hl2 c h; omega) hl3.1
          rw [hmv] at hJ
          obtain ⟨vb, vm, vh, vn⟩ := v
          dsimp only at cset hJ
          repeat (first | ((with_reducible apply s1); exact rfl) | (with_reducible first | apply CW.seq | apply CW.block | apply CW.region | apply CW.draw | apply CW.skip | apply CW.exit | apply CW.ret | apply q_then | apply q_then_exit | apply q_then_ret | apply q_block | apply q_block_ret | apply q_block_hit | apply q_ret | apply q_end | apply q_loop_exit | apply q_loop_ret | apply q_loopT_exit | apply q_loopT_ret | apply RW.nil) | ((with_reducible apply s3); exact rfl; exact by_k) | ((with_reducible apply s2); exact rfl; exact by_k) | ((with_reducible apply s4); exact rfl) | ((with_reducible apply s5); (first | (focus ((with_reducible apply a_call); exact cset; exact rfl; (repeat (first | exact SubsE.nil | (apply SubsE.cons; exact rfl; (first | exact .d (.refl _) | exact .d (.nil _) | exact .agg rfl (.refl _) | exact .pd | exact .ptr rfl); (first | exact trivial | exact ⟨rfl, trivial⟩)))); done)) | exact by_oa); exact by_g) | ((with_reducible apply CW.cond_t); exact rfl; exact by_ks) | ((with_reducible apply CW.cond_f); exact rfl; exact by_ks) | ((with_reducible apply q_block_miss); exact rfl) | (refine And.intro (show chk [] [] _ _ = true by kernel_rfl) ?_))
          refine q_loopT (j + 1, setChains cs k ⟨e.base + A, true, vh, vn⟩) ⟨by dsimp only; omega, by dsimp only; rw [set_len]; exact hl1, set_vs hl2, set_srt hl3.1 hl3.2, hJ⟩ (by dsimp only; omega) ?_
          exact by_less
        · rw [g1, pickV] at hI
          have g4 : (ch.map chVer)[i]? = some (chVer c) := by rw [List.getElem?_map, g2]; rfl
          have g5 : (ch.map (·.1))[i]? = some c.1 := by rw [List.getElem?_map, g2]; rfl
          by_cases h : c.1 = k
          · rw [if_pos h] at hI
            repeat (first | ((with_reducible apply s1); exact rfl) | (with_reducible first | apply CW.seq | apply CW.block | apply CW.region | apply CW.draw | apply CW.skip | apply CW.exit | apply CW.ret | apply q_then | apply q_then_exit | apply q_then_ret | apply q_block | apply q_block_ret | apply q_block_hit | apply q_ret | apply q_end | apply q_loop_exit | apply q_loop_ret | apply q_loopT_exit | apply q_loopT_ret | apply RW.nil) | ((with_reducible apply s3); exact rfl; exact by_k) | ((with_reducible apply s2); exact rfl; exact by_k) | ((with_reducible apply s4); exact rfl) | ((with_reducible apply s5); (first | exact by_oa); exact by_g) | ((with_reducible apply CW.cond_t); exact rfl; exact by_ks) | ((with_reducible apply CW.cond_f); exact rfl; exact by_ks) | ((with_reducible apply q_block_miss); exact rfl) | (refine And.intro (show chk [] [] _ _ = true by kernel_rfl) ?_))
            refine q_loopT (i + 1, chVer c) ⟨by dsimp only; omega, hI⟩ (by dsimp only; omega) ?_
            exact by_less
          · rw [if_neg h] at hI
            repeat (first | ((with_reducible apply s1); exact rfl) | (with_reducible first | apply CW.seq | apply CW.block | apply CW.region | apply CW.draw | apply CW.skip | apply CW.exit | apply CW.ret | apply q_then | apply q_then_exit | apply q_then_ret | apply q_block | apply q_block_ret | apply q_block_hit | apply q_ret | apply q_end | apply q_loop_exit | apply q_loop_ret | apply q_loopT_exit | apply q_loopT_ret | apply RW.nil) | ((with_reducible apply s3); exact rfl; exact by_k) | ((with_reducible apply s2); exact rfl; exact by_k) | ((with_reducible apply s4); exact rfl) | ((with_reducible apply s5); (first | exact by_oa); exact by_g) | ((with_reducible apply CW.cond_t); exact rfl; exact by_ks) | ((with_reducible apply CW.cond_f); exact rfl; exact by_ks) | ((with_reducible apply q_block_miss); exact rfl) | (refine And.intro (show chk [] [] _ _ = true by kernel_rfl) ?_))
            refine q_loopT (i + 1, v) ⟨by dsimp only; omega, hI⟩ (by dsimp only; omega) ?_
            exact by_less

end Go.Proofs.Ytjopijlkpipljaa

/-! P7 -/
/-
  Engines as they are built: what is not made is of deeds that wait; what has nothing is nothing. The program's Go comes to the references'.
-/
namespace Go.Proofs.Ytjopijlkpipljaa
open Go.AX Go.RF

structure WInv (e : Engine) : Prop where
  d : ∀ d ∈ e.deeds, wrongDeed d = 0
  n : ∀ c ∈ e.chains, ∀ v ∈ c.vs, v.made = false → ∃ (k : Nat) (x : Deed), v.by_ = e.base + k ∧ e.state[k]? = some 0 ∧ e.deeds[k]? = some x ∧ c.key ∈ x.writes
  h : ∀ c ∈ e.chains, ∀ v ∈ c.vs, v.has = false → v.n = 0
  l : e.state.length = e.deeds.length

theorem newE_w (r : List Pair) : WInv (newE r) := by
  have h0 : ∀ c ∈ (newE r).chains, ∀ v ∈ c.vs, v.made = true ∧ v.has = true := by
    intro c hc v hv
    obtain ⟨p, _, rfl⟩ := List.mem_map.1 hc
    simp [rowChain] at hv
    subst hv; exact ⟨rfl, rfl⟩
  refine ⟨by simp [newE], fun c hc v hv hm => ?_, fun c hc v hv hm => ?_, rfl⟩
  · rw [(h0 c hc v hv).1] at hm; cases hm
  · rw [(h0 c hc v hv).2] at hm; cases hm
theorem addKeys_mem {b : Int} : ∀ {ks : List Str} {l : List Chain}, Srt Chain.key l → ∀ c ∈ addKeys b l ks, ∀ v ∈ c.vs, (∃ c0 ∈ l, c0.key = c.key ∧ v ∈ c0.vs) ∨ (v = newV b ∧ c.key ∈ ks)
  | [], l, _, c, hc, v, hv => .inl ⟨c, hc, rfl, hv⟩
  | k :: ks, l, hs, c, hc, v, hv => by
    simp only [addKeys] at hc
    rw [addC_srt hs] at hc
    rcases addKeys_mem (addS_srt hs) c hc v hv with ⟨c0, h0, h1, h2⟩ | ⟨h1, h2⟩
    · rcases addS_mem h0 with h3 | rfl | ⟨c1, h3, h4, rfl⟩
      · exact .inl ⟨c0, h3, h1, h2⟩
      · simp at h2
        exact .inr ⟨h2, by rw [← h1]; exact List.mem_cons_self ..⟩
      · rcases List.mem_append.1 h2 with h2 | h2
        · exact .inl ⟨c1, h3, by rw [h4]; exact h1, h2⟩
        · simp at h2
          exact .inr ⟨h2, by rw [← h1]; exact List.mem_cons_self ..⟩
    · exact .inr ⟨h1, List.mem_cons_of_mem _ h2⟩
theorem WInv.add1 {e : Engine} (h : WInv e) (hs : SInv e) {d : Deed} (hd : wrongDeed d = 0) : WInv (add1 e d) := by
  have hlt : ∀ (k : Nat) (x : Deed), e.deeds[k]? = some x → k < e.deeds.length := fun k x hx => (List.getElem?_eq_some_iff.1 hx).1
  refine ⟨fun x hx => ?_, fun c hc v hv hm => ?_, fun c hc v hv hm => ?_, ?_⟩
  · rcases List.mem_append.1 hx with hx | hx
    · exact h.d x hx
    · simp at hx; subst hx; exact hd
  · rcases addKeys_mem hs.k c hc v hv with ⟨c0, h0, h1, h2⟩ | ⟨rfl, h2⟩
    · obtain ⟨k, x, h3, h4, h5, h6⟩ := h.n c0 h0 v h2 hm
      have := hlt k x h5
      refine ⟨k, x, h3, ?_, ?_, by rw [← h1]; exact h6⟩
      · show (e.state ++ [0])[k]? = _
        rw [List.getElem?_append_left (by rw [h.l]; exact this)]; exact h4
      · show (e.deeds ++ [d])[k]? = _
        rw [List.getElem?_append_left this]; exact h5
    · refine ⟨e.deeds.length, d, rfl, ?_, ?_, h2⟩
      · show (e.state ++ [0])[e.deeds.length]? = _
        rw [← h.l]; simp
      · show (e.deeds ++ [d])[e.deeds.length]? = _
        simp
  · rcases addKeys_mem hs.k c hc v hv with ⟨c0, h0, h1, h2⟩ | ⟨rfl, h2⟩
    · exact h.h c0 h0 v h2 hm
    · rfl
  · show (e.state ++ [0]).length = (e.deeds ++ [d]).length
    simp [h.l]
theorem WInv.addAll : ∀ {l : List Deed} {e : Engine}, WInv e → SInv e → (∀ d ∈ l, wrongDeed d = 0) → WInv (addAll e l)
  | [], e, h, _, _ => h
  | d :: l, e, h, hs, hl => by
    simp only [RF.addAll]
    have hd := hl d (List.mem_cons_self ..)
    exact WInv.addAll (h.add1 hs hd) (hs.add1 (wrong_keys hd).2) fun x hx => hl x (List.mem_cons_of_mem _ hx)
theorem WInv.addE {e : Engine} (h : WInv e) (hs : SInv e) {l : List Deed} (hw : (addE e l).2 = 0) : WInv (addE e l).1 := by
  unfold RF.addE at hw ⊢
  by_cases h0 : wrongs l = 0
  · rw [if_pos h0]
    exact h.addAll hs fun d hd => wrongs_mem h0 d hd
  · rw [if_neg h0] at hw; exact absurd hw h0

theorem get_none0 {k : Str} : ∀ {r : List Pair}, (RF.get r k).2 = false → (RF.get r k).1 = 0
  | [], _ => rfl
  | p :: r, h => by
    simp only [RF.get] at h ⊢
    by_cases hp : p.key = k
    · rw [if_pos hp] at h; cases h
    · rw [if_neg hp] at h ⊢; exact get_none0 h
theorem goSets_mem {r : List Pair} {b : Int} : ∀ {ks : List Str} {l : List Chain}, ∀ c ∈ goSets r b l ks, ∀ v ∈ c.vs,
    (∃ c0 ∈ l, c0.key = c.key ∧ v ∈ c0.vs ∧ (v.by_ = b → c.key ∉ ks)) ∨ (v.made = true ∧ (v.has = false → v.n = 0))
  | [], l, c, hc, v, hv => .inl ⟨c, hc, rfl, hv, fun _ => by simp⟩
  | k :: ks, l, c, hc, v, hv => by
    simp only [goSets] at hc
    rcases goSets_mem c hc v hv with ⟨c0, h0, h1, h2, h3⟩ | h1
    · obtain ⟨c1, h4, rfl⟩ := List.mem_map.1 h0
      obtain ⟨w, h5, rfl⟩ := List.mem_map.1 h2
      by_cases hh : decide (c1.key = k) = true ∧ w.by_ = b
      · refine .inr ?_
        have e : setV (decide (c1.key = k)) ⟨b, true, (RF.get r k).2, (RF.get r k).1⟩ w = ⟨b, true, (RF.get r k).2, (RF.get r k).1⟩ := by unfold setV; rw [if_pos hh]
        rw [e]
        exact ⟨rfl, get_none0⟩
      · have e : setV (decide (c1.key = k)) ⟨b, true, (RF.get r k).2, (RF.get r k).1⟩ w = w := by unfold setV; rw [if_neg hh]
        rw [e] at h3 ⊢
        refine .inl ⟨c1, h4, h1, h5, fun hb => ?_⟩
        have h6 := h3 hb
        intro hm
        rcases List.mem_cons.1 hm with hm | hm
        · exact hh ⟨by simp [show c1.key = c.key from h1, hm], hb⟩
        · exact h6 hm
    · exact .inr h1
theorem WInv.goNew {e : Engine} (h : WInv e) (A : Nat) (d : Deed) (hd : e.deeds[A]? = some d) : WInv (goNew e A d) := by
  refine ⟨h.d, fun c hc v hv hm => ?_, fun c hc v hv hm => ?_, ?_⟩
  · rcases goSets_mem c hc v hv with ⟨c0, h0, h1, h2, h3⟩ | h1
    · obtain ⟨k, x, h4, h5, h6, h7⟩ := h.n c0 h0 v h2 hm
      by_cases hk : k = A
      · subst hk
        rw [hd] at h6
        cases h6
        exact absurd (h1 ▸ h7) (h3 h4)
      · refine ⟨k, x, h4, ?_, h6, by rw [← h1]; exact h7⟩
        show (e.state.set A 1)[k]? = _
        rw [List.getElem?_set_ne (fun e => hk e.symm)]; exact h5
    · rw [h1.1] at hm; cases hm
  · rcases goSets_mem c hc v hv with ⟨c0, h0, h1, h2, h3⟩ | h1
    · exact h.h c0 h0 v h2 hm
    · exact h1.2 hm
  · show (e.state.set A 1).length = _
    rw [List.length_set]; exact h.l
theorem WInv.goE {e : Engine} (h : WInv e) (at_ : Int) : WInv (goE e at_).1 := by
  unfold Proofs.Ytjopijlkpipljaa.goE
  split
  · exact h
  unfold goAt
  cases hA : e.deeds[at_.toNat]? with
  | none => exact h
  | some d =>
    dsimp only
    split
    · exact h
    split
    · exact h.goNew _ _ hA
    · exact h
theorem markN_one : ∀ {s : List Int} {j : Nat}, j < markN s → s[j]? = some 1
  | [], j, h => by simp [markN] at h
  | x :: s, j, h => by
    simp only [markN] at h
    by_cases hx : x = 1
    · rw [if_pos hx] at h
      cases j with
      | zero => simp [hx]
      | succ j => simpa using markN_one (s := s) (j := j) (by omega)
    · rw [if_neg hx] at h; omega
theorem WInv.clearE {e : Engine} (h : WInv e) : WInv (clearE e) := by
  refine ⟨fun d hd => h.d d (List.mem_of_mem_drop hd), fun c hc v hv hm => ?_, fun c hc v hv hm => ?_, ?_⟩
  · obtain ⟨c0, h0, rfl⟩ := clear_mem hc
    obtain ⟨k, x, h1, h2, h3, h4⟩ := h.n c0 h0 v (clrV_sub hv) hm
    have hk : markN e.state ≤ k := by
      rcases Nat.lt_or_ge k (markN e.state) with hlt | hge
      · have := markN_one hlt
        rw [h2] at this; cases this
      · exact hge
    refine ⟨k - markN e.state, x, ?_, ?_, ?_, h4⟩
    · show v.by_ = e.base + markN e.state + ((k - markN e.state : Nat) : Int)
      omega
    · show (e.state.drop (markN e.state))[k - markN e.state]? = _
      rw [List.getElem?_drop, show markN e.state + (k - markN e.state) = k by omega]; exact h2
    · show (e.deeds.drop (markN e.state))[k - markN e.state]? = _
      rw [List.getElem?_drop, show markN e.state + (k - markN e.state) = k by omega]; exact h3
  · obtain ⟨c0, h0, rfl⟩ := clear_mem hc
    exact h.h c0 h0 v (clrV_sub hv) hm
  · show (e.state.drop _).length = (e.deeds.drop _).length
    simp [h.l]
theorem WInv.pickE {e : Engine} (h : WInv e) (n : Int) : WInv (pickE e n) := by
  unfold Proofs.Ytjopijlkpipljaa.pickE
  split
  · exact h.clearE
  split
  · exact h
  split
  · exact h.goE _
  · exact h
theorem WInv.batchE {e : Engine} (h : WInv e) (hs : SInv e) (b : List Deed) : WInv (batchE e b) := by
  unfold Proofs.Ytjopijlkpipljaa.batchE
  split
  · next hw => exact h.addE hs hw
  · exact h
theorem WInv.pickGo : ∀ {k : Nat} {e : Engine} {p : List Int}, WInv e → WInv (pickGo k e p).1
  | 0, e, p, h => h
  | k + 1, e, [], h => h
  | k + 1, e, n :: p, h => by
    simp only [Proofs.Ytjopijlkpipljaa.pickGo]
    exact WInv.pickGo (h.pickE n)
theorem WInv.buildGo : ∀ {bs : List (List Deed)} {e : Engine} {p : List Int}, WInv e → SInv e → WInv (buildGo e bs p)
  | [], e, p, h, _ => h
  | b :: bs, e, p, h, hs => by
    simp only [Proofs.Ytjopijlkpipljaa.buildGo]
    exact WInv.buildGo ((h.batchE hs b).pickGo) ((hs.batchE b).pickGo)
theorem build_w {r : List Pair} (h : wrongRows r = 0) (bs : List (List Deed)) (p : List Int) : WInv (buildE r bs p) := WInv.buildGo (newE_w r) (newE_srt (wrongRows_srt h).1)

/-! ### Before -/
theorem bvs_mem {h : Bool} {b : Int} : ∀ {l : List Version} {out : Version}, bvs h b out l = out ∨ (h = true ∧ bvs h b out l ∈ l ∧ (bvs h b out l).by_ < b)
  | [], out => .inl rfl
  | v :: l, out => by
    simp only [bvs]
    rcases bvs_mem (h := h) (b := b) (l := l) (out := if h && decide (v.by_ < b) then v else out) with e | ⟨h1, h2, h3⟩
    · rw [e]
      by_cases hc : (h && decide (v.by_ < b)) = true
      · rw [if_pos hc]
        simp only [Bool.and_eq_true, decide_eq_true_eq] at hc
        exact .inr ⟨hc.1, List.mem_cons_self .., hc.2⟩
      · rw [if_neg hc]; exact .inl rfl
    · exact .inr ⟨h1, List.mem_cons_of_mem _ h2, h3⟩
theorem beforeGo_mem {k : Str} {b : Int} : ∀ {l : List Chain} {out : Version}, beforeGo k b out l = out ∨ ∃ c ∈ l, c.key = k ∧ beforeGo k b out l ∈ c.vs ∧ (beforeGo k b out l).by_ < b
  | [], out => .inl rfl
  | c :: l, out => by
    simp only [beforeGo]
    rcases beforeGo_mem (k := k) (b := b) (l := l) (out := bvs (decide (c.key = k)) b out c.vs) with e | ⟨c', h1, h2⟩
    · rw [e]
      rcases bvs_mem (h := decide (c.key = k)) (b := b) (l := c.vs) (out := out) with e2 | ⟨h1, h2, h3⟩
      · exact .inl e2
      · exact .inr ⟨c, List.mem_cons_self .., by simpa using h1, h2, h3⟩
    · exact .inr ⟨c', List.mem_cons_of_mem _ h1, h2⟩
theorem before_mem (l : List Chain) (k : Str) (b : Int) : before l k b = noV ∨ ∃ c ∈ l, c.key = k ∧ before l k b ∈ c.vs ∧ (before l k b).by_ < b := beforeGo_mem
theorem WInv.nb {e : Engine} (h : WInv e) : NB e := by
  intro at_ k hm
  rcases before_mem e.chains k (e.base + at_) with h1 | ⟨c, h1, h2, h3, h4⟩
  · rw [h1] at hm; cases hm
  · obtain ⟨j, x, h5, _⟩ := h.n c h1 _ h3 hm
    exact ⟨by omega, h4⟩
theorem WInv.bh {e : Engine} (h : WInv e) (k : Str) (b : Int) : (before e.chains k b).has = false → (before e.chains k b).n = 0 := by
  intro hm
  rcases before_mem e.chains k b with h1 | ⟨c, h1, h2, h3, h4⟩
  · rw [h1]; rfl
  · exact h.h c h1 _ h3 hm

/-! ### A deed that is done -/
theorem keysGo'_mem {k : Str} : ∀ {l out : List Str}, k ∈ keysGo' out l ↔ k ∈ out ∨ k ∈ l
  | [], out => by simp [keysGo']
  | x :: l, out => by
    simp only [keysGo']
    rw [keysGo'_mem]
    by_cases h : isIn out x = true
    · rw [if_pos h]
      have := isIn_true h
      constructor
      · rintro (h1 | h1)
        · exact .inl h1
        · exact .inr (List.mem_cons_of_mem _ h1)
      · rintro (h1 | h1)
        · exact .inl h1
        · rcases List.mem_cons.1 h1 with rfl | h1
          · exact .inl this
          · exact .inr h1
    · rw [if_neg h]
      simp [or_assoc]
theorem goRows_get {cs : List Chain} {b : Int} : ∀ {ks : List Str} {r : List Pair}, Srt Pair.key r → Srt Pair.key (goRows cs b r ks) ∧ ∀ k, RF.get (goRows cs b r ks) k = if k ∈ ks ∧ (before cs k b).has = true then ((before cs k b).n, true) else RF.get r k
  | [], r, h => ⟨h, fun k => by simp [goRows]⟩
  | x :: ks, r, h => by
    simp only [goRows]
    by_cases hx : (before cs x b).has = true
    · rw [if_pos hx, put_true h]
      obtain ⟨h1, h2⟩ := goRows_get (cs := cs) (b := b) (ks := ks) (putS_srt (k := x) (n := (before cs x b).n) h)
      refine ⟨h1, fun k => ?_⟩
      rw [h2 k, get_put]
      by_cases hk : k ∈ ks ∧ (before cs k b).has = true
      · rw [if_pos hk, if_pos ⟨List.mem_cons_of_mem _ hk.1, hk.2⟩]
      · rw [if_neg hk]
        by_cases he : x = k
        · subst he
          rw [if_pos rfl, if_pos ⟨List.mem_cons_self .., hx⟩]
        · rw [if_neg he, if_neg]
          rintro ⟨h3, h4⟩
          rcases List.mem_cons.1 h3 with h3 | h3
          · exact he h3.symm
          · exact hk ⟨h3, h4⟩
    · rw [if_neg hx]
      obtain ⟨h1, h2⟩ := goRows_get (cs := cs) (b := b) (ks := ks) h
      refine ⟨h1, fun k => ?_⟩
      rw [h2 k]
      by_cases hk : k ∈ ks ∧ (before cs k b).has = true
      · rw [if_pos hk, if_pos ⟨List.mem_cons_of_mem _ hk.1, hk.2⟩]
      · rw [if_neg hk, if_neg]
        rintro ⟨h3, h4⟩
        rcases List.mem_cons.1 h3 with h3 | h3
        · subst h3; exact hx h4
        · exact hk ⟨h3, h4⟩
theorem runGo_congr {v v' : Str → Int × Bool} : ∀ {l : List Ins} {sk : Int} {m : Mk} {e : Done}, (∀ i ∈ l, i.kind = 1 → (v i.key).1 = (v' i.key).1) → runGo v sk m e l = runGo v' sk m e l
  | [], sk, m, e, _ => rfl
  | i :: l, sk, m, e, h => by
    have ih := fun {sk : Int} {m : Mk} {e : Done} => runGo_congr (v := v) (v' := v') (l := l) (sk := sk) (m := m) (e := e) fun j hj => h j (List.mem_cons_of_mem _ hj)
    have hs : i.kind = 1 → seeM v m i.key = seeM v' m i.key := fun hk => by
      unfold seeM
      split
      · rfl
      · exact h i (List.mem_cons_self ..) hk
    simp only [runGo, ih]
    by_cases hk : i.kind = 1
    · rw [hs hk]
    · simp only [if_neg hk]
theorem pickV_chg {k : Str} {m : Mk} : ∀ {ws : List Str} {v : Version}, pickV k v (chg m ws) = match mG m k with
    | some c => if k ∈ ws then chVer (k, c) else v
    | none => v
  | [], v => by
    simp only [chg, pickV]
    split <;> simp
  | x :: ws, v => by
    simp only [chg]
    cases hx : mG m x with
    | none =>
      dsimp only
      rw [pickV_chg]
      cases hk : mG m k with
      | none => rfl
      | some c =>
        have hne : ¬ k = x := fun e => by subst e; rw [hx] at hk; cases hk
        dsimp only
        by_cases hw : k ∈ ws
        · rw [if_pos hw, if_pos (List.mem_cons_of_mem _ hw)]
        · rw [if_neg hw, if_neg (by simp [hne, hw])]
    | some c =>
      simp only [pickV]
      rw [pickV_chg]
      by_cases he : x = k
      · subst he
        rw [hx, if_pos rfl]
        dsimp only
        rw [if_pos (List.mem_cons_self ..)]
        simp
      · rw [if_neg he]
        have hne : ¬ k = x := fun e => he e.symm
        cases hk : mG m k with
        | none => rfl
        | some c' =>
          dsimp only
          by_cases hw : k ∈ ws
          · rw [if_pos hw, if_pos (List.mem_cons_of_mem _ hw)]
          · rw [if_neg hw, if_neg (by simp [hne, hw])]
theorem pgoSets_eq {cs0 : List Chain} {b : Int} {ch : List (Str × (Bool × Int))} {R : List Pair} : ∀ {ks : List Str} {cs : List Chain}, (∀ k ∈ ks, madeV cs0 b ch k = ⟨b, true, (RF.get R k).2, (RF.get R k).1⟩) → pgoSets cs0 b ch cs ks = goSets R b cs ks
  | [], cs, _ => rfl
  | k :: ks, cs, h => by
    simp only [pgoSets, goSets]
    rw [h k (List.mem_cons_self ..)]
    exact pgoSets_eq fun x hx => h x (List.mem_cons_of_mem _ hx)
theorem pgoNew_eq {e : Engine} (h : WInv e) {A : Nat} {d : Deed} (hd : e.deeds[A]? = some d) : pgoNew e A d = goNew e A d := by
  have hw := h.d d (List.mem_of_getElem? hd)
  obtain ⟨hs0, hget⟩ := goRows_get (cs := e.chains) (b := e.base + A) (ks := keysD d) (r := []) List.Pairwise.nil
  have hkd : ∀ k, k ∈ d.reads ∨ k ∈ d.writes → RF.get (goRows e.chains (e.base + A) [] (keysD d)) k = viewE e.chains (e.base + A) k := fun k hk => by
    have hm : k ∈ keysD d := by
      unfold keysD
      rw [keysGo'_mem]
      exact .inr (by simpa using hk)
    rw [hget k]
    unfold viewE
    cases hh : (before e.chains k (e.base + A)).has with
    | true => rw [if_pos ⟨hm, rfl⟩]
    | false =>
      rw [if_neg (by simp), h.bh k _ hh]
      rfl
  have hrun : runM (viewE e.chains (e.base + A)) d = runM (RF.get (goRows e.chains (e.base + A) [] (keysD d))) d :=
    runGo_congr fun i hi hk => by rw [hkd i.key (.inl (wrong_reads hw i hi hk))]
  have hrunC : runC (viewE e.chains (e.base + A)) d = runC (RF.get (goRows e.chains (e.base + A) [] (keysD d))) d := by unfold runC; rw [hrun]
  unfold pgoNew goNew goDone
  rw [hrunC, hrun]
  generalize hr0 : goRows e.chains (e.base + A) [] (keysD d) = r0 at hs0 hkd
  have hpl := plain_do hs0 (wrong_keyed hw)
  rw [← hpl]
  unfold plainD
  dsimp only
  congr 1
  refine pgoSets_eq fun k hk => ?_
  obtain ⟨h1, h2, h3⟩ := run_do (r := r0) (W := d.writes) (l := d.code) (sk := 0) (m := []) (e := done0) (now := r0) ⟨hs0, fun k => rfl, fun k c h => by simp [mG] at h, fun k c h => by simp [mG] at h⟩ rfl (wrong_keyed hw)
  unfold madeV
  have key : (RF.get (appC r0 (runC (RF.get r0) d)) k).2 = (pickV k (before e.chains k (e.base + A)) (runC (RF.get r0) d)).has ∧ (RF.get (appC r0 (runC (RF.get r0) d)) k).1 = (pickV k (before e.chains k (e.base + A)) (runC (RF.get r0) d)).n := by
    unfold runC
    by_cases hf : (runM (RF.get r0) d).2.failed = true
    · rw [if_pos hf]
      simp only [appC, pickV]
      rw [hkd k (.inr hk)]
      exact ⟨rfl, rfl⟩
    · rw [if_neg hf, appC_get hs0, if_pos hk, pickV_chg]
      have hf' : (doGo r0 0 r0 done0 d.code).2.failed = false := by rw [← h1]; exact Bool.eq_false_iff.2 hf
      have hmi := h3 hf'
      unfold chAt
      have hmm : (runM (RF.get r0) d).1 = (runGo (RF.get r0) 0 [] done0 d.code).1 := rfl
      cases hm : mG (runM (RF.get r0) d).1 k with
      | none =>
        dsimp only
        rw [hkd k (.inr hk)]
        exact ⟨rfl, rfl⟩
      | some c =>
        dsimp only
        rw [if_pos hk]
        unfold chOf chVer
        by_cases hc : c.1 = true
        · rw [if_pos hc]
          exact ⟨hc.symm, rfl⟩
        · rw [if_neg hc]
          have hc' : c.1 = false := Bool.eq_false_iff.2 hc
          exact ⟨hc'.symm, (hmi.f k c (by rw [← hmm]; exact hm) hc').symm⟩
  rw [key.1, key.2]

end Go.Proofs.Ytjopijlkpipljaa

/-! F4 -/
/-
  Contract of the references' WrongRows.
-/
namespace Go.Proofs.Ytjopijlkpipljaa
open Go.AX Go.RF

set_option maxRecDepth 100000
set_option maxHeartbeats 4000000

theorem ok_wrongRows (l : List Pair) (hl : l.length ≤ 268435456) (hk : ∀ p ∈ l, p.key.length ≤ 1073741824) : FnOk Try.prog 4 [.d (encRows l)] (.one (dint (wrongRows l))) := by
  refine fnOk_of tbl_ok mixed_ok Try.func4 rfl (by kernel_rfl) rfl rfl fun w0 own0 => ?_
  repeat (first | ((with_reducible apply s1); exact rfl) | (with_reducible first | apply CW.seq | apply CW.block | apply CW.region | apply CW.draw | apply CW.skip | apply CW.exit | apply CW.ret | apply q_then | apply q_then_exit | apply q_then_ret | apply q_block | apply q_block_ret | apply q_block_hit | apply q_ret | apply q_end | apply q_loop_exit | apply q_loop_ret | apply q_loopT_exit | apply q_loopT_ret | apply RW.nil) | ((with_reducible apply s3); exact rfl; exact by_k) | ((with_reducible apply s2); exact rfl; exact by_k) | ((with_reducible apply s4); exact rfl) | ((with_reducible apply s5); (first | exact by_oa); exact by_g) | ((with_reducible apply CW.cond_t); exact rfl; exact by_ks) | ((with_reducible apply CW.cond_f); exact rfl; exact by_ks) | ((with_reducible apply q_block_miss); exact rfl) | (refine And.intro (show chk [] [] _ _ = true by kernel_rfl) ?_))
  refine CW.loopT (fun t : Nat × Str => [(.s 3, .av (.d (dstr t.2))), (.s 6, .av (.d (encRows l))), (.s 7, .av (.d (dint l.length))), (.s 8, .av (.d (dint t.1))), (.nx, .num 0)])
    (fun t => t.1 ≤ l.length ∧ wrongRowsGo t.1 t.2 (l.drop t.1) = wrongRows l) (fun t => l.length - t.1) (0, []) ⟨by omega, rfl⟩ ?_ ?_
  ·
    exact by_less
  · rintro ⟨i, last⟩ ⟨hi, hI⟩
    dsimp only at hi hI ⊢
    rcases drop_case hi with ⟨h1, h2⟩ | ⟨p, h1, h2, h3⟩
    · rw [h1] at hI
      simp only [wrongRowsGo] at hI
      repeat (first | ((with_reducible apply s1); exact rfl) | (with_reducible first | apply CW.seq | apply CW.block | apply CW.region | apply CW.draw | apply CW.skip | apply CW.exit | apply CW.ret | apply q_then | apply q_then_exit | apply q_then_ret | apply q_block | apply q_block_ret | apply q_block_hit | apply q_ret | apply q_end | apply q_loop_exit | apply q_loop_ret | apply q_loopT_exit | apply q_loopT_ret | apply RW.nil) | ((with_reducible apply s3); exact rfl; exact by_k) | ((with_reducible apply s2); exact rfl; exact by_k) | ((with_reducible apply s4); exact rfl) | ((with_reducible apply s5); (first | exact by_oa); exact by_g) | ((with_reducible apply CW.cond_t); exact rfl; exact by_ks) | ((with_reducible apply CW.cond_f); exact rfl; exact by_ks) | ((with_reducible apply q_block_miss); exact rfl) | (refine And.intro (show chk [] [] _ _ = true by kernel_rfl) ?_))
      exact .one (.tmp rfl (.one (.d (dle_int hI))))
    · rw [h1] at hI
      simp only [wrongRowsGo] at hI
      have hc := ok_key p.key (hk p (List.mem_of_getElem? h2))
      cases h4 : key p.key
      · rw [if_pos h4] at hI
        repeat (first | ((with_reducible apply s1); exact rfl) | (with_reducible first | apply CW.seq | apply CW.block | apply CW.region | apply CW.draw | apply CW.skip | apply CW.exit | apply CW.ret | apply q_then | apply q_then_exit | apply q_then_ret | apply q_block | apply q_block_ret | apply q_block_hit | apply q_ret | apply q_end | apply q_loop_exit | apply q_loop_ret | apply q_loopT_exit | apply q_loopT_ret | apply RW.nil) | ((with_reducible apply s3); exact rfl; exact by_k) | ((with_reducible apply s2); exact rfl; exact by_k) | ((with_reducible apply s4); exact rfl) | ((with_reducible apply s5); (first | (focus ((with_reducible apply a_call); exact hc; exact rfl; (repeat (first | exact SubsE.nil | (apply SubsE.cons; exact rfl; (first | exact .d (.refl _) | exact .d (.nil _) | exact .agg rfl (.refl _) | exact .pd | exact .ptr rfl); (first | exact trivial | exact ⟨rfl, trivial⟩)))); done)) | exact by_oa); exact by_g) | ((with_reducible apply CW.cond_t); exact rfl; exact by_ks) | ((with_reducible apply CW.cond_f); exact rfl; exact by_ks) | ((with_reducible apply q_block_miss); exact rfl) | (refine And.intro (show chk [] [] _ _ = true by kernel_rfl) ?_))
        exact .one (.tmp rfl (.one (.d (dle_int hI))))
      · rw [if_neg (by simp [h4])] at hI
        by_cases h5 : 0 < i
        · cases h6 : sle p.key last
          · rw [if_neg (by simp [h6])] at hI
            have h6' : (Go.Op.bytesLess p.key last || decide (p.key = last)) = false := h6
            by_cases h7 : 1073741824 < p.n
            · rw [if_pos (.inl h7)] at hI
              repeat (first | ((with_reducible apply s1); exact rfl) | (with_reducible first | apply CW.seq | apply CW.block | apply CW.region | apply CW.draw | apply CW.skip | apply CW.exit | apply CW.ret | apply q_then | apply q_then_exit | apply q_then_ret | apply q_block | apply q_block_ret | apply q_block_hit | apply q_ret | apply q_end | apply q_loop_exit | apply q_loop_ret | apply q_loopT_exit | apply q_loopT_ret | apply RW.nil) | ((with_reducible apply s3); exact rfl; exact by_k) | ((with_reducible apply s2); exact rfl; exact by_k) | ((with_reducible apply s4); exact rfl) | ((with_reducible apply s5); (first | (focus ((with_reducible apply a_call); exact hc; exact rfl; (repeat (first | exact SubsE.nil | (apply SubsE.cons; exact rfl; (first | exact .d (.refl _) | exact .d (.nil _) | exact .agg rfl (.refl _) | exact .pd | exact .ptr rfl); (first | exact trivial | exact ⟨rfl, trivial⟩)))); done)) | exact by_oa); exact by_g) | ((with_reducible apply CW.cond_t); exact rfl; exact by_ks) | ((with_reducible apply CW.cond_f); exact rfl; exact by_ks) | ((with_reducible apply q_block_miss); exact rfl) | (refine And.intro (show chk [] [] _ _ = true by kernel_rfl) ?_))
              exact .one (.tmp rfl (.one (.d (dle_int hI))))
            · by_cases h8 : p.n < -1073741824
              · rw [if_pos (.inr h8)] at hI
                repeat (first | ((with_reducible apply s1); exact rfl) | (with_reducible first | apply CW.seq | apply CW.block | apply CW.region | apply CW.draw | apply CW.skip | apply CW.exit | apply CW.ret | apply q_then | apply q_then_exit | apply q_then_ret | apply q_block | apply q_block_ret | apply q_block_hit | apply q_ret | apply q_end | apply q_loop_exit | apply q_loop_ret | apply q_loopT_exit | apply q_loopT_ret | apply RW.nil) | ((with_reducible apply s3); exact rfl; exact by_k) | ((with_reducible apply s2); exact rfl; exact by_k) | ((with_reducible apply s4); exact rfl) | ((with_reducible apply s5); (first | (focus ((with_reducible apply a_call); exact hc; exact rfl; (repeat (first | exact SubsE.nil | (apply SubsE.cons; exact rfl; (first | exact .d (.refl _) | exact .d (.nil _) | exact .agg rfl (.refl _) | exact .pd | exact .ptr rfl); (first | exact trivial | exact ⟨rfl, trivial⟩)))); done)) | exact by_oa); exact by_g) | ((with_reducible apply CW.cond_t); exact rfl; exact by_ks) | ((with_reducible apply CW.cond_f); exact rfl; exact by_ks) | ((with_reducible apply q_block_miss); exact rfl) | (refine And.intro (show chk [] [] _ _ = true by kernel_rfl) ?_))
                exact .one (.tmp rfl (.one (.d (dle_int hI))))
              · rw [if_neg (by omega)] at hI
                repeat (first | ((with_reducible apply s1); exact rfl) | (with_reducible first | apply CW.seq | apply CW.block | apply CW.region | apply CW.draw | apply CW.skip | apply CW.exit | apply CW.ret | apply q_then | apply q_then_exit | apply q_then_ret | apply q_block | apply q_block_ret | apply q_block_hit | apply q_ret | apply q_end | apply q_loop_exit | apply q_loop_ret | apply q_loopT_exit | apply q_loopT_ret | apply RW.nil) | ((with_reducible apply s3); exact rfl; exact by_k) | ((with_reducible apply s2); exact rfl; exact by_k) | ((with_reducible apply s4); exact rfl) | ((with_reducible apply s5); (first | (focus ((with_reducible apply a_call); exact hc; exact rfl; (repeat (first | exact SubsE.nil | (apply SubsE.cons; exact rfl; (first | exact .d (.refl _) | exact .d (.nil _) | exact .agg rfl (.refl _) | exact .pd | exact .ptr rfl); (first | exact trivial | exact ⟨rfl, trivial⟩)))); done)) | exact by_oa); exact by_g) | ((with_reducible apply CW.cond_t); exact rfl; exact by_ks) | ((with_reducible apply CW.cond_f); exact rfl; exact by_ks) | ((with_reducible apply q_block_miss); exact rfl) | (refine And.intro (show chk [] [] _ _ = true by kernel_rfl) ?_))
                refine q_loopT (i + 1, _) ⟨by omega, hI⟩ (by dsimp only; omega) ?_
                exact by_less
          · rw [if_pos ⟨h5, h6⟩] at hI
            have h6' : (Go.Op.bytesLess p.key last || decide (p.key = last)) = true := h6
            repeat (first | ((with_reducible apply s1); exact rfl) | (with_reducible first | apply CW.seq | apply CW.block | apply CW.region | apply CW.draw | apply CW.skip | apply CW.exit | apply CW.ret | apply q_then | apply q_then_exit | apply q_then_ret | apply q_block | apply q_block_ret | apply q_block_hit | apply q_ret | apply q_end | apply q_loop_exit | apply q_loop_ret | apply q_loopT_exit | apply q_loopT_ret | apply RW.nil) | ((with_reducible apply s3); exact rfl; exact by_k) | ((with_reducible apply s2); exact rfl; exact by_k) | ((with_reducible apply s4); exact rfl) | ((with_reducible apply s5); (first | (focus ((with_reducible apply a_call); exact hc; exact rfl; (repeat (first | exact SubsE.nil | (apply SubsE.cons; exact rfl; (first | exact .d (.refl _) | exact .d (.nil _) | exact .agg rfl (.refl _) | exact .pd | exact .ptr rfl); (first | exact trivial | exact ⟨rfl, trivial⟩)))); done)) | exact by_oa); exact by_g) | ((with_reducible apply CW.cond_t); exact rfl; exact by_ks) | ((with_reducible apply CW.cond_f); exact rfl; exact by_ks) | ((with_reducible apply q_block_miss); exact rfl) | (refine And.intro (show chk [] [] _ _ = true by kernel_rfl) ?_))
            exact .one (.tmp rfl (.one (.d (dle_int hI))))
        · rw [if_neg (by simp; omega)] at hI
          by_cases h7 : 1073741824 < p.n
          · rw [if_pos (.inl h7)] at hI
            repeat (first | ((with_reducible apply s1); exact rfl) | (with_reducible first | apply CW.seq | apply CW.block | apply CW.region | apply CW.draw | apply CW.skip | apply CW.exit | apply CW.ret | apply q_then | apply q_then_exit | apply q_then_ret | apply q_block | apply q_block_ret | apply q_block_hit | apply q_ret | apply q_end | apply q_loop_exit | apply q_loop_ret | apply q_loopT_exit | apply q_loopT_ret | apply RW.nil) | ((with_reducible apply s3); exact rfl; exact by_k) | ((with_reducible apply s2); exact rfl; exact by_k) | ((with_reducible apply s4); exact rfl) | ((with_reducible apply s5); (first | (focus ((with_reducible apply a_call); exact hc; exact rfl; (repeat (first | exact SubsE.nil | (apply SubsE.cons; exact rfl; (first | exact .d (.refl _) | exact .d (.nil _) | exact .agg rfl (.refl _) | exact .pd | exact .ptr rfl); (first | exact trivial | exact ⟨rfl, trivial⟩)))); done)) | exact by_oa); exact by_g) | ((with_reducible apply CW.cond_t); exact rfl; exact by_ks) | ((with_reducible apply CW.cond_f); exact rfl; exact by_ks) | ((with_reducible apply q_block_miss); exact rfl) | (refine And.intro (show chk [] [] _ _ = true by kernel_rfl) ?_))
            exact .one (.tmp rfl (.one (.d (dle_int hI))))
          · by_cases h8 : p.n < -1073741824
            · rw [if_pos (.inr h8)] at hI
              repeat (first | ((with_reducible apply s1); exact rfl) | (with_reducible first | apply CW.seq | apply CW.block | apply CW.region | apply CW.draw | apply CW.skip | apply CW.exit | apply CW.ret | apply q_then | apply q_then_exit | apply q_then_ret | apply q_block | apply q_block_ret | apply q_block_hit | apply q_ret | apply q_end | apply q_loop_exit | apply q_loop_ret | apply q_loopT_exit | apply q_loopT_ret | apply RW.nil) | ((with_reducible apply s3); exact rfl; exact by_k) | ((with_reducible apply s2); exact rfl; exact by_k) | ((with_reducible apply s4); exact rfl) | ((with_reducible apply s5); (first | (focus ((with_reducible apply a_call); exact hc; exact rfl; (repeat (first | exact SubsE.nil | (apply SubsE.cons; exact rfl; (first | exact .d (.refl _) | exact .d (.nil _) | exact .agg rfl (.refl _) | exact .pd | exact .ptr rfl); (first | exact trivial | exact ⟨rfl, trivial⟩)))); done)) | exact by_oa); exact by_g) | ((with_reducible apply CW.cond_t); exact rfl; exact by_ks) | ((with_reducible apply CW.cond_f); exact rfl; exact by_ks) | ((with_reducible apply q_block_miss); exact rfl) | (refine And.intro (show chk [] [] _ _ = true by kernel_rfl) ?_))
              exact .one (.tmp rfl (.one (.d (dle_int hI))))
            · rw [if_neg (by omega)] at hI
              repeat (first | ((with_reducible apply s1); exact rfl) | (with_reducible first | apply CW.seq | apply CW.block | apply CW.region | apply CW.draw | apply CW.skip | apply CW.exit | apply CW.ret | apply q_then | apply q_then_exit | apply q_then_ret | apply q_block | apply q_block_ret | apply q_block_hit | apply q_ret | apply q_end | apply q_loop_exit | apply q_loop_ret | apply q_loopT_exit | apply q_loopT_ret | apply RW.nil) | ((with_reducible apply s3); exact rfl; exact by_k) | ((with_reducible apply s2); exact rfl; exact by_k) | ((with_reducible apply s4); exact rfl) | ((with_reducible apply s5); (first | (focus ((with_reducible apply a_call); exact hc; exact rfl; (repeat (first | exact SubsE.nil | (apply SubsE.cons; exact rfl; (first | exact .d (.refl _) | exact .d (.nil _) | exact .agg rfl (.refl _) | exact .pd | exact .ptr rfl); (first | exact trivial | exact ⟨rfl, trivial⟩)))); done)) | exact by_oa); exact by_g) | ((with_reducible apply CW.cond_t); exact rfl; exact by_ks) | ((with_reducible apply CW.cond_f); exact rfl; exact by_ks) | ((with_reducible apply q_block_miss); exact rfl) | (refine And.intro (show chk [] [] _ _ = true by kernel_rfl) ?_))
              refine q_loopT (i + 1, _) ⟨by omega, hI⟩ (by dsimp only; omega) ?_
              exact by_less

end Go.Proofs.Ytjopijlkpipljaa

/-! L1 -/
/-
  The law TidyTells answers true of whatever data.
-/
namespace Go.Proofs.Ytjopijlkpipljaa
open Go.AX Go.RF

set_option maxRecDepth 100000
set_option maxHeartbeats 8000000

theorem sumLen_eq (bs : List (List Deed)) : sumLen bs = (bs.map List.length).sum := by
  induction bs with
  | nil => rfl
  | cons b bs ih => simp [sumLen, ih]
end Go.Proofs.Ytjopijlkpipljaa

/-! L6 -/
/-
  The law RunTells answers true of whatever data.
-/
namespace Go.Proofs.Ytjopijlkpipljaa
open Go.AX Go.RF

set_option maxRecDepth 100000
set_option maxHeartbeats 8000000

theorem ok_pgoE (e : Engine) (at_ : Int) (hs : e.Sm) (hS : SInv e) (hW : WInv e) (hc : chOk e.chains) (hn : e.ends.length = e.deeds.length) :
    FnOk Try.prog 6 [.d (.agg e.enc), .d (dint at_)] (.tup [.agg (goE e at_).1.enc, dint (goE e at_).2]) := by
  have hdl := hs.d
  have co := ok_planOwn e hs
  unfold goE
  by_cases h1 : at_ < 0
  · rw [if_pos h1]
    refine fnOk_of tbl_ok mixed_ok Try.func6 rfl (by kernel_rfl) rfl rfl fun w0 own0 => ?_
    repeat (first | ((with_reducible apply s1); exact rfl) | (with_reducible first | apply CW.seq | apply CW.block | apply CW.region | apply CW.draw | apply CW.skip | apply CW.exit | apply CW.ret | apply q_then | apply q_then_exit | apply q_then_ret | apply q_block | apply q_block_ret | apply q_block_hit | apply q_ret | apply q_end | apply q_loop_exit | apply q_loop_ret | apply q_loopT_exit | apply q_loopT_ret | apply RW.nil) | ((with_reducible apply s3); exact rfl; exact by_k) | ((with_reducible apply s2); exact rfl; exact by_k) | ((with_reducible apply s4); exact rfl) | ((with_reducible apply s5); (first | (focus ((with_reducible apply a_call); exact co; exact rfl; (repeat (first | exact SubsE.nil | (apply SubsE.cons; exact rfl; (first | exact .d (.refl _) | exact .d (.nil _) | exact .agg rfl (.refl _) | exact .pd | exact .ptr rfl); (first | exact trivial | exact ⟨rfl, trivial⟩)))); done)) | exact by_oa); exact by_g) | ((with_reducible apply CW.cond_t); exact rfl; exact by_ks) | ((with_reducible apply CW.cond_f); exact rfl; exact by_ks) | ((with_reducible apply q_block_miss); exact rfl) | (refine And.intro (show chk [] [] _ _ = true by kernel_rfl) ?_))
    exact .two (.cell rfl rfl rfl rfl (.aggd rfl (.refl _))) (.tmp rfl (.one (.d (.refl _))))
  rw [if_neg h1]
  obtain ⟨A, rfl⟩ := Int.eq_ofNat_of_zero_le (show 0 ≤ at_ by omega)
  rw [Int.toNat_natCast]
  unfold goAt
  cases hd : e.deeds[A]? with
  | none =>
    have hge : e.deeds.length ≤ A := List.getElem?_eq_none_iff.1 hd
    refine fnOk_of tbl_ok mixed_ok Try.func6 rfl (by kernel_rfl) rfl rfl fun w0 own0 => ?_
    repeat (first | ((with_reducible apply s1); exact rfl) | (with_reducible first | apply CW.seq | apply CW.block | apply CW.region | apply CW.draw | apply CW.skip | apply CW.exit | apply CW.ret | apply q_then | apply q_then_exit | apply q_then_ret | apply q_block | apply q_block_ret | apply q_block_hit | apply q_ret | apply q_end | apply q_loop_exit | apply q_loop_ret | apply q_loopT_exit | apply q_loopT_ret | apply RW.nil) | ((with_reducible apply s3); exact rfl; exact by_k) | ((with_reducible apply s2); exact rfl; exact by_k) | ((with_reducible apply s4); exact rfl) | ((with_reducible apply s5); (first | (focus ((with_reducible apply a_call); exact co; exact rfl; (repeat (first | exact SubsE.nil | (apply SubsE.cons; exact rfl; (first | exact .d (.refl _) | exact .d (.nil _) | exact .agg rfl (.refl _) | exact .pd | exact .ptr rfl); (first | exact trivial | exact ⟨rfl, trivial⟩)))); done)) | exact by_oa); exact by_g) | ((with_reducible apply CW.cond_t); exact rfl; exact by_ks) | ((with_reducible apply CW.cond_f); exact rfl; exact by_ks) | ((with_reducible apply q_block_miss); exact rfl) | (refine And.intro (show chk [] [] _ _ = true by kernel_rfl) ?_))
    exact .two (.cell rfl rfl rfl rfl (.aggd rfl (.refl _))) (.tmp rfl (.one (.d (.refl _))))
  | some d =>
    have hA := (List.getElem?_eq_some_iff.1 hd).1
    dsimp only
    obtain ⟨s, hsA⟩ : ∃ s, e.state[A]? = some s := ⟨e.state[A]'(by rw [hW.l]; exact hA), List.getElem?_eq_getElem (by rw [hW.l]; exact hA)⟩
    by_cases hs1 : s = 1
    · subst hs1
      rw [if_pos hsA]
      refine fnOk_of tbl_ok mixed_ok Try.func6 rfl (by kernel_rfl) rfl rfl fun w0 own0 => ?_
      repeat (first | ((with_reducible apply s1); exact rfl) | (with_reducible first | apply CW.seq | apply CW.block | apply CW.region | apply CW.draw | apply CW.skip | apply CW.exit | apply CW.ret | apply q_then | apply q_then_exit | apply q_then_ret | apply q_block | apply q_block_ret | apply q_block_hit | apply q_ret | apply q_end | apply q_loop_exit | apply q_loop_ret | apply q_loopT_exit | apply q_loopT_ret | apply RW.nil) | ((with_reducible apply s3); exact rfl; exact by_k) | ((with_reducible apply s2); exact rfl; exact by_k) | ((with_reducible apply s4); exact rfl) | ((with_reducible apply s5); (first | (focus ((with_reducible apply a_call); exact co; exact rfl; (repeat (first | exact SubsE.nil | (apply SubsE.cons; exact rfl; (first | exact .d (.refl _) | exact .d (.nil _) | exact .agg rfl (.refl _) | exact .pd | exact .ptr rfl); (first | exact trivial | exact ⟨rfl, trivial⟩)))); done)) | exact by_oa); exact by_g) | ((with_reducible apply CW.cond_t); exact rfl; exact by_ks) | ((with_reducible apply CW.cond_f); exact rfl; exact by_ks) | ((with_reducible apply q_block_miss); exact rfl) | (refine And.intro (show chk [] [] _ _ = true by kernel_rfl) ?_))
      exact .two (.cell rfl rfl rfl rfl (.aggd rfl (.refl _))) (.tmp rfl (.one (.d (.refl _))))
    rw [if_neg (by rw [hsA]; simpa using hs1)]
    have hw := hW.d d (List.mem_of_getElem? hd)
    have cn := ok_pneeds e A d hs hd (wrong_keys hw).1 hS.k hW.nb
    cases hne : needs e A d with
    | nil =>
      rw [if_pos rfl]
      rw [hne] at cn
      have := pgo_loop e A d hs hd hW.l hn hS.k hw hc (e.base + e.deeds.length) (fun c hc => ⟨hS.v c hc, hS.b c hc⟩) hne s hsA hs1 cn
      rw [pgoNew_eq hW hd] at this
      exact this
    | cons x l =>
      rw [if_neg (by simp)]
      rw [hne] at cn
      have hnl : (needs e A d).length ≤ 268435456 := by
        have := needs_len e.chains e.base (e.base + A) (keysD d) (List.range A) 0
        unfold needs
        simp at this
        omega
      rw [hne] at hnl
      have hpos : ((x :: l).length : Int) > 0 := by simp
      refine fnOk_of tbl_ok mixed_ok Try.func6 rfl (by kernel_rfl) rfl rfl fun w0 own0 => ?_
      repeat (first | ((with_reducible apply s1); exact rfl) | (with_reducible first | apply CW.seq | apply CW.block | apply CW.region | apply CW.draw | apply CW.skip | apply CW.exit | apply CW.ret | apply q_then | apply q_then_exit | apply q_then_ret | apply q_block | apply q_block_ret | apply q_block_hit | apply q_ret | apply q_end | apply q_loop_exit | apply q_loop_ret | apply q_loopT_exit | apply q_loopT_ret | apply RW.nil) | ((with_reducible apply s3); exact rfl; exact by_k) | ((with_reducible apply s2); exact rfl; exact by_k) | ((with_reducible apply s4); exact rfl) | ((with_reducible apply s5); (first | (focus ((with_reducible apply a_call); exact co; exact rfl; (repeat (first | exact SubsE.nil | (apply SubsE.cons; exact rfl; (first | exact .d (.refl _) | exact .d (.nil _) | exact .agg rfl (.refl _) | exact .pd | exact .ptr rfl); (first | exact trivial | exact ⟨rfl, trivial⟩)))); done)) | (focus ((with_reducible apply a_call); exact cn; exact rfl; (repeat (first | exact SubsE.nil | (apply SubsE.cons; exact rfl; (first | exact .d (.refl _) | exact .d (.nil _) | exact .agg rfl (.refl _) | exact .pd | exact .ptr rfl); (first | exact trivial | exact ⟨rfl, trivial⟩)))); done)) | exact by_oa); exact by_g) | ((with_reducible apply CW.cond_t); exact rfl; exact by_ks) | ((with_reducible apply CW.cond_f); exact rfl; exact by_ks) | ((with_reducible apply q_block_miss); exact rfl) | (refine And.intro (show chk [] [] _ _ = true by kernel_rfl) ?_))
      exact .two (.cell rfl rfl rfl rfl (.aggd rfl (.refl _))) (.tmp rfl (.one (.d (.refl _))))

theorem ok_RunTells (r : List Pair) (bs : List (List Deed)) (p : List Int) (at_ : Int) (hrl : r.length ≤ 1048576) (hrk : ∀ q ∈ r, q.key.length ≤ 1073741824) (hb : ∀ b ∈ bs, b.length ≤ 1048576 ∧ ∀ d ∈ b, d.Sm) (hbl : bs.length ≤ 1048576) (hsum : sumLen bs ≤ 1048576) (hp : p.length ≤ 1048576) :
    FnOk Try.prog 3 [.d (encRows r), .d (encBatches bs), .d (encInts p), .d (dint at_)] (.one (dbool true)) := by
  refine fnOk_of tbl_ok mixed_ok Try.func3 rfl (by kernel_rfl) rfl rfl fun w0 own0 => ?_
  have c1 := ok_wrongRows r (by omega) hrk
  by_cases hw : wrongRows r = 0
  · obtain ⟨hsrt, _, hok⟩ := wrongRows_srt hw
    have c2 := ok_rBuild r bs p hok (by omega) (fun b h => ⟨by have := (hb b h).1; omega, (hb b h).2⟩) (by omega) (by omega) (by omega)
    have hE : EInv (buildE r bs p) (r.length + 1 + 5 * sumLen bs) := EInv.buildGo (p := p) (newE_inv hok) (fun b h => (hb b h).2)
    have hS := build_srt hw bs p
    have hW := build_w hw bs p
    generalize buildE r bs p = e at c2 hE hS hW
    have hz := hE.z.sm (by omega)
    have c3 := ok_pgoE e at_ hz hS hW hE.c hE.z.n
    have c4 := ok_go e at_ _ hE.z (by omega) hE.o hE.c
    have c5 := ok_pready e hz hE.z.s (fun d hd => (wrong_keys (hW.d d hd)).1) hS.k hW.nb
    have c6 := ok_ready e hz hE.z.s
    have hrl2 : (ready e).length ≤ 134217728 := by
      have := readyGo_len (e := e) e.state 0
      have h5 := hz.s
      unfold ready; omega
    have c7 := ok_SameInts (ready e) (ready e) (by omega)
    rw [allB_refl (by simp)] at c7
    have c8 := ok_sameE (goE e at_).1 (goE e at_).1 ((hE.goE at_).z.sm (by omega))
    rw [sameE_refl] at c8
    repeat (first | ((with_reducible apply s1); exact rfl) | (with_reducible first | apply CW.seq | apply CW.block | apply CW.region | apply CW.draw | apply CW.skip | apply CW.exit | apply CW.ret | apply q_then | apply q_then_exit | apply q_then_ret | apply q_block | apply q_block_ret | apply q_block_hit | apply q_ret | apply q_end | apply q_loop_exit | apply q_loop_ret | apply q_loopT_exit | apply q_loopT_ret | apply RW.nil) | ((with_reducible apply s3); exact rfl; exact by_k) | ((with_reducible apply s2); exact rfl; exact by_k) | ((with_reducible apply s4); exact rfl) | ((with_reducible apply s5); (first | (focus ((with_reducible apply a_call); exact c1; exact rfl; (repeat (first | exact SubsE.nil | (apply SubsE.cons; exact rfl; (first | exact .d (.refl _) | exact .d (.nil _) | exact .agg rfl (.refl _) | exact .pd | exact .ptr rfl); (first | exact trivial | exact ⟨rfl, trivial⟩)))); done)) | (focus ((with_reducible apply a_call); exact c2; exact rfl; (repeat (first | exact SubsE.nil | (apply SubsE.cons; exact rfl; (first | exact .d (.refl _) | exact .d (.nil _) | exact .agg rfl (.refl _) | exact .pd | exact .ptr rfl); (first | exact trivial | exact ⟨rfl, trivial⟩)))); done)) | (focus ((with_reducible apply a_call); exact c3; exact rfl; (repeat (first | exact SubsE.nil | (apply SubsE.cons; exact rfl; (first | exact .d (.refl _) | exact .d (.nil _) | exact .agg rfl (.refl _) | exact .pd | exact .ptr rfl); (first | exact trivial | exact ⟨rfl, trivial⟩)))); done)) | (focus ((with_reducible apply a_call); exact c4; exact rfl; (repeat (first | exact SubsE.nil | (apply SubsE.cons; exact rfl; (first | exact .d (.refl _) | exact .d (.nil _) | exact .agg rfl (.refl _) | exact .pd | exact .ptr rfl); (first | exact trivial | exact ⟨rfl, trivial⟩)))); done)) | (focus ((with_reducible apply a_call); exact c5; exact rfl; (repeat (first | exact SubsE.nil | (apply SubsE.cons; exact rfl; (first | exact .d (.refl _) | exact .d (.nil _) | exact .agg rfl (.refl _) | exact .pd | exact .ptr rfl); (first | exact trivial | exact ⟨rfl, trivial⟩)))); done)) | (focus ((with_reducible apply a_call); exact c6; exact rfl; (repeat (first | exact SubsE.nil | (apply SubsE.cons; exact rfl; (first | exact .d (.refl _) | exact .d (.nil _) | exact .agg rfl (.refl _) | exact .pd | exact .ptr rfl); (first | exact trivial | exact ⟨rfl, trivial⟩)))); done)) | (focus ((with_reducible apply a_call); exact c7; exact rfl; (repeat (first | exact SubsE.nil | (apply SubsE.cons; exact rfl; (first | exact .d (.refl _) | exact .d (.nil _) | exact .agg rfl (.refl _) | exact .pd | exact .ptr rfl); (first | exact trivial | exact ⟨rfl, trivial⟩)))); done)) | (focus ((with_reducible apply a_call); exact c8; exact rfl; (repeat (first | exact SubsE.nil | (apply SubsE.cons; exact rfl; (first | exact .d (.refl _) | exact .d (.nil _) | exact .agg rfl (.refl _) | exact .pd | exact .ptr rfl); (first | exact trivial | exact ⟨rfl, trivial⟩)))); done)) | ((with_reducible apply a_bin); (iterate 2 exact rfl); (first | exact bin_bneq (by kernel_rfl) | exact bin_beql (by kernel_rfl)); exact rfl) | exact by_oa); exact by_g) | ((with_reducible apply CW.cond_t); exact rfl; exact by_ks) | ((with_reducible apply CW.cond_f); exact rfl; exact by_ks) | ((with_reducible apply q_block_miss); exact rfl) | (refine And.intro (show chk [] [] _ _ = true by kernel_rfl) ?_))
    exact .one (.tmp rfl (.one (.d (.refl _))))
  ·
    repeat (first | ((with_reducible apply s1); exact rfl) | (with_reducible first | apply CW.seq | apply CW.block | apply CW.region | apply CW.draw | apply CW.skip | apply CW.exit | apply CW.ret | apply q_then | apply q_then_exit | apply q_then_ret | apply q_block | apply q_block_ret | apply q_block_hit | apply q_ret | apply q_end | apply q_loop_exit | apply q_loop_ret | apply q_loopT_exit | apply q_loopT_ret | apply RW.nil) | ((with_reducible apply s3); exact rfl; exact by_k) | ((with_reducible apply s2); exact rfl; exact by_k) | ((with_reducible apply s4); exact rfl) | ((with_reducible apply s5); (first | (focus ((with_reducible apply a_call); exact c1; exact rfl; (repeat (first | exact SubsE.nil | (apply SubsE.cons; exact rfl; (first | exact .d (.refl _) | exact .d (.nil _) | exact .agg rfl (.refl _) | exact .pd | exact .ptr rfl); (first | exact trivial | exact ⟨rfl, trivial⟩)))); done)) | exact by_oa); exact by_g) | ((with_reducible apply CW.cond_t); exact rfl; exact by_ks) | ((with_reducible apply CW.cond_f); exact rfl; exact by_ks) | ((with_reducible apply q_block_miss); exact rfl) | (refine And.intro (show chk [] [] _ _ = true by kernel_rfl) ?_))
    exact .one (.tmp rfl (.one (.d (.refl _))))

end Go.Proofs.Ytjopijlkpipljaa
