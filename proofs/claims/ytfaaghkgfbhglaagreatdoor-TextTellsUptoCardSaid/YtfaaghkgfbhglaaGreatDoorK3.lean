/-
  Part 3 of what the claim leans on: AxApp AxBld AxStr H1 ShNum ShNum2 AxPin2 AxFam2 AxPin4 AxPin5 AxBool AxFnD AxErr H6 AxMap AxMapI AxGen AxGen2 AxLit H8 P15 ShTxt AxBsO G1 G3 P1 P4 P5 G15 H9 H2 H3 H7.
-/
import Derived.Test.YtfaaghkgfbhglaaGreatDoorK2
import Derived.Shelf.Strconv.AtoiAll
import Derived.Shelf.Strconv.Itoa3
import Derived.Test.YtfaaghkgfbhglaaGreatDoorProg
import Derived.Laws.Small
import Derived.MapKept
import Derived.Shelf.Strconv.ErrVarAll
import Derived.Lib.Split
import Derived.Lib.Join
import Derived.Shelf.Strings.Split
import Derived.Shelf.Small.Wraps
import Derived.Shelf.Strings.OnBuilder
import Derived.Lib.SlTrimSet

/-! AxApp -/
/-
  append onto nil.
-/
namespace Go.AX
open Go.RowKit

variable {cx : Cx} {g : Nat → Value} {σ : St} {a : Act} {w : World} {nx : Nat}
variable {ty : TypeId} {pos : String} {af : Array Edge} {gd : Option (Nat × Bool)} {d : Nat}

/-- A pointer to cells that stay is not nil. -/
theorem a_nilpd {x : Operand} {cells : List D} (hx : ev σ x = some (.pd cells)) (hd : Nat.blt d cx.n = true) :
    OA cx σ ⟨some d, .nilCheck x, ty, pos, af, gd⟩ ⟨rdOf x (.pd cells), [(.s d, .av (.pd cells))]⟩ :=
  ⟨ok_nilCheck_pd (lt_of_blt hd) (ev_out hx).1, (ev_out hx).2⟩

end Go.AX

/-! AxBld -/
/-
  Structs that are built of slices of ours, and of data.
-/
namespace Go.AX
open Go.RowKit

variable {cx : Cx} {g : Nat → Value} {σ : St} {a : Act} {w : World} {nx : Nat}
variable {ty : TypeId} {pos : String} {af : Array Edge} {gd : Option (Nat × Bool)} {d : Nat}

/-- A list of cells, and what is known of each. -/
def RdG (R : Value → AV → Prop) (cs : List Value) (ds : List AV) : Prop :=
  cs.length = ds.length ∧ (∀ c ∈ cs, Value.oneCell' c = true) ∧ ∀ (j : Nat) (c : Value) (x : AV), ds[j]? = some x → cs[j]? = some c → R c x

/-- The operands of a literal's parts. -/
inductive PartsV (σ : St) : List (Nat × Operand) → List (Nat × List AV) → List (Key × Val) → Prop
  | nil : PartsV σ [] [] []
  | cons {i : Nat} {x : Operand} {r : List (Nat × Operand)} {av : AV} {ds : List AV} {q : List (Nat × List AV)} {l lo : List (Key × Val)} (hx : ev σ x = some av) (hc : cellsOf av = some ds) (hl : nwRd av lo ∧ App σ lo) (hr : PartsV σ r q l) :
      PartsV σ ((i, x) :: r) ((i, ds) :: q) (rdOf x av ++ (lo ++ l))
/-- The same, of whatever state has what is read. -/
inductive PartsW : List (Nat × Operand) → List (Nat × List AV) → List (Key × Val) → Prop
  | nil : PartsW [] [] []
  | cons {i : Nat} {x : Operand} {r : List (Nat × Operand)} {av : AV} {ds : List AV} {q : List (Nat × List AV)} {l lo : List (Key × Val)} (hx : EvS x av) (hc : cellsOf av = some ds) (hl : nwRd av lo) (hr : PartsW r q l) :
      PartsW ((i, x) :: r) ((i, ds) :: q) (rdOf x av ++ (lo ++ l))
theorem PartsV.out {ps : List (Nat × Operand)} {qs : List (Nat × List AV)} {l : List (Key × Val)} (h : PartsV σ ps qs l) : PartsW ps qs l ∧ App σ l := by
  induction h with
  | nil => exact ⟨.nil, trivial⟩
  | cons hx hc hl hr ih => exact ⟨.cons (ev_out hx).1 hc hl.1 ih.1, (ev_out hx).2.append (hl.2.append ih.2)⟩
theorem PartsW.ok (hs : SimG cx σ a w g nx) {ps : List (Nat × Operand)} {qs : List (Nat × List AV)} {l : List (Key × Val)} (h : PartsW ps qs l) (ha : App σ l) :
    (ps.map fun p => (p.1, a.eval p.2)).length = qs.length ∧
    (∀ (j : Nat) (p : Nat × Value) (q : Nat × List AV), (ps.map fun p => (p.1, a.eval p.2))[j]? = some p → qs[j]? = some q → p.1 = q.1 ∧ RdG (Rep1 cx g σ w) p.2.cells.toList q.2) ∧
    ∀ q ∈ qs, ∀ av ∈ q.2, av.bd1 nx := by
  induction h with
  | nil => exact ⟨rfl, fun j p q h => by simp at h, by simp⟩
  | cons hx hc hl hr ih =>
    obtain ⟨h1, h2, h3⟩ := ih ha.right.right
    obtain ⟨hrep, hbd⟩ := hs.ev hx ha.left
    obtain ⟨c1, c2, c3, c4⟩ := cells_of hrep hbd hc (one_of hs hrep (newest_of hl ha.right.left))
    refine ⟨by simpa using h1, fun j p q hj hq => ?_, fun q hq => ?_⟩
    · cases j with
      | zero =>
        simp at hj hq
        subst hj hq
        refine ⟨rfl, by simpa using c1, fun c hc => ?_, fun j c x hx hc => c3 j c x hx (by simpa using hc)⟩
        obtain ⟨j, hj⟩ := List.getElem?_of_mem hc
        exact c2 j c (by simpa using hj)
      | succ j => exact h2 j p q (by simpa using hj) (by simpa using hq)
    · rcases List.mem_cons.1 hq with rfl | hq
      · exact c4
      · exact h3 q hq
end Go.AX

/-! AxStr -/
/-
  Parts of texts; errors against nil.
-/
namespace Go.AX
open Go.RowKit Go.RF

variable {cx : Cx} {g : Nat → Value} {σ : St} {a : Act} {w w' : World} {nx : Nat}
variable {ty : TypeId} {pos : String} {af : Array Edge} {gd : Option (Nat × Bool)} {d : Nat}

theorem extract_str (s : List UInt8) (l h : Nat) : Value.string ((⟨s.toArray⟩ : ByteArray).extract l h) = str ((s.drop l).take (h - l)) := by
  have : (⟨s.toArray⟩ : ByteArray).extract l h = ⟨((s.drop l).take (h - l)).toArray⟩ := by
    apply ByteArray.ext
    rw [ByteArray.data_extract]
    simp
  rw [this]; rfl
/-- A part of a text, from a place to another one. -/
theorem a_sub {t : TypeId} {x lo hi : Operand} {kd ke : IntKind} {s : List UInt8} {l h : Nat} {ti : TI} (hx : ev σ x = some (.d (.v (str s)))) (hlo : ev σ lo = some (.d (.v (.int kd (l : Int))))) (hhi : ev σ hi = some (.d (.v (.int ke (h : Int)))))
    (ht : tget cx.T t = some ti) (hk : ti.kind = .str) (hd : Nat.blt d cx.n = true) (hlh : l ≤ h) (hh : h ≤ s.length) :
    OA cx σ ⟨some d, .slice t x (some lo) (some hi) none, ty, pos, af, gd⟩ ⟨rdOf x (.d (.v (str s))) ++ (rdOf lo (.d (.v (.int kd (l : Int)))) ++ rdOf hi (.d (.v (.int ke (h : Int))))), [(.s d, .av (.d (.v (str ((s.drop l).take (h - l))))))]⟩ := by
  refine ⟨ok_val rfl (lt_of_blt hd) fun σ1 a w g nx hs hr => ?_, (ev_out hx).2.append ((ev_out hlo).2.append (ev_out hhi).2)⟩
  have hv := rep_v (hs.ev (ev_out hx).1 hr.left).1
  have h1 := rep_v (hs.ev (ev_out hlo).1 hr.right.left).1
  have h2 := rep_v (hs.ev (ev_out hhi).1 hr.right.right).1
  have hu : cx.P.underlying t = some .string := by have := (cx.hT t ti ht).kind; rw [hk] at this; exact this.1
  refine ⟨_, w, ?_, Below.refl _ _, Rd.v _, trivial⟩
  have hsz : (⟨s.toArray⟩ : ByteArray).size = s.length := rfl
  have e1 : ¬ ((h : Int) < 0) := by omega
  have e2 : ¬ ((l : Int) < 0) := by omega
  rw [← extract_str]
  simp [execOp, hv, h1, h2, str, Instr.sliceAt, Instr.slice, run_underlying hu, Instr.sliceBounds, Instr.sliceBound, asIntOf, hsz, hlh, hh, e1, e2]
theorem a_subF {t : TypeId} {x lo : Operand} {kd : IntKind} {s : List UInt8} {l : Nat} {ti : TI} (hx : ev σ x = some (.d (.v (str s)))) (hlo : ev σ lo = some (.d (.v (.int kd (l : Int)))))
    (ht : tget cx.T t = some ti) (hk : ti.kind = .str) (hd : Nat.blt d cx.n = true) (hh : l ≤ s.length) :
    OA cx σ ⟨some d, .slice t x (some lo) none none, ty, pos, af, gd⟩ ⟨rdOf x (.d (.v (str s))) ++ rdOf lo (.d (.v (.int kd (l : Int)))), [(.s d, .av (.d (.v (str (s.drop l)))))]⟩ := by
  refine ⟨ok_val rfl (lt_of_blt hd) fun σ1 a w g nx hs hr => ?_, (ev_out hx).2.append (ev_out hlo).2⟩
  have hv := rep_v (hs.ev (ev_out hx).1 hr.left).1
  have h1 := rep_v (hs.ev (ev_out hlo).1 hr.right).1
  have hu : cx.P.underlying t = some .string := by have := (cx.hT t ti ht).kind; rw [hk] at this; exact this.1
  refine ⟨_, w, ?_, Below.refl _ _, Rd.v _, trivial⟩
  have hsz : (⟨s.toArray⟩ : ByteArray).size = s.length := rfl
  have e2 : ¬ ((l : Int) < 0) := by omega
  have he := extract_str s l s.length
  rw [List.take_of_length_le (by simp)] at he
  rw [← he]
  simp [execOp, hv, h1, str, Instr.sliceAt, Instr.slice, run_underlying hu, Instr.sliceBounds, Instr.sliceBound, asIntOf, hsz, hh, e2]

/-- No error, held against nil. -/
theorem a_noerr {t t' : TypeId} {x : Operand} {ms : Array (String × TypeId)} (hx : ev σ x = some (.d (.v .nilIface))) (ht : cx.P.underlying t = some (.interface ms)) (hd : Nat.blt d cx.n = true) :
    OA cx σ ⟨some d, .binOp .eql t x (.const .nilIface) t', ty, pos, af, gd⟩ ⟨rdOf x (.d (.v .nilIface)), [(.s d, .av (.d (.v (.bool true))))]⟩ := by
  refine ⟨ok_val rfl (lt_of_blt hd) fun σ1 a w g nx hs hr => ?_, (ev_out hx).2⟩
  have hv := rep_v (hs.ev (ev_out hx).1 hr).1
  refine ⟨.bool true, w, ?_, Below.refl _ _, Rd.v _, trivial⟩
  have h : ∀ d : Nat, (Op.equalIn (d + 1) t .nilIface .nilIface).run cx.P w = .ok true w := fun d => by
    simp [Op.equalIn, run_underlying ht]
  have hg : eqGuard .eql t x (.const .nilIface) .nilIface .nilIface = pure () := by cases x <;> rfl
  have hc : a.eval (.const .nilIface) = .nilIface := rfl
  simp [execOp, hv, hc, hg, binOp, Op.equal, Op.maxDepth, h 9999]

end Go.AX

/-! H1 -/
/-
  Contracts of the references' split, Words, Form.
-/
namespace Go.Proofs.YtfaaghkgfbhglaaGreatDoor
open Go.AX Go.RF

set_option maxRecDepth 100000
set_option maxHeartbeats 4000000

theorem splitF_len (sep : Str) : ∀ (n : Nat) (cur r : Str), (splitF sep n cur r).length ≤ n + 1
  | 0, cur, r => by simp [splitF]
  | n + 1, cur, r => by
    simp only [splitF]
    split
    · simp
    split
    · have := splitF_len sep n [] (r.drop sep.length); simp; omega
    cases r with
    | nil => simp
    | cons c t => have := splitF_len sep n (cur ++ [c]) t; simp; omega

theorem splitF_succ (sep : Str) (n : Nat) (cur r : Str) : splitF sep (n + 1) cur r = if r.length < sep.length then [cur ++ r]
    else if r.take sep.length = sep then cur :: splitF sep n [] (r.drop sep.length)
    else match r with
      | [] => [cur]
      | c :: t => splitF sep n (cur ++ [c]) t := by cases r <;> rfl

theorem ok_split (s sep : Str) (hs : s.length ≤ 1073741000) (hp : sep ≠ []) (hp2 : sep.length ≤ 1000) : FnOk Tryz.prog 15 [.d (dstr s), .d (dstr sep)] (.one (encStrs (split s sep))) := by
  refine fnOk_of tbl_ok mixed_ok Tryz.func15 rfl (by kernel_rfl) rfl rfl fun w0 own0 => ?_
  have hp0 : 0 < sep.length := List.length_pos_iff.2 hp
  repeat (first|((with_reducible apply stop_at 3); exact rfl)|((with_reducible apply s1); exact rfl)|(with_reducible first|apply CW.seq|apply CW.block|apply CW.region|apply CW.draw|apply CW.skip|apply CW.exit|apply CW.ret|apply q_then|apply q_then_exit|apply q_then_ret|apply q_block|apply q_block_ret|apply q_block_hit|apply q_ret|apply q_end|apply q_loop_exit|apply q_loop_ret|apply q_loopT_exit|apply q_loopT_ret|apply RW.nil)|((with_reducible apply s3); exact rfl; exact by_k)|((with_reducible apply s2); exact rfl; exact by_k)|((with_reducible apply s4); exact rfl)|((with_reducible apply s5); exact by_oa; exact by_g)|((with_reducible apply CW.cond_t); exact rfl; exact by_ks)|((with_reducible apply CW.cond_f); exact rfl; exact by_ks)|((with_reducible apply q_block_miss); exact rfl)|(refine And.intro (show chk [] [] _ _ = true by kernel_rfl) ?_))
  refine Stop.go (CW.stut (stut_promote (i := 5) 9 1) ⟨rfl, rfl, trivial⟩ ?_)
  repeat (first|((with_reducible apply s1); exact rfl)|(with_reducible first|apply CW.seq|apply CW.block|apply CW.region|apply CW.draw|apply CW.skip|apply CW.exit|apply CW.ret|apply q_then|apply q_then_exit|apply q_then_ret|apply q_block|apply q_block_ret|apply q_block_hit|apply q_ret|apply q_end|apply q_loop_exit|apply q_loop_ret|apply q_loopT_exit|apply q_loopT_ret|apply RW.nil)|((with_reducible apply s3); exact rfl; exact by_k)|((with_reducible apply s2); exact rfl; exact by_k)|((with_reducible apply s4); exact rfl)|((with_reducible apply s5); exact by_oa; exact by_g)|((with_reducible apply CW.cond_t); exact rfl; exact by_ks)|((with_reducible apply CW.cond_f); exact rfl; exact by_ks)|((with_reducible apply q_block_miss); exact rfl)|(refine And.intro (show chk [] [] _ _ = true by kernel_rfl) ?_))
  refine CW.loopT (fun t : Nat × Nat × List Str => [sd 0 (dstr s), sd 1 (dstr sep), sd 4 (.v nilS), so 5 0 t.2.2.length, oa 0 9 1 (t.2.2.map encStr1), sd 6 (dint t.1), sd 7 (dint t.2.1), nxt 1])
    (fun t => t.1 ≤ t.2.1 ∧ t.2.1 ≤ s.length ∧ t.2.2.length ≤ t.2.1 ∧ ∃ n, s.length ≤ n + t.2.1 ∧ t.2.2 ++ splitF sep n ((s.drop t.1).take (t.2.1 - t.1)) (s.drop t.2.1) = split s sep) (fun t => s.length - t.2.1) (0, 0, []) ⟨by dsimp only; omega, by dsimp only; omega, by dsimp only; simp, s.length, by dsimp only; omega, rfl⟩ ?_ ?_
  ·
    exact by_less
  · rintro ⟨f, i, out⟩ ⟨hf, hi, ho, n, hn, hI⟩
    dsimp only at hf hi ho hn hI ⊢
    have hcr : (s.drop f).take (i - f) ++ s.drop i = s.drop f := by
      have := List.take_append_drop (i - f) (s.drop f)
      rw [List.drop_drop, show f + (i - f) = i by omega] at this
      exact this
    have hrl : (s.drop i).length = s.length - i := by simp
    by_cases h1 : i + sep.length ≤ s.length
    · obtain ⟨n, rfl⟩ : ∃ m, n = m + 1 := ⟨n - 1, by omega⟩
      rw [splitF_succ, if_neg (by omega)] at hI
      have hcut : ((s.drop i).take (i + sep.length - i)) = (s.drop i).take sep.length := by congr 1; omega
      by_cases h2 : (s.drop i).take sep.length = sep
      · rw [if_pos h2] at hI
        have h2' : (s.drop i).take (i + sep.length - i) = sep := hcut.trans h2
        repeat (first|((with_reducible apply s5); ((with_reducible apply a_bs [[dstr ((s.drop f).take (i - f))]]); (iterate 9 exact rfl); (repeat (first | exact PartsE.nil | (apply PartsE.cons; exact rfl; exact rfl)))); exact by_g)|((with_reducible apply s1); exact rfl)|(with_reducible first|apply CW.seq|apply CW.block|apply CW.region|apply CW.draw|apply CW.skip|apply CW.exit|apply CW.ret|apply q_then|apply q_then_exit|apply q_then_ret|apply q_block|apply q_block_ret|apply q_block_hit|apply q_ret|apply q_end|apply q_loop_exit|apply q_loop_ret|apply q_loopT_exit|apply q_loopT_ret|apply RW.nil)|((with_reducible apply s3); exact rfl; exact by_k)|((with_reducible apply s2); exact rfl; exact by_k)|((with_reducible apply s4); exact rfl)|((with_reducible apply s5); (first|((with_reducible apply (a_sub (l := i) (h := i + sep.length))); (iterate 6 exact rfl); omega; omega)|((with_reducible apply (a_sub (l := f) (h := i))); (iterate 6 exact rfl); omega; omega)|exact by_oa); exact by_g)|((with_reducible apply CW.cond_t); exact rfl; exact by_ks)|((with_reducible apply CW.cond_f); exact rfl; exact by_ks)|((with_reducible apply q_block_miss); exact rfl)|(refine And.intro (show chk [] [] _ _ = true by kernel_rfl) ?_))
        refine q_loopT (i + sep.length, i + sep.length, out ++ [(s.drop f).take (i - f)]) ⟨by dsimp only; omega, by dsimp only; omega, by dsimp only; simp; omega, n, by dsimp only; omega, ?_⟩ (by dsimp only; omega) ?_
        · dsimp only
          rw [← hI, List.append_assoc, List.drop_drop, Nat.sub_self, List.take_zero]
          rfl
        exact by_less
      · rw [if_neg h2] at hI
        have h2' : ¬ (s.drop i).take (i + sep.length - i) = sep := fun h => h2 (hcut.symm.trans h)
        have hlt : i < s.length := by omega
        rw [List.drop_eq_getElem_cons hlt] at hI
        dsimp only at hI
        repeat (first|((with_reducible apply s1); exact rfl)|(with_reducible first|apply CW.seq|apply CW.block|apply CW.region|apply CW.draw|apply CW.skip|apply CW.exit|apply CW.ret|apply q_then|apply q_then_exit|apply q_then_ret|apply q_block|apply q_block_ret|apply q_block_hit|apply q_ret|apply q_end|apply q_loop_exit|apply q_loop_ret|apply q_loopT_exit|apply q_loopT_ret|apply RW.nil)|((with_reducible apply s3); exact rfl; exact by_k)|((with_reducible apply s2); exact rfl; exact by_k)|((with_reducible apply s4); exact rfl)|((with_reducible apply s5); (first|((with_reducible apply (a_sub (l := i) (h := i + sep.length))); (iterate 6 exact rfl); omega; omega)|exact by_oa); exact by_g)|((with_reducible apply CW.cond_t); exact rfl; exact by_ks)|((with_reducible apply CW.cond_f); exact rfl; exact by_ks)|((with_reducible apply q_block_miss); exact rfl)|(refine And.intro (show chk [] [] _ _ = true by kernel_rfl) ?_))
        refine q_loopT (f, i + 1, out) ⟨by dsimp only; omega, by dsimp only; omega, by dsimp only; omega, n, by dsimp only; omega, ?_⟩ (by dsimp only; omega) ?_
        · dsimp only
          rw [← hI, show i + 1 - f = (i - f) + 1 by omega, List.take_add_one, List.getElem?_drop, show f + (i - f) = i by omega, List.getElem?_eq_getElem hlt]
          rfl
        exact by_less
    · have hfin : out ++ [s.drop f] = split s sep := by
        rw [← hI]
        cases n with
        | zero => rw [splitF, hcr]
        | succ n => rw [splitF_succ, if_pos (by omega), hcr]
      repeat (first|((with_reducible apply s5); ((with_reducible apply a_bs [[dstr (s.drop f)]]); (iterate 9 exact rfl); (repeat (first | exact PartsE.nil | (apply PartsE.cons; exact rfl; exact rfl)))); exact by_g)|((with_reducible apply s1); exact rfl)|(with_reducible first|apply CW.seq|apply CW.block|apply CW.region|apply CW.draw|apply CW.skip|apply CW.exit|apply CW.ret|apply q_then|apply q_then_exit|apply q_then_ret|apply q_block|apply q_block_ret|apply q_block_hit|apply q_ret|apply q_end|apply q_loop_exit|apply q_loop_ret|apply q_loopT_exit|apply q_loopT_ret|apply RW.nil)|((with_reducible apply s3); exact rfl; exact by_k)|((with_reducible apply s2); exact rfl; exact by_k)|((with_reducible apply s4); exact rfl)|((with_reducible apply s5); (first|((with_reducible apply (a_subF (l := f))); (iterate 5 exact rfl); omega)|exact by_oa); exact by_g)|((with_reducible apply CW.cond_t); exact rfl; exact by_ks)|((with_reducible apply CW.cond_f); exact rfl; exact by_ks)|((with_reducible apply q_block_miss); exact rfl)|(refine And.intro (show chk [] [] _ _ = true by kernel_rfl) ?_))
      rw [← hfin, show encStrs (out ++ [s.drop f]) = .sl 1 (out.map encStr1 ++ [[dstr (s.drop f)]]) by simp [encStrs, encStr1]]
      exact .one (.tmp rfl (.one (.own rfl (by simp) (.refl _))))

theorem ok_words : FnOk Tryz.prog 16 [] (.one (encStrs words)) := by
  refine fnOk_of tbl_ok mixed_ok Tryz.func16 rfl (by kernel_rfl) rfl rfl fun w0 own0 => ?_
  repeat (first|((with_reducible apply s5); ((with_reducible apply a_bs (words.map encStr1)); (iterate 9 exact rfl); (repeat (first | exact PartsE.nil | (apply PartsE.cons; exact rfl; exact rfl)))); exact by_g)|((with_reducible apply s1); exact rfl)|(with_reducible first|apply CW.seq|apply CW.block|apply CW.region|apply CW.draw|apply CW.skip|apply CW.exit|apply CW.ret|apply q_then|apply q_then_exit|apply q_then_ret|apply q_block|apply q_block_ret|apply q_block_hit|apply q_ret|apply q_end|apply q_loop_exit|apply q_loop_ret|apply q_loopT_exit|apply q_loopT_ret|apply RW.nil)|((with_reducible apply s3); exact rfl; exact by_k)|((with_reducible apply s2); exact rfl; exact by_k)|((with_reducible apply s4); exact rfl)|((with_reducible apply s5); exact by_oa; exact by_g)|((with_reducible apply CW.cond_t); exact rfl; exact by_ks)|((with_reducible apply CW.cond_f); exact rfl; exact by_ks)|((with_reducible apply q_block_miss); exact rfl)|(refine And.intro (show chk [] [] _ _ = true by kernel_rfl) ?_))
  exact .one (.tmp rfl (.one (.d (.refl _))))

end Go.Proofs.YtfaaghkgfbhglaaGreatDoor

/-! ShNum -/
/-
  The library's Atoi and Itoa of numbers, at this program's numbers of functions and types.
-/
namespace Go.Proofs
open Go.Shelf Go.RowKit
noncomputable def Tryz.laysC172_ren : Go.Shelf.Ren := ⟨fun | 129 => 85 | 171 => 26 | 172 => 35 | 205 => 83 | 243 => 39 | 244 => 47 | 245 => 48 | 246 => 51 | 247 => 58 | 279 => 59 | 280 => 60 | 281 => 61 | 282 => 62 | 283 => 65 | 284 => 66 | 285 => 67 | 286 => 68 | 287 => 81 | 316 => 82 | 317 => 84 | 318 => 86 | 319 => 87 | 320 => 88 | 321 => 94 | 322 => 95 | 337 => 96 | 338 => 97 | n => n, fun | 0 => 0 | 2 => 2 | 3 => 3 | 4 => 4 | 5 => 5 | 9 => 9 | 20 => 20 | 21 => 21 | 37 => 65 | 46 => 97 | 51 => 113 | 53 => 92 | 75 => 61 | 76 => 62 | 85 => 83 | 127 => 74 | 143 => 126 | 145 => 128 | 167 => 82 | 168 => 85 | 171 => 91 | 173 => 95 | 175 => 105 | 210 => 109 | 212 => 112 | 213 => 114 | 232 => 131 | 233 => 132 | 80 => 69 | n => n, fun | 15 => (Tryz.prog.globals.findIdx? (·.name == "strconv.ErrSyntax")).getD 0 | 16 => (Tryz.prog.globals.findIdx? (·.name == "strconv.ErrRange")).getD 0 | 17 => (Tryz.prog.globals.findIdx? (·.name == "internal/strconv.uint64pow10")).getD 0 | 18 => (Tryz.prog.globals.findIdx? (·.name == "math/bits.deBruijn32tab")).getD 0 | 19 => (Tryz.prog.globals.findIdx? (·.name == "math/bits.deBruijn64tab")).getD 0 | n => n⟩
theorem Tryz.laysC172 : Go.Proofs.LaysC.n172 Tryz.prog Tryz.laysC172_ren := {
  mixed := by kernel_rfl
  f129 := Tryz.func85.trans (congrArg some (by kernel_rfl))
  f171 := Tryz.func26.trans (congrArg some (by kernel_rfl))
  f172 := Tryz.func35.trans (congrArg some (by kernel_rfl))
  f205 := Tryz.func83.trans (congrArg some (by kernel_rfl))
  f243 := Tryz.func39.trans (congrArg some (by kernel_rfl))
  f244 := Tryz.func47.trans (congrArg some (by kernel_rfl))
  f245 := Tryz.func48.trans (congrArg some (by kernel_rfl))
  f246 := Tryz.func51.trans (congrArg some (by kernel_rfl))
  f247 := Tryz.func58.trans (congrArg some (by kernel_rfl))
  f279 := Tryz.func59.trans (congrArg some (by kernel_rfl))
  f280 := Tryz.func60.trans (congrArg some (by kernel_rfl))
  f281 := Tryz.func61.trans (congrArg some (by kernel_rfl))
  f282 := Tryz.func62.trans (congrArg some (by kernel_rfl))
  f283 := Tryz.func65.trans (congrArg some (by kernel_rfl))
  f284 := Tryz.func66.trans (congrArg some (by kernel_rfl))
  f285 := Tryz.func67.trans (congrArg some (by kernel_rfl))
  f286 := Tryz.func68.trans (congrArg some (by kernel_rfl))
  f287 := Tryz.func81.trans (congrArg some (by kernel_rfl))
  f316 := Tryz.func82.trans (congrArg some (by kernel_rfl))
  f317 := Tryz.func84.trans (congrArg some (by kernel_rfl))
  f318 := Tryz.func86.trans (congrArg some (by kernel_rfl))
  f319 := Tryz.func87.trans (congrArg some (by kernel_rfl))
  f320 := Tryz.func88.trans (congrArg some (by kernel_rfl))
  f321 := Tryz.func94.trans (congrArg some (by kernel_rfl))
  f322 := Tryz.func95.trans (congrArg some (by kernel_rfl))
  f337 := Tryz.func96.trans (congrArg some (by kernel_rfl))
  f338 := Tryz.func97.trans (congrArg some (by kernel_rfl))
  t0 := Tryz.underlying0
  a0 := Tryz.isAgg0
  z0 := Tryz.sizeOf0
  v0 := Tryz.zeroValue0
  t2 := Tryz.underlying2
  a2 := Tryz.isAgg2
  z2 := Tryz.sizeOf2
  v2 := Tryz.zeroValue2
  t3 := Tryz.underlying3
  a3 := Tryz.isAgg3
  z3 := Tryz.sizeOf3
  v3 := Tryz.zeroValue3
  t4 := Tryz.underlying4
  a4 := Tryz.isAgg4
  z4 := Tryz.sizeOf4
  v4 := Tryz.zeroValue4
  t5 := Tryz.underlying5
  a5 := Tryz.isAgg5
  z5 := Tryz.sizeOf5
  v5 := Tryz.zeroValue5
  t9 := Tryz.underlying9
  a9 := Tryz.isAgg9
  z9 := Tryz.sizeOf9
  v9 := Tryz.zeroValue9
  t20 := Tryz.underlying20
  a20 := Tryz.isAgg20
  z20 := Tryz.sizeOf20
  v20 := Tryz.zeroValue20
  t21 := Tryz.underlying21
  a21 := Tryz.isAgg21
  z21 := Tryz.sizeOf21
  v21 := Tryz.zeroValue21
  t37 := Tryz.underlying65
  a37 := Tryz.isAgg65
  z37 := Tryz.sizeOf65
  v37 := Tryz.zeroValue65
  t46 := Tryz.underlying97
  a46 := Tryz.isAgg97
  z46 := Tryz.sizeOf97
  v46 := Tryz.zeroValue97
  t51 := Tryz.underlying113
  a51 := Tryz.isAgg113
  z51 := Tryz.sizeOf113
  v51 := Tryz.zeroValue113
  t53 := Tryz.underlying92
  a53 := Tryz.isAgg92
  z53 := Tryz.sizeOf92
  v53 := Tryz.zeroValue92
  t75 := Tryz.underlying61
  a75 := Tryz.isAgg61
  z75 := Tryz.sizeOf61
  v75 := Tryz.zeroValue61
  t76 := Tryz.underlying62
  a76 := Tryz.isAgg62
  z76 := Tryz.sizeOf62
  v76 := Tryz.zeroValue62
  t85 := Tryz.underlying83
  a85 := Tryz.isAgg83
  z85 := Tryz.sizeOf83
  v85 := Tryz.zeroValue83
  t127 := Tryz.underlying74
  a127 := Tryz.isAgg74
  z127 := Tryz.sizeOf74
  v127 := Tryz.zeroValue74
  t143 := Tryz.underlying126
  a143 := Tryz.isAgg126
  z143 := Tryz.sizeOf126
  v143 := Tryz.zeroValue126
  t145 := Tryz.underlying128
  a145 := Tryz.isAgg128
  z145 := Tryz.sizeOf128
  v145 := Tryz.zeroValue128
  t167 := Tryz.underlying82
  a167 := Tryz.isAgg82
  z167 := Tryz.sizeOf82
  v167 := Tryz.zeroValue82
  t168 := Tryz.underlying85
  a168 := Tryz.isAgg85
  z168 := Tryz.sizeOf85
  v168 := Tryz.zeroValue85
  t171 := Tryz.underlying91
  a171 := Tryz.isAgg91
  z171 := Tryz.sizeOf91
  v171 := Tryz.zeroValue91
  t173 := Tryz.underlying95
  a173 := Tryz.isAgg95
  z173 := Tryz.sizeOf95
  v173 := Tryz.zeroValue95
  t175 := Tryz.underlying105
  a175 := Tryz.isAgg105
  z175 := Tryz.sizeOf105
  v175 := Tryz.zeroValue105
  t210 := Tryz.underlying109
  a210 := Tryz.isAgg109
  z210 := Tryz.sizeOf109
  v210 := Tryz.zeroValue109
  t212 := Tryz.underlying112
  a212 := Tryz.isAgg112
  z212 := Tryz.sizeOf112
  v212 := Tryz.zeroValue112
  t213 := Tryz.underlying114
  a213 := Tryz.isAgg114
  z213 := Tryz.sizeOf114
  t232 := Tryz.underlying131
  a232 := Tryz.isAgg131
  z232 := Tryz.sizeOf131
  v232 := Tryz.zeroValue131
  t233 := Tryz.underlying132
  a233 := Tryz.isAgg132
  z233 := Tryz.sizeOf132
  v233 := Tryz.zeroValue132
  g15 := by kernel_rfl
  g16 := by kernel_rfl
  g17 := by kernel_rfl
  g18 := by kernel_rfl
  g19 := by kernel_rfl
  t80 := Tryz.underlying69
  a80 := Tryz.isAgg69
  z80 := Tryz.sizeOf69
  v80 := Tryz.zeroValue69
  i0 := by kernel_rfl
  i2 := by kernel_rfl
  i3 := by kernel_rfl
  i4 := by kernel_rfl
  i5 := by kernel_rfl
  i9 := by kernel_rfl
  i20 := by kernel_rfl
  i21 := by kernel_rfl
  i37 := by kernel_rfl
  i46 := by kernel_rfl
  i51 := by kernel_rfl
  i53 := by kernel_rfl
  i75 := by kernel_rfl
  i76 := by kernel_rfl
  i80 := by kernel_rfl
  i85 := by kernel_rfl
  i127 := by kernel_rfl
  i143 := by kernel_rfl
  i145 := by kernel_rfl
  i167 := by kernel_rfl
  i168 := by kernel_rfl
  i171 := by kernel_rfl
  i173 := by kernel_rfl
  i175 := by kernel_rfl
  i210 := by kernel_rfl
  i212 := by kernel_rfl
  i232 := by kernel_rfl
  i233 := by kernel_rfl
  m15 := by kernel_rfl
  m16 := by kernel_rfl
  m17 := by kernel_rfl
  m18 := by kernel_rfl
  m19 := by kernel_rfl
  c0 := by kernel_rfl
  c2 := by kernel_rfl
  c3 := by kernel_rfl
  c4 := by kernel_rfl
  c5 := by kernel_rfl
  c9 := by kernel_rfl
  c20 := by kernel_rfl
  c21 := by kernel_rfl
  c37 := by kernel_rfl
  c46 := by kernel_rfl
  c51 := by kernel_rfl
  c53 := by kernel_rfl
  c75 := by kernel_rfl
  c76 := by kernel_rfl
  c80 := by kernel_rfl
  c85 := by kernel_rfl
  c127 := by kernel_rfl
  c143 := by kernel_rfl
  c145 := by kernel_rfl
  c167 := by kernel_rfl
  c168 := by kernel_rfl
  c171 := by kernel_rfl
  c173 := by kernel_rfl
  c175 := by kernel_rfl
  c210 := by kernel_rfl
  c212 := by kernel_rfl
  c213 := by kernel_rfl
  c232 := by kernel_rfl
  c233 := by kernel_rfl
  }
end Go.Proofs

/-! ShNum2 -/
/-
  The library's Itoa of whatever number, at this program's numbers of functions and types.
-/
namespace Go.Proofs
open Go.Shelf Go.RowKit
noncomputable def Tryz.laysM171_ren : Go.Shelf.Ren := ⟨fun | 129 => 85 | 171 => 26 | 243 => 39 | 246 => 51 | 283 => 65 | 284 => 66 | 285 => 67 | 286 => 68 | 317 => 84 | 318 => 86 | 319 => 87 | 320 => 88 | 337 => 96 | 338 => 97 | n => n, fun | 0 => 0 | 2 => 2 | 3 => 3 | 4 => 4 | 5 => 5 | 9 => 9 | 20 => 20 | 37 => 65 | 46 => 97 | 51 => 113 | 53 => 92 | 171 => 91 | 173 => 95 | 212 => 112 | 213 => 114 | 232 => 131 | 233 => 132 | n => n, fun | 17 => (Tryz.prog.globals.findIdx? (·.name == "internal/strconv.uint64pow10")).getD 0 | 18 => (Tryz.prog.globals.findIdx? (·.name == "math/bits.deBruijn32tab")).getD 0 | 19 => (Tryz.prog.globals.findIdx? (·.name == "math/bits.deBruijn64tab")).getD 0 | n => n⟩
theorem Tryz.laysM171 : Go.Proofs.LaysM.n171 Tryz.prog Tryz.laysM171_ren := {
  mixed := by kernel_rfl
  f129 := Tryz.func85.trans (congrArg some (by kernel_rfl))
  f171 := Tryz.func26.trans (congrArg some (by kernel_rfl))
  f243 := Tryz.func39.trans (congrArg some (by kernel_rfl))
  f246 := Tryz.func51.trans (congrArg some (by kernel_rfl))
  f283 := Tryz.func65.trans (congrArg some (by kernel_rfl))
  f284 := Tryz.func66.trans (congrArg some (by kernel_rfl))
  f285 := Tryz.func67.trans (congrArg some (by kernel_rfl))
  f286 := Tryz.func68.trans (congrArg some (by kernel_rfl))
  f317 := Tryz.func84.trans (congrArg some (by kernel_rfl))
  f318 := Tryz.func86.trans (congrArg some (by kernel_rfl))
  f319 := Tryz.func87.trans (congrArg some (by kernel_rfl))
  f320 := Tryz.func88.trans (congrArg some (by kernel_rfl))
  f337 := Tryz.func96.trans (congrArg some (by kernel_rfl))
  f338 := Tryz.func97.trans (congrArg some (by kernel_rfl))
  t0 := Tryz.underlying0
  a0 := Tryz.isAgg0
  z0 := Tryz.sizeOf0
  v0 := Tryz.zeroValue0
  t2 := Tryz.underlying2
  a2 := Tryz.isAgg2
  z2 := Tryz.sizeOf2
  v2 := Tryz.zeroValue2
  t3 := Tryz.underlying3
  a3 := Tryz.isAgg3
  z3 := Tryz.sizeOf3
  v3 := Tryz.zeroValue3
  t4 := Tryz.underlying4
  a4 := Tryz.isAgg4
  z4 := Tryz.sizeOf4
  v4 := Tryz.zeroValue4
  t5 := Tryz.underlying5
  a5 := Tryz.isAgg5
  z5 := Tryz.sizeOf5
  v5 := Tryz.zeroValue5
  t9 := Tryz.underlying9
  a9 := Tryz.isAgg9
  z9 := Tryz.sizeOf9
  v9 := Tryz.zeroValue9
  t20 := Tryz.underlying20
  a20 := Tryz.isAgg20
  z20 := Tryz.sizeOf20
  v20 := Tryz.zeroValue20
  t37 := Tryz.underlying65
  a37 := Tryz.isAgg65
  z37 := Tryz.sizeOf65
  v37 := Tryz.zeroValue65
  t46 := Tryz.underlying97
  a46 := Tryz.isAgg97
  z46 := Tryz.sizeOf97
  v46 := Tryz.zeroValue97
  t51 := Tryz.underlying113
  a51 := Tryz.isAgg113
  z51 := Tryz.sizeOf113
  v51 := Tryz.zeroValue113
  t53 := Tryz.underlying92
  a53 := Tryz.isAgg92
  z53 := Tryz.sizeOf92
  v53 := Tryz.zeroValue92
  t171 := Tryz.underlying91
  a171 := Tryz.isAgg91
  z171 := Tryz.sizeOf91
  v171 := Tryz.zeroValue91
  t173 := Tryz.underlying95
  a173 := Tryz.isAgg95
  z173 := Tryz.sizeOf95
  v173 := Tryz.zeroValue95
  t212 := Tryz.underlying112
  a212 := Tryz.isAgg112
  z212 := Tryz.sizeOf112
  v212 := Tryz.zeroValue112
  t213 := Tryz.underlying114
  a213 := Tryz.isAgg114
  z213 := Tryz.sizeOf114
  t232 := Tryz.underlying131
  a232 := Tryz.isAgg131
  z232 := Tryz.sizeOf131
  v232 := Tryz.zeroValue131
  t233 := Tryz.underlying132
  a233 := Tryz.isAgg132
  z233 := Tryz.sizeOf132
  v233 := Tryz.zeroValue132
  g17 := by kernel_rfl
  g18 := by kernel_rfl
  g19 := by kernel_rfl
  i0 := by kernel_rfl
  i2 := by kernel_rfl
  i3 := by kernel_rfl
  i4 := by kernel_rfl
  i5 := by kernel_rfl
  i9 := by kernel_rfl
  i20 := by kernel_rfl
  i37 := by kernel_rfl
  i46 := by kernel_rfl
  i51 := by kernel_rfl
  i53 := by kernel_rfl
  i171 := by kernel_rfl
  i173 := by kernel_rfl
  i212 := by kernel_rfl
  i232 := by kernel_rfl
  i233 := by kernel_rfl
  m17 := by kernel_rfl
  m18 := by kernel_rfl
  m19 := by kernel_rfl
  }
end Go.Proofs

/-! AxPin2 -/
/-
  Handles that become known, and ours again; two slices of ours that a call yields, one within the other's element; slices of ours lent, and handed over.
-/
namespace Go.AX
open Go.RowKit

variable {cx : Cx} {g : Nat → Value} {σ σ' : St} {a : Act} {w w' : World} {nx : Nat} {c : Code} {Q : Exit → St → Prop}
variable {ty : TypeId} {pos : String} {af : Array Edge} {gd : Option (Nat × Bool)} {d : Nat}

/-- An object told otherwise. -/
theorem SimG.reob (hs : SimG cx σ a w g nx) {id : Nat} {o o' : Ob} (ho : get σ (.o id) = .ob o) (hle : ObLe g g id o o') (hr : ObOk cx g σ w id o') (hb : o'.bd nx) :
    SimG cx ((.o id, .ob o') :: σ) a w g nx := by
  have hback : ∀ j o1, get ((.o id, .ob o') :: σ) (.o j) = .ob o1 → ∃ o0, get σ (.o j) = .ob o0 ∧ ObLe g g j o0 o1 := by
    intro j o1 hj
    by_cases he : id = j
    · subst he
      rw [get_cons_same] at hj
      cases hj
      exact ⟨_, ho, hle⟩
    · rw [get_cons_ne (by simpa using he)] at hj
      exact ⟨o1, hj, by cases o1 <;> simp [ObLe]⟩
  have hl : Later cx g g σ ((.o id, .ob o') :: σ) w w nx := by
    refine ⟨Ext.refl _ _, Below.refl _ _, fun b hb => ?_, fun j o1 _ h => hback j o1 h⟩
    rcases hb with hb | ⟨j, o1, h1, h2⟩
    · exact .inl (.inl hb)
    · obtain ⟨o0, h3, _⟩ := hback j o1 h1
      exact .inl (.inr ⟨j, o0, h3, h2⟩)
  refine hs.next hl ((get_cons_ne (by simp)).trans hs.hnx) (Nat.le_refl _) hs.size hs.defers (Below.refl _ _) (fun i av hi => .inl ⟨(get_cons_ne (by simp)).symm.trans hi, rfl⟩) (fun j o1 hj => ?_) (fun j j' o1 o2 b h1 h2 => ?_)
  · by_cases he : id = j
    · subst he
      rw [get_cons_same] at hj
      cases hj
      exact .inr ⟨(hs.objs id _ ho).1, hr.step hl rfl (fun _ _ => rfl) hb, hb⟩
    · rw [get_cons_ne (by simpa using he)] at hj
      exact .inl ⟨hj, rfl, fun _ _ => rfl⟩
  · obtain ⟨o3, h3, _⟩ := hback j o1 h1
    obtain ⟨o4, h4, _⟩ := hback j' o2 h2
    exact hs.sep j j' o3 o4 b h3 h4

theorem CW.pin (i id n e k : Nat) (rows : List (List D)) (hi : get σ (.s i) = .av (.own id n)) (ho : get σ (.o id) = .ob (.arr e k rows)) (hn : n = rows.length)
    (h : ∀ x, CW cx c Q ((.s i, .av (.d (.v x))) :: (.o id, .ob (.pin e k rows x)) :: σ)) : CW cx c Q σ := by
  rintro a w ⟨g, nx, hs⟩
  have hv : a.tmps.getD i undef = g id := ((hs.slots i _ hi).1.2 e k rows ho).2 hn
  have hG := hs.reob ho (o' := .pin e k rows (g id)) trivial ⟨rfl, (hs.objs id _ ho).2.1⟩ trivial
  refine h (g id) a w (Sim.retell hG (av := .d (.v (g id))) ?_ trivial)
  rw [hv]; exact Rd.v _
/-! ### Operations of a region in their text's order, each from whatever state that the last one may leave -/
def SW (cx : Cx) (ops : Array Oper) (Q : Exit → St → Prop) (l : List Oper) (σ : St) : Prop :=
  ∀ a w, Sim cx σ a w → wpList cx.P ops (fun e a' w' => ∃ σ', Sim cx σ' a' w' ∧ Q e σ') l a w
variable {ops : Array Oper} {rest : List Oper} {o : Oper}
theorem SW.rw (h : RW cx ops (fun _ σ' => Q .normal σ') [] rest σ) : SW cx ops Q rest σ := by
  obtain ⟨ts, σ', h1, h2⟩ := h
  exact fun a w hs => wpList_of_steps h1 hs fun a' w' hs' => ⟨σ', hs', h2⟩
theorem SW.step {t : Tr} (hg : o.guard = none) (ho : OA cx σ o t) (h : SW cx ops Q rest (t.wr ++ σ)) : SW cx ops Q (o :: rest) σ := fun a w hs =>
  wpList_plain hg fun K hK => ho.1 σ a w K _ hs ho.2 fun a' w' hs' => hK a' w' (h a' w' hs')
/-! ### Lent as data -/
/-- What a slice of ours reads as: its rows, or those where one cell is another slice of ours. -/
inductive View (σ : St) (id e k : Nat) (rows : List (List D)) : D → List (Key × Val) → Prop
  | plain (h : get σ (.o id) = .ob (.arr e k rows)) : View σ id e k rows (.sl k rows) [(.o id, .ob (.arr e k rows))]
  | pin {i j id2 e2 k2 : Nat} {r : List D} {x : Value} {rows2 : List (List D)} (h : get σ (.o id) = .ob (.arr e k rows)) (hi : rows[i]? = some r) (hj : r[j]? = some (.v x))
      (h2 : get σ (.o id2) = .ob (.pin e2 k2 rows2 x)) : View σ id e k rows (.sl k (rows.set i (r.set j (.sl k2 rows2)))) [(.o id, .ob (.arr e k rows)), (.o id2, .ob (.pin e2 k2 rows2 x))]
def plainR : Res → Bool
  | .one (.v _) => true
  | .tup l => l.all fun x => match x with
    | .v _ => true
    | _ => false
  | _ => false
theorem rd_plain {own own' : Nat → Prop} {v x : Value} (h : Rd w own v (.v x)) : Rd w own' v (.v x) := by
  rw [rd_v h]; exact Rd.v _
theorem plainR_ok {r : Res} (h : plainR r = true) {own own' : Nat → Prop} {v : Value} (hr : ResOk w own v r) : ResOk w own' v r := by
  cases r with
  | one x =>
    cases x with
    | v x => exact rd_plain hr
    | x p => cases h
    | sl k rows => cases h
    | agg c => cases h
  | tup xs =>
    obtain ⟨vs, rfl, h1, h2⟩ := hr
    refine ⟨vs, rfl, h1, fun j c x hx hc => ?_⟩
    have h3 := List.all_eq_true.1 h x (List.mem_of_getElem? hx)
    cases x with
    | v x => exact rd_plain (h2 j c _ hx hc)
    | x p => cases h3
    | sl k rows => cases h3
    | agg c => cases h3

theorem ArgsOk.less {own own' : Nat → Prop} (ho : ∀ b, own' b → own b) : ∀ {vs : List Value} {xs : List Arg}, ArgsOk w own vs xs → ArgsOk w own' vs xs
  | [], [], _ => trivial
  | v :: vs, x :: xs, h => by
    refine ⟨?_, ArgsOk.less ho h.2⟩
    cases x with
    | d y => exact Rd.less ho h.1
    | pd cells =>
      obtain ⟨ad, h1, h2, h3⟩ := h.1
      exact ⟨ad, h1, h2, fun j z hz => by obtain ⟨u, h4, h5, h6⟩ := h3 j z hz; exact ⟨u, h4, h5, h6.less ho⟩⟩

theorem a_lend {f : FuncId} {x : Operand} {xs : List Operand} {avs : List AV} {ys : List Arg} {l lv : List (Key × Val)} {r : Res} {ats : Array TypeId} {id n e k : Nat} {rows : List (List D)} {dd : D}
    (hc : FnOk cx.P f (.d dd :: ys) r) (hx : ev σ x = some (.own id n)) (hv : View σ id e k rows dd lv) (hn : n = rows.length) (hp : plainR r = true) (hd : Nat.blt d cx.n = true) (hsub : SubsE σ xs avs ys l) :
    OA cx σ ⟨some d, .call { callee := .value (.func f), args := ⟨x :: xs⟩, argTypes := ats }, ty, pos, af, gd⟩ ⟨rdOf x (.own id n) ++ (l ++ lv), [(.s d, .av r.av)]⟩ := by
  refine ⟨?_, (ev_out hx).2.append (hsub.out.2.append ?_)⟩
  · rintro σ1 a w K Q ⟨g, nx, hs⟩ hr hK
    have hxv := hs.ev (ev_out hx).1 hr.left
    have hargs := hsub.out.1.ok hs hr.right.left
    have hlv := hr.right.right
    -- the first argument, read by whoever keeps all but that
    have key : ∃ own' : Nat → Prop, (∀ b, own' b → cx.own g σ1 b) ∧ Rd w own' (a.eval x) dd := by
      cases hv with
      | plain h =>
        have ho : get σ1 (.o id) = .ob (.arr e k rows) := hlv.1
        have hval : a.eval x = g id := (hxv.1.2 e k rows ho).2 hn
        refine ⟨fun b => cx.own g σ1 b ∧ blk (g id) ≠ some b, fun b hb => hb.1, ?_⟩
        rw [hval]
        exact (objRows hs ho).rd fun b hb => hb
      | @pin i j id2 e2 k2 r x0 rows2 h hi hj h2 =>
        have ho : get σ1 (.o id) = .ob (.arr e k rows) := hlv.1
        have ho2 : get σ1 (.o id2) = .ob (.pin e2 k2 rows2 x0) := hlv.2.1
        have hval : a.eval x = g id := (hxv.1.2 e k rows ho).2 hn
        obtain ⟨_, ⟨hgx, hp2⟩, _⟩ := hs.objs id2 _ ho2
        have hp2' : RowsAt w cx.w0.heap.size (cx.own g σ1) e2 k2 (g id2) rows2 := hp2
        rw [hgx] at hp2'
        refine ⟨fun b => (cx.own g σ1 b ∧ blk x0 ≠ some b) ∧ blk (g id) ≠ some b, fun b hb => hb.1.1, ?_⟩
        rw [hval]
        have h3 : RowsAt w cx.w0.heap.size (fun b => cx.own g σ1 b ∧ blk x0 ≠ some b) e k (g id) rows := (objRows hs ho).re (fun b hb => ((objRows hs ho).lt hb).1) fun b hb => hb.1
        exact (h3.at hi hj (hp2'.rd fun b hb => hb)).rd fun b hb => hb
    obtain ⟨own', hsub', hrd⟩ := key
    have hcall := hc.calls w own' (a.eval x :: xs.map a.eval) ⟨fun b hb => own_lt hs (hsub' b hb), hs.gl⟩ ⟨hrd, hargs.less hsub'⟩
    unfold Oper.wp
    rw [call_run hc.run]
    refine hcall.mono fun z w' he => ?_
    obtain ⟨v, rfl, hb, hres⟩ := he
    obtain ⟨h1, h2⟩ := Res.rep (nx := nx) (plainR_ok hp (own' := cx.own g σ1) hres)
    exact hK _ _ (Sim.put hs (lt_of_blt hd) hb h1 h2)
  · cases hv with
    | plain h => exact ⟨h, trivial⟩
    | pin h hi hj h2 => exact ⟨h, h2, trivial⟩

end Go.AX

/-! AxFam2 -/
/-
  The same, for a walk.
-/
namespace Go.AX
open Go.RowKit

variable {cx : Cx} {σ σ' : St} {a a' : Act} {w w' : World} {ops : Array Oper} {Q : Exit → St → Prop}
variable {ty : TypeId} {pos : String} {af : Array Edge} {gd : Option (Nat × Bool)} {d nx : Nat} {g : Nat → Value}

theorem Run.append : ∀ {t1 t2 : List Tr} {σ : St}, Run t1 σ → Run t2 (fin t1 σ) → Run (t1 ++ t2) σ ∧ fin (t1 ++ t2) σ = fin t2 (fin t1 σ)
  | [], t2, σ, _, h => ⟨h, rfl⟩
  | t :: t1, t2, σ, h1, h2 => by
    obtain ⟨h3, h4⟩ := Run.append h1.2 h2
    exact ⟨⟨h1.1, h3⟩, h4⟩

end Go.AX

/-! AxPin4 -/
/-
  Stutters between a region's operations; facts out of a state; a slice whose handle is known, read and written in place.
-/
namespace Go.AX
open Go.RowKit

variable {cx : Cx} {g : Nat → Value} {σ σ' : St} {a : Act} {w w' : World} {nx : Nat} {c : Code} {Q : Exit → St → Prop}
variable {ty : TypeId} {pos : String} {af : Array Edge} {gd : Option (Nat × Bool)} {d : Nat}
variable {ops : Array Oper} {rest : List Oper} {o : Oper}

theorem SW.s1 {rd wr : List (Key × Val)} (ha : autA cx σ o = some ⟨rd, wr⟩) (h : SW cx ops Q rest (wr ++ σ)) : SW cx ops Q (o :: rest) σ := by
  obtain ⟨dst, op, ty, pos, af, gd⟩ := o
  cases gd with
  | some p => cases ha
  | none =>
    simp only [autA] at ha
    split at ha
    · next hd => 
      obtain ⟨h1, h2⟩ := trA_ok (cx := cx) (ty := ty) (pos := pos) (af := af) (gd := none) hd ha
      exact SW.step rfl ⟨h1, h2⟩ h
    · cases ha
theorem SW.s5 {rd wr : List (Key × Val)} (ho : OA cx σ o ⟨rd, wr⟩) (hg : o.guard = none) (h : SW cx ops Q rest (wr ++ σ)) : SW cx ops Q (o :: rest) σ := SW.step hg ho h
theorem SW.nil (h : Q .normal σ) : SW cx ops Q [] σ := fun a w hs => wpList_nil ⟨σ, hs, h⟩
theorem SW.stut {t : Tr} {l : List Oper} (hs : Stut cx t) (ha : App σ t.rd) (h : SW cx ops Q l (t.wr ++ σ)) : SW cx ops Q l σ := fun a w hsim => h a w (hs σ a w hsim ha)
end Go.AX

/-! AxPin5 -/
/-
  A slice's length where its handle is known; a slice of ours within another's element, told as data there.
-/
namespace Go.AX
open Go.RowKit

variable {cx : Cx} {g : Nat → Value} {σ σ' : St} {a : Act} {w w' : World} {nx : Nat} {c : Code} {Q : Exit → St → Prop}
variable {ty : TypeId} {pos : String} {af : Array Edge} {gd : Option (Nat × Bool)} {d : Nat}

theorem SimG.drop (hG : SimG cx σ a w g nx) (id : Nat) : SimG cx ((.o id, .none) :: σ) a w g nx := by
  have hl := Less.drop ⟨g, nx, hG⟩ id
  have hlat : Later cx g g σ ((.o id, .none) :: σ) w w nx := by
    refine ⟨Ext.refl _ _, Below.refl _ _, fun b hb => ?_, fun j o' _ h => ⟨o', hl.o _ _ h, ?_⟩⟩
    · rcases hb with hb | ⟨j, o, h5, h6⟩
      · exact .inl (.inl hb)
      · exact .inl (.inr ⟨j, o, hl.o _ _ h5, h6⟩)
    · cases o' <;> simp [ObLe]
  exact hG.next hlat ((get_cons_ne (by simp)).trans hG.hnx) (Nat.le_refl _) hG.size hG.defers (Below.refl _ _) (fun j av hj => .inl ⟨hl.s _ _ hj, rfl⟩) (fun j o hj => .inl ⟨hl.o _ _ hj, rfl, fun _ _ => rfl⟩)
    (fun j j' o o' b h1 h2 => hG.sep j j' o o' b (hl.o _ _ h1) (hl.o _ _ h2))

end Go.AX

/-! AxBool -/
/-
  Two truths compared; structs compared that were loaded from a variable of ours.
-/
namespace Go.AX
open Go.RowKit

section
variable {P : Program} {t : TypeId}
end

variable {cx : Cx} {g : Nat → Value} {σ σ' : St} {a : Act} {w w' : World} {nx : Nat}
variable {ty : TypeId} {pos : String} {af : Array Edge} {gd : Option (Nat × Bool)} {d : Nat}

/-- A struct's cells, all plain. -/
inductive AggV : AV → List Value → Prop
  | d {ds : List D} {us : List Value} (h : ds = us.map D.v) : AggV (.d (.agg ds)) us
  | a {cs : List AV} {us : List Value} (h : cs = us.map fun u => AV.d (.v u)) : AggV (.agg cs) us
theorem rep_aggv {v : Value} {av : AV} {us : List Value} (h : AggV av us) (hr : Rep cx g σ w v av) : v = .agg us.toArray := by
  cases h with
  | d h => subst h; exact rd_agg_v hr
  | a h =>
    subst h
    obtain ⟨cs, rfl, hs, _, hr⟩ := hr
    congr 1
    apply Array.ext_getElem?
    intro j
    have hs' : cs.size = us.length := by simpa using hs
    rcases Nat.lt_or_ge j us.length with hj | hj
    · have h1 := hr j cs[j] (.d (.v us[j])) (by simp [List.getElem?_map, List.getElem?_eq_getElem hj]) (Array.getElem?_eq_getElem (by omega))
      have h2 : cs[j] = us[j] := rd_v h1
      rw [Array.getElem?_eq_getElem (by omega)]
      simp [h2]
    · rw [Array.getElem?_eq_none (by omega)]
      simp [hj]
end Go.AX

/-! AxFnD -/
/-
  Pointers, maps and closures told as data; closures made and called.
-/
namespace Go.AX
open Go.RowKit

variable {cx : Cx} {g : Nat → Value} {σ σ' : St} {a : Act} {w w' : World} {nx : Nat}
variable {ty : TypeId} {pos : String} {af : Array Edge} {gd : Option (Nat × Bool)} {d : Nat}

/-! ### As data -/
/-- A pointer to cells that stay. -/
def refP (ds : List D) (w : World) (own : Nat → Prop) (v : Value) : Prop := ∃ ad : Addr, v = .pointer (some ad) ∧ ¬ own ad.block ∧ ad.block < w.heap.size ∧ RdCells w own ad ds
def refD (ds : List D) : D := .x (refP ds)
/-- A map that stays. -/
def mapP (M : List (List UInt8 × Value)) (w : World) (own : Nat → Prop) (v : Value) : Prop := ∃ b es clock, v = .map (some b) ∧ ¬ own b ∧ b < w.heap.size ∧ w.heap[b]? = some (.map es clock) ∧ MapIs es M
def mapD (M : List (List UInt8 × Value)) : D := .x (mapP M)
theorem rd_x {own : Nat → Prop} {v : Value} {p : World → (Nat → Prop) → Value → Prop} (h : Rd w own v (.x p)) : p w own v := by
  generalize hD : D.x p = D0 at h
  cases h with
  | v => cases hD
  | sl => cases hD
  | agg => cases hD
  | nil => cases hD
  | x p v h1 hst hp => cases hD; exact hp
/-! ### A pointer to cells that stay -/
/-! ### Closures -/
/-- What is captured, as a function's arguments. -/
inductive Caps : List D → List Arg → Prop
  | nil : Caps [] []
  | ref {cs ds : List D} {zs : List Arg} (h : Caps ds zs) : Caps (refD cs :: ds) (.pd cs :: zs)
  | d {x : D} {ds : List D} {zs : List Arg} (h : Caps ds zs) : Caps (x :: ds) (.d x :: zs)
theorem Caps.ok {own : Nat → Prop} {ds : List D} {zs : List Arg} (h : Caps ds zs) : ∀ {vs : List Value}, vs.length = ds.length → (∀ (j : Nat) (x : D) (c : Value), ds[j]? = some x → vs[j]? = some c → Rd w own c x) → ArgsOk w own vs zs := by
  induction h with
  | nil =>
    intro vs hl _
    obtain rfl : vs = [] := List.eq_nil_of_length_eq_zero hl
    trivial
  | @ref cs ds zs h ih =>
    intro vs hl hr
    cases vs with
    | nil => simp at hl
    | cons v vs =>
      obtain ⟨ad, h1, _, h2, h3⟩ := rd_x (hr 0 _ v rfl rfl)
      exact ⟨⟨ad, h1, h2, h3⟩, ih (by simpa using hl) fun j x c hj hc => hr (j + 1) x c (by simpa using hj) (by simpa using hc)⟩
  | @d x ds zs h ih =>
    intro vs hl hr
    cases vs with
    | nil => simp at hl
    | cons v vs => exact ⟨hr 0 _ v rfl rfl, ih (by simpa using hl) fun j x c hj hc => hr (j + 1) x c (by simpa using hj) (by simpa using hc)⟩
theorem callfn_run {P : Program} {f : FuncId} {ys : List Arg} {r : Res} (hc : FnOk P f ys r) {ev : Operand → Value} {z : Operand} {xs : List Operand} {ats : Array TypeId} {dd : Option Nat} {cs : Array Value} (hv : ev z = .func (.func f) #[] cs) :
    (execOp ev ⟨dd, .call { callee := .value z, args := ⟨xs⟩, argTypes := ats }, ty, pos, af, gd⟩).run P w = .ok (.enter f (xs.map ev ++ cs.toList).toArray) w := by
  obtain ⟨fn, h1, h2, h3⟩ := hc.run
  simp only [execOp, resolve, Deferred.ofValue, hv, invoke, callFunc, Sem.run_bind, Sem.run_pure, Result.andThen_ok, run_program, h1, h2, h3, Bool.false_eq_true, if_false]
  simp
/-- The same, where a map of ours lies in a captured box: told as data to who is called. -/
inductive CapsM (x0 : Value) (M : List (List UInt8 × Value)) : List D → List Arg → Prop
  | nil : CapsM x0 M [] []
  | map {ds : List D} {zs : List Arg} (h : CapsM x0 M ds zs) : CapsM x0 M (refD [.v x0] :: ds) (.pd [mapD M] :: zs)
  | ref {cs ds : List D} {zs : List Arg} (h : CapsM x0 M ds zs) : CapsM x0 M (refD cs :: ds) (.pd cs :: zs)
theorem CapsM.ok {own own' : Nat → Prop} {x0 : Value} {M : List (List UInt8 × Value)} (ho : ∀ b, own' b → own b) (hm : Rd w own' x0 (mapD M)) {ds : List D} {zs : List Arg} (h : CapsM x0 M ds zs) :
    ∀ {vs : List Value}, vs.length = ds.length → (∀ (j : Nat) (x : D) (c : Value), ds[j]? = some x → vs[j]? = some c → Rd w own c x) → ArgsOk w own' vs zs := by
  induction h with
  | nil =>
    intro vs hl _
    obtain rfl : vs = [] := List.eq_nil_of_length_eq_zero hl
    trivial
  | @map ds zs h ih =>
    intro vs hl hr
    cases vs with
    | nil => simp at hl
    | cons v vs =>
      obtain ⟨ad, h1, _, h2, h3⟩ := rd_x (hr 0 _ v rfl rfl)
      refine ⟨⟨ad, h1, h2, fun j z hz => ?_⟩, ih (by simpa using hl) fun j x c hj hc => hr (j + 1) x c (by simpa using hj) (by simpa using hc)⟩
      cases j with
      | zero =>
        simp at hz; subst hz
        obtain ⟨u, h4, h5, h6⟩ := h3 0 _ rfl
        rw [rd_v h6] at h4 h5
        exact ⟨x0, h4, h5, hm⟩
      | succ j => simp at hz
  | @ref cs ds zs h ih =>
    intro vs hl hr
    cases vs with
    | nil => simp at hl
    | cons v vs =>
      obtain ⟨ad, h1, _, h2, h3⟩ := rd_x (hr 0 _ v rfl rfl)
      exact ⟨⟨ad, h1, h2, fun j z hz => by obtain ⟨u, h4, h5, h6⟩ := h3 j z hz; exact ⟨u, h4, h5, h6.less ho⟩⟩, ih (by simpa using hl) fun j x c hj hc => hr (j + 1) x c (by simpa using hj) (by simpa using hc)⟩
/-! ### Maps of ours -/
end Go.AX

/-! AxErr -/
/-
  Errors that are some, held against nil.
-/
namespace Go.AX
open Go.RowKit

variable {cx : Cx} {g : Nat → Value} {σ σ' : St} {a : Act} {w w' : World} {nx : Nat}
variable {ty : TypeId} {pos : String} {af : Array Edge} {gd : Option (Nat × Bool)} {d : Nat}

/-- Some error. -/
def errP (_w : World) (_own : Nat → Prop) (v : Value) : Prop := ∃ t p, v = .iface t p
def errD : D := .x errP
theorem err_stable : Stable errP := fun _ _ _ _ _ _ _ h => h
theorem rd_err {own : Nat → Prop} {t : TypeId} {p : Value} : Rd w own (.iface t p) errD := .x errP _ rfl err_stable ⟨t, p, rfl⟩
theorem a_err {t t' : TypeId} {x : Operand} {ms : Array (String × TypeId)} (hx : ev σ x = some (.d errD)) (ht : cx.P.underlying t = some (.interface ms)) (hd : Nat.blt d cx.n = true) :
    OA cx σ ⟨some d, .binOp .eql t x (.const .nilIface) t', ty, pos, af, gd⟩ ⟨rdOf x (.d errD), [(.s d, .av (.d (.v (.bool false))))]⟩ := by
  refine ⟨ok_val rfl (lt_of_blt hd) fun σ1 a w g nx hs hr => ?_, (ev_out hx).2⟩
  obtain ⟨t1, p1, hv⟩ := rd_x (hs.ev (ev_out hx).1 hr).1
  refine ⟨.bool false, w, ?_, Below.refl _ _, Rd.v _, trivial⟩
  have h : ∀ d : Nat, (Op.equalIn (d + 1) t (.iface t1 p1) .nilIface).run cx.P w = .ok false w := fun d => by
    simp [Op.equalIn, run_underlying ht]
  have hg : eqGuard .eql t x (.const .nilIface) (.iface t1 p1) .nilIface = pure () := by cases x <;> rfl
  have hc : a.eval (.const .nilIface) = .nilIface := rfl
  simp [execOp, hv, hc, hg, binOp, Op.equal, Op.maxDepth, h 9999]

/-- A function constant, called. -/
theorem a_callc {f : FuncId} {z : Operand} {xs : List Operand} {avs : List AV} {ys : List Arg} {l : List (Key × Val)} {r : Res} {ats : Array TypeId} (hc : FnOk cx.P f ys r)
    (hz : ev σ z = some (.d (.v (.func (.func f) #[] #[])))) (hd : Nat.blt d cx.n = true) (hsub : SubsE σ xs avs ys l) :
    OA cx σ ⟨some d, .call { callee := .value z, args := ⟨xs⟩, argTypes := ats }, ty, pos, af, gd⟩ ⟨rdOf z (.d (.v (.func (.func f) #[] #[]))) ++ l, [(.s d, .av r.av)]⟩ := by
  refine ⟨?_, (ev_out hz).2.append hsub.out.2⟩
  rintro σ1 a w K Q ⟨g, nx, hs⟩ hr hK
  have hv := rep_v (hs.ev (ev_out hz).1 hr.left).1
  have hcall := hc.calls w (cx.own g σ1) (xs.map a.eval) ⟨fun b hb => own_lt hs hb, hs.gl⟩ (hsub.out.1.ok hs hr.right)
  have hrun := callfn_run (xs := xs) (ats := ats) (ty := ty) (pos := pos) (af := af) (gd := gd) (dd := some d) (w := w) hc hv
  simp only [List.append_nil] at hrun
  unfold Oper.wp
  rw [hrun]
  refine hcall.mono fun e w' he => ?_
  obtain ⟨v, rfl, hb, hres⟩ := he
  obtain ⟨h1, h2⟩ := Res.rep (nx := nx) hres
  exact hK _ _ (Sim.put hs (lt_of_blt hd) hb h1 h2)

end Go.AX

/-! H6 -/
/-
  Contracts of Atoi and Itoa at whatever text and number; of the references' num and the program's number.
-/
namespace Go.Proofs.YtfaaghkgfbhglaaGreatDoor
open Go.AX Go.RF Go.RowKit

set_option maxRecDepth 100000
set_option maxHeartbeats 4000000

/-- The number that Atoi tells, with an error or without. -/
def atoiV (s : Str) : Int := match Lib.atoiAll s with
  | .ok v => v
  | .range => Lib.atoiSat s
  | _ => 0
def atoiE (s : Str) : D := match Lib.atoiAll s with
  | .ok _ => .v .nilIface
  | _ => errD
theorem tup2 {w : World} {own : Nat → Prop} {u v : Value} {x y : D} (h1 : Rd w own u x) (h2 : Rd w own v y) : ResOk w own (.tuple #[u, v]) (.tup [x, y]) := by
  refine ⟨_, rfl, rfl, fun j c z hj hc => ?_⟩
  match j, hj, hc with
  | 0, hj, hc => simp at hj hc; subst hj hc; exact h1
  | 1, hj, hc => simp at hj hc; subst hj hc; exact h2
  | j + 2, hj, hc => simp at hj
theorem ok_atoiG (s : Str) (hs : s.length ≤ 1073741824) : FnOk Tryz.prog 35 [.d (dstr s)] (.tup [dint (atoiV s), atoiE s]) := by
  refine ⟨⟨_, Tryz.func35, by kernel_rfl, by kernel_rfl⟩, fun w own vs hown ha => ?_⟩
  match vs, ha with
  | [x], ⟨h1, _⟩ =>
    obtain rfl : x = str s := rd_v h1
    have hsz : (⟨s.toArray⟩ : ByteArray).size = s.length := by show s.toArray.size = _; simp
    cases hc : Lib.atoiAll s with
    | ok v =>
      refine (Any.strconv_Atoi_ok Tryz.laysC172 ⟨s.toArray⟩ (by rw [hsz]; omega) v (by simpa using hc) w).mono fun e w' he => ?_
      obtain ⟨rfl, hw⟩ := he
      refine ⟨_, rfl, ?_, ?_⟩
      · rcases hw with rfl | ⟨t, rfl⟩
        · exact Below.refl _ _
        · exact Lib.bytesWorld_below _ _ _
      · unfold atoiV atoiE; rw [hc]; exact tup2 (Rd.v _) (Rd.v _)
    | range =>
      obtain ⟨cs, hv, tp, p, rfl⟩ := hown.2.er _ Tryz.laysC172.m16
      refine (Any.strconv_Atoi_range_var Tryz.laysC172 ⟨s.toArray⟩ (by rw [hsz]; omega) (by simpa using hc) tp p w hv).mono fun e w' he => ?_
      obtain ⟨N, rfl, _, _, hb⟩ := he
      refine ⟨_, rfl, hb, ?_⟩
      unfold atoiV atoiE; rw [hc]; exact tup2 (Rd.v _) rd_err
    | _ =>
      obtain ⟨cs, hv, tp, p, rfl⟩ := hown.2.es _ Tryz.laysC172.m15
      refine (Any.strconv_Atoi_syntax_var Tryz.laysC172 ⟨s.toArray⟩ (by rw [hsz]; omega) (by simpa using hc) tp p w hv).mono fun e w' he => ?_
      obtain ⟨N, rfl, _, _, hb⟩ := he
      refine ⟨_, rfl, hb, ?_⟩
      unfold atoiV atoiE; rw [hc]; exact tup2 (Rd.v _) rd_err
theorem ok_itoaG (n : Int) (h0 : -9223372036854775808 ≤ n) (h1 : n ≤ 9223372036854775807) : FnOk Tryz.prog 26 [.d (dint n)] (.one (dstr (Lib.itoa n))) := by
  refine ⟨⟨_, Tryz.func26, by kernel_rfl, by kernel_rfl⟩, fun w own vs hown ha => ?_⟩
  match vs, ha with
  | [x], ⟨h2, _⟩ =>
    obtain rfl : x = i64 n := rd_v h2
    have htab : Lib.TabIs Tryz.prog w "internal/strconv.uint64pow10" .u64 Lib.pow10Tab := by
      obtain ⟨cs, hv, rfl⟩ := hown.2.pow _ Tryz.laysM171.m17
      exact hv
    refine (Any.strconv_Itoa Tryz.laysM171 n h0 h1 w htab).mono fun e w' he => ?_
    obtain ⟨rfl, k, os, rfl⟩ := he
    refine ⟨_, rfl, ?_, Rd.v _⟩
    exact ⟨rfl, rfl, rfl, (by show w.heap.size ≤ (w.heap ++ os).size; simp), fun k hk => (by show (w.heap ++ os)[k]? = w.heap[k]?; exact Array.getElem?_append_left hk)⟩
theorem atoi_in {s : Str} {v : Int} (h : Lib.atoiAll s = .ok v) : -9223372036854775808 ≤ v ∧ v ≤ 9223372036854775807 := Lib.atoiAll_bounds h
theorem ok_num (s : Str) (hs : s.length ≤ 1073741824) : FnOk Tryz.prog 18 [.d (dstr s)] (.tup [dint (atoiV s), dbool (numV s).isSome]) := by
  refine fnOk_of tbl_ok mixed_ok Tryz.func18 rfl (by kernel_rfl) rfl rfl fun w0 own0 => ?_
  have c1 := ok_atoiG s hs
  unfold atoiV atoiE at c1
  unfold atoiV numV
  cases hc : Lib.atoiAll s with
  | ok v =>
    rw [hc] at c1
    have hb := atoi_in hc
    have c2 := ok_itoaG v hb.1 hb.2
    dsimp only at c1 ⊢
    generalize Lib.itoa v = t at c2 ⊢
    by_cases hv : t = s
    · rw [if_pos hv]
      repeat (first|((with_reducible apply s1); exact rfl)|(with_reducible first|apply CW.seq|apply CW.block|apply CW.region|apply CW.draw|apply CW.skip|apply CW.exit|apply CW.ret|apply q_then|apply q_then_exit|apply q_then_ret|apply q_block|apply q_block_ret|apply q_block_hit|apply q_ret|apply q_end|apply q_loop_exit|apply q_loop_ret|apply q_loopT_exit|apply q_loopT_ret|apply RW.nil)|((with_reducible apply s3); exact rfl; exact by_k)|((with_reducible apply s2); exact rfl; exact by_k)|((with_reducible apply s4); exact rfl)|((with_reducible apply s5); (first|exact a_call c1 rfl by_sub|exact a_call c2 rfl by_sub|((with_reducible apply a_noerr); exact rfl; exact Tryz.underlying61; exact rfl)|exact by_oa); exact by_g)|((with_reducible apply CW.cond_t); exact rfl; exact by_ks)|((with_reducible apply CW.cond_f); exact rfl; exact by_ks)|((with_reducible apply q_block_miss); exact rfl)|(refine And.intro (show chk [] [] _ _ = true by kernel_rfl) ?_))
      exact .two (.tmp rfl (.one (.d (.refl _)))) (.tmp rfl (.one (.d (dle_bool (by simp [hv])))))
    · rw [if_neg hv]
      repeat (first|((with_reducible apply s1); exact rfl)|(with_reducible first|apply CW.seq|apply CW.block|apply CW.region|apply CW.draw|apply CW.skip|apply CW.exit|apply CW.ret|apply q_then|apply q_then_exit|apply q_then_ret|apply q_block|apply q_block_ret|apply q_block_hit|apply q_ret|apply q_end|apply q_loop_exit|apply q_loop_ret|apply q_loopT_exit|apply q_loopT_ret|apply RW.nil)|((with_reducible apply s3); exact rfl; exact by_k)|((with_reducible apply s2); exact rfl; exact by_k)|((with_reducible apply s4); exact rfl)|((with_reducible apply s5); (first|exact a_call c1 rfl by_sub|exact a_call c2 rfl by_sub|((with_reducible apply a_noerr); exact rfl; exact Tryz.underlying61; exact rfl)|exact by_oa); exact by_g)|((with_reducible apply CW.cond_t); exact rfl; exact by_ks)|((with_reducible apply CW.cond_f); exact rfl; exact by_ks)|((with_reducible apply q_block_miss); exact rfl)|(refine And.intro (show chk [] [] _ _ = true by kernel_rfl) ?_))
      exact .two (.tmp rfl (.one (.d (.refl _)))) (.tmp rfl (.one (.d (dle_bool (by simp [hv])))))
  | range =>
    rw [hc] at c1
    dsimp only at c1 ⊢
    generalize Lib.atoiSat s = q at c1 ⊢
    repeat (first|((with_reducible apply s1); exact rfl)|(with_reducible first|apply CW.seq|apply CW.block|apply CW.region|apply CW.draw|apply CW.skip|apply CW.exit|apply CW.ret|apply q_then|apply q_then_exit|apply q_then_ret|apply q_block|apply q_block_ret|apply q_block_hit|apply q_ret|apply q_end|apply q_loop_exit|apply q_loop_ret|apply q_loopT_exit|apply q_loopT_ret|apply RW.nil)|((with_reducible apply s3); exact rfl; exact by_k)|((with_reducible apply s2); exact rfl; exact by_k)|((with_reducible apply s4); exact rfl)|((with_reducible apply s5); (first|exact a_call c1 rfl by_sub|((with_reducible apply a_err); exact rfl; exact Tryz.underlying61; exact rfl)|exact by_oa); exact by_g)|((with_reducible apply CW.cond_t); exact rfl; exact by_ks)|((with_reducible apply CW.cond_f); exact rfl; exact by_ks)|((with_reducible apply q_block_miss); exact rfl)|(refine And.intro (show chk [] [] _ _ = true by kernel_rfl) ?_))
    exact .two (.tmp rfl (.one (.d (.refl _)))) (.tmp rfl (.one (.d (.refl _))))
  | _ =>
    rw [hc] at c1
    dsimp only at c1 ⊢
    repeat (first|((with_reducible apply s1); exact rfl)|(with_reducible first|apply CW.seq|apply CW.block|apply CW.region|apply CW.draw|apply CW.skip|apply CW.exit|apply CW.ret|apply q_then|apply q_then_exit|apply q_then_ret|apply q_block|apply q_block_ret|apply q_block_hit|apply q_ret|apply q_end|apply q_loop_exit|apply q_loop_ret|apply q_loopT_exit|apply q_loopT_ret|apply RW.nil)|((with_reducible apply s3); exact rfl; exact by_k)|((with_reducible apply s2); exact rfl; exact by_k)|((with_reducible apply s4); exact rfl)|((with_reducible apply s5); (first|exact a_call c1 rfl by_sub|((with_reducible apply a_err); exact rfl; exact Tryz.underlying61; exact rfl)|exact by_oa); exact by_g)|((with_reducible apply CW.cond_t); exact rfl; exact by_ks)|((with_reducible apply CW.cond_f); exact rfl; exact by_ks)|((with_reducible apply q_block_miss); exact rfl)|(refine And.intro (show chk [] [] _ _ = true by kernel_rfl) ?_))
    exact .two (.tmp rfl (.one (.d (.refl _)))) (.tmp rfl (.one (.d (.refl _))))

end Go.Proofs.YtfaaghkgfbhglaaGreatDoor

/-! AxMap -/
/-
  Maps of ours: made, written, read; maps told as data, read.
-/
namespace Go.AX
open Go.RowKit

variable {cx : Cx} {g : Nat → Value} {σ σ' : St} {a : Act} {w w' : World} {nx : Nat}
variable {ty : TypeId} {pos : String} {af : Array Edge} {gd : Option (Nat × Bool)} {d : Nat}

/-- A value's cells, each of them one. -/
def flat : Value → Prop
  | .agg cs => ∀ c ∈ cs.toList, Value.oneCell' c = true
  | _ => True
/-- A value, told as data. -/
def dv : Value → D
  | .agg cs => .agg (cs.toList.map D.v)
  | v => .v v
theorem rd_dv {own : Nat → Prop} {v : Value} (h : flat v) : Rd w own v (dv v) := by
  cases v with
  | agg cs =>
    refine .agg _ _ (by simp) (fun j c hc => h c (List.mem_of_getElem? (by simpa using hc))) fun j x c hx hc => ?_
    rw [List.getElem?_map] at hx
    have hc' : cs.toList[j]? = some c := by simpa using hc
    rw [hc'] at hx
    simp at hx; subst hx
    exact Rd.v _
  | _ => exact Rd.v _
/-- A type of maps from texts. -/
structure MapTy (cx : Cx) (t te : TypeId) (zv : Value) : Prop where
  u : ∃ tk, cx.P.underlying t = some (.map tk te) ∧ cx.P.underlying tk = some .string
  z : ∀ w, (zeroValue te).run cx.P w = .ok zv w
theorem MapTy.st {t te : TypeId} {ti : TI} (hu : ∃ tk, cx.P.underlying t = some (.map tk te) ∧ cx.P.underlying tk = some .string) (he : tget cx.T te = some ti) (h2 : ti.zero.length ≠ 1) : MapTy cx t te (.agg ti.zero.toArray) := by
  refine ⟨hu, fun w => ?_⟩
  obtain ⟨i, hi, _, _, z, hz, hc⟩ := (cx.hT te ti he).info
  have hag : z = .agg ti.zero.toArray := by
    cases z with
    | agg cs =>
      have : cs.toList = ti.zero := hc
      rw [← this]
    | _ => exact absurd (by rw [← hc]; rfl) h2
  subst hag
  simp [zeroValue, typeInfo, hi, hz]
/-! ### Written -/
/-- A value, as the state has it. -/
inductive ValV : AV → Value → Prop
  | v {u : Value} : ValV (.d (.v u)) u
  | agg {av : AV} {us : List Value} (h : AggV av us) : ValV av (.agg us.toArray)
theorem rep_valv {v u : Value} {av : AV} (h : ValV av u) (hr : Rep cx g σ w v av) : v = u := by
  cases h with
  | v => exact rep_v hr
  | agg h => exact rep_aggv h hr
end Go.AX

/-! AxMapI -/
/-
  Maps of ours from numbers: made, written, read.
-/
namespace Go.AX
open Go.RowKit

variable {cx : Cx} {g : Nat → Value} {σ σ' : St} {a : Act} {w w' : World} {nx : Nat}
variable {ty : TypeId} {pos : String} {af : Array Edge} {gd : Option (Nat × Bool)} {d : Nat}

def mgetI (M : List (Int × Value)) (k : Int) : Option Value := match M with
  | [] => none
  | (s, v) :: r => if s = k then some v else mgetI r k
def msetI (M : List (Int × Value)) (k : Int) (v : Value) : List (Int × Value) := match M with
  | [] => [(k, v)]
  | (s, u) :: r => if s = k then (s, v) :: r else (s, u) :: msetI r k v
/-- Where a key is found. -/
def mfindI (k : Int) : List (Int × Value) → Nat → Option (Nat × Value)
  | [], _ => none
  | (s, v) :: r, i => if s = k then some (i, v) else mfindI k r (i + 1)
theorem mfindI_get (k : Int) : ∀ (M : List (Int × Value)) (i : Nat), (mfindI k M i).map (·.2) = mgetI M k
  | [], _ => rfl
  | (s, v) :: M, i => by
    simp only [mfindI, mgetI]
    split
    · rfl
    · exact mfindI_get k M (i + 1)
def mlookI (zv : Value) (M : List (Int × Value)) (k : Int) : Value := (mgetI M k).getD zv
/-! ### Written -/
theorem mfindI_some {k : Int} {us v : Value} : ∀ {M : List (Int × Value)} {j i : Nat}, mfindI k M j = some (i, v) → ∃ n, i = j + n ∧ M[n]? = some (k, v) ∧ msetI M k us = M.set n (k, us)
  | [], j, i, h => by cases h
  | (s, u) :: M, j, i, h => by
    simp only [mfindI] at h
    by_cases hs : s = k
    · rw [if_pos hs] at h
      cases h
      exact ⟨0, rfl, by simp [hs], by simp [msetI, hs]⟩
    · rw [if_neg hs] at h
      obtain ⟨n, h1, h2, h3⟩ := mfindI_some (us := us) h
      exact ⟨n + 1, by omega, by simpa using h2, by simp [msetI, hs, h3]⟩
theorem mfindI_none {k : Int} {us : Value} : ∀ {M : List (Int × Value)} {j : Nat}, mfindI k M j = none → msetI M k us = M ++ [(k, us)]
  | [], j, _ => rfl
  | (s, u) :: M, j, h => by
    simp only [mfindI] at h
    by_cases hs : s = k
    · rw [if_pos hs] at h; cases h
    · rw [if_neg hs] at h
      simp [msetI, hs, mfindI_none h]
end Go.AX

/-! AxGen -/
/-
  Objects of ours told by a predicate, their handles not known: what runs over a text; maps from numbers of whatever kind.
-/
namespace Go.AX
open Go.RowKit

variable {cx : Cx} {g : Nat → Value} {σ σ' : St} {a : Act} {w w' : World} {nx : Nat}
variable {ty : TypeId} {pos : String} {af : Array Edge} {gd : Option (Nat × Bool)} {d : Nat}

/-- A new one. -/
theorem ok_gennew {op : Op} {l : List (Key × Val)} {n0 : Nat} (p : Value → Obj → Prop) (hd : d < cx.n)
    (hex : ∀ σ a w g nx, SimG cx σ a w g nx → App σ l → ∃ v o, (execOp a.eval ⟨some d, op, ty, pos, af, gd⟩).run cx.P w = .ok (.value v) (w.alloc o) ∧ blk v = some w.heap.size ∧ p v o) :
    OpOk cx ⟨some d, op, ty, pos, af, gd⟩ ⟨(.nx, .num n0) :: l, [(.s d, .av (.h n0)), (.o n0, .ob (.gen p)), (.nx, .num (n0 + 1))]⟩ := by
  rintro σ a w K Q ⟨g, nx, hs⟩ hr hK
  obtain ⟨hn, hl⟩ := hr
  have hnx : nx = n0 := by
    have h2 := hs.hnx
    rw [hn] at h2
    simpa using h2.symm
  subst hnx
  obtain ⟨v, o, hrun, hbv, hp⟩ := hex σ a w g nx hs hl
  have hb : Below w.heap.size w (w.alloc o) := (Below.refl _ _).alloc (Nat.le_refl _) _
  have hst : ObjStep cx σ g nx (nx + 1) w (w.alloc o) nx (.gen p) v :=
    ⟨.inl ⟨rfl, rfl⟩, hb.mono hs.below.size, fun c hc _ => hb.block c hc, fun c hc => .inr (by rw [hbv] at hc; cases hc; exact Nat.le_refl _)⟩
  have hG := SimG.obj hs hst (fun _ => ⟨w.heap.size, o, by rw [upd_same]; exact hbv, hs.below.size, heap_alloc_new w _, by rw [upd_same]; exact hp⟩) trivial
  refine wp_val rfl hrun (hK _ _ ?_)
  refine Sim.eqv (Sim.put hG hd (Below.refl _ _) (av := .h nx) ⟨.of get_cons_same, fun p' _ _ => (upd_same _ _ _).symm⟩ (Nat.lt_succ_self nx)) fun q => ?_
  cases q with
  | s i =>
    by_cases hi : i = d
    · subst hi; rw [get_cons_same]; exact get_cons_same.symm
    · rw [get_cons_ne (by simpa using fun e => hi e.symm), objSt_s]
      exact ((get_cons_ne (by simpa using fun e => hi e.symm)).trans ((get_cons_ne (by simp)).trans (get_cons_ne (by simp)))).symm
  | o i =>
    rw [get_cons_ne (by simp)]
    by_cases hi : i = nx
    · subst hi; rw [get_cons_same]; exact ((get_cons_ne (by simp)).trans get_cons_same).symm
    · rw [objSt_o hi]
      exact ((get_cons_ne (by simp)).trans ((get_cons_ne (by simpa using fun e => hi e.symm)).trans (get_cons_ne (by simp)))).symm
  | nx =>
    rw [get_cons_ne (by simp), objSt_nx]
    exact ((get_cons_ne (by simp)).trans ((get_cons_ne (by simp)).trans get_cons_same)).symm

/-- What it holds turns. -/
theorem gen_set (hs : SimG cx σ a w g nx) {id b : Nat} {p p' : Value → Obj → Prop} {o' : Obj} (ho : get σ (.o id) = .ob (.gen p)) (hb : blk (g id) = some b) (hlt : b < w.heap.size) (hp : p' (g id) o') :
    SimG cx (objSt σ nx id (.gen p')) a { w with heap := w.heap.setIfInBounds b o' } (upd g id (g id)) nx := by
  have hoth : ∀ c, c ≠ b → ({ w with heap := w.heap.setIfInBounds b o' } : World).heap[c]? = w.heap[c]? := fun c hc => by
    show (w.heap.setIfInBounds b _)[c]? = _
    rw [Array.getElem?_setIfInBounds, if_neg (fun e => hc e.symm)]
  obtain ⟨hid, ⟨b1, o1, h1, h2, h3, h4⟩, _⟩ := hs.objs id _ ho
  obtain rfl : b1 = b := Option.some.inj (h1.symm.trans hb)
  have hst : ObjStep cx σ g nx nx w { w with heap := w.heap.setIfInBounds b1 o' } id (.gen p') (g id) :=
    ⟨.inr ⟨rfl, _, ho, by simp [ObLe, upd_same]⟩, ⟨rfl, rfl, rfl, by simp, fun c hc => hoth c (by omega)⟩, fun c hc hn => hoth c fun e => hn _ ho (by rw [hb, e]), fun c hc => .inl ⟨_, ho, hc⟩⟩
  exact SimG.obj hs hst (fun _ => ⟨b1, o', by rw [upd_same]; exact hb, h2, by show (w.heap.setIfInBounds b1 _)[b1]? = _; rw [Array.getElem?_setIfInBounds, if_pos rfl, if_pos hlt], by rw [upd_same]; exact hp⟩) trivial
theorem gen_at (hs : SimG cx σ a w g nx) {id : Nat} {p : Value → Obj → Prop} {x : Value} (ho : get σ (.o id) = .ob (.gen p)) (hr : Rep cx g σ w x (.h id)) :
    ∃ b o, blk x = some b ∧ blk (g id) = some b ∧ b < w.heap.size ∧ w.heap[b]? = some o ∧ p x o ∧ x = g id := by
  obtain ⟨_, ⟨b, o, h1, h2, h3, h4⟩, _⟩ := hs.objs id _ ho
  have hx : x = g id := hr.2 _ ho rfl
  refine ⟨b, o, by rw [hx]; exact h1, h1, ?_, h3, by rw [hx]; exact h4, hx⟩
  rcases Nat.lt_or_ge b w.heap.size with h | h
  · exact h
  · rw [Array.getElem?_eq_none h] at h3; cases h3
/-! ### Over a text -/
def ItP (s : List UInt8) (k : Nat) : Value → Obj → Prop := fun v o => (∃ b, v = .pointer (some ⟨b, 0, none⟩)) ∧ o = .stringIter ⟨s.toArray⟩ k
theorem a_range {t : TypeId} {x : Operand} {s : List UInt8} {n0 : Nat} (hn : get σ .nx = .num n0) (hx : ev σ x = some (.d (.v (str s)))) (ht : cx.P.underlying t = some .string) (hd : Nat.blt d cx.n = true) :
    OA cx σ ⟨some d, .range t x, ty, pos, af, gd⟩ ⟨(.nx, .num n0) :: rdOf x (.d (.v (str s))), [(.s d, .av (.h n0)), (.o n0, .ob (.gen (ItP s 0))), (.nx, .num (n0 + 1))]⟩ := by
  refine ⟨ok_gennew (ItP s 0) (lt_of_blt hd) fun σ a w g nx hs hl => ⟨.pointer (some ⟨w.heap.size, 0, none⟩), .stringIter ⟨s.toArray⟩ 0, ?_, rfl, ⟨_, rfl⟩, rfl⟩, hn, (ev_out hx).2⟩
  have hv := rep_v (hs.ev (ev_out hx).1 hl).1
  simp [execOp, hv, Instr.range, run_underlying ht, newObj, Result.andThen]
  rfl
theorem decode_ascii {s : List UInt8} {k : Nat} {c : UInt8} (h : s[k]? = some c) (hc : c.toNat < 128) : Utf8.decode ⟨s.toArray⟩ k = (c.toNat, 1) := by
  have hg : (⟨s.toArray⟩ : ByteArray).get! (k + 0) = c := by
    show s.toArray[k + 0]! = c
    rw [Nat.add_zero, Array.getElem!_eq_getD, Array.getD_eq_getD_getElem?]
    simp [h]
  unfold Utf8.decode
  simp only [hg]
  rw [if_pos hc]
theorem a_next {x : Operand} {s : List UInt8} {k : Nat} {c : UInt8} (id : Nat) (hx : ev σ x = some (.h id)) (ho : get σ (.o id) = .ob (.gen (ItP s k))) (hk : s[k]? = some c) (hc : c.toNat < 128) (hd : Nat.blt d cx.n = true) :
    OA cx σ ⟨some d, .next x true, ty, pos, af, gd⟩ ⟨rdOf x (.h id) ++ [(.o id, .ob (.gen (ItP s k)))],
      [(.s d, .av (.tup [.d (.v (.bool true)), .d (.v (.int .i64 k)), .d (.v (.int .i32 c.toNat))])), (.o id, .ob (.gen (ItP s (k + 1))))]⟩ := by
  refine ⟨?_, (ev_out hx).2.append ⟨ho, trivial⟩⟩
  rintro σ a w K Q ⟨g, nx, hs⟩ hr hK
  have ho := hr.right.1
  obtain ⟨b, o, h1, h2, h3, h4, ⟨⟨b', h7⟩, h5⟩, h6⟩ := gen_at hs ho (hs.ev (ev_out hx).1 hr.left).1
  subst h5
  obtain rfl : b' = b := by rw [h7] at h1; simpa [blk] using h1
  have hkl := (List.getElem?_eq_some_iff.1 hk).1
  have hdec := decode_ascii hk hc
  have hG := gen_set hs (p' := ItP s (k + 1)) (o' := .stringIter ⟨s.toArray⟩ (k + 1)) ho h2 h3 ⟨⟨b', by rw [← h6]; exact h7⟩, rfl⟩
  have hrun : (execOp a.eval ⟨some d, .next x true, ty, pos, af, gd⟩).run cx.P w = .ok (.value (.tuple #[.bool true, .int .i64 k, .int .i32 c.toNat])) { w with heap := w.heap.setIfInBounds b' (.stringIter ⟨s.toArray⟩ (k + 1)) } := by
    have hsz : k < (⟨s.toArray⟩ : ByteArray).size := by show k < s.toArray.size; simpa using hkl
    have hget : (getObj b').run cx.P w = .ok (.stringIter ⟨s.toArray⟩ k) w := by simp [getObj, Sem.run, h4]
    have hset : ∀ o, (setObj b' o).run cx.P w = .ok () { w with heap := w.heap.setIfInBounds b' o } := fun o => by simp [setObj, Sem.run, h4]
    simp [execOp, h7, Instr.next, hget, hset, hsz, hdec, goInt, Result.andThen]
  refine wp_val rfl hrun (hK _ _ (Sim.eqv (Sim.put hG (lt_of_blt hd) (Below.refl _ _) (av := .tup [.d (.v (.bool true)), .d (.v (.int .i64 k)), .d (.v (.int .i32 c.toNat))]) ⟨_, rfl, rfl, fun j x av hj hc => ?_⟩ (by intro av hav; simp at hav; rcases hav with rfl | rfl | rfl <;> trivial)) fun q => ?_))
  · match j, hj, hc with
    | 0, hj, hc => simp at hj hc; subst hj hc; exact Rd.v _
    | 1, hj, hc => simp at hj hc; subst hj hc; exact Rd.v _
    | 2, hj, hc => simp at hj hc; subst hj hc; exact Rd.v _
    | j + 3, hj, hc => simp at hj
  cases q with
  | s i =>
    by_cases hi : i = d
    · subst hi; rw [get_cons_same]; exact get_cons_same.symm
    · rw [get_cons_ne (by simpa using fun e => hi e.symm), objSt_s]
      exact ((get_cons_ne (by simpa using fun e => hi e.symm)).trans (get_cons_ne (by simp))).symm
  | o i =>
    rw [get_cons_ne (by simp)]
    by_cases hi : i = id
    · subst hi; rw [get_cons_same]; exact ((get_cons_ne (by simp)).trans get_cons_same).symm
    · rw [objSt_o hi]
      exact ((get_cons_ne (by simp)).trans (get_cons_ne (by simpa using fun e => hi e.symm))).symm
  | nx =>
    rw [get_cons_ne (by simp), objSt_nx]
    exact (((get_cons_ne (by simp)).trans (get_cons_ne (by simp))).trans hs.hnx).symm
theorem a_nextE {x : Operand} {s : List UInt8} {k : Nat} (id : Nat) (hx : ev σ x = some (.h id)) (ho : get σ (.o id) = .ob (.gen (ItP s k))) (hk : s.length ≤ k) (hd : Nat.blt d cx.n = true) :
    OA cx σ ⟨some d, .next x true, ty, pos, af, gd⟩ ⟨rdOf x (.h id) ++ [(.o id, .ob (.gen (ItP s k)))], [(.s d, .av (.tup [.d (.v (.bool false))]))]⟩ := by
  refine ⟨?_, (ev_out hx).2.append ⟨ho, trivial⟩⟩
  rintro σ a w K Q ⟨g, nx, hs⟩ hr hK
  have ho := hr.right.1
  obtain ⟨b, o, h1, h2, h3, h4, ⟨⟨b', h7⟩, h5⟩, h6⟩ := gen_at hs ho (hs.ev (ev_out hx).1 hr.left).1
  subst h5
  obtain rfl : b' = b := by rw [h7] at h1; simpa [blk] using h1
  have hrun : (execOp a.eval ⟨some d, .next x true, ty, pos, af, gd⟩).run cx.P w = .ok (.value (.tuple #[.bool false])) w := by
    have hsz : ¬ k < (⟨s.toArray⟩ : ByteArray).size := by show ¬ k < s.toArray.size; simp; omega
    have hget : (getObj b').run cx.P w = .ok (.stringIter ⟨s.toArray⟩ k) w := by simp [getObj, Sem.run, h4]
    simp [execOp, h7, Instr.next, hget, hsz, Result.andThen]
  refine wp_val rfl hrun (hK _ _ (Sim.put hs (lt_of_blt hd) (Below.refl _ _) (av := .tup [.d (.v (.bool false))]) ⟨_, rfl, rfl, fun j x av hj hc => ?_⟩ (by intro av hav; simp at hav; subst hav; trivial)))
  match j, hj, hc with
  | 0, hj, hc => simp at hj hc; subst hj hc; exact Rd.v _
  | j + 1, hj, hc => simp at hj

end Go.AX

/-! AxGen2 -/
/-
  Maps of ours from numbers of whatever kind, their handles not known: made, written, read.
-/
namespace Go.AX
open Go.RowKit

variable {cx : Cx} {g : Nat → Value} {σ σ' : St} {a : Act} {w w' : World} {nx : Nat} {kk : IntKind}
variable {ty : TypeId} {pos : String} {af : Array Edge} {gd : Option (Nat × Bool)} {d : Nat}

def MapIsK (kk : IntKind) (es : Array MapEntry) (M : List (Int × Value)) : Prop := es.toList.map (fun e => (e.key, e.val)) = M.map fun p => (Value.int kk p.1, p.2)
structure MapTyK (cx : Cx) (kk : IntKind) (t te : TypeId) (zv : Value) : Prop where
  u : ∃ tk, cx.P.underlying t = some (.map tk te) ∧ cx.P.underlying tk = some (.int kk)
  z : ∀ w, (zeroValue te).run cx.P w = .ok zv w
theorem findNow_eqK (k : Int) : ∀ {es : List MapEntry} {M : List (Int × Value)} (i : Nat), es.map (fun e => (e.key, e.val)) = M.map (fun p => (Value.int kk p.1, p.2)) →
    Instr.findNow (.int kk) (.int kk k) es i = some ((mfindI k M i).map fun p => (p.1, p.2))
  | [], [], i, _ => rfl
  | [], p :: M, i, h => by simp at h
  | e :: es, [], i, h => by simp at h
  | e :: es, (s, v) :: M, i, h => by
    simp only [List.map_cons, List.cons.injEq, Prod.mk.injEq] at h
    obtain ⟨⟨h1, h2⟩, h3⟩ := h
    obtain ⟨r, hr, hiff⟩ := MapKept.sameNow_of_keys (d := .int kk) (a := .int kk k) (b := .int kk s) (by simp [MapKept.IsKey]) (by simp [MapKept.IsKey])
    rw [← h1] at hr
    have hs' : r = true ↔ s = k := by
      rw [hiff]
      simp only [Value.int.injEq, true_and]
      exact eq_comm
    simp only [Instr.findNow, hr, mfindI]
    by_cases hs : s = k
    · rw [if_pos hs]
      have hrt := hs'.2 hs
      subst hrt
      simp [h2]
    · rw [if_neg hs]
      have hrf : r = false := by
        cases r with
        | false => rfl
        | true => exact absurd (hs'.1 rfl) hs
      subst hrf
      exact findNow_eqK k (i + 1) h3
theorem run_mlookK {t te : TypeId} {zv : Value} (h : MapTyK cx kk t te zv) {b : Nat} {es : Array MapEntry} {clock : Nat} {M : List (Int × Value)} (hb : w.heap[b]? = some (.map es clock)) (hm : MapIsK kk es M) (k : Int) :
    (Instr.lookup t (.map (some b)) (.int kk k) false).run cx.P w = .ok (mlookI zv M k) w := by
  obtain ⟨tk, h1, h2⟩ := h.u
  have hf := findNow_eqK k 0 hm
  have hg := mfindI_get k M 0
  have hck : (Instr.checkKey es.isEmpty 10000 tk (.int kk k)).run cx.P w = .ok () w := MapKept.run_checkKey h2 (by simp [MapKept.IsKey]) _ 9999
  have hz := h.z w
  cases hfd : mfindI k M 0 with
  | none =>
    rw [hfd] at hf hg
    simp only [Option.map_none] at hf hg
    simp [Instr.lookup, run_underlying h1, MapKept.run_getObj_map hb, hck, Instr.findKey, run_underlying h2, hf, hz, mlookI, ← hg, Result.andThen]
  | some p =>
    rw [hfd] at hf hg
    simp only [Option.map_some] at hf hg
    simp [Instr.lookup, run_underlying h1, MapKept.run_getObj_map hb, hck, Instr.findKey, run_underlying h2, hf, mlookI, ← hg, Result.andThen]
theorem run_msetK {t te : TypeId} {zv : Value} (h : MapTyK cx kk t te zv) {b : Nat} {es : Array MapEntry} {clock : Nat} {M : List (Int × Value)} (hb : w.heap[b]? = some (.map es clock)) (hm : MapIsK kk es M) (k : Int) (us : Value) :
    ∃ es' clock', (Instr.mapUpdate t (.map (some b)) (.int kk k) us).run cx.P w = .ok () { w with heap := w.heap.setIfInBounds b (.map es' clock') } ∧ MapIsK kk es' (msetI M k us) := by
  obtain ⟨tk, h1, h2⟩ := h.u
  have hf := findNow_eqK k 0 hm
  have hck : (Instr.checkKey false 10000 tk (.int kk k)).run cx.P w = .ok () w := MapKept.run_checkKey h2 (by simp [MapKept.IsKey]) _ 9999
  have hset : ∀ o, (setObj b o).run cx.P w = .ok () { w with heap := w.heap.setIfInBounds b o } := fun o => MapKept.run_setObj_map o hb
  cases hfd : mfindI k M 0 with
  | none =>
    rw [hfd] at hf
    simp only [Option.map_none] at hf
    refine ⟨es.push ⟨.int kk k, us, clock⟩, clock + 1, ?_, ?_⟩
    · simp [Instr.mapUpdate, run_underlying h1, MapKept.run_getObj_map hb, hck, Instr.findKey, run_underlying h2, hf, hset, Result.andThen]
    · rw [mfindI_none hfd]
      unfold MapIsK at hm ⊢
      simp [hm]
  | some p =>
    obtain ⟨i, v⟩ := p
    rw [hfd] at hf
    simp only [Option.map_some] at hf
    obtain ⟨n, hn, h3, h4⟩ := mfindI_some (us := us) hfd
    obtain rfl : i = n := by omega
    have hes : (es.toList.map fun e => (e.key, e.val))[i]? = some (Value.int kk k, v) := by
      unfold MapIsK at hm
      rw [hm, List.getElem?_map, h3]; rfl
    obtain ⟨e, he, hek⟩ : ∃ e, es[i]? = some e ∧ e.key = Value.int kk k := by
      rw [List.getElem?_map] at hes
      cases hx : es.toList[i]? with
      | none => rw [hx] at hes; cases hes
      | some e =>
        rw [hx] at hes
        simp at hes
        exact ⟨e, by simpa using hx, hes.1⟩
    refine ⟨es.modify i fun e => { e with key := .int kk k, val := us }, clock, ?_, ?_⟩
    · have hst : (Instr.keyThatStays (((es[i]?).map (·.key)).getD (.int kk k)) (.int kk k)).run cx.P w = .ok (.int kk k) w := by
        rw [he]
        simp only [Option.map_some, Option.getD_some, hek]
        exact MapKept.run_keyThatStays (d := .int kk) (by simp [MapKept.IsKey])
      simp [Instr.mapUpdate, run_underlying h1, MapKept.run_getObj_map hb, hck, Instr.findKey, run_underlying h2, hf, hst, hset, Result.andThen]
    · rw [h4]
      unfold MapIsK at hm ⊢
      rw [List.map_set, ← hm]
      apply List.ext_getElem?
      intro j
      rw [List.getElem?_map, Array.getElem?_toList, Array.getElem?_modify]
      by_cases hj : i = j
      · subst hj
        have hlt := (Array.getElem?_eq_some_iff.1 he).1
        rw [if_pos rfl, List.getElem?_set_self (by simpa using hlt), he]
        rfl
      · rw [if_neg hj, List.getElem?_set_ne hj, List.getElem?_map, Array.getElem?_toList]
/-! ### Texts one behind the other -/
theorem bytes_append (a b : List UInt8) : (⟨a.toArray⟩ : ByteArray) ++ ⟨b.toArray⟩ = ⟨(a ++ b).toArray⟩ := by
  apply ByteArray.ext
  simp
theorem bin_sadd {P : Program} {t : TypeId} {a b : List UInt8} (h : a.length + b.length ≤ 4611686018427387904) : BinR P .add t (str a) (str b) (str (a ++ b)) := by
  intro w x y
  have h1 : (⟨a.toArray⟩ : ByteArray).size = a.length := by show a.toArray.size = _; simp
  have h2 : (⟨b.toArray⟩ : ByteArray).size = b.length := by show b.toArray.size = _; simp
  have h3 : ¬ (((⟨a.toArray⟩ : ByteArray).size + (⟨b.toArray⟩ : ByteArray).size : Nat) : Int) > IntKind.i64.max := by
    rw [h1, h2]
    show ¬ ((a.length + b.length : Nat) : Int) > 9223372036854775807
    omega
  simp only [str, Sem.run_bind, eqGuard, Sem.run_pure, Result.andThen_ok, binOp, Op.stringOp]
  rw [if_neg h3, bytes_append]
  rfl

end Go.AX

/-! AxLit -/
/-
  Maps that a literal lays, whatever comes first: who has come is told by marks.
-/
namespace Go.AX
open Go.RowKit

variable {cx : Cx} {g : Nat → Value} {σ σ' : St} {a : Act} {w w' : World} {nx : Nat} {kk : IntKind}
variable {ty : TypeId} {pos : String} {af : Array Edge} {gd : Option (Nat × Bool)} {d : Nat}

theorem stut_tok (o : Nat) : Stut cx ⟨[(.nx, .num nx)], [(.o nx, .ob (.tok o false)), (.nx, .num (nx + 1))]⟩ := by
  rintro σ a w ⟨g, n', hs⟩ hr
  have hnx : n' = nx := by
    have h2 := hr.1
    rw [hs.hnx] at h2
    simpa using h2
  subst hnx
  exact ⟨_, _, SimG.obj (o' := .tok o false) (hv := nilS) hs ⟨.inl ⟨rfl, rfl⟩, Below.refl _ _, fun b _ _ => rfl, fun b hb => by simp [blk] at hb⟩ (fun _ => upd_same _ _ _) trivial⟩

section
variable {i o : Nat} {b : Bool}
theorem tok_get (k : Key) (hk : k ≠ .o i) : get ((.o i, .ob (.tok o true)) :: σ) k = get σ k := get_cons_ne (fun e => hk e.symm)
theorem tok_own (hi : get σ (.o i) = .ob (.tok o b)) : cx.own g ((.o i, .ob (.tok o true)) :: σ) = cx.own g σ := by
  funext c
  apply propext
  refine or_congr Iff.rfl ⟨?_, ?_⟩
  · rintro ⟨id, ob, h1, h2⟩
    by_cases h : id = i
    · subst h; exact ⟨id, _, hi, h2⟩
    · exact ⟨id, ob, by rw [tok_get _ (by simpa using h)] at h1; exact h1, h2⟩
  · rintro ⟨id, ob, h1, h2⟩
    by_cases h : id = i
    · subst h; exact ⟨id, _, get_cons_same, h2⟩
    · exact ⟨id, ob, by rw [tok_get _ (by simpa using h)]; exact h1, h2⟩
theorem tok_ob {id : Nat} {ob : Ob} (h : get ((.o i, .ob (.tok o true)) :: σ) (.o id) = .ob ob) (hn : ∀ q c, ob ≠ .tok q c) : get σ (.o id) = .ob ob := by
  by_cases he : id = i
  · subst he
    rw [get_cons_same] at h
    exact absurd (by simpa using h.symm) (hn o true)
  · rw [tok_get _ (by simpa using he)] at h; exact h
theorem tok_nr {id : Nat} (h : NR σ id) : NR ((.o i, .ob (.tok o true)) :: σ) id := fun hg => h (tok_ob hg (by simp))
theorem tok_rep1 (hi : get σ (.o i) = .ob (.tok o b)) {x : Value} {av : AV} (h : Rep1 cx g σ w x av) : Rep1 cx g ((.o i, .ob (.tok o true)) :: σ) w x av := by
  cases av with
  | d y => show Rd w _ x y; rw [tok_own hi]; exact h
  | pd ds =>
    obtain ⟨ad, h1, h2, h3, h4⟩ := h
    refine ⟨ad, h1, ?_, h3, ?_⟩
    · rw [tok_own hi]; exact h2
    · rw [tok_own hi]; exact h4
  | ptr id off => exact ⟨tok_nr h.1, fun cells hg => h.2 cells (tok_ob hg (by simp))⟩
  | own id n => exact ⟨tok_nr h.1, fun e k rows hg => h.2 e k rows (tok_ob hg (by simp))⟩
  | pe id n p q => exact ⟨tok_nr h.1, fun e k rows hg => h.2 e k rows (tok_ob hg (by simp))⟩
  | h id => exact ⟨tok_nr h.1, fun ob hg hh => h.2 ob (tok_ob hg (by rintro q c rfl; cases hh)) hh⟩
  | any => trivial
  | agg c => exact h
  | tup c => exact h
theorem tok_rep2 (hi : get σ (.o i) = .ob (.tok o b)) {x : Value} {av : AV} (h : Rep2 cx g σ w x av) : Rep2 cx g ((.o i, .ob (.tok o true)) :: σ) w x av := by
  cases av with
  | agg cells =>
    obtain ⟨cs, h1, h2, h3, h4⟩ := h
    exact ⟨cs, h1, h2, h3, fun j c av hj hc => tok_rep1 hi (h4 j c av hj hc)⟩
  | d y => exact tok_rep1 (cx := cx) (g := g) (w := w) (av := .d y) hi h
  | pd y => exact tok_rep1 (cx := cx) (g := g) (w := w) (av := .pd y) hi h
  | ptr n m => exact tok_rep1 (cx := cx) (g := g) (w := w) (av := .ptr n m) hi h
  | own n m => exact tok_rep1 (cx := cx) (g := g) (w := w) (av := .own n m) hi h
  | pe n m p q => exact tok_rep1 (cx := cx) (g := g) (w := w) (av := .pe n m p q) hi h
  | h n => exact tok_rep1 (cx := cx) (g := g) (w := w) (av := .h n) hi h
  | any => exact trivial
  | tup c => exact h
theorem tok_rep (hi : get σ (.o i) = .ob (.tok o b)) {x : Value} {av : AV} (h : Rep cx g σ w x av) : Rep cx g ((.o i, .ob (.tok o true)) :: σ) w x av := by
  cases av with
  | tup avs =>
    obtain ⟨vs, h1, h2, h3⟩ := h
    exact ⟨vs, h1, h2, fun j c av hj hc => tok_rep2 hi (h3 j c av hj hc)⟩
  | agg cells => exact tok_rep2 (cx := cx) (g := g) (w := w) (av := .agg cells) hi h
  | d y => exact tok_rep2 (cx := cx) (g := g) (w := w) (av := .d y) hi h
  | pd y => exact tok_rep2 (cx := cx) (g := g) (w := w) (av := .pd y) hi h
  | ptr n m => exact tok_rep2 (cx := cx) (g := g) (w := w) (av := .ptr n m) hi h
  | own n m => exact tok_rep2 (cx := cx) (g := g) (w := w) (av := .own n m) hi h
  | pe n m p q => exact tok_rep2 (cx := cx) (g := g) (w := w) (av := .pe n m p q) hi h
  | h n => exact tok_rep2 (cx := cx) (g := g) (w := w) (av := .h n) hi h
  | any => exact trivial
/-- A mark is set: what it stands for is there. -/
theorem tok_set (hs : SimG cx σ a w g nx) (hi : get σ (.o i) = .ob (.tok o b))
    (hp : ∀ kk V ids (j : Nat) p, get σ (.o o) = .ob (.lit kk V ids) → ids[j]? = some i → V[j]? = some p → ∃ bb es clock, g o = .map (some bb) ∧ w.heap[bb]? = some (.map es clock) ∧ ∃ e ∈ es.toList, e.key = .int kk p.1) :
    SimG cx ((.o i, .ob (.tok o true)) :: σ) a w g nx := by
  refine ⟨by rw [tok_get _ (by simp)]; exact hs.hnx, hs.size, hs.defers, hs.below, hs.own0, fun s av h => ?_, fun id ob h => ?_, fun id id' o1 o2 c h1 h2 h3 h4 => ?_⟩
  · rw [tok_get _ (by simp)] at h
    obtain ⟨h1, h2⟩ := hs.slots s av h
    exact ⟨tok_rep hi h1, h2⟩
  · by_cases he : id = i
    · subst he
      rw [get_cons_same] at h
      obtain rfl : Ob.tok o true = ob := by simpa using h
      obtain ⟨h1, h2, _⟩ := hs.objs id _ hi
      exact ⟨h1, h2, trivial⟩
    · rw [tok_get _ (by simpa using he)] at h
      obtain ⟨h1, h2, h3⟩ := hs.objs id ob h
      refine ⟨h1, ?_, h3⟩
      cases ob with
      | box cells =>
        obtain ⟨b0, cs, t, q0, q1, q2, q3, q4, q5⟩ := h2
        exact ⟨b0, cs, t, q0, q1, q2, q3, q4, fun j c av hj hc => tok_rep1 hi (q5 j c av hj hc)⟩
      | arr e k rows =>
        obtain ⟨xs, q1, q2, q3, q4⟩ := h2
        exact ⟨xs, q1, q2, q3, fun i' j r d x u1 u2 u3 => by rw [tok_own hi]; exact q4 i' j r d x u1 u2 u3⟩
      | pin e k rows x0 =>
        obtain ⟨q0, xs, q1, q2, q3, q4⟩ := h2
        exact ⟨q0, xs, q1, q2, q3, fun i' j r d x u1 u2 u3 => by rw [tok_own hi]; exact q4 i' j r d x u1 u2 u3⟩
      | mp M x0 => exact h2
      | mi M x0 => exact h2
      | gen p => exact h2
      | tok q c => exact h2
      | res => exact h2
      | lit kk V ids =>
        obtain ⟨b0, es, clock, q0, q1, q2, q3, q4⟩ := h2
        refine ⟨b0, es, clock, q0, q1, q2, q3, fun j i' p u1 u2 u3 => ?_⟩
        by_cases h' : i' = i
        · subst h'
          rw [get_cons_same] at u3
          obtain rfl : o = id := by simpa using u3
          obtain ⟨bb, es', clock', r1, r2, r3⟩ := hp kk V ids j p h u1 u2
          rw [q0] at r1
          obtain rfl : b0 = bb := by simpa using r1
          rw [q2] at r2
          simp only [Option.some.injEq, Obj.map.injEq] at r2
          rw [r2.1]
          exact r3
        · rw [tok_get _ (by simpa using h')] at u3
          exact q4 j i' p u1 u2 u3
  · have key : ∀ (id : Nat) (o1 : Ob), get ((.o i, .ob (.tok o true)) :: σ) (.o id) = .ob o1 → ∃ o', get σ (.o id) = .ob o' := fun id o1 h => by
      by_cases he : id = i
      · subst he; exact ⟨_, hi⟩
      · rw [tok_get _ (by simpa using he)] at h; exact ⟨_, h⟩
    obtain ⟨p1, q1⟩ := key _ _ h1
    obtain ⟨p2, q2⟩ := key _ _ h2
    exact hs.sep id id' p1 p2 c q1 q2 h3 h4
end

theorem msetI_mem {M : List (Int × Value)} {k : Int} {us : Value} {q : Int × Value} (h : q ∈ msetI M k us) : q ∈ M ∨ q = (k, us) := by
  induction M with
  | nil => simp [msetI] at h; exact .inr h
  | cons p M ih =>
    obtain ⟨s, v⟩ := p
    simp only [msetI] at h
    split at h
    · next hs =>
      rcases List.mem_cons.1 h with rfl | h
      · exact .inr (by rw [hs])
      · exact .inl (List.mem_cons_of_mem _ h)
    · rcases List.mem_cons.1 h with rfl | h
      · exact .inl (List.mem_cons_self ..)
      · rcases ih h with h | h
        · exact .inl (List.mem_cons_of_mem _ h)
        · exact .inr h
theorem msetI_keys {M : List (Int × Value)} {k : Int} {us : Value} : (∀ q ∈ M, ∃ v, (q.1, v) ∈ msetI M k us) ∧ ∃ v, (k, v) ∈ msetI M k us := by
  induction M with
  | nil => exact ⟨by simp, us, by simp [msetI]⟩
  | cons p M ih =>
    obtain ⟨s, v⟩ := p
    obtain ⟨h1, h2⟩ := ih
    simp only [msetI]
    split
    · next hs =>
      refine ⟨fun q hq => ?_, us, by rw [hs]; exact List.mem_cons_self ..⟩
      rcases List.mem_cons.1 hq with rfl | hq
      · exact ⟨us, List.mem_cons_self ..⟩
      · exact ⟨q.2, List.mem_cons_of_mem _ hq⟩
    · refine ⟨fun q hq => ?_, ?_⟩
      · rcases List.mem_cons.1 hq with rfl | hq
        · exact ⟨v, List.mem_cons_self ..⟩
        · obtain ⟨u, hu⟩ := h1 q hq
          exact ⟨u, List.mem_cons_of_mem _ hu⟩
      · obtain ⟨u, hu⟩ := h2
        exact ⟨u, List.mem_cons_of_mem _ hu⟩
/-- Entries that are all of a kind, as a list. -/
theorem entries_list {es : Array MapEntry} {V : List (Int × Value)} (h : ∀ e ∈ es.toList, ∃ p ∈ V, e.key = .int kk p.1 ∧ e.val = p.2) : ∃ M : List (Int × Value), MapIsK kk es M ∧ ∀ q ∈ M, q ∈ V := by
  unfold MapIsK
  generalize es.toList = l at h
  induction l with
  | nil => exact ⟨[], rfl, by simp⟩
  | cons e l ih =>
    obtain ⟨M, h1, h2⟩ := ih fun e he => h e (List.mem_cons_of_mem _ he)
    obtain ⟨p, hp, h3, h4⟩ := h e (List.mem_cons_self ..)
    refine ⟨p :: M, by simp [h1, h3, h4], fun q hq => ?_⟩
    rcases List.mem_cons.1 hq with rfl | hq
    · exact hp
    · exact h2 q hq
theorem list_entry {es : Array MapEntry} {M : List (Int × Value)} (h : MapIsK kk es M) : (∀ e ∈ es.toList, ∃ q ∈ M, e.key = .int kk q.1 ∧ e.val = q.2) ∧ ∀ q ∈ M, ∃ e ∈ es.toList, e.key = .int kk q.1 := by
  unfold MapIsK at h
  refine ⟨fun e he => ?_, fun q hq => ?_⟩
  · have : (e.key, e.val) ∈ M.map fun p => (Value.int kk p.1, p.2) := by rw [← h]; exact List.mem_map.2 ⟨e, he, rfl⟩
    obtain ⟨q, hq, h1⟩ := List.mem_map.1 this
    simp only [Prod.mk.injEq] at h1
    exact ⟨q, hq, h1.1.symm, h1.2.symm⟩
  · have : (Value.int kk q.1, q.2) ∈ es.toList.map fun e => (e.key, e.val) := by rw [h]; exact List.mem_map.2 ⟨q, hq, rfl⟩
    obtain ⟨e, he, h1⟩ := List.mem_map.1 this
    simp only [Prod.mk.injEq] at h1
    exact ⟨e, he, h1.1⟩
theorem lit_at (hs : SimG cx σ a w g nx) {id : Nat} {V : List (Int × Value)} {ids : List Nat} {x : Value} (ho : get σ (.o id) = .ob (.lit kk V ids)) (hr : Rep cx g σ w x (.h id)) :
    ∃ b es clock, x = .map (some b) ∧ g id = .map (some b) ∧ cx.w0.heap.size ≤ b ∧ b < w.heap.size ∧ w.heap[b]? = some (.map es clock) ∧ (∀ e ∈ es.toList, ∃ p ∈ V, e.key = .int kk p.1 ∧ e.val = p.2) ∧
      ∀ (j i : Nat) (p : Int × Value), ids[j]? = some i → V[j]? = some p → get σ (.o i) = .ob (.tok id true) → ∃ e ∈ es.toList, e.key = .int kk p.1 := by
  obtain ⟨_, ⟨b, es, clock, h1, h2, h3, h4, h5⟩, _⟩ := hs.objs id _ ho
  have hx : x = g id := hr.2 _ ho rfl
  refine ⟨b, es, clock, by rw [hx]; exact h1, h1, h2, ?_, h3, h4, h5⟩
  rcases Nat.lt_or_ge b w.heap.size with h | h
  · exact h
  · rw [Array.getElem?_eq_none h] at h3; cases h3

/-- Made: its marks are there, and not set. -/
def toksRd (o : Nat) (ids : List Nat) : List (Key × Val) := ids.map fun i => (.o i, .ob (.tok o false))
theorem toks_app {o : Nat} : ∀ {ids : List Nat}, (∀ i ∈ ids, get σ (.o i) = .ob (.tok o false)) → App σ (toksRd o ids)
  | [], _ => trivial
  | i :: ids, h => ⟨h i (List.mem_cons_self ..), toks_app fun j hj => h j (List.mem_cons_of_mem _ hj)⟩
theorem toks_at {o : Nat} : ∀ {ids : List Nat}, App σ (toksRd o ids) → ∀ i ∈ ids, get σ (.o i) = .ob (.tok o false)
  | [], _, i, hi => by cases hi
  | j :: ids, h, i, hi => by
    rcases List.mem_cons.1 hi with rfl | hi
    · exact h.1
    · exact toks_at h.2 i hi
theorem a_mklit {t : TypeId} {n0 : Nat} (kk : IntKind) (V : List (Int × Value)) (ids : List Nat) (hn : get σ .nx = .num n0) (hd : Nat.blt d cx.n = true) (ht : ∀ i ∈ ids, get σ (.o i) = .ob (.tok n0 false)) :
    OA cx σ ⟨some d, .makeMap t none, ty, pos, af, gd⟩ ⟨(.nx, .num n0) :: toksRd n0 ids, [(.s d, .av (.h n0)), (.o n0, .ob (.lit kk V ids)), (.nx, .num (n0 + 1))]⟩ := by
  refine ⟨?_, hn, toks_app ht⟩
  rintro σ a w K Q ⟨g, nx, hs⟩ hr hK
  obtain ⟨hn, hl⟩ := hr
  have htk := toks_at hl
  have hnx : nx = n0 := by
    have h2 := hs.hnx
    rw [hn] at h2
    simpa using h2.symm
  subst hnx
  have hrun : (execOp a.eval ⟨some d, .makeMap t none, ty, pos, af, gd⟩).run cx.P w = .ok (.value (.map (some w.heap.size))) (w.alloc (.map #[] 0)) := by
    simp [execOp, Instr.makeMap, newObj]
    rfl
  have hb : Below w.heap.size w (w.alloc (.map #[] 0)) := (Below.refl _ _).alloc (Nat.le_refl _) _
  have hst : ObjStep cx σ g nx (nx + 1) w (w.alloc (.map #[] 0)) nx (.lit kk V ids) (.map (some w.heap.size)) :=
    ⟨.inl ⟨rfl, rfl⟩, hb.mono hs.below.size, fun c hc _ => hb.block c hc, fun c hc => .inr (by cases hc; exact Nat.le_refl _)⟩
  have hG := SimG.obj hs hst (fun _ => ⟨w.heap.size, #[], 0, upd_same _ _ _, hs.below.size, heap_alloc_new w _, by simp, fun j i p hj hp hi => by
      exfalso
      have him := List.mem_of_getElem? hj
      have h1 := htk i him
      have hlt := (hs.objs i _ h1).1
      rw [objSt_o (by omega), h1] at hi
      simp at hi⟩) (fun i hi => by have := (hs.objs i _ (htk i hi)).1; omega)
  refine wp_val rfl hrun (hK _ _ ?_)
  refine Sim.eqv (Sim.put hG (lt_of_blt hd) (Below.refl _ _) (av := .h nx) ⟨.of get_cons_same, fun _ _ _ => (upd_same _ _ _).symm⟩ (Nat.lt_succ_self nx)) fun q => ?_
  cases q with
  | s i =>
    by_cases hi : i = d
    · subst hi; rw [get_cons_same]; exact get_cons_same.symm
    · rw [get_cons_ne (by simpa using fun e => hi e.symm), objSt_s]
      exact ((get_cons_ne (by simpa using fun e => hi e.symm)).trans ((get_cons_ne (by simp)).trans (get_cons_ne (by simp)))).symm
  | o i =>
    rw [get_cons_ne (by simp)]
    by_cases hi : i = nx
    · subst hi; rw [get_cons_same]; exact ((get_cons_ne (by simp)).trans get_cons_same).symm
    · rw [objSt_o hi]
      exact ((get_cons_ne (by simp)).trans ((get_cons_ne (by simpa using fun e => hi e.symm)).trans (get_cons_ne (by simp)))).symm
  | nx =>
    rw [get_cons_ne (by simp), objSt_nx]
    exact ((get_cons_ne (by simp)).trans ((get_cons_ne (by simp)).trans get_cons_same)).symm
/-- Laid into it: a mark is set, whatever else has come. -/
theorem a_inslit {t te : TypeId} {zv : Value} {x y z : Operand} {av : AV} {k : Int} {us : Value} {V : List (Int × Value)} {ids : List Nat} (id j i : Nat) (h : MapTyK cx kk t te zv)
    (hx : ev σ x = some (.h id)) (hy : ev σ y = some (.d (.v (.int kk k)))) (hz : ev σ z = some av) (hu : ValV av us) (ho : get σ (.o id) = .ob (.lit kk V ids)) (hi : get σ (.o i) = .ob (.tok id false))
    (hj : ids[j]? = some i) (hV : V[j]? = some (k, us)) (hnd : ids.Nodup) :
    OA cx σ ⟨none, .insert t x y z, ty, pos, af, gd⟩ ⟨rdOf x (.h id) ++ (rdOf y (.d (.v (.int kk k))) ++ (rdOf z av ++ [(.o id, .ob (.lit kk V ids)), (.o i, .ob (.tok id false))])), [(.o i, .ob (.tok id true))]⟩ := by
  refine ⟨?_, (ev_out hx).2.append ((ev_out hy).2.append ((ev_out hz).2.append ⟨ho, hi, trivial⟩))⟩
  rintro σ1 a w K Q ⟨g, nx, hs⟩ hr hK
  have hk := rep_v (hs.ev (ev_out hy).1 hr.right.left).1
  have hzv := rep_valv hu (hs.ev (ev_out hz).1 hr.right.right.left).1
  have ho1 : get σ1 (.o id) = .ob (.lit kk V ids) := hr.right.right.right.1
  have hi1 : get σ1 (.o i) = .ob (.tok id false) := hr.right.right.right.2.1
  obtain ⟨b, es, clock, h1, h2, h3, h4, h5, h6, h7⟩ := lit_at hs ho1 (hs.ev (ev_out hx).1 hr.left).1
  obtain ⟨M, hM1, hM2⟩ := entries_list h6
  obtain ⟨es', clock', hrun, hmi'⟩ := run_msetK (w := w) h h5 hM1 k us
  obtain ⟨q1, q2⟩ := list_entry hmi'
  obtain ⟨r1, r2⟩ := msetI_keys (M := M) (k := k) (us := us)
  have hup : ∀ e ∈ es'.toList, ∃ p ∈ V, e.key = .int kk p.1 ∧ e.val = p.2 := fun e he => by
    obtain ⟨q, hq, h8, h9⟩ := q1 e he
    rcases msetI_mem hq with h | rfl
    · exact ⟨q, hM2 q h, h8, h9⟩
    · exact ⟨_, List.mem_of_getElem? hV, h8, h9⟩
  have hold : ∀ n, (∃ e ∈ es.toList, e.key = .int kk n) → ∃ e ∈ es'.toList, e.key = .int kk n := by
    rintro n ⟨e, he, hek⟩
    obtain ⟨q, hq, h8, _⟩ := (list_entry hM1).1 e he
    obtain ⟨v, hv⟩ := r1 q hq
    obtain ⟨e', he', h9⟩ := q2 _ hv
    exact ⟨e', he', by rw [h9, ← h8, hek]⟩
  have hnew : ∃ e ∈ es'.toList, e.key = .int kk k := by
    obtain ⟨v, hv⟩ := r2
    obtain ⟨e', he', h9⟩ := q2 _ hv
    exact ⟨e', he', h9⟩
  have hoth : ∀ c, c ≠ b → ({ w with heap := w.heap.setIfInBounds b (.map es' clock') } : World).heap[c]? = w.heap[c]? := fun c hc => by
    show (w.heap.setIfInBounds b _)[c]? = _
    rw [Array.getElem?_setIfInBounds, if_neg (fun e => hc e.symm)]
  have hsame : ({ w with heap := w.heap.setIfInBounds b (.map es' clock') } : World).heap[b]? = some (.map es' clock') := by
    show (w.heap.setIfInBounds b _)[b]? = _
    rw [Array.getElem?_setIfInBounds, if_pos rfl, if_pos h4]
  have hblk : blk (g id) = some b := by rw [h2]; rfl
  have hst : ObjStep cx σ1 g nx nx w { w with heap := w.heap.setIfInBounds b (.map es' clock') } id (.lit kk V ids) (g id) :=
    ⟨.inr ⟨rfl, _, ho1, by simp [ObLe, upd_same]⟩, ⟨rfl, rfl, rfl, by simp, fun c hc => hoth c (by omega)⟩, fun c hc hn => hoth c fun e => hn _ ho1 (by rw [hblk, e]), fun c hc => .inl ⟨_, ho1, hc⟩⟩
  have hG := SimG.obj hs hst (fun _ => ⟨b, es', clock', by rw [upd_same]; exact h2, h3, hsame, hup, fun j' i' p u1 u2 u3 => by
      have hne : i' ≠ id := fun e => by subst e; rw [get_cons_same] at u3; cases u3
      rw [objSt_o hne] at u3
      exact hold _ (h7 j' i' p u1 u2 u3)⟩) (fun i' hi' => (hs.objs id _ ho1).2.2 i' hi')
  have hne : i ≠ id := fun e => by subst e; rw [ho1] at hi1; cases hi1
  have hG2 := tok_set hG (i := i) (o := id) (b := false) (by rw [objSt_o hne]; exact hi1) fun kk' V' ids' j' p u1 u2 u3 => by
    rw [get_cons_same] at u1
    simp only [Val.ob.injEq, Ob.lit.injEq] at u1
    obtain ⟨rfl, rfl, rfl⟩ := u1
    have hjj : j' = j := (List.getElem?_inj (List.getElem?_eq_some_iff.1 u2).1 hnd).1 (u2.trans hj.symm)
    subst hjj
    rw [hV] at u3
    cases u3
    exact ⟨b, es', clock', by rw [upd_same]; exact h2, hsame, hnew⟩
  unfold Oper.wp
  have hex : (execOp a.eval ⟨none, .insert t x y z, ty, pos, af, gd⟩).run cx.P w = .ok .skip { w with heap := w.heap.setIfInBounds b (.map es' clock') } := by
    simp [execOp, h1, hk, hzv, hrun]
  rw [hex]
  refine hK _ _ (Sim.eqv ⟨_, _, hG2⟩ fun q => ?_)
  cases q with
  | s n => exact (get_cons_ne (by simp)).trans ((objSt_s n).trans (get_cons_ne (by simp)).symm)
  | o n =>
    by_cases hn : n = i
    · subst hn; rw [get_cons_same]; exact get_cons_same.symm
    · rw [tok_get _ (by simpa using hn)]
      have hr' : get ([(Key.o i, Val.ob (.tok id true))] ++ σ1) (.o n) = get σ1 (.o n) := get_cons_ne (by simpa using fun e => hn e.symm)
      rw [hr']
      by_cases hn2 : n = id
      · subst hn2; rw [get_cons_same]; exact ho1.symm
      · exact objSt_o hn2
  | nx => exact (get_cons_ne (by simp)).trans (objSt_nx.trans (hs.hnx.symm.trans (get_cons_ne (by simp)).symm))
/-- Read: what is marked is there. -/
theorem a_looklit {t te : TypeId} {zv : Value} {x y : Operand} {k : Int} {us : Value} {V : List (Int × Value)} {ids : List Nat} (id j i : Nat) (h : MapTyK cx kk t te zv) (hfl : flat us) (hun : ∀ p ∈ V, p.1 = k → p.2 = us)
    (hx : ev σ x = some (.h id)) (hy : ev σ y = some (.d (.v (.int kk k)))) (ho : get σ (.o id) = .ob (.lit kk V ids)) (hi : get σ (.o i) = .ob (.tok id true)) (hj : ids[j]? = some i) (hV : V[j]? = some (k, us)) (hd : Nat.blt d cx.n = true) :
    OA cx σ ⟨some d, .lookup t x y false, ty, pos, af, gd⟩ ⟨rdOf x (.h id) ++ (rdOf y (.d (.v (.int kk k))) ++ [(.o id, .ob (.lit kk V ids)), (.o i, .ob (.tok id true))]), [(.s d, .av (.d (dv us)))]⟩ := by
  refine ⟨ok_val rfl (lt_of_blt hd) fun σ1 a w g nx hs hr => ?_, (ev_out hx).2.append ((ev_out hy).2.append ⟨ho, hi, trivial⟩)⟩
  have hk := rep_v (hs.ev (ev_out hy).1 hr.right.left).1
  obtain ⟨b, es, clock, h1, h2, h3, h4, h5, h6, h7⟩ := lit_at hs hr.right.right.1 (hs.ev (ev_out hx).1 hr.left).1
  obtain ⟨M, hM1, hM2⟩ := entries_list h6
  have := run_mlookK (w := w) h h5 hM1 k
  have hml : mlookI zv M k = us := by
    obtain ⟨e, he, hek⟩ := h7 j i _ hj hV hr.right.right.2.1
    obtain ⟨q, hq, h8, _⟩ := (list_entry hM1).1 e he
    have hqk : q.1 = k := by rw [hek] at h8; simpa using h8.symm
    unfold mlookI
    have hex : ∀ {M : List (Int × Value)}, (∀ q ∈ M, q ∈ V) → (∃ q ∈ M, q.1 = k) → mgetI M k = some us := by
      intro M
      induction M with
      | nil => rintro _ ⟨q, hq, _⟩; cases hq
      | cons p M ih =>
        obtain ⟨s, v⟩ := p
        rintro hMV ⟨q, hq, hqk⟩
        simp only [mgetI]
        by_cases hs : s = k
        · rw [if_pos hs, show v = us from hun (s, v) (hMV _ (List.mem_cons_self ..)) hs]
        · rw [if_neg hs]
          refine ih (fun q hq => hMV q (List.mem_cons_of_mem _ hq)) ?_
          rcases List.mem_cons.1 hq with rfl | hq
          · exact absurd hqk hs
          · exact ⟨q, hq, hqk⟩
    rw [hex hM2 ⟨q, hq, hqk⟩]
    rfl
  rw [hml] at this
  exact ⟨_, w, by simp [execOp, hk, h1, this], Below.refl _ _, rd_dv hfl, trivial⟩

end Go.AX

/-! H8 -/
/-
  Contract of the references' Print, at a right deed.
-/
namespace Go.Proofs.YtfaaghkgfbhglaaGreatDoor
open Go.AX Go.RF Go.RowKit

set_option maxRecDepth 100000
set_option maxHeartbeats 8000000

theorem mapR {n : Nat} {w0 : World} {own0 : Nat → Prop} : MapTyK ⟨Tryz.prog, tbl, tbl_ok, mixed_ok, n, w0, own0⟩ .i32 50 9 (.string ⟨#[]⟩) :=
  ⟨⟨21, Tryz.underlying50, Tryz.underlying21⟩, fun w => by exact Tryz.zeroValue9 w⟩
/-- What a letter of a form stands for. -/
def fieldM (i : Ins) : List (Int × Value) := [(114, str (114 :: Lib.itoa i.a)), (115, str (114 :: Lib.itoa i.b)), (110, str (Lib.itoa i.n)), (107, str i.key)]
theorem fieldM_at {i : Ins} {c : UInt8} (h : c = 114 ∨ c = 115 ∨ c = 110 ∨ c = 107) : (∀ p ∈ fieldM i, p.1 = (c.toNat : Int) → p.2 = str (fieldW i c)) ∧
    ((fieldM i)[0]? = some ((c.toNat : Int), str (fieldW i c)) ∨ (fieldM i)[1]? = some ((c.toNat : Int), str (fieldW i c)) ∨ (fieldM i)[2]? = some ((c.toNat : Int), str (fieldW i c)) ∨ (fieldM i)[3]? = some ((c.toNat : Int), str (fieldW i c))) := by
  refine ⟨fun p hp hk => ?_, ?_⟩
  · simp only [fieldM, List.mem_cons, List.not_mem_nil, or_false] at hp
    rcases h with rfl | rfl | rfl | rfl <;> rcases hp with rfl | rfl | rfl | rfl <;> first | rfl | (exact absurd hk (by dsimp only; decide))
  · rcases h with rfl | rfl | rfl | rfl
    · exact .inl rfl
    · exact .inr (.inl rfl)
    · exact .inr (.inr (.inl rfl))
    · exact .inr (.inr (.inr rfl))
theorem words_at {K : Nat} (h : K < 10) : words[K]? = some (words.getD K []) := by
  have hl : K < words.length := h
  rw [List.getD_eq_getElem?_getD, List.getElem?_eq_getElem hl]
  rfl
theorem ok_rprint (d : Deed) (hw : wrongDeed d = 0) (hd : d.Sm) (hF : (printD d).length ≤ 1000000) : FnOk Tryz.prog 9 [.d (.agg d.enc)] (.one (dstr (printD d))) := by
  refine fnOk_of tbl_ok mixed_ok Tryz.func9 rfl (by kernel_rfl) rfl rfl fun w0 own0 => ?_
  have hFe := printD_eq d
  have hok := wrongDeed_ok hw
  have hnn := wrong_n hw
  have hr := hok.r
  have hwl := hok.w
  have hcl := hok.c
  generalize printD d = F at hF hFe ⊢
  have hm := mapR (n := Tryz.f9.ntmps) (w0 := w0) (own0 := own0)
  have cw := ok_words
  repeat (first|((with_reducible apply s1); exact rfl)|(with_reducible first|apply CW.seq|apply CW.block|apply CW.region|apply CW.draw|apply CW.skip|apply CW.exit|apply CW.ret|apply q_then|apply q_then_exit|apply q_then_ret|apply q_block|apply q_block_ret|apply q_block_hit|apply q_ret|apply q_end|apply q_loop_exit|apply q_loop_ret|apply q_loopT_exit|apply q_loopT_ret|apply RW.nil)|((with_reducible apply s3); exact rfl; exact by_k)|((with_reducible apply s2); exact rfl; exact by_k)|((with_reducible apply s4); exact rfl)|((with_reducible apply s5); exact by_oa; exact by_g)|((with_reducible apply CW.cond_t); exact rfl; exact by_ks)|((with_reducible apply CW.cond_f); exact rfl; exact by_ks)|((with_reducible apply q_block_miss); exact rfl)|(refine And.intro (show chk [] [] _ _ = true by kernel_rfl) ?_))
  refine CW.loopT (fun t : Nat × Str => [sp 1 0, ob 0 d.enc, sd 3 (dstr t.2), sd 13 (encStrs d.reads), sd 14 (dint d.reads.length), sd 15 (dint t.1), nxt 1])
    (fun t => t.1 ≤ d.reads.length ∧ t.2 ++ (tailS [32] (d.reads.drop t.1) ++ ([59, 32] ++ ((wWrites ++ tailS [32] d.writes) ++ tailS [59, 32] (d.code.map fun i => joinS [32] (insW i))))) = F) (fun t => d.reads.length - t.1) (0, wReads) ⟨by dsimp only; omega, by rw [hFe]; simp⟩ ?_ ?_
  ·
    exact by_less
  · rintro ⟨x, s⟩ ⟨hx, hI⟩
    dsimp only at hx hI ⊢
    have hlen := congrArg List.length hI
    rcases drop_case hx with ⟨h1, h2⟩ | ⟨k, h1, h2, h3⟩
    · rw [h1] at hI
      simp only [tailS, List.nil_append] at hI
      simp only [List.length_append] at hlen
      have hWl : ([59, 32, 119, 114, 105, 116, 101, 115] : Str) = [59, 32] ++ wWrites := rfl
      repeat (first|((with_reducible apply s1); exact rfl)|(with_reducible first|apply CW.seq|apply CW.block|apply CW.region|apply CW.draw|apply CW.skip|apply CW.exit|apply CW.ret|apply q_then|apply q_then_exit|apply q_then_ret|apply q_block|apply q_block_ret|apply q_block_hit|apply q_ret|apply q_end|apply q_loop_exit|apply q_loop_ret|apply q_loopT_exit|apply q_loopT_ret|apply RW.nil)|((with_reducible apply s3); exact rfl; exact by_k)|((with_reducible apply s2); exact rfl; exact by_k)|((with_reducible apply s4); exact rfl)|((with_reducible apply s5); (first|((with_reducible apply a_bin); exact rfl; exact rfl; exact bin_sadd (by simp; omega); exact rfl)|exact by_oa); exact by_g)|((with_reducible apply CW.cond_t); exact rfl; exact by_ks)|((with_reducible apply CW.cond_f); exact rfl; exact by_ks)|((with_reducible apply q_block_miss); exact rfl)|(refine And.intro (show chk [] [] _ _ = true by kernel_rfl) ?_))
      refine CW.loopT (fun t : Nat × Str => [sp 1 0, ob 0 d.enc, sd 3 (dstr t.2), sd 27 (encStrs d.writes), sd 28 (dint d.writes.length), sd 29 (dint t.1), nxt 1])
        (fun t => t.1 ≤ d.writes.length ∧ t.2 ++ (tailS [32] (d.writes.drop t.1) ++ tailS [59, 32] (d.code.map fun i => joinS [32] (insW i))) = F) (fun t => d.writes.length - t.1) (0, s ++ [59, 32, 119, 114, 105, 116, 101, 115]) ⟨by dsimp only; omega, by rw [hWl, ← hI]; simp⟩ ?_ ?_
      ·
        exact by_less
      · rintro ⟨y, s⟩ ⟨hy, hI⟩
        dsimp only at hy hI ⊢
        have hlen := congrArg List.length hI
        rcases drop_case hy with ⟨h1, h2⟩ | ⟨k, h1, h2, h3⟩
        · rw [h1] at hI
          simp only [tailS, List.nil_append] at hI
          repeat (first|((with_reducible apply s1); exact rfl)|(with_reducible first|apply CW.seq|apply CW.block|apply CW.region|apply CW.draw|apply CW.skip|apply CW.exit|apply CW.ret|apply q_then|apply q_then_exit|apply q_then_ret|apply q_block|apply q_block_ret|apply q_block_hit|apply q_ret|apply q_end|apply q_loop_exit|apply q_loop_ret|apply q_loopT_exit|apply q_loopT_ret|apply RW.nil)|((with_reducible apply s3); exact rfl; exact by_k)|((with_reducible apply s2); exact rfl; exact by_k)|((with_reducible apply s4); exact rfl)|((with_reducible apply s5); exact by_oa; exact by_g)|((with_reducible apply CW.cond_t); exact rfl; exact by_ks)|((with_reducible apply CW.cond_f); exact rfl; exact by_ks)|((with_reducible apply q_block_miss); exact rfl)|(refine And.intro (show chk [] [] _ _ = true by kernel_rfl) ?_))
          refine CW.loopT (fun t : Nat × Str => [sp 1 0, ob 0 d.enc, sd 3 (dstr t.2), sd 39 (encCode d.code), sd 40 (dint d.code.length), sd 41 (dint t.1), nxt 1])
            (fun t => t.1 ≤ d.code.length ∧ t.2 ++ tailS [59, 32] ((d.code.drop t.1).map fun i => joinS [32] (insW i)) = F) (fun t => d.code.length - t.1) (0, s) ⟨by dsimp only; omega, hI⟩ ?_ ?_
          ·
            exact by_less
          · rintro ⟨z, s⟩ ⟨hz, hI⟩
            dsimp only at hz hI ⊢
            rcases drop_case hz with ⟨h1, h2⟩ | ⟨i, h1, h2, h3⟩
            · rw [h1] at hI
              simp only [List.map_nil, tailS, List.append_nil] at hI
              subst hI
              repeat (first|((with_reducible apply s1); exact rfl)|(with_reducible first|apply CW.seq|apply CW.block|apply CW.region|apply CW.draw|apply CW.skip|apply CW.exit|apply CW.ret|apply q_then|apply q_then_exit|apply q_then_ret|apply q_block|apply q_block_ret|apply q_block_hit|apply q_ret|apply q_end|apply q_loop_exit|apply q_loop_ret|apply q_loopT_exit|apply q_loopT_ret|apply RW.nil)|((with_reducible apply s3); exact rfl; exact by_k)|((with_reducible apply s2); exact rfl; exact by_k)|((with_reducible apply s4); exact rfl)|((with_reducible apply s5); exact by_oa; exact by_g)|((with_reducible apply CW.cond_t); exact rfl; exact by_ks)|((with_reducible apply CW.cond_f); exact rfl; exact by_ks)|((with_reducible apply q_block_miss); exact rfl)|(refine And.intro (show chk [] [] _ _ = true by kernel_rfl) ?_))
              exact .one (.tmp rfl (.one (.d (.refl _))))
            · have him := List.mem_of_getElem? h2
              have hi := hok.i i him
              have hin := hnn i him
              have hik := hi.k
              have hia := hi.a
              have hib := hi.b
              rw [h1] at hI
              simp only [List.map_cons, tailS] at hI
              rw [insW_eq] at hI
              generalize hT : tailS [59, 32] ((d.code.drop (z + 1)).map fun i => joinS [32] (insW i)) = T at hI
              have ca := ok_itoaG i.a (by omega) (by omega)
              have cb := ok_itoaG i.b (by omega) (by omega)
              have cn := ok_itoaG i.n (by omega) (by omega)
              have la := itoa_len i.a (by omega) (by omega)
              have lb := itoa_len i.b (by omega) (by omega)
              have hfA := fun (c : UInt8) (h : c = 114 ∨ c = 115 ∨ c = 110 ∨ c = 107) => fieldM_at (i := i) h
              have hk0 : 0 ≤ i.kind := by omega
              obtain ⟨K, hK⟩ := Int.eq_ofNat_of_zero_le hk0
              have cf := ok_form K (by omega)
              have hwk := words_at (K := K) (by omega)
              rw [hK, Int.toNat_natCast] at hI
              have hlet : ∀ c ∈ form K, c = 114 ∨ c = 115 ∨ c = 110 ∨ c = 107 := fun c hc => form_let hc
              generalize words.getD K [] = wd at hI hwk
              generalize form K = f at hI cf hlet
              have hlen := congrArg List.length hI
              simp only [List.length_append, List.length_cons, List.length_nil] at hlen
              obtain ⟨ik, ia, ib, inn, ikey⟩ := i
              dsimp only at hK ca cb cn la lb
              subst hK
              repeat (first|((with_reducible apply s1); exact rfl)|(with_reducible first|apply CW.seq|apply CW.block|apply CW.region|apply CW.draw|apply CW.skip|apply CW.exit|apply CW.ret|apply q_then|apply q_then_exit|apply q_then_ret|apply q_block|apply q_block_ret|apply q_block_hit|apply q_ret|apply q_end|apply q_loop_exit|apply q_loop_ret|apply q_loopT_exit|apply q_loopT_ret|apply RW.nil)|((with_reducible apply s3); exact rfl; exact by_k)|((with_reducible apply s2); exact rfl; exact by_k)|((with_reducible apply s4); exact rfl)|((with_reducible apply s5); (first|exact a_call cw rfl by_sub|exact a_call cf rfl by_sub|((with_reducible apply a_bin); exact rfl; exact rfl; exact bin_sadd (by simp; omega); exact rfl)|((with_reducible apply a_range); exact rfl; exact rfl; exact Tryz.underlying9; exact rfl)|exact by_oa); exact by_g)|((with_reducible apply CW.cond_t); exact rfl; exact by_ks)|((with_reducible apply CW.cond_f); exact rfl; exact by_ks)|((with_reducible apply q_block_miss); exact rfl)|(refine And.intro (show chk [] [] _ _ = true by kernel_rfl) ?_))
              refine CW.loopT (fun t : Nat × Str => [sp 1 0, ob 0 d.enc, sd 3 (dstr t.2), sd 39 (encCode d.code), sd 40 (dint d.code.length), sd 41 (dint z), sp 9 1, ob 1 (Ins.enc ⟨K, ia, ib, inn, ikey⟩), (.s 56, .av (.h 2)), (.o 2, .ob (.gen (ItP f t.1))), nxt 3])
                (fun t => t.1 ≤ f.length ∧ t.2 ++ (tailS [32] ((f.drop t.1).map (fieldW ⟨K, ia, ib, inn, ikey⟩)) ++ T) = F) (fun t => f.length - t.1) (0, (s ++ [59, 32]) ++ wd) ⟨by dsimp only; omega, by rw [← hI]; simp⟩ ?_ ?_
              ·
                exact by_less
              · rintro ⟨j, s⟩ ⟨hj, hI⟩
                dsimp only at hj hI ⊢
                rcases drop_case hj with ⟨b1, b2⟩ | ⟨c, b1, b2, b3⟩
                · rw [b1] at hI
                  simp only [List.map_nil, tailS, List.nil_append] at hI
                  repeat (first|((with_reducible apply s1); exact rfl)|(with_reducible first|apply CW.seq|apply CW.block|apply CW.region|apply CW.draw|apply CW.skip|apply CW.exit|apply CW.ret|apply q_then|apply q_then_exit|apply q_then_ret|apply q_block|apply q_block_ret|apply q_block_hit|apply q_ret|apply q_end|apply q_loop_exit|apply q_loop_ret|apply q_loopT_exit|apply q_loopT_ret|apply RW.nil)|((with_reducible apply s3); exact rfl; exact by_k)|((with_reducible apply s2); exact rfl; exact by_k)|((with_reducible apply s4); exact rfl)|((with_reducible apply s5); (first|((with_reducible apply (a_nextE (k := j) 2)); exact rfl; exact rfl; exact Nat.le_of_eq b2.symm; exact rfl)|exact by_oa); exact by_g)|((with_reducible apply CW.cond_t); exact rfl; exact by_ks)|((with_reducible apply CW.cond_f); exact rfl; exact by_ks)|((with_reducible apply q_block_miss); exact rfl)|(refine And.intro (show chk [] [] _ _ = true by kernel_rfl) ?_))
                  refine q_loopT (z + 1, s) ⟨by dsimp only; omega, by dsimp only; rw [hT]; exact hI⟩ (by dsimp only; omega) ?_
                  exact by_less
                · have hc := hlet c (List.mem_of_getElem? b2)
                  have hc1 : c.toNat < 128 := by rcases hc with rfl | rfl | rfl | rfl <;> decide
                  rw [b1] at hI
                  simp only [List.map_cons, tailS] at hI
                  have hlen := congrArg List.length hI
                  simp only [List.length_append, List.length_cons, List.length_nil] at hlen
                  obtain ⟨hun, hat⟩ := hfA c hc
                  generalize fieldW ⟨K, ia, ib, inn, ikey⟩ c = fw at hI hlen hun hat
                  repeat (first|(with_reducible apply stop_region 20)|((with_reducible apply s1); exact rfl)|(with_reducible first|apply CW.seq|apply CW.block|apply CW.region|apply CW.draw|apply CW.skip|apply CW.exit|apply CW.ret|apply q_then|apply q_then_exit|apply q_then_ret|apply q_block|apply q_block_ret|apply q_block_hit|apply q_ret|apply q_end|apply q_loop_exit|apply q_loop_ret|apply q_loopT_exit|apply q_loopT_ret|apply RW.nil)|((with_reducible apply s3); exact rfl; exact by_k)|((with_reducible apply s2); exact rfl; exact by_k)|((with_reducible apply s4); exact rfl)|((with_reducible apply s5); (first|((with_reducible apply a_bin); exact rfl; exact rfl; exact bin_sadd (by simp; omega); exact rfl)|((with_reducible apply (a_next (k := j) 2)); exact rfl; exact rfl; exact b2; exact hc1; exact rfl)|exact by_oa); exact by_g)|((with_reducible apply CW.cond_t); exact rfl; exact by_ks)|((with_reducible apply CW.cond_f); exact rfl; exact by_ks)|((with_reducible apply q_block_miss); exact rfl)|(refine And.intro (show chk [] [] _ _ = true by kernel_rfl) ?_))
                  refine Stop.go (CW.stut (stut_tok 7) ⟨rfl, trivial⟩ ?_)
                  refine CW.stut (stut_tok 7) ⟨rfl, trivial⟩ ?_
                  refine CW.stut (stut_tok 7) ⟨rfl, trivial⟩ ?_
                  refine CW.stut (stut_tok 7) ⟨rfl, trivial⟩ ?_
                  rcases hat with hat | hat | hat | hat
                  ·
                    repeat (first|((with_reducible apply s1); exact rfl)|(with_reducible first|apply CW.seq|apply CW.block|apply CW.region|apply CW.draw|apply CW.skip|apply CW.exit|apply CW.ret|apply q_then|apply q_then_exit|apply q_then_ret|apply q_block|apply q_block_ret|apply q_block_hit|apply q_ret|apply q_end|apply q_loop_exit|apply q_loop_ret|apply q_loopT_exit|apply q_loopT_ret|apply RW.nil)|((with_reducible apply s3); exact rfl; exact by_k)|((with_reducible apply s2); exact rfl; exact by_k)|((with_reducible apply s4); exact rfl)|((with_reducible apply s5); (first|exact a_call ca rfl by_sub|exact a_call cb rfl by_sub|exact a_call cn rfl by_sub|((with_reducible apply a_bin); exact rfl; exact rfl; exact bin_sadd (by simp; omega); exact rfl)|((with_reducible apply (a_mklit .i32 (fieldM ⟨K, ia, ib, inn, ikey⟩) [3, 4, 5, 6])); exact rfl; exact rfl; (intro q hq; simp only [List.mem_cons, List.not_mem_nil, or_false] at hq; rcases hq with rfl | rfl | rfl | rfl <;> rfl))|((with_reducible apply (a_inslit 7 0 3 hm)); (iterate 3 exact rfl); exact .v; (iterate 4 exact rfl); decide)|((with_reducible apply (a_inslit 7 1 4 hm)); (iterate 3 exact rfl); exact .v; (iterate 4 exact rfl); decide)|((with_reducible apply (a_inslit 7 2 5 hm)); (iterate 3 exact rfl); exact .v; (iterate 4 exact rfl); decide)|((with_reducible apply (a_inslit 7 3 6 hm)); (iterate 3 exact rfl); exact .v; (iterate 4 exact rfl); decide)|((with_reducible apply (a_looklit (us := str fw) 7 0 3 hm)); exact trivial; exact hun; (iterate 5 exact rfl); exact hat; exact rfl)|exact by_oa); exact by_g)|((with_reducible apply CW.cond_t); exact rfl; exact by_ks)|((with_reducible apply CW.cond_f); exact rfl; exact by_ks)|((with_reducible apply q_block_miss); exact rfl)|(refine And.intro (show chk [] [] _ _ = true by kernel_rfl) ?_))
                    refine q_loopT (j + 1, (s ++ [32]) ++ fw) ⟨by dsimp only; omega, by dsimp only; rw [← hI]; simp⟩ (by dsimp only; omega) ?_
                    exact by_less
                  ·
                    repeat (first|((with_reducible apply s1); exact rfl)|(with_reducible first|apply CW.seq|apply CW.block|apply CW.region|apply CW.draw|apply CW.skip|apply CW.exit|apply CW.ret|apply q_then|apply q_then_exit|apply q_then_ret|apply q_block|apply q_block_ret|apply q_block_hit|apply q_ret|apply q_end|apply q_loop_exit|apply q_loop_ret|apply q_loopT_exit|apply q_loopT_ret|apply RW.nil)|((with_reducible apply s3); exact rfl; exact by_k)|((with_reducible apply s2); exact rfl; exact by_k)|((with_reducible apply s4); exact rfl)|((with_reducible apply s5); (first|exact a_call ca rfl by_sub|exact a_call cb rfl by_sub|exact a_call cn rfl by_sub|((with_reducible apply a_bin); exact rfl; exact rfl; exact bin_sadd (by simp; omega); exact rfl)|((with_reducible apply (a_mklit .i32 (fieldM ⟨K, ia, ib, inn, ikey⟩) [3, 4, 5, 6])); exact rfl; exact rfl; (intro q hq; simp only [List.mem_cons, List.not_mem_nil, or_false] at hq; rcases hq with rfl | rfl | rfl | rfl <;> rfl))|((with_reducible apply (a_inslit 7 0 3 hm)); (iterate 3 exact rfl); exact .v; (iterate 4 exact rfl); decide)|((with_reducible apply (a_inslit 7 1 4 hm)); (iterate 3 exact rfl); exact .v; (iterate 4 exact rfl); decide)|((with_reducible apply (a_inslit 7 2 5 hm)); (iterate 3 exact rfl); exact .v; (iterate 4 exact rfl); decide)|((with_reducible apply (a_inslit 7 3 6 hm)); (iterate 3 exact rfl); exact .v; (iterate 4 exact rfl); decide)|((with_reducible apply (a_looklit (us := str fw) 7 1 4 hm)); exact trivial; exact hun; (iterate 5 exact rfl); exact hat; exact rfl)|exact by_oa); exact by_g)|((with_reducible apply CW.cond_t); exact rfl; exact by_ks)|((with_reducible apply CW.cond_f); exact rfl; exact by_ks)|((with_reducible apply q_block_miss); exact rfl)|(refine And.intro (show chk [] [] _ _ = true by kernel_rfl) ?_))
                    refine q_loopT (j + 1, (s ++ [32]) ++ fw) ⟨by dsimp only; omega, by dsimp only; rw [← hI]; simp⟩ (by dsimp only; omega) ?_
                    exact by_less
                  ·
                    repeat (first|((with_reducible apply s1); exact rfl)|(with_reducible first|apply CW.seq|apply CW.block|apply CW.region|apply CW.draw|apply CW.skip|apply CW.exit|apply CW.ret|apply q_then|apply q_then_exit|apply q_then_ret|apply q_block|apply q_block_ret|apply q_block_hit|apply q_ret|apply q_end|apply q_loop_exit|apply q_loop_ret|apply q_loopT_exit|apply q_loopT_ret|apply RW.nil)|((with_reducible apply s3); exact rfl; exact by_k)|((with_reducible apply s2); exact rfl; exact by_k)|((with_reducible apply s4); exact rfl)|((with_reducible apply s5); (first|exact a_call ca rfl by_sub|exact a_call cb rfl by_sub|exact a_call cn rfl by_sub|((with_reducible apply a_bin); exact rfl; exact rfl; exact bin_sadd (by simp; omega); exact rfl)|((with_reducible apply (a_mklit .i32 (fieldM ⟨K, ia, ib, inn, ikey⟩) [3, 4, 5, 6])); exact rfl; exact rfl; (intro q hq; simp only [List.mem_cons, List.not_mem_nil, or_false] at hq; rcases hq with rfl | rfl | rfl | rfl <;> rfl))|((with_reducible apply (a_inslit 7 0 3 hm)); (iterate 3 exact rfl); exact .v; (iterate 4 exact rfl); decide)|((with_reducible apply (a_inslit 7 1 4 hm)); (iterate 3 exact rfl); exact .v; (iterate 4 exact rfl); decide)|((with_reducible apply (a_inslit 7 2 5 hm)); (iterate 3 exact rfl); exact .v; (iterate 4 exact rfl); decide)|((with_reducible apply (a_inslit 7 3 6 hm)); (iterate 3 exact rfl); exact .v; (iterate 4 exact rfl); decide)|((with_reducible apply (a_looklit (us := str fw) 7 2 5 hm)); exact trivial; exact hun; (iterate 5 exact rfl); exact hat; exact rfl)|exact by_oa); exact by_g)|((with_reducible apply CW.cond_t); exact rfl; exact by_ks)|((with_reducible apply CW.cond_f); exact rfl; exact by_ks)|((with_reducible apply q_block_miss); exact rfl)|(refine And.intro (show chk [] [] _ _ = true by kernel_rfl) ?_))
                    refine q_loopT (j + 1, (s ++ [32]) ++ fw) ⟨by dsimp only; omega, by dsimp only; rw [← hI]; simp⟩ (by dsimp only; omega) ?_
                    exact by_less
                  ·
                    repeat (first|((with_reducible apply s1); exact rfl)|(with_reducible first|apply CW.seq|apply CW.block|apply CW.region|apply CW.draw|apply CW.skip|apply CW.exit|apply CW.ret|apply q_then|apply q_then_exit|apply q_then_ret|apply q_block|apply q_block_ret|apply q_block_hit|apply q_ret|apply q_end|apply q_loop_exit|apply q_loop_ret|apply q_loopT_exit|apply q_loopT_ret|apply RW.nil)|((with_reducible apply s3); exact rfl; exact by_k)|((with_reducible apply s2); exact rfl; exact by_k)|((with_reducible apply s4); exact rfl)|((with_reducible apply s5); (first|exact a_call ca rfl by_sub|exact a_call cb rfl by_sub|exact a_call cn rfl by_sub|((with_reducible apply a_bin); exact rfl; exact rfl; exact bin_sadd (by simp; omega); exact rfl)|((with_reducible apply (a_mklit .i32 (fieldM ⟨K, ia, ib, inn, ikey⟩) [3, 4, 5, 6])); exact rfl; exact rfl; (intro q hq; simp only [List.mem_cons, List.not_mem_nil, or_false] at hq; rcases hq with rfl | rfl | rfl | rfl <;> rfl))|((with_reducible apply (a_inslit 7 0 3 hm)); (iterate 3 exact rfl); exact .v; (iterate 4 exact rfl); decide)|((with_reducible apply (a_inslit 7 1 4 hm)); (iterate 3 exact rfl); exact .v; (iterate 4 exact rfl); decide)|((with_reducible apply (a_inslit 7 2 5 hm)); (iterate 3 exact rfl); exact .v; (iterate 4 exact rfl); decide)|((with_reducible apply (a_inslit 7 3 6 hm)); (iterate 3 exact rfl); exact .v; (iterate 4 exact rfl); decide)|((with_reducible apply (a_looklit (us := str fw) 7 3 6 hm)); exact trivial; exact hun; (iterate 5 exact rfl); exact hat; exact rfl)|exact by_oa); exact by_g)|((with_reducible apply CW.cond_t); exact rfl; exact by_ks)|((with_reducible apply CW.cond_f); exact rfl; exact by_ks)|((with_reducible apply q_block_miss); exact rfl)|(refine And.intro (show chk [] [] _ _ = true by kernel_rfl) ?_))
                    refine q_loopT (j + 1, (s ++ [32]) ++ fw) ⟨by dsimp only; omega, by dsimp only; rw [← hI]; simp⟩ (by dsimp only; omega) ?_
                    exact by_less
        · rw [h1] at hI
          simp only [tailS] at hI
          simp only [List.length_append] at hlen
          have hlen := congrArg List.length hI
          simp only [List.length_append, List.length_cons, List.length_nil] at hlen
          repeat (first|((with_reducible apply s1); exact rfl)|(with_reducible first|apply CW.seq|apply CW.block|apply CW.region|apply CW.draw|apply CW.skip|apply CW.exit|apply CW.ret|apply q_then|apply q_then_exit|apply q_then_ret|apply q_block|apply q_block_ret|apply q_block_hit|apply q_ret|apply q_end|apply q_loop_exit|apply q_loop_ret|apply q_loopT_exit|apply q_loopT_ret|apply RW.nil)|((with_reducible apply s3); exact rfl; exact by_k)|((with_reducible apply s2); exact rfl; exact by_k)|((with_reducible apply s4); exact rfl)|((with_reducible apply s5); (first|((with_reducible apply a_bin); exact rfl; exact rfl; exact bin_sadd (by simp; omega); exact rfl)|exact by_oa); exact by_g)|((with_reducible apply CW.cond_t); exact rfl; exact by_ks)|((with_reducible apply CW.cond_f); exact rfl; exact by_ks)|((with_reducible apply q_block_miss); exact rfl)|(refine And.intro (show chk [] [] _ _ = true by kernel_rfl) ?_))
          refine q_loopT (y + 1, (s ++ [32]) ++ k) ⟨by dsimp only; omega, by dsimp only; rw [← hI]; simp⟩ (by dsimp only; omega) ?_
          exact by_less
    · rw [h1] at hI
      simp only [tailS] at hI
      have hlen := congrArg List.length hI
      simp only [List.length_append, List.length_cons, List.length_nil] at hlen
      repeat (first|((with_reducible apply s1); exact rfl)|(with_reducible first|apply CW.seq|apply CW.block|apply CW.region|apply CW.draw|apply CW.skip|apply CW.exit|apply CW.ret|apply q_then|apply q_then_exit|apply q_then_ret|apply q_block|apply q_block_ret|apply q_block_hit|apply q_ret|apply q_end|apply q_loop_exit|apply q_loop_ret|apply q_loopT_exit|apply q_loopT_ret|apply RW.nil)|((with_reducible apply s3); exact rfl; exact by_k)|((with_reducible apply s2); exact rfl; exact by_k)|((with_reducible apply s4); exact rfl)|((with_reducible apply s5); (first|((with_reducible apply a_bin); exact rfl; exact rfl; exact bin_sadd (by simp; omega); exact rfl)|exact by_oa); exact by_g)|((with_reducible apply CW.cond_t); exact rfl; exact by_ks)|((with_reducible apply CW.cond_f); exact rfl; exact by_ks)|((with_reducible apply q_block_miss); exact rfl)|(refine And.intro (show chk [] [] _ _ = true by kernel_rfl) ?_))
      refine q_loopT (x + 1, (s ++ [32]) ++ k) ⟨by dsimp only; omega, by dsimp only; rw [← hI]; simp⟩ (by dsimp only; omega) ?_
      exact by_less

end Go.Proofs.YtfaaghkgfbhglaaGreatDoor

/-! P15 -/
/-
  The library's way to split a text is the references'.
-/
namespace Go.Proofs.YtfaaghkgfbhglaaGreatDoor
open Go.AX Go.RF

def hdS (cur : Str) : List Str → List Str
  | [] => []
  | h :: t => (cur ++ h) :: t
def libS (sep r : Str) : List Str := Lib.splitK sep 0 (Lib.count r sep) r
theorem libS_miss {sep r : Str} (h : Lib.index r sep = -1) : libS sep r = [r] := by
  unfold libS
  rw [Lib.count_miss h]
  rfl
theorem libS_hit {sep r : Str} {i : Nat} (hs : sep ≠ []) (h : Lib.index r sep = i) : libS sep r = r.take i :: libS sep (r.drop (i + sep.length)) := by
  unfold libS
  rw [Lib.count_hit hs h, Nat.add_comm]
  simp only [Lib.splitK]
  have h1 : ¬ (Lib.index r sep == -1) = true := fun e => by have := beq_iff_eq.1 e; omega
  rw [if_neg h1, h, Int.toNat_natCast, Nat.add_zero]
theorem index_cons (b : UInt8) (l sub : Str) : Lib.index (b :: l) sub = if sub.isPrefixOf (b :: l) then 0 else if Lib.index l sub == -1 then -1 else Lib.index l sub + 1 := rfl
theorem prefix_take {sep r : Str} (h : sep.length ≤ r.length) : sep.isPrefixOf r = true ↔ r.take sep.length = sep := by
  rw [List.isPrefixOf_iff_prefix, List.prefix_iff_eq_take]
  exact ⟨fun h => h.symm, fun h => h.symm⟩
theorem splitF_lib {sep : Str} (hs : sep ≠ []) : ∀ (n : Nat) (cur r : Str), r.length ≤ n → splitF sep n cur r = hdS cur (libS sep r)
  | 0, cur, r, h => by
    obtain rfl := List.eq_nil_of_length_eq_zero (show r.length = 0 by omega)
    have : Lib.index [] sep = -1 := by
      cases sep with
      | nil => exact absurd rfl hs
      | cons => rfl
    rw [libS_miss this]
    rfl
  | n + 1, cur, r, h => by
    have hsl : 0 < sep.length := List.length_pos_iff.2 hs
    by_cases h1 : r.length < sep.length
    · have hm : Lib.index r sep = -1 := by
        have h2 := Lib.index_ge r sep
        rcases Int.lt_or_le (Lib.index r sep) 0 with h3 | h3
        · omega
        · have := Lib.index_room r sep h3; omega
      rw [libS_miss hm]
      simp only [splitF]
      rw [if_pos h1]
      rfl
    · match r, h, h1 with
      | [], _, h1 => exact absurd hsl (by simpa using h1)
      | c :: t, h, h1 =>
        simp only [splitF]
        rw [if_neg h1]
        by_cases h2 : (c :: t).take sep.length = sep
        · rw [if_pos h2]
          have hi : Lib.index (c :: t) sep = ((0 : Nat) : Int) := by
            rw [index_cons, if_pos ((prefix_take (by omega)).2 h2)]; rfl
          rw [libS_hit hs hi, splitF_lib hs n [] _ (by simp at h ⊢; omega), Nat.zero_add]
          simp only [List.take_zero, hdS, List.append_nil]
          cases libS sep ((c :: t).drop sep.length) with
          | nil => rfl
          | cons x y => rfl
        · rw [if_neg h2]
          have hp : ¬ sep.isPrefixOf (c :: t) = true := fun e => h2 ((prefix_take (by omega)).1 e)
          have hx := index_cons c t sep
          rw [if_neg hp] at hx
          rw [splitF_lib hs n (cur ++ [c]) t (by simpa using h)]
          rcases Int.lt_or_le (Lib.index t sep) 0 with h3 | h3
          · have h4 : Lib.index t sep = -1 := by have := Lib.index_ge t sep; omega
            rw [h4] at hx
            rw [libS_miss h4, libS_miss (by rw [hx]; rfl)]
            simp [hdS]
          · obtain ⟨i, hi⟩ := Int.eq_ofNat_of_zero_le h3
            rw [hi] at hx
            have hne : ¬ ((i : Int) == -1) = true := fun e => by have := beq_iff_eq.1 e; omega
            rw [if_neg hne] at hx
            rw [libS_hit hs hi, libS_hit hs (show Lib.index (c :: t) sep = ((i + 1 : Nat) : Int) by rw [hx]; omega)]
            simp only [hdS, List.take_succ_cons, List.append_assoc, List.singleton_append]
            rw [show i + 1 + sep.length = (i + sep.length) + 1 by omega, List.drop_succ_cons]
theorem split_lib {s sep : Str} (hs : sep ≠ []) : split s sep = Lib.split s sep := by
  unfold split
  rw [splitF_lib hs s.length [] s (Nat.le_refl _)]
  show hdS [] (libS sep s) = libS sep s
  cases libS sep s with
  | nil => rfl
  | cons x y => rfl
theorem join_lib (sep : Str) : ∀ ws : List Str, Lib.join ws sep = joinS sep ws
  | [] => rfl
  | [w] => by simp [Lib.join, joinS, List.intercalate]
  | w :: x :: r => by
    have := join_lib sep (x :: r)
    unfold Lib.join at this ⊢
    simp only [joinS]
    rw [← this]
    simp [List.intercalate, List.intersperse]

end Go.Proofs.YtfaaghkgfbhglaaGreatDoor

/-! ShTxt -/
/-
  The library's Split, CutPrefix and Join, at this program's numbers of functions and types.
-/
namespace Go.Proofs
open Go.Shelf Go.RowKit
noncomputable def Tryz.lays146_ren : Go.Shelf.Ren := ⟨fun | 138 => 41 | 143 => 42 | 146 => 10 | 195 => 52 | 197 => 53 | 217 => 70 | 218 => 54 | 219 => 55 | 221 => 27 | 224 => 72 | 225 => 71 | 260 => 69 | 266 => 89 | 267 => 73 | 268 => 40 | 314 => 90 | n => n, fun | 0 => 0 | 3 => 3 | 4 => 4 | 5 => 5 | 9 => 9 | 21 => 21 | 31 => 22 | 46 => 97 | 51 => 113 | 105 => 77 | 119 => 117 | 138 => 119 | 139 => 120 | 146 => 121 | n => n, fun | 1 => (Tryz.prog.globals.findIdx? (·.name == "internal/bytealg.MaxLen")).getD 0 | 3 => (Tryz.prog.globals.findIdx? (·.name == "unicode/utf8.first")).getD 0 | 4 => (Tryz.prog.globals.findIdx? (·.name == "unicode/utf8.acceptRanges")).getD 0 | n => n⟩
theorem Tryz.lays146 : Go.Proofs.Lays.n146 Tryz.prog Tryz.lays146_ren := {
  mixed := by kernel_rfl
  f138 := Tryz.func41.trans (congrArg some (by kernel_rfl))
  f143 := Tryz.func42.trans (congrArg some (by kernel_rfl))
  f146 := Tryz.func10.trans (congrArg some (by kernel_rfl))
  f195 := Tryz.func52.trans (congrArg some (by kernel_rfl))
  f197 := Tryz.func53.trans (congrArg some (by kernel_rfl))
  f217 := Tryz.func70.trans (congrArg some (by kernel_rfl))
  f218 := Tryz.func54.trans (congrArg some (by kernel_rfl))
  f219 := Tryz.func55.trans (congrArg some (by kernel_rfl))
  f221 := Tryz.func27.trans (congrArg some (by kernel_rfl))
  f224 := Tryz.func72.trans (congrArg some (by kernel_rfl))
  f225 := Tryz.func71.trans (congrArg some (by kernel_rfl))
  f260 := Tryz.func69.trans (congrArg some (by kernel_rfl))
  f266 := Tryz.func89.trans (congrArg some (by kernel_rfl))
  f267 := Tryz.func73.trans (congrArg some (by kernel_rfl))
  f268 := Tryz.func40.trans (congrArg some (by kernel_rfl))
  f314 := Tryz.func90.trans (congrArg some (by kernel_rfl))
  t0 := Tryz.underlying0
  a0 := Tryz.isAgg0
  z0 := Tryz.sizeOf0
  v0 := Tryz.zeroValue0
  t3 := Tryz.underlying3
  a3 := Tryz.isAgg3
  z3 := Tryz.sizeOf3
  v3 := Tryz.zeroValue3
  t4 := Tryz.underlying4
  a4 := Tryz.isAgg4
  z4 := Tryz.sizeOf4
  v4 := Tryz.zeroValue4
  t5 := Tryz.underlying5
  a5 := Tryz.isAgg5
  z5 := Tryz.sizeOf5
  v5 := Tryz.zeroValue5
  t9 := Tryz.underlying9
  a9 := Tryz.isAgg9
  z9 := Tryz.sizeOf9
  v9 := Tryz.zeroValue9
  t21 := Tryz.underlying21
  a21 := Tryz.isAgg21
  z21 := Tryz.sizeOf21
  v21 := Tryz.zeroValue21
  t31 := Tryz.underlying22
  a31 := Tryz.isAgg22
  z31 := Tryz.sizeOf22
  v31 := Tryz.zeroValue22
  t46 := Tryz.underlying97
  a46 := Tryz.isAgg97
  z46 := Tryz.sizeOf97
  v46 := Tryz.zeroValue97
  t51 := Tryz.underlying113
  a51 := Tryz.isAgg113
  z51 := Tryz.sizeOf113
  v51 := Tryz.zeroValue113
  t105 := Tryz.underlying77
  a105 := Tryz.isAgg77
  z105 := Tryz.sizeOf77
  v105 := Tryz.zeroValue77
  t119 := Tryz.underlying117
  a119 := Tryz.isAgg117
  z119 := Tryz.sizeOf117
  t138 := Tryz.underlying119
  a138 := Tryz.isAgg119
  z138 := Tryz.sizeOf119
  v138 := Tryz.zeroValue119
  t139 := Tryz.underlying120
  a139 := Tryz.isAgg120
  z139 := Tryz.sizeOf120
  v139 := Tryz.zeroValue120
  t146 := Tryz.underlying121
  a146 := Tryz.isAgg121
  z146 := Tryz.sizeOf121
  v146 := Tryz.zeroValue121
  g1 := by kernel_rfl
  g3 := by kernel_rfl
  g4 := by kernel_rfl
  }
noncomputable def Tryz.lays103_ren : Go.Shelf.Ren := ⟨fun | 103 => 29 | 206 => 56 | 210 => 43 | n => n, fun | 3 => 3 | 4 => 4 | 9 => 9 | 24 => 53 | n => n, fun | n => n⟩
theorem Tryz.lays103 : Go.Proofs.Lays.n103 Tryz.prog Tryz.lays103_ren := {
  mixed := by kernel_rfl
  f103 := Tryz.func29.trans (congrArg some (by kernel_rfl))
  f206 := Tryz.func56.trans (congrArg some (by kernel_rfl))
  f210 := Tryz.func43.trans (congrArg some (by kernel_rfl))
  t3 := Tryz.underlying3
  a3 := Tryz.isAgg3
  z3 := Tryz.sizeOf3
  v3 := Tryz.zeroValue3
  t4 := Tryz.underlying4
  a4 := Tryz.isAgg4
  z4 := Tryz.sizeOf4
  v4 := Tryz.zeroValue4
  t9 := Tryz.underlying9
  a9 := Tryz.isAgg9
  z9 := Tryz.sizeOf9
  v9 := Tryz.zeroValue9
  t24 := Tryz.underlying53
  a24 := Tryz.isAgg53
  z24 := Tryz.sizeOf53
  v24 := Tryz.zeroValue53
  }
noncomputable def Tryz.lays156_ren : Go.Shelf.Ren := ⟨fun | 156 => 23 | 165 => 36 | 166 => 37 | 169 => 38 | 240 => 49 | 241 => 50 | 276 => 63 | 277 => 64 | n => n, fun | 0 => 0 | 3 => 3 | 4 => 4 | 5 => 5 | 9 => 9 | 20 => 20 | 31 => 22 | 37 => 65 | 70 => 64 | 72 => 67 | 75 => 61 | 76 => 62 | 80 => 69 | 127 => 74 | 164 => 88 | n => n, fun | n => n⟩
theorem Tryz.lays156 : Go.Proofs.Lays.n156 Tryz.prog Tryz.lays156_ren := {
  mixed := by kernel_rfl
  f156 := Tryz.func23.trans (congrArg some (by kernel_rfl))
  f165 := Tryz.func36.trans (congrArg some (by kernel_rfl))
  f166 := Tryz.func37.trans (congrArg some (by kernel_rfl))
  f169 := Tryz.func38.trans (congrArg some (by kernel_rfl))
  f240 := Tryz.func49.trans (congrArg some (by kernel_rfl))
  f241 := Tryz.func50.trans (congrArg some (by kernel_rfl))
  f276 := Tryz.func63.trans (congrArg some (by kernel_rfl))
  f277 := Tryz.func64.trans (congrArg some (by kernel_rfl))
  t0 := Tryz.underlying0
  a0 := Tryz.isAgg0
  z0 := Tryz.sizeOf0
  v0 := Tryz.zeroValue0
  t3 := Tryz.underlying3
  a3 := Tryz.isAgg3
  z3 := Tryz.sizeOf3
  v3 := Tryz.zeroValue3
  t4 := Tryz.underlying4
  a4 := Tryz.isAgg4
  z4 := Tryz.sizeOf4
  v4 := Tryz.zeroValue4
  t9 := Tryz.underlying9
  a9 := Tryz.isAgg9
  z9 := Tryz.sizeOf9
  v9 := Tryz.zeroValue9
  t20 := Tryz.underlying20
  a20 := Tryz.isAgg20
  z20 := Tryz.sizeOf20
  v20 := Tryz.zeroValue20
  t31 := Tryz.underlying22
  a31 := Tryz.isAgg22
  z31 := Tryz.sizeOf22
  v31 := Tryz.zeroValue22
  t37 := Tryz.underlying65
  a37 := Tryz.isAgg65
  z37 := Tryz.sizeOf65
  v37 := Tryz.zeroValue65
  t70 := Tryz.underlying64
  a70 := Tryz.isAgg64
  z70 := Tryz.sizeOf64
  v70 := Tryz.zeroValue64
  t72 := Tryz.underlying67
  a72 := Tryz.isAgg67
  z72 := Tryz.sizeOf67
  v72 := Tryz.zeroValue67
  t75 := Tryz.underlying61
  a75 := Tryz.isAgg61
  z75 := Tryz.sizeOf61
  v75 := Tryz.zeroValue61
  t76 := Tryz.underlying62
  a76 := Tryz.isAgg62
  z76 := Tryz.sizeOf62
  v76 := Tryz.zeroValue62
  t127 := Tryz.underlying74
  a127 := Tryz.isAgg74
  z127 := Tryz.sizeOf74
  v127 := Tryz.zeroValue74
  t164 := Tryz.underlying88
  a164 := Tryz.isAgg88
  z164 := Tryz.sizeOf88
  v164 := Tryz.zeroValue88
  }
theorem Tryz.bld156 : Go.Proofs.Builder.Extra Tryz.prog Tryz.lays156_ren := {
  sizeBuilder := by kernel_rfl
  liesBuilder := by kernel_rfl
  t5 := Tryz.underlying5
  a5 := Tryz.isAgg5
  z5 := Tryz.sizeOf5
  v5 := Tryz.zeroValue5
  infoByte := by kernel_rfl
  cellsByte := by kernel_rfl
  sizeByte := by kernel_rfl
  neB5 := by decide
  }
end Go.Proofs

/-! AxBsO -/
/-
  A literal slice as a slice of ours, to be grown.
-/
namespace Go.AX
open Go.RowKit

variable {cx : Cx} {g : Nat → Value} {σ σ' : St} {a : Act} {w w' : World} {nx : Nat}
variable {ty : TypeId} {pos : String} {af : Array Edge} {gd : Option (Nat × Bool)} {d : Nat}

theorem flatten_len {k : Nat} : ∀ {rs : List (List D)}, (∀ r ∈ rs, r.length = k) → rs.flatten.length = rs.length * k
  | [], _ => by simp
  | r :: rs, h => by
    rw [List.flatten_cons, List.length_append, h r (List.mem_cons_self ..), flatten_len fun x hx => h x (List.mem_cons_of_mem _ hx), List.length_cons, Nat.add_mul, Nat.one_mul, Nat.add_comm]
theorem ok_bsO {t e : TypeId} {n k n0 : Nat} {ps : List (Nat × Operand)} {rs : List (List D)} {l : List (Key × Val)} {ti te : TI} (hn : d < cx.n) (ht : tget cx.T t = some ti) (hk : ti.kind = .sl e k)
    (hte : tget cx.T e = some te) (h1 : ∀ c ∈ te.zero, Value.oneCell' c = true) (hp : Parts ps (numb 0 rs) l) (hrs : ∀ r ∈ rs, r.length = k) (hnl : n = rs.length) (hsm : n * k ≤ 65536) (hpos : n * k ≠ 0) :
    OpOk cx ⟨some d, .buildSlice t n ⟨ps⟩, ty, pos, af, gd⟩ ⟨(.nx, .num n0) :: l, [(.s d, .av (.own n0 n)), (.o n0, .ob (.arr e k rs)), (.nx, .num (n0 + 1))]⟩ := by
  rintro σ a w K Q ⟨g, nx, hs⟩ hr hK
  obtain ⟨hnn, hr⟩ := hr
  have hnx : nx = n0 := by
    have h2 := hs.hnx
    rw [hnn] at h2
    simpa using h2.symm
  subst hnx
  have hF := (cx.hT t ti ht).kind
  rw [hk] at hF
  obtain ⟨hu, ⟨ie, hie, hks⟩, hk0, _⟩ := hF
  obtain ⟨ie', hie', hes, _, z, hz, hzc⟩ := (cx.hT e te hte).info
  rw [hie] at hie'
  cases hie'
  obtain ⟨h2, h3⟩ := hp.ok hs hr
  have hzl : z.cells.size = k := by
    have := (cx.hT e te hte).len
    rw [← hzc] at this
    simp at this
    omega
  have hinit : RdL w (cx.own g σ) ((Array.range (n * ie.size)).map (z.cells[· % z.cells.size]!)).toList (((Array.range (n * ie.size)).map (z.cells[· % z.cells.size]!)).toList.map D.v) := by
    refine zero_rd fun c hc => ?_
    simp only [Array.toList_map, List.mem_map] at hc
    obtain ⟨q, _, rfl⟩ := hc
    refine h1 _ ?_
    rw [← hzc]
    have hlt : q % z.cells.size < z.cells.size := Nat.mod_lt _ (by rw [hzl]; exact Nat.pos_of_ne_zero fun e => hpos (by rw [e, Nat.mul_zero]))
    rw [getElem!_pos z.cells _ hlt]
    simp
  have hfr := fill_rows (k := k) (n := n) (rs := rs) (i := 0) (ds := ((Array.range (n * ie.size)).map (z.cells[· % z.cells.size]!)).toList.map D.v) hrs (by simp [hks]) (by omega)
  rw [Nat.zero_mul, List.take_zero, List.nil_append, List.drop_eq_nil_of_le (by simp [hks, hnl]), List.append_nil] at hfr
  obtain ⟨cs', h4, h5⟩ := fill_ok (cs := (Array.range (n * ie.size)).map (z.cells[· % z.cells.size]!)) h2 h3 hinit hfr
  have hrun := run_buildSlice (P := cx.P) w t e n (ps.map fun p => (p.1, a.eval p.2)).toArray cs' ie z hu hie hz (by rw [hks]; omega) (by rw [hks]; exact hpos) (by rw [← h4, hks])
  have hflen : rs.flatten.length = n * k := by rw [hnl]; exact flatten_len hrs
  have hcl : cs'.size = n * k := by have := h5.1; simp only [Array.length_toList] at this; omega
  have hb : Below w.heap.size w (w.alloc (.cells cs' e)) := (Below.refl _ _).alloc (Nat.le_refl _) _
  have hst : ObjStep cx σ g nx (nx + 1) w (w.alloc (.cells cs' e)) nx (.arr e k rs) (.slice (some ⟨w.heap.size, 0, none⟩) n n) :=
    ⟨.inl ⟨rfl, rfl⟩, hb.mono hs.below.size, fun c hc _ => hb.block c hc, fun c hc => .inr (by cases hc; exact Nat.le_refl _)⟩
  have hn65 : n ≤ 65536 := by
    rcases Nat.eq_zero_or_pos k with h | h
    · exact absurd (by rw [h, Nat.mul_zero]) hpos
    · exact Nat.le_trans (Nat.le_mul_of_pos_right n h) hsm
  have hG := SimG.obj hs hst (fun hl => ⟨cs'.toList, by
      rw [upd_same, ← hnl]
      refine ⟨by simpa using hcl, .inr ⟨w.heap.size, n, cs', rfl, hs.below.size, heap_alloc_new w _, Nat.le_refl _, by unfold maxLen; omega, hcl, ?_⟩⟩
      rw [List.take_of_length_le (by simp [hcl])], h5.2.1, hrs, fun i j r x v hi hj hv => by
      have hf := flat_get hrs hi hj
      exact (h5.2.2 _ v x hf hv).step hl.ext hl.own⟩) trivial
  have hex : (execOp a.eval ⟨some d, .buildSlice t n ⟨ps⟩, ty, pos, af, gd⟩).run cx.P w = .ok (.value (.slice (some ⟨w.heap.size, 0, none⟩) n n)) (w.alloc (.cells cs' e)) := by
    simp only [execOp, List.map_toArray, Sem.run_bind, hrun, Result.andThen_ok, Sem.run_pure]
  refine wp_val rfl hex (hK _ _ ?_)
  refine Sim.eqv (Sim.put hG hn (Below.refl _ _) (av := .own nx n) ⟨.of get_cons_same, fun e' k' rows' hg => ?_⟩ (Nat.lt_succ_self nx)) fun q => ?_
  · rw [get_cons_same] at hg
    simp only [Val.ob.injEq, Ob.arr.injEq] at hg
    obtain ⟨_, _, rfl⟩ := hg
    exact ⟨by omega, fun _ => (upd_same _ _ _).symm⟩
  cases q with
  | s i =>
    by_cases hi : i = d
    · subst hi; rw [get_cons_same]; exact get_cons_same.symm
    · rw [get_cons_ne (by simpa using fun e => hi e.symm), objSt_s]
      exact ((get_cons_ne (by simpa using fun e => hi e.symm)).trans ((get_cons_ne (by simp)).trans (get_cons_ne (by simp)))).symm
  | o i =>
    rw [get_cons_ne (by simp)]
    by_cases hi : i = nx
    · subst hi; rw [get_cons_same]; exact ((get_cons_ne (by simp)).trans get_cons_same).symm
    · rw [objSt_o hi]
      exact ((get_cons_ne (by simp)).trans ((get_cons_ne (by simpa using fun e => hi e.symm)).trans (get_cons_ne (by simp)))).symm
  | nx =>
    rw [get_cons_ne (by simp), objSt_nx]
    exact ((get_cons_ne (by simp)).trans ((get_cons_ne (by simp)).trans get_cons_same)).symm
theorem a_bsO {t e n k n0 : Nat} {ps : List (Nat × Operand)} (rs : List (List D)) {l : List (Key × Val)} {ti te : TI} (hn0 : get σ .nx = .num n0) (ht : tget cx.T t = some ti) (hk : ti.kind = .sl e k)
    (hte : tget cx.T e = some te) (h1 : (te.zero.all Value.oneCell') = true) (hrs : (rs.all fun r => Nat.beq r.length k) = true) (hnl : n = rs.length) (hsm : Nat.ble (n * k) 65536 = true) (hpos : Nat.blt 0 (n * k) = true)
    (hd : Nat.blt d cx.n = true) (hp : PartsE σ ps (numb 0 rs) l) : OA cx σ ⟨some d, .buildSlice t n ⟨ps⟩, ty, pos, af, gd⟩ ⟨(.nx, .num n0) :: l, [(.s d, .av (.own n0 n)), (.o n0, .ob (.arr e k rs)), (.nx, .num (n0 + 1))]⟩ :=
  ⟨ok_bsO (lt_of_blt hd) ht hk hte (fun c hc => List.all_eq_true.1 h1 c hc) hp.out.1 (fun r hr => by simpa using List.all_eq_true.1 hrs r hr) hnl (by simpa using hsm) (Nat.ne_of_gt (lt_of_blt hpos)), hn0, hp.out.2⟩

end Go.AX

/-! G1 -/
/-
  Contracts of the library's Clone: what comes back is the caller's own.
-/
namespace Go.Proofs.YtfaaghkgfbhglaaGreatDoor
open Go.AX Go.RF

set_option maxRecDepth 100000
set_option maxHeartbeats 4000000

theorem new_clone_str (rows : List (List D)) (hl : rows.length ≤ 536870912) : FnNew Tryz.prog 33 [.d (.sl 1 rows)] 9 1 rows := by
  refine fnNew_of tbl_ok mixed_ok Tryz.func33 rfl (by kernel_rfl) rfl rfl fun w0 own0 => ?_
  cases rows with
  | nil =>
    refine CW.empty 0 rfl fun p cp => ?_
    cases p with
    | none =>
      repeat (first|((with_reducible apply s1); exact rfl)|(with_reducible first|apply CW.seq|apply CW.block|apply CW.region|apply CW.draw|apply CW.skip|apply CW.exit|apply CW.ret|apply q_then|apply q_then_exit|apply q_then_ret|apply q_block|apply q_block_ret|apply q_block_hit|apply q_ret|apply q_end|apply q_loop_exit|apply q_loop_ret|apply q_loopT_exit|apply q_loopT_ret|apply RW.nil)|((with_reducible apply s3); exact rfl; exact by_k)|((with_reducible apply s2); exact rfl; exact by_k)|((with_reducible apply s4); exact rfl)|((with_reducible apply s5); exact by_oa; exact by_g)|((with_reducible apply CW.cond_t); exact rfl; exact by_ks)|((with_reducible apply CW.cond_f); exact rfl; exact by_ks)|((with_reducible apply q_block_miss); exact rfl)|(refine And.intro (show chk [] [] _ _ = true by kernel_rfl) ?_))
      exact RetNew.nil rfl rfl
    | some ad =>
      repeat (first|(with_reducible apply stop_reg 3)|((with_reducible apply s1); exact rfl)|(with_reducible first|apply CW.seq|apply CW.block|apply CW.region|apply CW.draw|apply CW.skip|apply CW.exit|apply CW.ret|apply q_then|apply q_then_exit|apply q_then_ret|apply q_block|apply q_block_ret|apply q_block_hit|apply q_ret|apply q_end|apply q_loop_exit|apply q_loop_ret|apply q_loopT_exit|apply q_loopT_ret|apply RW.nil)|((with_reducible apply s3); exact rfl; exact by_k)|((with_reducible apply s2); exact rfl; exact by_k)|((with_reducible apply s4); exact rfl)|((with_reducible apply s5); exact by_oa; exact by_g)|((with_reducible apply CW.cond_t); exact rfl; exact by_ks)|((with_reducible apply CW.cond_f); exact rfl; exact by_ks)|((with_reducible apply q_block_miss); exact rfl)|(refine And.intro (show chk [] [] _ _ = true by kernel_rfl) ?_))
      refine Stop.go (CW.stut (stut_nilv (i := 0) (k := 1)) ⟨rfl, trivial⟩ ?_)
      repeat (first|((with_reducible apply s1); exact rfl)|(with_reducible first|apply CW.seq|apply CW.block|apply CW.region|apply CW.draw|apply CW.skip|apply CW.exit|apply CW.ret|apply q_then|apply q_then_exit|apply q_then_ret|apply q_block|apply q_block_ret|apply q_block_hit|apply q_ret|apply q_end|apply q_loop_exit|apply q_loop_ret|apply q_loopT_exit|apply q_loopT_ret|apply RW.nil)|((with_reducible apply s3); exact rfl; exact by_k)|((with_reducible apply s2); exact rfl; exact by_k)|((with_reducible apply s4); exact rfl)|((with_reducible apply s5); exact by_oa; exact by_g)|((with_reducible apply CW.cond_t); exact rfl; exact by_ks)|((with_reducible apply CW.cond_f); exact rfl; exact by_ks)|((with_reducible apply q_block_miss); exact rfl)|(refine And.intro (show chk [] [] _ _ = true by kernel_rfl) ?_))
      exact RetNew.own rfl rfl rfl
  | cons r rows =>
    have hl2 : rows.length ≤ 536870911 := by simp at hl; omega
    repeat (first|((with_reducible apply s1); exact rfl)|(with_reducible first|apply CW.seq|apply CW.block|apply CW.region|apply CW.draw|apply CW.skip|apply CW.exit|apply CW.ret|apply q_then|apply q_then_exit|apply q_then_ret|apply q_block|apply q_block_ret|apply q_block_hit|apply q_ret|apply q_end|apply q_loop_exit|apply q_loop_ret|apply q_loopT_exit|apply q_loopT_ret|apply RW.nil)|((with_reducible apply s3); exact rfl; exact by_k)|((with_reducible apply s2); exact rfl; exact by_k)|((with_reducible apply s4); exact rfl)|((with_reducible apply s5); exact by_oa; exact by_g)|((with_reducible apply CW.cond_t); exact rfl; exact by_ks)|((with_reducible apply CW.cond_f); exact rfl; exact by_ks)|((with_reducible apply q_block_miss); exact rfl)|(refine And.intro (show chk [] [] _ _ = true by kernel_rfl) ?_))
    exact RetNew.own rfl rfl (by simp)
theorem ok_clone_str (rows : List (List D)) (hl : rows.length ≤ 536870912) : FnOk Tryz.prog 33 [.d (.sl 1 rows)] (.one (.sl 1 rows)) := (new_clone_str rows hl).ok

theorem new_clone_ins (rows : List (List D)) (hl : rows.length ≤ 536870912) : FnNew Tryz.prog 34 [.d (.sl 5 rows)] 35 5 rows := by
  refine fnNew_of tbl_ok mixed_ok Tryz.func34 rfl (by kernel_rfl) rfl rfl fun w0 own0 => ?_
  cases rows with
  | nil =>
    refine CW.empty 0 rfl fun p cp => ?_
    cases p with
    | none =>
      repeat (first|((with_reducible apply s1); exact rfl)|(with_reducible first|apply CW.seq|apply CW.block|apply CW.region|apply CW.draw|apply CW.skip|apply CW.exit|apply CW.ret|apply q_then|apply q_then_exit|apply q_then_ret|apply q_block|apply q_block_ret|apply q_block_hit|apply q_ret|apply q_end|apply q_loop_exit|apply q_loop_ret|apply q_loopT_exit|apply q_loopT_ret|apply RW.nil)|((with_reducible apply s3); exact rfl; exact by_k)|((with_reducible apply s2); exact rfl; exact by_k)|((with_reducible apply s4); exact rfl)|((with_reducible apply s5); exact by_oa; exact by_g)|((with_reducible apply CW.cond_t); exact rfl; exact by_ks)|((with_reducible apply CW.cond_f); exact rfl; exact by_ks)|((with_reducible apply q_block_miss); exact rfl)|(refine And.intro (show chk [] [] _ _ = true by kernel_rfl) ?_))
      exact RetNew.nil rfl rfl
    | some ad =>
      repeat (first|(with_reducible apply stop_reg 3)|((with_reducible apply s1); exact rfl)|(with_reducible first|apply CW.seq|apply CW.block|apply CW.region|apply CW.draw|apply CW.skip|apply CW.exit|apply CW.ret|apply q_then|apply q_then_exit|apply q_then_ret|apply q_block|apply q_block_ret|apply q_block_hit|apply q_ret|apply q_end|apply q_loop_exit|apply q_loop_ret|apply q_loopT_exit|apply q_loopT_ret|apply RW.nil)|((with_reducible apply s3); exact rfl; exact by_k)|((with_reducible apply s2); exact rfl; exact by_k)|((with_reducible apply s4); exact rfl)|((with_reducible apply s5); exact by_oa; exact by_g)|((with_reducible apply CW.cond_t); exact rfl; exact by_ks)|((with_reducible apply CW.cond_f); exact rfl; exact by_ks)|((with_reducible apply q_block_miss); exact rfl)|(refine And.intro (show chk [] [] _ _ = true by kernel_rfl) ?_))
      refine Stop.go (CW.stut (stut_nilv (i := 0) (k := 5)) ⟨rfl, trivial⟩ ?_)
      repeat (first|((with_reducible apply s1); exact rfl)|(with_reducible first|apply CW.seq|apply CW.block|apply CW.region|apply CW.draw|apply CW.skip|apply CW.exit|apply CW.ret|apply q_then|apply q_then_exit|apply q_then_ret|apply q_block|apply q_block_ret|apply q_block_hit|apply q_ret|apply q_end|apply q_loop_exit|apply q_loop_ret|apply q_loopT_exit|apply q_loopT_ret|apply RW.nil)|((with_reducible apply s3); exact rfl; exact by_k)|((with_reducible apply s2); exact rfl; exact by_k)|((with_reducible apply s4); exact rfl)|((with_reducible apply s5); exact by_oa; exact by_g)|((with_reducible apply CW.cond_t); exact rfl; exact by_ks)|((with_reducible apply CW.cond_f); exact rfl; exact by_ks)|((with_reducible apply q_block_miss); exact rfl)|(refine And.intro (show chk [] [] _ _ = true by kernel_rfl) ?_))
      exact RetNew.own rfl rfl rfl
  | cons r rows =>
    have hl2 : rows.length ≤ 536870911 := by simp at hl; omega
    repeat (first|((with_reducible apply s1); exact rfl)|(with_reducible first|apply CW.seq|apply CW.block|apply CW.region|apply CW.draw|apply CW.skip|apply CW.exit|apply CW.ret|apply q_then|apply q_then_exit|apply q_then_ret|apply q_block|apply q_block_ret|apply q_block_hit|apply q_ret|apply q_end|apply q_loop_exit|apply q_loop_ret|apply q_loopT_exit|apply q_loopT_ret|apply RW.nil)|((with_reducible apply s3); exact rfl; exact by_k)|((with_reducible apply s2); exact rfl; exact by_k)|((with_reducible apply s4); exact rfl)|((with_reducible apply s5); exact by_oa; exact by_g)|((with_reducible apply CW.cond_t); exact rfl; exact by_ks)|((with_reducible apply CW.cond_f); exact rfl; exact by_ks)|((with_reducible apply q_block_miss); exact rfl)|(refine And.intro (show chk [] [] _ _ = true by kernel_rfl) ?_))
    exact RetNew.own rfl rfl (by simp)
theorem ok_clone_ins (rows : List (List D)) (hl : rows.length ≤ 536870912) : FnOk Tryz.prog 34 [.d (.sl 5 rows)] (.one (.sl 5 rows)) := (new_clone_ins rows hl).ok

end Go.Proofs.YtfaaghkgfbhglaaGreatDoor

/-! G3 -/
/-
  Contracts of the program's copies, and of what it counts in engines.
-/
namespace Go.Proofs.YtfaaghkgfbhglaaGreatDoor
open Go.AX Go.RF

set_option maxRecDepth 100000
set_option maxHeartbeats 4000000

theorem ok_deedOwn (d : Deed) (hs : d.Sm) : FnOk Tryz.prog 13 [.d (.agg d.enc)] (.one (.agg d.enc)) := by
  refine fnOk_of tbl_ok mixed_ok Tryz.func13 rfl (by kernel_rfl) rfl rfl fun w0 own0 => ?_
  have h1 := hs.r
  have h2 := hs.w
  have h3 := hs.c
  have c1 := ok_clone_str (d.reads.map encStr1) (by simp; omega)
  have c2 := ok_clone_str (d.writes.map encStr1) (by simp; omega)
  have c3 := ok_clone_ins (d.code.map Ins.enc) (by simp; omega)
  repeat (first|((with_reducible apply s1); exact rfl)|(with_reducible first|apply CW.seq|apply CW.block|apply CW.region|apply CW.draw|apply CW.skip|apply CW.exit|apply CW.ret|apply q_then|apply q_then_exit|apply q_then_ret|apply q_block|apply q_block_ret|apply q_block_hit|apply q_ret|apply q_end|apply q_loop_exit|apply q_loop_ret|apply q_loopT_exit|apply q_loopT_ret|apply RW.nil)|((with_reducible apply s3); exact rfl; exact by_k)|((with_reducible apply s2); exact rfl; exact by_k)|((with_reducible apply s4); exact rfl)|((with_reducible apply s5); (first|exact a_call c1 rfl by_sub|exact a_call c2 rfl by_sub|exact a_call c3 rfl by_sub|exact by_oa); exact by_g)|((with_reducible apply CW.cond_t); exact rfl; exact by_ks)|((with_reducible apply CW.cond_f); exact rfl; exact by_ks)|((with_reducible apply q_block_miss); exact rfl)|(refine And.intro (show chk [] [] _ _ = true by kernel_rfl) ?_))
  exact .one (.cell rfl rfl rfl rfl (.aggd (ds := d.enc) rfl (.refl _)))

end Go.Proofs.YtfaaghkgfbhglaaGreatDoor

/-! P1 -/
/-
  Engines as they are built have chains in order, and versions in order: plain facts; what forgetting comes to.
-/
namespace Go.Proofs.YtfaaghkgfbhglaaGreatDoor
open Go.AX Go.RF

def VSrt (l : List Version) : Prop := l.Pairwise fun a b => a.by_ < b.by_
theorem VSrt.cons {v : Version} {l : List Version} : VSrt (v :: l) ↔ (∀ w ∈ l, v.by_ < w.by_) ∧ VSrt l := List.pairwise_cons

/-! ### Rows that are right -/
/-! ### A version more, in order -/
/-! ### Engines -/
end Go.Proofs.YtfaaghkgfbhglaaGreatDoor

/-! P4 -/
/-
  Rows given and taken: plain laws. Keys by Trim.
-/
namespace Go.Proofs.YtfaaghkgfbhglaaGreatDoor
open Go.AX Go.RF

/-! ### What a key has, behind -/
/-! ### In order, and the same members: the same -/
/-! ### Right rows stay right -/
/-! ### Keys, by Trim -/
def alpha : List UInt8 := [97, 98, 99, 100, 101, 102, 103, 104, 105, 106, 107, 108, 109, 110, 111, 112, 113, 114, 115, 116, 117, 118, 119, 120, 121, 122]
theorem alpha_bad (c : UInt8) : alpha.contains c = !bad c := by
  have h : ∀ n : Fin 256, alpha.contains (UInt8.ofFin n) = !bad (UInt8.ofFin n) := by decide +kernel
  have := h c.toFin
  rwa [UInt8.ofFin_toFin] at this
theorem dropWhile_nil {p : UInt8 → Bool} : ∀ {l : List UInt8}, l.dropWhile p = [] ↔ ∀ x ∈ l, p x = true
  | [] => by simp
  | x :: l => by
    cases h : p x with
    | true => rw [List.dropWhile_cons_of_pos h, dropWhile_nil]; simp [h]
    | false => rw [List.dropWhile_cons_of_neg (by simp [h])]; simp [h]
theorem dropWhile_head {p : UInt8 → Bool} : ∀ {l r : List UInt8} {x : UInt8}, l.dropWhile p = x :: r → p x = false
  | [], r, x, h => by simp at h
  | y :: l, r, x, h => by
    cases hy : p y with
    | true => rw [List.dropWhile_cons_of_pos hy] at h; exact dropWhile_head h
    | false => rw [List.dropWhile_cons_of_neg (by simp [hy])] at h; cases h; exact hy
theorem trim_nil {l cs : List UInt8} : Lib.trimS l cs = [] ↔ ∀ x ∈ l, cs.contains x = true := by
  unfold Lib.trimS Lib.trimLeftS Lib.trimRightS
  rw [dropWhile_nil]
  constructor
  · intro h
    have h1 : l.reverse.dropWhile (cs.contains ·) = [] := by
      cases h2 : l.reverse.dropWhile (cs.contains ·) with
      | nil => rfl
      | cons x r =>
        have h3 := dropWhile_head h2
        have h4 := h x (by rw [h2]; simp)
        rw [h3] at h4; cases h4
    intro x hx
    exact dropWhile_nil.1 h1 x (by simpa using hx)
  · intro h x hx
    have h1 : l.reverse.dropWhile (cs.contains ·) = [] := dropWhile_nil.2 fun x hx => h x (by simpa using hx)
    rw [h1] at hx; simp at hx
theorem keyGo_eq {s : Str} : ∀ {r : Str}, keyGo s r = ((r.all fun c => !bad c) && (decide (0 < s.length) && decide (s.length < 7)))
  | [] => by simp [keyGo]
  | c :: r => by
    simp only [keyGo, List.all_cons]
    rw [keyGo_eq]
    cases bad c <;> simp
theorem key_trim (s : Str) : key s = (decide (1 ≤ s.length) && (decide (s.length ≤ 6) && decide (Lib.trimS s alpha = []))) := by
  unfold key
  rw [keyGo_eq]
  have h1 : (s.all fun c => !bad c) = decide (Lib.trimS s alpha = []) := by
    rw [Bool.eq_iff_iff, decide_eq_true_eq, trim_nil, List.all_eq_true]
    simp only [alpha_bad]
  rw [h1]
  have h2 : decide (0 < s.length) = decide (1 ≤ s.length) := by congr 1
  have h3 : decide (s.length < 7) = decide (s.length ≤ 6) := by congr 1; exact propext ⟨fun h => by omega, fun h => by omega⟩
  rw [h2, h3]
  cases decide (Lib.trimS s alpha = []) <;> cases decide (1 ≤ s.length) <;> cases decide (s.length ≤ 6) <;> rfl
end Go.Proofs.YtfaaghkgfbhglaaGreatDoor

/-! P5 -/
/-
  The program's way of doing a deed comes to the references'.
-/
namespace Go.Proofs.YtfaaghkgfbhglaaGreatDoor
open Go.AX Go.RF

/-! ### What has been made, given to rows -/
theorem isIn_true {s : Str} : ∀ {l : List Str}, isIn l s = true → s ∈ l
  | [], h => by cases h
  | x :: l, h => by
    simp only [isIn] at h
    by_cases hx : x = s
    · rw [hx]; exact List.mem_cons_self ..
    · rw [if_neg hx] at h
      exact List.mem_cons_of_mem _ (isIn_true h)
end Go.Proofs.YtfaaghkgfbhglaaGreatDoor

/-! G15 -/
/-
  Contracts of the library's Index and Contains, of texts and of numbers; of the program's Keys.
-/
namespace Go.Proofs.YtfaaghkgfbhglaaGreatDoor
open Go.AX Go.RF

set_option maxRecDepth 100000
set_option maxHeartbeats 8000000

def idxS : Nat → List Str → Str → Int
  | _, [], _ => -1
  | i, x :: l, s => if x = s then (i : Int) else idxS (i + 1) l s
theorem idxS_in : ∀ {l : List Str} {i : Nat} {s : Str}, decide (0 ≤ idxS i l s) = isIn l s
  | [], i, s => rfl
  | x :: l, i, s => by
    by_cases h : x = s
    · simp only [idxS, isIn, if_pos h]; exact decide_eq_true (by omega)
    · simp only [idxS, isIn, if_neg h]; exact idxS_in
theorem ok_indexS (l : List Str) (s : Str) (hl : l.length ≤ 1073741824) : FnOk Tryz.prog 28 [.d (encStrs l), .d (dstr s)] (.one (dint (idxS 0 l s))) := by
  refine fnOk_of tbl_ok mixed_ok Tryz.func28 rfl (by kernel_rfl) rfl rfl fun w0 own0 => ?_
  repeat (first|((with_reducible apply s1); exact rfl)|(with_reducible first|apply CW.seq|apply CW.block|apply CW.region|apply CW.draw|apply CW.skip|apply CW.exit|apply CW.ret|apply q_then|apply q_then_exit|apply q_then_ret|apply q_block|apply q_block_ret|apply q_block_hit|apply q_ret|apply q_end|apply q_loop_exit|apply q_loop_ret|apply q_loopT_exit|apply q_loopT_ret|apply RW.nil)|((with_reducible apply s3); exact rfl; exact by_k)|((with_reducible apply s2); exact rfl; exact by_k)|((with_reducible apply s4); exact rfl)|((with_reducible apply s5); exact by_oa; exact by_g)|((with_reducible apply CW.cond_t); exact rfl; exact by_ks)|((with_reducible apply CW.cond_f); exact rfl; exact by_ks)|((with_reducible apply q_block_miss); exact rfl)|(refine And.intro (show chk [] [] _ _ = true by kernel_rfl) ?_))
  refine CW.loopT (fun t : Nat => [sd 0 (encStrs l), sd 1 (dstr s), sd 6 (encStrs l), sd 7 (dint l.length), sd 8 (dint t), nxt 0])
    (fun t => t ≤ l.length ∧ idxS t (l.drop t) s = idxS 0 l s) (fun t => l.length - t) 0 ⟨by omega, rfl⟩ ?_ ?_
  ·
    exact by_less
  · rintro t ⟨ht, hI⟩
    rcases drop_case ht with ⟨h1, h2⟩ | ⟨x, h1, h2, h3⟩
    · rw [h1, idxS] at hI
      repeat (first|((with_reducible apply s1); exact rfl)|(with_reducible first|apply CW.seq|apply CW.block|apply CW.region|apply CW.draw|apply CW.skip|apply CW.exit|apply CW.ret|apply q_then|apply q_then_exit|apply q_then_ret|apply q_block|apply q_block_ret|apply q_block_hit|apply q_ret|apply q_end|apply q_loop_exit|apply q_loop_ret|apply q_loopT_exit|apply q_loopT_ret|apply RW.nil)|((with_reducible apply s3); exact rfl; exact by_k)|((with_reducible apply s2); exact rfl; exact by_k)|((with_reducible apply s4); exact rfl)|((with_reducible apply s5); exact by_oa; exact by_g)|((with_reducible apply CW.cond_t); exact rfl; exact by_ks)|((with_reducible apply CW.cond_f); exact rfl; exact by_ks)|((with_reducible apply q_block_miss); exact rfl)|(refine And.intro (show chk [] [] _ _ = true by kernel_rfl) ?_))
      rw [← hI]
      exact .one (.tmp rfl (.one (.d (.refl _))))
    · rw [h1, idxS] at hI
      by_cases h : x = s
      · rw [if_pos h] at hI
        have h' : s = x := h.symm
        repeat (first|((with_reducible apply s1); exact rfl)|(with_reducible first|apply CW.seq|apply CW.block|apply CW.region|apply CW.draw|apply CW.skip|apply CW.exit|apply CW.ret|apply q_then|apply q_then_exit|apply q_then_ret|apply q_block|apply q_block_ret|apply q_block_hit|apply q_ret|apply q_end|apply q_loop_exit|apply q_loop_ret|apply q_loopT_exit|apply q_loopT_ret|apply RW.nil)|((with_reducible apply s3); exact rfl; exact by_k)|((with_reducible apply s2); exact rfl; exact by_k)|((with_reducible apply s4); exact rfl)|((with_reducible apply s5); exact by_oa; exact by_g)|((with_reducible apply CW.cond_t); exact rfl; exact by_ks)|((with_reducible apply CW.cond_f); exact rfl; exact by_ks)|((with_reducible apply q_block_miss); exact rfl)|(refine And.intro (show chk [] [] _ _ = true by kernel_rfl) ?_))
        rw [← hI]
        exact .one (.tmp rfl (.one (.d (.refl _))))
      · rw [if_neg h] at hI
        have h' : ¬ s = x := fun e => h e.symm
        repeat (first|((with_reducible apply s1); exact rfl)|(with_reducible first|apply CW.seq|apply CW.block|apply CW.region|apply CW.draw|apply CW.skip|apply CW.exit|apply CW.ret|apply q_then|apply q_then_exit|apply q_then_ret|apply q_block|apply q_block_ret|apply q_block_hit|apply q_ret|apply q_end|apply q_loop_exit|apply q_loop_ret|apply q_loopT_exit|apply q_loopT_ret|apply RW.nil)|((with_reducible apply s3); exact rfl; exact by_k)|((with_reducible apply s2); exact rfl; exact by_k)|((with_reducible apply s4); exact rfl)|((with_reducible apply s5); exact by_oa; exact by_g)|((with_reducible apply CW.cond_t); exact rfl; exact by_ks)|((with_reducible apply CW.cond_f); exact rfl; exact by_ks)|((with_reducible apply q_block_miss); exact rfl)|(refine And.intro (show chk [] [] _ _ = true by kernel_rfl) ?_))
        refine q_loopT (t + 1) ⟨by omega, hI⟩ (by omega) ?_
        exact by_less
theorem ok_containsS (l : List Str) (s : Str) (hl : l.length ≤ 1073741824) : FnOk Tryz.prog 45 [.d (encStrs l), .d (dstr s)] (.one (dbool (isIn l s))) := by
  refine fnOk_of tbl_ok mixed_ok Tryz.func45 rfl (by kernel_rfl) rfl rfl fun w0 own0 => ?_
  have c1 := ok_indexS l s hl
  repeat (first|((with_reducible apply s1); exact rfl)|(with_reducible first|apply CW.seq|apply CW.block|apply CW.region|apply CW.draw|apply CW.skip|apply CW.exit|apply CW.ret|apply q_then|apply q_then_exit|apply q_then_ret|apply q_block|apply q_block_ret|apply q_block_hit|apply q_ret|apply q_end|apply q_loop_exit|apply q_loop_ret|apply q_loopT_exit|apply q_loopT_ret|apply RW.nil)|((with_reducible apply s3); exact rfl; exact by_k)|((with_reducible apply s2); exact rfl; exact by_k)|((with_reducible apply s4); exact rfl)|((with_reducible apply s5); (first|exact a_call c1 rfl by_sub|exact by_oa); exact by_g)|((with_reducible apply CW.cond_t); exact rfl; exact by_ks)|((with_reducible apply CW.cond_f); exact rfl; exact by_ks)|((with_reducible apply q_block_miss); exact rfl)|(refine And.intro (show chk [] [] _ _ = true by kernel_rfl) ?_))
  rw [← idxS_in (i := 0)]
  exact .one (.tmp rfl (.one (.d (.refl _))))

/-! ### Keys -/
end Go.Proofs.YtfaaghkgfbhglaaGreatDoor

/-! H9 -/
/-
  Contracts of the library's Split, Join, CutPrefix; of the program's number, words, fields.
-/
namespace Go.Proofs.YtfaaghkgfbhglaaGreatDoor
open Go.AX Go.RF Go.RowKit

set_option maxRecDepth 100000
set_option maxHeartbeats 8000000

theorem ok_lsplit (s sep : Str) (hs : s.length ≤ 1000000000) (hp : sep ≠ []) : FnOk Tryz.prog 10 [.d (dstr s), .d (dstr sep)] (.one (encStrs (split s sep))) := by
  refine ⟨⟨_, Tryz.func10, by kernel_rfl, by kernel_rfl⟩, fun w own vs hown ha => ?_⟩
  match vs, ha with
  | [x, y], ⟨h1, h2, _⟩ =>
    obtain rfl : x = str s := rd_v h1
    obtain rfl : y = str sep := rd_v h2
    obtain ⟨cs, hv, m, hm⟩ := hown.2.mx _ (show Tryz.prog.globalNamed "internal/bytealg.MaxLen" = some (Tryz.lays146_ren.g 1) by kernel_rfl)
    have hm' : w.cell? ⟨Tryz.lays146_ren.g 1, 0, none⟩ = some (.int .i64 m) := by rw [World.var?_cell (by kernel_rfl) hv 0]; exact hm
    have hl : 1 ≤ (⟨sep.toArray⟩ : ByteArray).size := by
      show 1 ≤ sep.toArray.size
      have := List.length_pos_iff.2 hp
      rw [List.size_toArray]; omega
    refine (Any.strings_Split Tryz.lays146 (by kernel_rfl) ⟨s.toArray⟩ ⟨sep.toArray⟩ m w (by show s.toArray.size < _; simp; omega) hm' hl).mono fun e w' he => ?_
    obtain ⟨rfl, rfl⟩ := he
    have hmap := Lib.splitB_data ⟨sep.toArray⟩ 0 (Lib.countB ⟨s.toArray⟩ ⟨sep.toArray⟩) ⟨s.toArray⟩
    have hlen := Lib.splitB_all ⟨sep.toArray⟩ hl 0 _ ⟨s.toArray⟩ rfl
    have hsp : (Lib.splitB ⟨sep.toArray⟩ 0 (Lib.countB ⟨s.toArray⟩ ⟨sep.toArray⟩) ⟨s.toArray⟩).map (·.data.toList) = split s sep := by
      rw [hmap, split_lib hp]; rfl
    generalize Lib.splitB ⟨sep.toArray⟩ 0 (Lib.countB ⟨s.toArray⟩ ⟨sep.toArray⟩) ⟨s.toArray⟩ = L at hsp hlen
    refine ⟨_, rfl, (Below.refl _ _).alloc (Nat.le_refl _) _, ?_⟩
    rw [← hlen]
    refine rd_new hown.1 ?_ (fun r hr => ?_) L.length ?_
    · have hfl : ((split s sep).map encStr1).flatten = (split s sep).map dstr := by
        induction split s sep with
        | nil => rfl
        | cons x l ih => simp [encStr1, ih]
      rw [hfl, ← hsp]
      refine ⟨by simp, fun c hc => ?_, fun j c x hj hc => ?_⟩
      · simp at hc
        obtain ⟨b, _, rfl⟩ := hc
        rfl
      · simp only [List.map_map, List.getElem?_map, Option.map_eq_some_iff] at hj hc
        obtain ⟨b, hb, rfl⟩ := hj
        obtain ⟨b', hb', rfl⟩ := hc
        rw [hb] at hb'
        cases hb'
        exact Rd.v _
    · obtain ⟨q, _, rfl⟩ := List.mem_map.1 hr
      rfl
    · rw [List.length_map, ← hsp, List.length_map]
theorem ok_join (l : List Str) (sep : Str) (hl : l.length ≤ 1000000) (hj : (joinS sep l).length ≤ 1000000) : FnOk Tryz.prog 23 [.d (encStrs l), .d (dstr sep)] (.one (dstr (joinS sep l))) := by
  refine ⟨⟨_, Tryz.func23, by kernel_rfl, by kernel_rfl⟩, fun w own vs hown ha => ?_⟩
  match vs, ha with
  | [x, y], ⟨h1, h2, _⟩ =>
    obtain rfl : y = str sep := rd_v h2
    have h1' : Rd w own x (.sl 1 (l.map encStr1)) := h1
    generalize hr : l.map encStr1 = rows at h1'
    generalize hd : D.sl 1 rows = dd at h1'
    cases h1' with
    | v => cases hd
    | x => cases hd
    | agg => cases hd
    | nil a cap k =>
      cases hd
      have : l = [] := by simpa using hr
      subst this
      refine (Any.strings_Join_none Tryz.lays156 Tryz.bld156 a cap ⟨sep.toArray⟩ w).mono fun e w' he => ?_
      obtain ⟨rfl, rfl⟩ := he
      exact ⟨_, rfl, Below.refl _ _, Rd.v _⟩
    | sl ad cap k rows' f hb hs hcap hk hc h3 hrd =>
      cases hd
      have hrl : rows.length = l.length := by rw [← hr, List.length_map]
      by_cases h0 : l = []
      · subst h0
        rw [show rows.length = 0 by rw [hrl]; rfl]
        refine (Any.strings_Join_none Tryz.lays156 Tryz.bld156 (some ad) cap ⟨sep.toArray⟩ w).mono fun e w' he => ?_
        obtain ⟨rfl, rfl⟩ := he
        exact ⟨_, rfl, Below.refl _ _, Rd.v _⟩
      have hcell : ∀ (j : Nat) (u : Str), l[j]? = some u → w.cell? (ad.add j) = some (str u) := fun j u hj => by
        have h4 : rows[j]? = some [dstr u] := by rw [← hr, List.getElem?_map, hj]; rfl
        have h5 := hc j 0 _ _ h4 rfl
        rw [Nat.mul_one, Nat.add_zero] at h5
        rw [h5, rd_v (hrd j 0 _ _ h4 rfl)]
      obtain ⟨u0, hu0⟩ : ∃ u, l[0]? = some u := by
        cases l with
        | nil => exact absurd rfl h0
        | cons u l => exact ⟨u, rfl⟩
      obtain ⟨bk, o, sp⟩ := ad
      have hsp : sp = none := by
        have h6 := hcell 0 u0 hu0
        rw [add_zero] at h6
        unfold World.cell? at h6
        split at h6
        · cases sp with
          | none => rfl
          | some q => simp at h6
        · cases h6
      subst hsp
      rw [hrl] at hcap ⊢
      have hjl : Lib.join ((l.map fun u : Str => (⟨u.toArray⟩ : ByteArray)).map (·.data.toList)) (⟨sep.toArray⟩ : ByteArray).data.toList = joinS sep l := by
        have hml : (l.map fun u : Str => (⟨u.toArray⟩ : ByteArray)).map (·.data.toList) = l := by rw [List.map_map]; exact (List.map_congr_left (fun u _ => rfl)).trans (List.map_id l)
        rw [hml, ← join_lib]
      have key := Any.strings_Join Tryz.lays156 Tryz.bld156 bk o cap (l.map fun u => ⟨u.toArray⟩) ⟨sep.toArray⟩ w (fun j b hj => by
        rw [List.getElem?_map] at hj
        cases hlj : l[j]? with
        | none => rw [hlj] at hj; cases hj
        | some u =>
          rw [hlj] at hj
          obtain rfl : (⟨u.toArray⟩ : ByteArray) = b := by simpa using hj
          have := hcell j u hlj
          rw [add_lit] at this
          exact this) hs (by simp; omega) (by simpa using hcap) (by rw [hjl]; omega)
      rw [hjl, List.length_map] at key
      refine key.mono fun e w' he => ?_
      obtain ⟨rfl, hb'⟩ := he
      exact ⟨_, rfl, hb', Rd.v _⟩
theorem ok_cutp (s p : Str) : FnOk Tryz.prog 29 [.d (dstr s), .d (dstr p)] (.tup [dstr (Lib.trimPrefix s p), dbool (Lib.hasPrefix s p)]) := by
  refine ⟨⟨_, Tryz.func29, by kernel_rfl, by kernel_rfl⟩, fun w own vs hown ha => ?_⟩
  match vs, ha with
  | [x, y], ⟨h1, h2, _⟩ =>
    obtain rfl : x = str s := rd_v h1
    obtain rfl : y = str p := rd_v h2
    refine (Any.strings_CutPrefix Tryz.lays103 ⟨s.toArray⟩ ⟨p.toArray⟩ w).mono fun e w' he => ?_
    obtain ⟨rfl, rfl⟩ := he
    exact ⟨_, rfl, Below.refl _ _, tup2 (Rd.v _) (Rd.v _)⟩
theorem ok_number (s : Str) (hs : s.length ≤ 1073741824) : FnOk Tryz.prog 30 [.d (dstr s)] (.tup [dint (atoiV s), dbool (numV s).isSome]) := by
  refine fnOk_of tbl_ok mixed_ok Tryz.func30 rfl (by kernel_rfl) rfl rfl fun w0 own0 => ?_
  have c1 := ok_atoiG s hs
  unfold atoiV atoiE at c1
  unfold atoiV numV
  cases hc : Lib.atoiAll s with
  | ok v =>
    rw [hc] at c1
    have hb := atoi_in hc
    have c2 := ok_itoaG v hb.1 hb.2
    dsimp only at c1 ⊢
    generalize Lib.itoa v = t at c2 ⊢
    by_cases hv : t = s
    · rw [if_pos hv]
      repeat (first|((with_reducible apply s1); exact rfl)|(with_reducible first|apply CW.seq|apply CW.block|apply CW.region|apply CW.draw|apply CW.skip|apply CW.exit|apply CW.ret|apply q_then|apply q_then_exit|apply q_then_ret|apply q_block|apply q_block_ret|apply q_block_hit|apply q_ret|apply q_end|apply q_loop_exit|apply q_loop_ret|apply q_loopT_exit|apply q_loopT_ret|apply RW.nil)|((with_reducible apply s3); exact rfl; exact by_k)|((with_reducible apply s2); exact rfl; exact by_k)|((with_reducible apply s4); exact rfl)|((with_reducible apply s5); (first|exact a_call c1 rfl by_sub|exact a_call c2 rfl by_sub|((with_reducible apply a_noerr); exact rfl; exact Tryz.underlying61; exact rfl)|exact by_oa); exact by_g)|((with_reducible apply CW.cond_t); exact rfl; exact by_ks)|((with_reducible apply CW.cond_f); exact rfl; exact by_ks)|((with_reducible apply q_block_miss); exact rfl)|(refine And.intro (show chk [] [] _ _ = true by kernel_rfl) ?_))
      exact .two (.tmp rfl (.one (.d (.refl _)))) (.tmp rfl (.one (.d (dle_bool (by simp [hv])))))
    · rw [if_neg hv]
      repeat (first|((with_reducible apply s1); exact rfl)|(with_reducible first|apply CW.seq|apply CW.block|apply CW.region|apply CW.draw|apply CW.skip|apply CW.exit|apply CW.ret|apply q_then|apply q_then_exit|apply q_then_ret|apply q_block|apply q_block_ret|apply q_block_hit|apply q_ret|apply q_end|apply q_loop_exit|apply q_loop_ret|apply q_loopT_exit|apply q_loopT_ret|apply RW.nil)|((with_reducible apply s3); exact rfl; exact by_k)|((with_reducible apply s2); exact rfl; exact by_k)|((with_reducible apply s4); exact rfl)|((with_reducible apply s5); (first|exact a_call c1 rfl by_sub|exact a_call c2 rfl by_sub|((with_reducible apply a_noerr); exact rfl; exact Tryz.underlying61; exact rfl)|exact by_oa); exact by_g)|((with_reducible apply CW.cond_t); exact rfl; exact by_ks)|((with_reducible apply CW.cond_f); exact rfl; exact by_ks)|((with_reducible apply q_block_miss); exact rfl)|(refine And.intro (show chk [] [] _ _ = true by kernel_rfl) ?_))
      exact .two (.tmp rfl (.one (.d (.refl _)))) (.tmp rfl (.one (.d (dle_bool (by simp [hv])))))
  | range =>
    rw [hc] at c1
    dsimp only at c1 ⊢
    generalize Lib.atoiSat s = q at c1 ⊢
    repeat (first|((with_reducible apply s1); exact rfl)|(with_reducible first|apply CW.seq|apply CW.block|apply CW.region|apply CW.draw|apply CW.skip|apply CW.exit|apply CW.ret|apply q_then|apply q_then_exit|apply q_then_ret|apply q_block|apply q_block_ret|apply q_block_hit|apply q_ret|apply q_end|apply q_loop_exit|apply q_loop_ret|apply q_loopT_exit|apply q_loopT_ret|apply RW.nil)|((with_reducible apply s3); exact rfl; exact by_k)|((with_reducible apply s2); exact rfl; exact by_k)|((with_reducible apply s4); exact rfl)|((with_reducible apply s5); (first|exact a_call c1 rfl by_sub|((with_reducible apply a_err); exact rfl; exact Tryz.underlying61; exact rfl)|exact by_oa); exact by_g)|((with_reducible apply CW.cond_t); exact rfl; exact by_ks)|((with_reducible apply CW.cond_f); exact rfl; exact by_ks)|((with_reducible apply q_block_miss); exact rfl)|(refine And.intro (show chk [] [] _ _ = true by kernel_rfl) ?_))
    exact .two (.tmp rfl (.one (.d (.refl _)))) (.tmp rfl (.one (.d (.refl _))))
  | _ =>
    rw [hc] at c1
    dsimp only at c1 ⊢
    repeat (first|((with_reducible apply s1); exact rfl)|(with_reducible first|apply CW.seq|apply CW.block|apply CW.region|apply CW.draw|apply CW.skip|apply CW.exit|apply CW.ret|apply q_then|apply q_then_exit|apply q_then_ret|apply q_block|apply q_block_ret|apply q_block_hit|apply q_ret|apply q_end|apply q_loop_exit|apply q_loop_ret|apply q_loopT_exit|apply q_loopT_ret|apply RW.nil)|((with_reducible apply s3); exact rfl; exact by_k)|((with_reducible apply s2); exact rfl; exact by_k)|((with_reducible apply s4); exact rfl)|((with_reducible apply s5); (first|exact a_call c1 rfl by_sub|((with_reducible apply a_err); exact rfl; exact Tryz.underlying61; exact rfl)|exact by_oa); exact by_g)|((with_reducible apply CW.cond_t); exact rfl; exact by_ks)|((with_reducible apply CW.cond_f); exact rfl; exact by_ks)|((with_reducible apply q_block_miss); exact rfl)|(refine And.intro (show chk [] [] _ _ = true by kernel_rfl) ?_))
    exact .two (.tmp rfl (.one (.d (.refl _)))) (.tmp rfl (.one (.d (.refl _))))
theorem ok_twords : FnOk Tryz.prog 24 [] (.one (encStrs words.tail)) := by
  refine fnOk_of tbl_ok mixed_ok Tryz.func24 rfl (by kernel_rfl) rfl rfl fun w0 own0 => ?_
  repeat (first|((with_reducible apply s5); ((with_reducible apply a_bs (words.tail.map encStr1)); (iterate 9 exact rfl); (repeat (first | exact PartsE.nil | (apply PartsE.cons; exact rfl; exact rfl)))); exact by_g)|((with_reducible apply s1); exact rfl)|(with_reducible first|apply CW.seq|apply CW.block|apply CW.region|apply CW.draw|apply CW.skip|apply CW.exit|apply CW.ret|apply q_then|apply q_then_exit|apply q_then_ret|apply q_block|apply q_block_ret|apply q_block_hit|apply q_ret|apply q_end|apply q_loop_exit|apply q_loop_ret|apply q_loopT_exit|apply q_loopT_ret|apply RW.nil)|((with_reducible apply s3); exact rfl; exact by_k)|((with_reducible apply s2); exact rfl; exact by_k)|((with_reducible apply s4); exact rfl)|((with_reducible apply s5); exact by_oa; exact by_g)|((with_reducible apply CW.cond_t); exact rfl; exact by_ks)|((with_reducible apply CW.cond_f); exact rfl; exact by_ks)|((with_reducible apply q_block_miss); exact rfl)|(refine And.intro (show chk [] [] _ _ = true by kernel_rfl) ?_))
  exact .one (.tmp rfl (.one (.d (.refl _))))
theorem fields_at {k : Nat} (h : k < 9) : forms.tail[k]? = some (form (k + 1)) := by
  have : ∀ k : Fin 9, forms.tail[k.val]? = some (form (k.val + 1)) := by decide
  exact this ⟨k, h⟩
theorem ok_fields (k : Nat) (h1 : 1 ≤ k) (h9 : k ≤ 9) : FnOk Tryz.prog 25 [.d (dint k)] (.one (dstr (form k))) := by
  refine fnOk_of tbl_ok mixed_ok Tryz.func25 rfl (by kernel_rfl) rfl rfl fun w0 own0 => ?_
  obtain ⟨j, rfl⟩ : ∃ j, k = j + 1 := ⟨k - 1, by omega⟩
  have h := fields_at (k := j) (by omega)
  have hx : ((j + 1 : Nat) : Int) - 1 = (j : Int) := by omega
  repeat (first|((with_reducible apply s5); ((with_reducible apply a_bs (forms.tail.map encStr1)); (iterate 9 exact rfl); (repeat (first | exact PartsE.nil | (apply PartsE.cons; exact rfl; exact rfl)))); exact by_g)|((with_reducible apply s1); exact rfl)|(with_reducible first|apply CW.seq|apply CW.block|apply CW.region|apply CW.draw|apply CW.skip|apply CW.exit|apply CW.ret|apply q_then|apply q_then_exit|apply q_then_ret|apply q_block|apply q_block_ret|apply q_block_hit|apply q_ret|apply q_end|apply q_loop_exit|apply q_loop_ret|apply q_loopT_exit|apply q_loopT_ret|apply RW.nil)|((with_reducible apply s3); exact rfl; exact by_k)|((with_reducible apply s2); exact rfl; exact by_k)|((with_reducible apply s4); exact rfl)|((with_reducible apply s5); (first|((with_reducible apply a_ia); (iterate 5 exact rfl); rw [hx]; exact idx_map h)|exact by_oa); exact by_g)|((with_reducible apply CW.cond_t); exact rfl; exact by_ks)|((with_reducible apply CW.cond_f); exact rfl; exact by_ks)|((with_reducible apply q_block_miss); exact rfl)|(refine And.intro (show chk [] [] _ _ = true by kernel_rfl) ?_))
  exact .one (.tmp rfl (.one (.d (.refl _))))

end Go.Proofs.YtfaaghkgfbhglaaGreatDoor

/-! H2 -/
/-
  Contract of the references' num, at small numbers as they are written.
-/
namespace Go.Proofs.YtfaaghkgfbhglaaGreatDoor
open Go.AX Go.RF Go.RowKit

set_option maxRecDepth 100000
set_option maxHeartbeats 4000000

theorem numV_ok {s : Str} {v : Int} (h : numV s = some v) : Lib.atoiAll s = .ok v ∧ Lib.itoa v = s := by
  unfold numV at h
  split at h
  · next x hx =>
    split at h
    · next hy => cases h; exact ⟨hx, hy⟩
    · cases h
  · cases h
end Go.Proofs.YtfaaghkgfbhglaaGreatDoor

/-! H3 -/
/-
  Contract of the references' Parse, at the text of a right deed whose numbers are small.
-/
namespace Go.Proofs.YtfaaghkgfbhglaaGreatDoor
open Go.AX Go.RF Go.RowKit

set_option maxRecDepth 100000
set_option maxHeartbeats 16000000

theorem splitF_part (sep : Str) : ∀ (n : Nat) (cur r : Str), ∀ p ∈ splitF sep n cur r, p.length ≤ cur.length + r.length
  | 0, cur, r => by simp [splitF]
  | n + 1, cur, r => by
    rw [splitF_succ]
    split
    · simp
    split
    · intro p hp
      rcases List.mem_cons.1 hp with rfl | hp
      · omega
      · have := splitF_part sep n [] _ p hp
        rw [List.length_nil, List.length_drop] at this
        omega
    cases r with
    | nil => simp
    | cons c t =>
      intro p hp
      have := splitF_part sep n _ _ p hp
      simp at this ⊢
      omega
theorem split_part {s sep : Str} {p : Str} (h : p ∈ split s sep) : p.length ≤ s.length := by
  have := splitF_part sep _ _ _ p h
  simpa using this
theorem split_len (s sep : Str) : (split s sep).length ≤ s.length + 1 := splitF_len sep _ _ _

end Go.Proofs.YtfaaghkgfbhglaaGreatDoor

/-! H7 -/
/-
  Contract of the references' Parse, at whatever text.
-/
namespace Go.Proofs.YtfaaghkgfbhglaaGreatDoor
open Go.AX Go.RF Go.RowKit

set_option maxRecDepth 100000
set_option maxHeartbeats 16000000

def noEnc : List D := [.v nilS, .v nilS, .v nilS]
theorem ok_no (e : Int) : FnOk Tryz.prog 14 [.d (dint e)] (.tup [.agg noEnc, dint e]) := by
  refine fnOk_of tbl_ok mixed_ok Tryz.func14 rfl (by kernel_rfl) rfl rfl fun w0 own0 => ?_
  repeat (first|((with_reducible apply s1); exact rfl)|(with_reducible first|apply CW.seq|apply CW.block|apply CW.region|apply CW.draw|apply CW.skip|apply CW.exit|apply CW.ret|apply q_then|apply q_then_exit|apply q_then_ret|apply q_block|apply q_block_ret|apply q_block_hit|apply q_ret|apply q_end|apply q_loop_exit|apply q_loop_ret|apply q_loopT_exit|apply q_loopT_ret|apply RW.nil)|((with_reducible apply s3); exact rfl; exact by_k)|((with_reducible apply s2); exact rfl; exact by_k)|((with_reducible apply s4); exact rfl)|((with_reducible apply s5); exact by_oa; exact by_g)|((with_reducible apply CW.cond_t); exact rfl; exact by_ks)|((with_reducible apply CW.cond_f); exact rfl; exact by_ks)|((with_reducible apply q_block_miss); exact rfl)|(refine And.intro (show chk [] [] _ _ = true by kernel_rfl) ?_))
  exact .two (.cell rfl rfl rfl rfl (.aggd (ds := noEnc) rfl (.refl _))) (.tmp rfl (.one (.d (.refl _))))
theorem no_le {s : Str} {e : Int} (h : parseE s = .error e) : DLe (.agg noEnc) (.agg (parseR s).1.enc) := by
  unfold parseR; rw [h]
  exact (DLes.cons (dle_nil 1) (.cons (dle_nil 1) (.cons (dle_nil 5) .nil))).agg
theorem er_le {s : Str} {e : Int} (h : parseE s = .error e) : DLe (dint e) (dint (parseR s).2) := by
  unfold parseR; rw [h]
  exact .refl _
theorem numV_atoi {u : Str} {n : Int} (h : numV u = some n) : atoiV u = n := by
  unfold atoiV; rw [(numV_ok h).1]
theorem split_cons (s sep : Str) : ∃ w r, split s sep = w :: r := by
  cases h : split s sep with
  | nil => exact absurd h (splitF_ne sep _ _ _)
  | cons w r => exact ⟨w, r, rfl⟩
theorem regV_none {u : Str} (h : regV u = none) : u = [] ∨ (∃ c r, u = c :: r ∧ c.toNat ≠ 114) ∨ ∃ r, u = 114 :: r ∧ numV r = none := by
  match u, h with
  | [], _ => exact .inl rfl
  | c :: r, h =>
    by_cases hc : c = 114
    · subst hc; exact .inr (.inr ⟨r, rfl, h⟩)
    · exact .inr (.inl ⟨c, r, rfl, fun e => hc (UInt8.toNat_inj.1 e)⟩)
theorem regV_some {u : Str} {x : Int} (h : regV u = some x) : ∃ r, u = 114 :: r ∧ numV r = some x := by
  match u, h with
  | [], h => simp [regV] at h
  | c :: r, h =>
    by_cases hc : c = 114
    · subst hc; exact ⟨r, rfl, h⟩
    · unfold regV at h
      split at h
      · next r' he => cases he; exact absurd rfl hc
      · cases h

theorem ok_parse (s : Str) (hbig : s.length ≤ 1073741000) : FnOk Tryz.prog 5 [.d (dstr s)] (.tup [.agg (parseR s).1.enc, dint (parseR s).2]) := by
  refine fnOk_of tbl_ok mixed_ok Tryz.func5 rfl (by kernel_rfl) rfl rfl fun w0 own0 => ?_
  by_cases hs : 400 < s.length
  · have hP : parseE s = .error 4 := by unfold parseE; rw [if_pos hs]
    have cn := ok_no 4
    repeat (first|((with_reducible apply s1); exact rfl)|(with_reducible first|apply CW.seq|apply CW.block|apply CW.region|apply CW.draw|apply CW.skip|apply CW.exit|apply CW.ret|apply q_then|apply q_then_exit|apply q_then_ret|apply q_block|apply q_block_ret|apply q_block_hit|apply q_ret|apply q_end|apply q_loop_exit|apply q_loop_ret|apply q_loopT_exit|apply q_loopT_ret|apply RW.nil)|((with_reducible apply s3); exact rfl; exact by_k)|((with_reducible apply s2); exact rfl; exact by_k)|((with_reducible apply s4); exact rfl)|((with_reducible apply s5); (first|exact a_callc cn rfl rfl by_sub|exact by_oa); exact by_g)|((with_reducible apply CW.cond_t); exact rfl; exact by_ks)|((with_reducible apply CW.cond_f); exact rfl; exact by_ks)|((with_reducible apply q_block_miss); exact rfl)|(refine And.intro (show chk [] [] _ _ = true by kernel_rfl) ?_))
    exact .two (.cell rfl rfl rfl rfl (.aggd rfl (no_le hP))) (.tmp rfl (.one (.d (er_le hP))))
  have c1 := ok_split s [59, 32] (by omega) (by simp) (by simp)
  have hsl := split_len s [59, 32]
  have hsp : ∀ p ∈ split s [59, 32], p.length ≤ 400 := fun p hp => Nat.le_trans (split_part hp) (by omega)
  by_cases h2 : (split s [59, 32]).length < 2
  · have hP : parseE s = .error 8 := by
      unfold parseE
      rw [if_neg hs]
      match split s [59, 32], h2 with
      | [], _ => rfl
      | [_], _ => rfl
      | _ :: _ :: _, h => simp at h; omega
    have cn := ok_no 8
    generalize split s [59, 32] = l at *
    repeat (first|((with_reducible apply s1); exact rfl)|(with_reducible first|apply CW.seq|apply CW.block|apply CW.region|apply CW.draw|apply CW.skip|apply CW.exit|apply CW.ret|apply q_then|apply q_then_exit|apply q_then_ret|apply q_block|apply q_block_ret|apply q_block_hit|apply q_ret|apply q_end|apply q_loop_exit|apply q_loop_ret|apply q_loopT_exit|apply q_loopT_ret|apply RW.nil)|((with_reducible apply s3); exact rfl; exact by_k)|((with_reducible apply s2); exact rfl; exact by_k)|((with_reducible apply s4); exact rfl)|((with_reducible apply s5); (first|exact a_call c1 rfl by_sub|exact a_callc cn rfl rfl by_sub|exact by_oa); exact by_g)|((with_reducible apply CW.cond_t); exact rfl; exact by_ks)|((with_reducible apply CW.cond_f); exact rfl; exact by_ks)|((with_reducible apply q_block_miss); exact rfl)|(refine And.intro (show chk [] [] _ _ = true by kernel_rfl) ?_))
    exact .two (.cell rfl rfl rfl rfl (.aggd rfl (no_le hP))) (.tmp rfl (.one (.d (er_le hP))))
  obtain ⟨p0, p1, ps, e0⟩ : ∃ p0 p1 ps, split s [59, 32] = p0 :: p1 :: ps := by
    match split s [59, 32], h2 with
    | [], h => simp at h
    | [_], h => simp at h
    | a :: b :: r, _ => exact ⟨a, b, r, rfl⟩
  obtain ⟨v0, rs, e1⟩ := split_cons p0 [32]
  obtain ⟨v1, ws, e2⟩ := split_cons p1 [32]
  have hPF := parseE_fin (by omega) e0 e1 e2
  have cn2 := ok_no 2
  generalize hl : split s [59, 32] = l at *
  have h2l : 2 ≤ l.length := by omega
  repeat (first|((with_reducible apply stop_at 8); exact rfl)|((with_reducible apply s1); exact rfl)|(with_reducible first|apply CW.seq|apply CW.block|apply CW.region|apply CW.draw|apply CW.skip|apply CW.exit|apply CW.ret|apply q_then|apply q_then_exit|apply q_then_ret|apply q_block|apply q_block_ret|apply q_block_hit|apply q_ret|apply q_end|apply q_loop_exit|apply q_loop_ret|apply q_loopT_exit|apply q_loopT_ret|apply RW.nil)|((with_reducible apply s3); exact rfl; exact by_k)|((with_reducible apply s2); exact rfl; exact by_k)|((with_reducible apply s4); exact rfl)|((with_reducible apply s5); (first|exact a_call c1 rfl by_sub|exact by_oa); exact by_g)|((with_reducible apply CW.cond_t); exact rfl; exact by_ks)|((with_reducible apply CW.cond_f); exact rfl; exact by_ks)|((with_reducible apply q_block_miss); exact rfl)|(refine And.intro (show chk [] [] _ _ = true by kernel_rfl) ?_))
  refine Stop.go (CW.stut (stut_promote_cell (id := 1) (j := 2) 35 5 rfl) ⟨rfl, rfl, trivial⟩ ?_)
  repeat (first|((with_reducible apply s1); exact rfl)|(with_reducible first|apply CW.seq|apply CW.block|apply CW.region|apply CW.draw|apply CW.skip|apply CW.exit|apply CW.ret|apply q_then|apply q_then_exit|apply q_then_ret|apply q_block|apply q_block_ret|apply q_block_hit|apply q_ret|apply q_end|apply q_loop_exit|apply q_loop_ret|apply q_loopT_exit|apply q_loopT_ret|apply RW.nil)|((with_reducible apply s3); exact rfl; exact by_k)|((with_reducible apply s2); exact rfl; exact by_k)|((with_reducible apply s4); exact rfl)|((with_reducible apply s5); exact by_oa; exact by_g)|((with_reducible apply CW.cond_t); exact rfl; exact by_ks)|((with_reducible apply CW.cond_f); exact rfl; exact by_ks)|((with_reducible apply q_block_miss); exact rfl)|(refine And.intro (show chk [] [] _ _ = true by kernel_rfl) ?_))
  refine CW.loopT (fun t : Nat × D × D × List Ins => [sp 2 0, ob 0 [.v nilS, .v nilS, .v nilS], sd 4 (.v (.func (.func 14) #[] #[])), sp 6 1, (.o 1, .ob (.box [.d t.2.1, .d t.2.2.1, .own 2 t.2.2.2.length])), oa 2 35 5 (t.2.2.2.map Ins.enc), sd 36 (encStrs l), sd 37 (dint l.length), sd 38 (dint t.1), nxt 3])
    (fun t => t.1 ≤ l.length ∧ (t.1 < 2 → t.2.2.2 = []) ∧ (1 ≤ t.1 → v0 = wReads ∧ t.2.1 = encStrs rs) ∧ (2 ≤ t.1 → v1 = wWrites ∧ t.2.2.1 = encStrs ws) ∧ t.2.2.2.length ≤ t.1 ∧ (2 ≤ t.1 → parseE s = finE rs ws t.2.2.2 (l.drop t.1))) (fun t => l.length - t.1) (0, .v nilS, .v nilS, [])
    ⟨by dsimp only; omega, fun _ => rfl, fun h => by dsimp only at h; omega, fun h => by dsimp only at h; omega, by simp, fun h => by dsimp only at h; omega⟩ ?_ ?_
  ·
    exact by_less
  · rintro ⟨x, R, W, code⟩ ⟨hx, hc0, hR, hW, hc, hF⟩
    dsimp only at hx hc0 hR hW hc hF ⊢
    rcases drop_case hx with ⟨h1, h2⟩ | ⟨p, h1, h2, h3⟩
    · obtain ⟨_, rfl⟩ := hR (by omega)
      obtain ⟨_, rfl⟩ := hW (by omega)
      have hF := hF (by omega)
      rw [h1] at hF
      unfold finE at hF
      simp only [codeE, List.append_nil] at hF
      have hrs : ∀ k ∈ rs, k.length ≤ 400 := fun k hk => Nat.le_trans (split_part (s := p0) (sep := [32]) (by rw [e1]; exact List.mem_cons_of_mem _ hk)) (hsp p0 (by rw [e0]; simp))
      have hws : ∀ k ∈ ws, k.length ≤ 400 := fun k hk => Nat.le_trans (split_part (s := p1) (sep := [32]) (by rw [e2]; exact List.mem_cons_of_mem _ hk)) (hsp p1 (by rw [e0]; simp))
      have hrl : rs.length ≤ 400 := by have := split_len p0 [32]; rw [e1] at this; have := hsp p0 (by rw [e0]; simp); simp at *; omega
      have hwl : ws.length ≤ 400 := by have := split_len p1 [32]; rw [e2] at this; have := hsp p1 (by rw [e0]; simp); simp at *; omega
      have cw := ok_wrongDeed ⟨rs, ws, code⟩ (by dsimp only; omega) (by dsimp only; omega) (by dsimp only; omega) (fun k hk => by have := hrs k hk; omega) (fun k hk => by have := hws k hk; omega)
      by_cases hw : wrongDeed ⟨rs, ws, code⟩ = 0
      · rw [if_pos hw] at hF
        rw [hw] at cw
        have hr : parseR s = (⟨rs, ws, code⟩, 0) := by unfold parseR; rw [hF]; rfl
        rw [hr]
        repeat (first|((with_reducible apply stop_at 52); exact rfl)|((with_reducible apply s1); exact rfl)|(with_reducible first|apply CW.seq|apply CW.block|apply CW.region|apply CW.draw|apply CW.skip|apply CW.exit|apply CW.ret|apply q_then|apply q_then_exit|apply q_then_ret|apply q_block|apply q_block_ret|apply q_block_hit|apply q_ret|apply q_end|apply q_loop_exit|apply q_loop_ret|apply q_loopT_exit|apply q_loopT_ret|apply RW.nil)|((with_reducible apply s3); exact rfl; exact by_k)|((with_reducible apply s2); exact rfl; exact by_k)|((with_reducible apply s4); exact rfl)|((with_reducible apply s5); exact by_oa; exact by_g)|((with_reducible apply CW.cond_t); exact rfl; exact by_ks)|((with_reducible apply CW.cond_f); exact rfl; exact by_ks)|((with_reducible apply q_block_miss); exact rfl)|(refine And.intro (show chk [] [] _ _ = true by kernel_rfl) ?_))
        refine Stop.go (CW.stut (stut_freeze_cell (id := 1) (j := 2) (i := 2) rfl (by simp)) ⟨rfl, rfl, trivial⟩ ?_)
        repeat (first|((with_reducible apply s1); exact rfl)|(with_reducible first|apply CW.seq|apply CW.block|apply CW.region|apply CW.draw|apply CW.skip|apply CW.exit|apply CW.ret|apply q_then|apply q_then_exit|apply q_then_ret|apply q_block|apply q_block_ret|apply q_block_hit|apply q_ret|apply q_end|apply q_loop_exit|apply q_loop_ret|apply q_loopT_exit|apply q_loopT_ret|apply RW.nil)|((with_reducible apply s3); exact rfl; exact by_k)|((with_reducible apply s2); exact rfl; exact by_k)|((with_reducible apply s4); exact rfl)|((with_reducible apply s5); (first|exact a_call cw rfl by_sub|exact by_oa); exact by_g)|((with_reducible apply CW.cond_t); exact rfl; exact by_ks)|((with_reducible apply CW.cond_f); exact rfl; exact by_ks)|((with_reducible apply q_block_miss); exact rfl)|(refine And.intro (show chk [] [] _ _ = true by kernel_rfl) ?_))
        exact .two (.cell rfl rfl rfl rfl (.aggd rfl (.refl _))) (.tmp rfl (.one (.d (.refl _))))
      · rw [if_neg hw] at hF
        have cn := ok_no (wrongDeed ⟨rs, ws, code⟩)
        generalize wrongDeed ⟨rs, ws, code⟩ = we at *
        repeat (first|((with_reducible apply stop_at 52); exact rfl)|((with_reducible apply s1); exact rfl)|(with_reducible first|apply CW.seq|apply CW.block|apply CW.region|apply CW.draw|apply CW.skip|apply CW.exit|apply CW.ret|apply q_then|apply q_then_exit|apply q_then_ret|apply q_block|apply q_block_ret|apply q_block_hit|apply q_ret|apply q_end|apply q_loop_exit|apply q_loop_ret|apply q_loopT_exit|apply q_loopT_ret|apply RW.nil)|((with_reducible apply s3); exact rfl; exact by_k)|((with_reducible apply s2); exact rfl; exact by_k)|((with_reducible apply s4); exact rfl)|((with_reducible apply s5); exact by_oa; exact by_g)|((with_reducible apply CW.cond_t); exact rfl; exact by_ks)|((with_reducible apply CW.cond_f); exact rfl; exact by_ks)|((with_reducible apply q_block_miss); exact rfl)|(refine And.intro (show chk [] [] _ _ = true by kernel_rfl) ?_))
        refine Stop.go (CW.stut (stut_freeze_cell (id := 1) (j := 2) (i := 2) rfl (by simp)) ⟨rfl, rfl, trivial⟩ ?_)
        repeat (first|((with_reducible apply s1); exact rfl)|(with_reducible first|apply CW.seq|apply CW.block|apply CW.region|apply CW.draw|apply CW.skip|apply CW.exit|apply CW.ret|apply q_then|apply q_then_exit|apply q_then_ret|apply q_block|apply q_block_ret|apply q_block_hit|apply q_ret|apply q_end|apply q_loop_exit|apply q_loop_ret|apply q_loopT_exit|apply q_loopT_ret|apply RW.nil)|((with_reducible apply s3); exact rfl; exact by_k)|((with_reducible apply s2); exact rfl; exact by_k)|((with_reducible apply s4); exact rfl)|((with_reducible apply s5); (first|exact a_call cw rfl by_sub|exact a_callc cn rfl rfl by_sub|exact by_oa); exact by_g)|((with_reducible apply CW.cond_t); exact rfl; exact by_ks)|((with_reducible apply CW.cond_f); exact rfl; exact by_ks)|((with_reducible apply q_block_miss); exact rfl)|(refine And.intro (show chk [] [] _ _ = true by kernel_rfl) ?_))
        exact .two (.cell rfl rfl rfl rfl (.aggd rfl (no_le hF))) (.tmp rfl (.one (.d (er_le hF))))
    · have hp : p ∈ l := List.mem_of_getElem? h2
      have hpl := hsp p hp
      have c2 := ok_split p [32] (by omega) (by simp) (by simp)
      by_cases hx0 : x = 0
      · subst hx0
        obtain rfl := hc0 (by omega)
        have h2' := h2
        rw [e0] at h2
        obtain rfl : p0 = p := by simpa using h2
        rw [e1] at c2
        have hrl : rs.length ≤ 400 := by have := split_len p0 [32]; rw [e1] at this; simp at *; omega
        have hw0 : (v0 :: rs)[0]? = some v0 := rfl
        have hn0 : ([wReads, wWrites] : List Str)[0]? = some wReads := rfl
        by_cases hv : v0 = wReads
        ·
          repeat (first|((with_reducible apply s5); ((with_reducible apply a_bs (([wReads, wWrites] : List Str).map encStr1)); (iterate 9 exact rfl); (repeat (first | exact PartsE.nil | (apply PartsE.cons; exact rfl; exact rfl)))); exact by_g)|((with_reducible apply s1); exact rfl)|(with_reducible first|apply CW.seq|apply CW.block|apply CW.region|apply CW.draw|apply CW.skip|apply CW.exit|apply CW.ret|apply q_then|apply q_then_exit|apply q_then_ret|apply q_block|apply q_block_ret|apply q_block_hit|apply q_ret|apply q_end|apply q_loop_exit|apply q_loop_ret|apply q_loopT_exit|apply q_loopT_ret|apply RW.nil)|((with_reducible apply s3); exact rfl; exact by_k)|((with_reducible apply s2); exact rfl; exact by_k)|((with_reducible apply s4); exact rfl)|((with_reducible apply s5); (first|exact a_call c2 rfl by_sub|exact by_oa); exact by_g)|((with_reducible apply CW.cond_t); exact rfl; exact by_ks)|((with_reducible apply CW.cond_f); exact rfl; exact by_ks)|((with_reducible apply q_block_miss); exact rfl)|(refine And.intro (show chk [] [] _ _ = true by kernel_rfl) ?_))
          refine q_loopT (1, encStrs rs, W, []) ⟨by dsimp only; omega, fun _ => rfl, fun _ => ⟨hv, rfl⟩, fun h => by dsimp only at h; omega, by simp, fun h => by dsimp only at h; omega⟩ (by dsimp only; omega) ?_
          exact by_less
        · have hP : parseE s = .error 2 := by rw [hPF, if_neg hv]
          repeat (first|((with_reducible apply s5); ((with_reducible apply a_bs (([wReads, wWrites] : List Str).map encStr1)); (iterate 9 exact rfl); (repeat (first | exact PartsE.nil | (apply PartsE.cons; exact rfl; exact rfl)))); exact by_g)|((with_reducible apply s1); exact rfl)|(with_reducible first|apply CW.seq|apply CW.block|apply CW.region|apply CW.draw|apply CW.skip|apply CW.exit|apply CW.ret|apply q_then|apply q_then_exit|apply q_then_ret|apply q_block|apply q_block_ret|apply q_block_hit|apply q_ret|apply q_end|apply q_loop_exit|apply q_loop_ret|apply q_loopT_exit|apply q_loopT_ret|apply RW.nil)|((with_reducible apply s3); exact rfl; exact by_k)|((with_reducible apply s2); exact rfl; exact by_k)|((with_reducible apply s4); exact rfl)|((with_reducible apply s5); (first|exact a_call c2 rfl by_sub|exact a_callc cn2 rfl rfl by_sub|exact by_oa); exact by_g)|((with_reducible apply CW.cond_t); exact rfl; exact by_ks)|((with_reducible apply CW.cond_f); exact rfl; exact by_ks)|((with_reducible apply q_block_miss); exact rfl)|(refine And.intro (show chk [] [] _ _ = true by kernel_rfl) ?_))
          exact .two (.cell rfl rfl rfl rfl (.aggd rfl (no_le hP))) (.tmp rfl (.one (.d (er_le hP))))
      by_cases hx1 : x = 1
      · subst hx1
        obtain rfl := hc0 (by omega)
        obtain ⟨hv0, hR⟩ := hR (by omega)
        have h2' := h2
        rw [e0] at h2
        obtain rfl : p1 = p := by simpa using h2
        rw [e2] at c2
        have hwl : ws.length ≤ 400 := by have := split_len p1 [32]; rw [e2] at this; simp at *; omega
        have hw0 : (v1 :: ws)[0]? = some v1 := rfl
        have hn0 : ([wReads, wWrites] : List Str)[1]? = some wWrites := rfl
        by_cases hv : v1 = wWrites
        ·
          repeat (first|((with_reducible apply s5); ((with_reducible apply a_bs (([wReads, wWrites] : List Str).map encStr1)); (iterate 9 exact rfl); (repeat (first | exact PartsE.nil | (apply PartsE.cons; exact rfl; exact rfl)))); exact by_g)|((with_reducible apply s1); exact rfl)|(with_reducible first|apply CW.seq|apply CW.block|apply CW.region|apply CW.draw|apply CW.skip|apply CW.exit|apply CW.ret|apply q_then|apply q_then_exit|apply q_then_ret|apply q_block|apply q_block_ret|apply q_block_hit|apply q_ret|apply q_end|apply q_loop_exit|apply q_loop_ret|apply q_loopT_exit|apply q_loopT_ret|apply RW.nil)|((with_reducible apply s3); exact rfl; exact by_k)|((with_reducible apply s2); exact rfl; exact by_k)|((with_reducible apply s4); exact rfl)|((with_reducible apply s5); (first|exact a_call c2 rfl by_sub|exact by_oa); exact by_g)|((with_reducible apply CW.cond_t); exact rfl; exact by_ks)|((with_reducible apply CW.cond_f); exact rfl; exact by_ks)|((with_reducible apply q_block_miss); exact rfl)|(refine And.intro (show chk [] [] _ _ = true by kernel_rfl) ?_))
          refine q_loopT (2, R, encStrs ws, []) ⟨by dsimp only; omega, fun h => by dsimp only at h; omega, fun _ => ⟨hv0, hR⟩, fun _ => ⟨hv, rfl⟩, by simp, fun _ => by rw [hPF, if_pos hv0, if_pos hv, e0]; rfl⟩ (by dsimp only; omega) ?_
          exact by_less
        · have hP : parseE s = .error 2 := by rw [hPF, if_pos hv0, if_neg hv]
          repeat (first|((with_reducible apply s5); ((with_reducible apply a_bs (([wReads, wWrites] : List Str).map encStr1)); (iterate 9 exact rfl); (repeat (first | exact PartsE.nil | (apply PartsE.cons; exact rfl; exact rfl)))); exact by_g)|((with_reducible apply s1); exact rfl)|(with_reducible first|apply CW.seq|apply CW.block|apply CW.region|apply CW.draw|apply CW.skip|apply CW.exit|apply CW.ret|apply q_then|apply q_then_exit|apply q_then_ret|apply q_block|apply q_block_ret|apply q_block_hit|apply q_ret|apply q_end|apply q_loop_exit|apply q_loop_ret|apply q_loopT_exit|apply q_loopT_ret|apply RW.nil)|((with_reducible apply s3); exact rfl; exact by_k)|((with_reducible apply s2); exact rfl; exact by_k)|((with_reducible apply s4); exact rfl)|((with_reducible apply s5); (first|exact a_call c2 rfl by_sub|exact a_callc cn2 rfl rfl by_sub|exact by_oa); exact by_g)|((with_reducible apply CW.cond_t); exact rfl; exact by_ks)|((with_reducible apply CW.cond_f); exact rfl; exact by_ks)|((with_reducible apply q_block_miss); exact rfl)|(refine And.intro (show chk [] [] _ _ = true by kernel_rfl) ?_))
          exact .two (.cell rfl rfl rfl rfl (.aggd rfl (no_le hP))) (.tmp rfl (.one (.d (er_le hP))))
      have hF := hF (by omega)
      rw [h1, finE_cons] at hF
      generalize hwds : split p [32] = wds at *
      obtain ⟨w, wz, rfl⟩ : ∃ w wz, wds = w :: wz := by
        obtain ⟨w, wz, h⟩ := split_cons p [32]
        exact ⟨w, wz, hwds.symm.trans h⟩
      have hwl : wz.length ≤ 400 := by have := split_len p [32]; rw [hwds] at this; simp at *; omega
      have cw := ok_words
      have hw0 : (w :: wz)[0]? = some w := rfl
      repeat (first|((with_reducible apply s1); exact rfl)|(with_reducible first|apply CW.seq|apply CW.block|apply CW.region|apply CW.draw|apply CW.skip|apply CW.exit|apply CW.ret|apply q_then|apply q_then_exit|apply q_then_ret|apply q_block|apply q_block_ret|apply q_block_hit|apply q_ret|apply q_end|apply q_loop_exit|apply q_loop_ret|apply q_loopT_exit|apply q_loopT_ret|apply RW.nil)|((with_reducible apply s3); exact rfl; exact by_k)|((with_reducible apply s2); exact rfl; exact by_k)|((with_reducible apply s4); exact rfl)|((with_reducible apply s5); (first|exact a_call c2 rfl by_sub|exact a_call cw rfl by_sub|exact by_oa); exact by_g)|((with_reducible apply CW.cond_t); exact rfl; exact by_ks)|((with_reducible apply CW.cond_f); exact rfl; exact by_ks)|((with_reducible apply q_block_miss); exact rfl)|(refine And.intro (show chk [] [] _ _ = true by kernel_rfl) ?_))
      refine CW.loopT (fun t : Nat × Int => [sp 2 0, ob 0 [.v nilS, .v nilS, .v nilS], sd 4 (.v (.func (.func 14) #[] #[])), sp 6 1, (.o 1, .ob (.box [.d R, .d W, .own 2 code.length])), oa 2 35 5 (code.map Ins.enc), sd 36 (encStrs l), sd 37 (dint l.length), sd 38 (dint x),
          sd 9 (encStrs (w :: wz)), sp 10 3, ob 3 [dint t.2, dint 0, dint 0, dint 0, dstr []], sd 68 (encStrs words), sd 69 (dint words.length), sd 70 (dint t.1), nxt 4])
        (fun t => t.1 ≤ words.length ∧ 0 ≤ t.2 ∧ t.2 < 10 ∧ kindGo w t.1 t.2 (words.drop t.1) = kindOf w) (fun t => words.length - t.1) (0, 0) ⟨by dsimp only; omega, by dsimp only; omega, by dsimp only; omega, rfl⟩ ?_ ?_
      ·
        exact by_less
      · rintro ⟨y, k⟩ ⟨hy, hk1, hk2, hK⟩
        dsimp only at hy hk1 hk2 hK ⊢
        have hwn : words.length = 10 := rfl
        rcases drop_case hy with ⟨g1, g2⟩ | ⟨u, g1, g2, g3⟩
        · rw [g1, kindGo] at hK
          subst hK
          obtain ⟨K, hKe⟩ := Int.eq_ofNat_of_zero_le hk1
          by_cases hk0 : kindOf w = 0
          · have hP : parseE s = .error 1 := by rw [hF]; simp only [insE]; rw [if_pos hk0]
            have cn1 := ok_no 1
            rw [hk0]
            repeat (first|((with_reducible apply s1); exact rfl)|(with_reducible first|apply CW.seq|apply CW.block|apply CW.region|apply CW.draw|apply CW.skip|apply CW.exit|apply CW.ret|apply q_then|apply q_then_exit|apply q_then_ret|apply q_block|apply q_block_ret|apply q_block_hit|apply q_ret|apply q_end|apply q_loop_exit|apply q_loop_ret|apply q_loopT_exit|apply q_loopT_ret|apply RW.nil)|((with_reducible apply s3); exact rfl; exact by_k)|((with_reducible apply s2); exact rfl; exact by_k)|((with_reducible apply s4); exact rfl)|((with_reducible apply s5); (first|exact a_callc cn1 rfl rfl by_sub|exact by_oa); exact by_g)|((with_reducible apply CW.cond_t); exact rfl; exact by_ks)|((with_reducible apply CW.cond_f); exact rfl; exact by_ks)|((with_reducible apply q_block_miss); exact rfl)|(refine And.intro (show chk [] [] _ _ = true by kernel_rfl) ?_))
            exact .two (.cell rfl rfl rfl rfl (.aggd rfl (no_le hP))) (.tmp rfl (.one (.d (er_le hP))))
          have hins := insE_fill (w := w) (ws := wz) hk0
          have hins2 : ¬ wz.length = (form (kindOf w).toNat).length → insE (w :: wz) = .error 2 := fun h => by simp only [insE]; rw [if_neg hk0, if_neg h]
          rw [hKe] at hins hins2 hk0 hk2 ⊢
          rw [Int.toNat_natCast] at hins hins2
          have cf := ok_form K (by omega)
          have hfl := form_len K
          generalize form K = f at *
          by_cases hlen : wz.length = f.length
          · have hins := hins hlen
            rw [hins] at hF
            obtain ⟨tg, htg⟩ : ∃ tg, fillI ⟨K, 0, 0, 0, []⟩ f wz = tg := ⟨_, rfl⟩
            rw [htg] at hF
            repeat (first|((with_reducible apply s1); exact rfl)|(with_reducible first|apply CW.seq|apply CW.block|apply CW.region|apply CW.draw|apply CW.skip|apply CW.exit|apply CW.ret|apply q_then|apply q_then_exit|apply q_then_ret|apply q_block|apply q_block_ret|apply q_block_hit|apply q_ret|apply q_end|apply q_loop_exit|apply q_loop_ret|apply q_loopT_exit|apply q_loopT_ret|apply RW.nil)|((with_reducible apply s3); exact rfl; exact by_k)|((with_reducible apply s2); exact rfl; exact by_k)|((with_reducible apply s4); exact rfl)|((with_reducible apply s5); (first|exact a_call cf rfl by_sub|exact by_oa); exact by_g)|((with_reducible apply CW.cond_t); exact rfl; exact by_ks)|((with_reducible apply CW.cond_f); exact rfl; exact by_ks)|((with_reducible apply q_block_miss); exact rfl)|(refine And.intro (show chk [] [] _ _ = true by kernel_rfl) ?_))
            refine CW.loopT (fun t : Nat × Ins => [sp 2 0, ob 0 [.v nilS, .v nilS, .v nilS], sd 4 (.v (.func (.func 14) #[] #[])), sp 6 1, (.o 1, .ob (.box [.d R, .d W, .own 2 code.length])), oa 2 35 5 (code.map Ins.enc), sd 36 (encStrs l), sd 37 (dint l.length), sd 38 (dint x),
                sd 9 (encStrs (w :: wz)), sp 10 3, ob 3 t.2.enc, sd 13 (dstr f), sd 108 (dint f.length), sd 109 (dint t.1), nxt 4])
              (fun t => t.1 ≤ f.length ∧ fillI t.2 (f.drop t.1) (wz.drop t.1) = tg) (fun t => f.length - t.1) (0, ⟨K, 0, 0, 0, []⟩) ⟨by dsimp only; omega, htg⟩ ?_ ?_
            ·
              exact by_less
            · rintro ⟨j, i⟩ ⟨hj, hI⟩
              dsimp only at hj hI ⊢
              rcases drop_case hj with ⟨b1, b2⟩ | ⟨c, b1, b2, b3⟩
              · rw [b1, fillI] at hI
                subst hI
                dsimp only at hF
                repeat (first|((with_reducible apply s1); exact rfl)|(with_reducible first|apply CW.seq|apply CW.block|apply CW.region|apply CW.draw|apply CW.skip|apply CW.exit|apply CW.ret|apply q_then|apply q_then_exit|apply q_then_ret|apply q_block|apply q_block_ret|apply q_block_hit|apply q_ret|apply q_end|apply q_loop_exit|apply q_loop_ret|apply q_loopT_exit|apply q_loopT_ret|apply RW.nil)|((with_reducible apply s3); exact rfl; exact by_k)|((with_reducible apply s2); exact rfl; exact by_k)|((with_reducible apply s4); exact rfl)|((with_reducible apply s5); exact by_oa; exact by_g)|((with_reducible apply CW.cond_t); exact rfl; exact by_ks)|((with_reducible apply CW.cond_f); exact rfl; exact by_ks)|((with_reducible apply q_block_miss); exact rfl)|(refine And.intro (show chk [] [] _ _ = true by kernel_rfl) ?_))
                refine q_loopT (x + 1, R, W, code ++ [i]) ⟨by dsimp only; omega, fun h => by dsimp only at h; omega, fun _ => hR (by omega), fun _ => hW (by omega), by dsimp only; simp; omega, fun _ => hF⟩ (by dsimp only; omega) ?_
                exact by_less
              · have hwj : j < wz.length := by omega
                have hwa : (w :: wz)[j + 1]? = some wz[j] := by simp [List.getElem?_eq_getElem hwj]
                rw [b1, List.drop_eq_getElem_cons hwj] at hI
                have hwjl : wz[j].length ≤ 400 := Nat.le_trans (split_part (s := p) (sep := [32]) (by rw [hwds]; exact List.mem_cons_of_mem _ (List.getElem_mem hwj))) hpl
                generalize wz[j] = u at hwa hI hwjl
                simp only [fillI] at hI
                have hcn : ∀ k : UInt8, c = k ↔ c.toNat = k.toNat := fun k => by rw [UInt8.toNat_inj]
                by_cases q1 : c = 107
                · rw [if_pos q1] at hI
                  have q1' : c.toNat = 107 := (hcn 107).1 q1
                  repeat (first|((with_reducible apply s1); exact rfl)|(with_reducible first|apply CW.seq|apply CW.block|apply CW.region|apply CW.draw|apply CW.skip|apply CW.exit|apply CW.ret|apply q_then|apply q_then_exit|apply q_then_ret|apply q_block|apply q_block_ret|apply q_block_hit|apply q_ret|apply q_end|apply q_loop_exit|apply q_loop_ret|apply q_loopT_exit|apply q_loopT_ret|apply RW.nil)|((with_reducible apply s3); exact rfl; exact by_k)|((with_reducible apply s2); exact rfl; exact by_k)|((with_reducible apply s4); exact rfl)|((with_reducible apply s5); exact by_oa; exact by_g)|((with_reducible apply CW.cond_t); exact rfl; exact by_ks)|((with_reducible apply CW.cond_f); exact rfl; exact by_ks)|((with_reducible apply q_block_miss); exact rfl)|(refine And.intro (show chk [] [] _ _ = true by kernel_rfl) ?_))
                  refine q_loopT (j + 1, { i with key := u }) ⟨by dsimp only; omega, hI⟩ (by dsimp only; omega) ?_
                  exact by_less
                rw [if_neg q1] at hI
                have q1' : c.toNat ≠ 107 := fun e => q1 ((hcn 107).2 e)
                by_cases q2 : c = 110
                · rw [if_pos q2] at hI
                  have q2' : c.toNat = 110 := (hcn 110).1 q2
                  have cm := ok_num u (by omega)
                  cases hn : numV u with
                  | some n =>
                    rw [hn] at hI cm
                    rw [numV_atoi hn] at cm
                    repeat (first|((with_reducible apply s1); exact rfl)|(with_reducible first|apply CW.seq|apply CW.block|apply CW.region|apply CW.draw|apply CW.skip|apply CW.exit|apply CW.ret|apply q_then|apply q_then_exit|apply q_then_ret|apply q_block|apply q_block_ret|apply q_block_hit|apply q_ret|apply q_end|apply q_loop_exit|apply q_loop_ret|apply q_loopT_exit|apply q_loopT_ret|apply RW.nil)|((with_reducible apply s3); exact rfl; exact by_k)|((with_reducible apply s2); exact rfl; exact by_k)|((with_reducible apply s4); exact rfl)|((with_reducible apply s5); (first|exact a_call cm rfl by_sub|exact by_oa); exact by_g)|((with_reducible apply CW.cond_t); exact rfl; exact by_ks)|((with_reducible apply CW.cond_f); exact rfl; exact by_ks)|((with_reducible apply q_block_miss); exact rfl)|(refine And.intro (show chk [] [] _ _ = true by kernel_rfl) ?_))
                    refine q_loopT (j + 1, { i with n := n }) ⟨by dsimp only; omega, hI⟩ (by dsimp only; omega) ?_
                    exact by_less
                  | none =>
                    rw [hn] at hI cm
                    dsimp only at hI
                    subst hI
                    generalize atoiV u = na at cm
                    repeat (first|((with_reducible apply s1); exact rfl)|(with_reducible first|apply CW.seq|apply CW.block|apply CW.region|apply CW.draw|apply CW.skip|apply CW.exit|apply CW.ret|apply q_then|apply q_then_exit|apply q_then_ret|apply q_block|apply q_block_ret|apply q_block_hit|apply q_ret|apply q_end|apply q_loop_exit|apply q_loop_ret|apply q_loopT_exit|apply q_loopT_ret|apply RW.nil)|((with_reducible apply s3); exact rfl; exact by_k)|((with_reducible apply s2); exact rfl; exact by_k)|((with_reducible apply s4); exact rfl)|((with_reducible apply s5); (first|exact a_call cm rfl by_sub|exact a_callc cn2 rfl rfl by_sub|exact by_oa); exact by_g)|((with_reducible apply CW.cond_t); exact rfl; exact by_ks)|((with_reducible apply CW.cond_f); exact rfl; exact by_ks)|((with_reducible apply q_block_miss); exact rfl)|(refine And.intro (show chk [] [] _ _ = true by kernel_rfl) ?_))
                    exact .two (.cell rfl rfl rfl rfl (.aggd rfl (no_le hF))) (.tmp rfl (.one (.d (er_le hF))))
                rw [if_neg q2] at hI
                have q2' : c.toNat ≠ 110 := fun e => q2 ((hcn 110).2 e)
                cases hrv : regV u with
                | some n =>
                  rw [hrv] at hI
                  dsimp only at hI
                  obtain ⟨r, rfl, q3⟩ := regV_some hrv
                  have cm := ok_num r (by simp at hwjl; omega)
                  rw [q3, numV_atoi q3] at cm
                  have hu0 : (114 :: r : Str)[0]? = some 114 := rfl
                  by_cases q4 : c = 114
                  · rw [if_pos q4] at hI
                    have q4' : c.toNat = 114 := (hcn 114).1 q4
                    repeat (first|((with_reducible apply s1); exact rfl)|(with_reducible first|apply CW.seq|apply CW.block|apply CW.region|apply CW.draw|apply CW.skip|apply CW.exit|apply CW.ret|apply q_then|apply q_then_exit|apply q_then_ret|apply q_block|apply q_block_ret|apply q_block_hit|apply q_ret|apply q_end|apply q_loop_exit|apply q_loop_ret|apply q_loopT_exit|apply q_loopT_ret|apply RW.nil)|((with_reducible apply s3); exact rfl; exact by_k)|((with_reducible apply s2); exact rfl; exact by_k)|((with_reducible apply s4); exact rfl)|((with_reducible apply s5); (first|exact a_call cm rfl by_sub|((with_reducible apply (a_is (k := 0))); (iterate 5 exact rfl); exact rfl)|((with_reducible apply (a_subF (l := 1))); (iterate 5 exact rfl); exact Nat.succ_le_succ (Nat.zero_le _))|exact by_oa); exact by_g)|((with_reducible apply CW.cond_t); exact rfl; exact by_ks)|((with_reducible apply CW.cond_f); exact rfl; exact by_ks)|((with_reducible apply q_block_miss); exact rfl)|(refine And.intro (show chk [] [] _ _ = true by kernel_rfl) ?_))
                    refine q_loopT (j + 1, { i with a := n }) ⟨by dsimp only; omega, hI⟩ (by dsimp only; omega) ?_
                    exact by_less
                  · rw [if_neg q4] at hI
                    have q4' : c.toNat ≠ 114 := fun e => q4 ((hcn 114).2 e)
                    repeat (first|((with_reducible apply s1); exact rfl)|(with_reducible first|apply CW.seq|apply CW.block|apply CW.region|apply CW.draw|apply CW.skip|apply CW.exit|apply CW.ret|apply q_then|apply q_then_exit|apply q_then_ret|apply q_block|apply q_block_ret|apply q_block_hit|apply q_ret|apply q_end|apply q_loop_exit|apply q_loop_ret|apply q_loopT_exit|apply q_loopT_ret|apply RW.nil)|((with_reducible apply s3); exact rfl; exact by_k)|((with_reducible apply s2); exact rfl; exact by_k)|((with_reducible apply s4); exact rfl)|((with_reducible apply s5); (first|exact a_call cm rfl by_sub|((with_reducible apply (a_is (k := 0))); (iterate 5 exact rfl); exact rfl)|((with_reducible apply (a_subF (l := 1))); (iterate 5 exact rfl); exact Nat.succ_le_succ (Nat.zero_le _))|exact by_oa); exact by_g)|((with_reducible apply CW.cond_t); exact rfl; exact by_ks)|((with_reducible apply CW.cond_f); exact rfl; exact by_ks)|((with_reducible apply q_block_miss); exact rfl)|(refine And.intro (show chk [] [] _ _ = true by kernel_rfl) ?_))
                    refine q_loopT (j + 1, { i with b := n }) ⟨by dsimp only; omega, hI⟩ (by dsimp only; omega) ?_
                    exact by_less
                | none =>
                  rw [hrv] at hI
                  dsimp only at hI
                  subst hI
                  rcases regV_none hrv with rfl | ⟨c0, r, rfl, q3⟩ | ⟨r, rfl, q3⟩
                  ·
                    repeat (first|((with_reducible apply s1); exact rfl)|(with_reducible first|apply CW.seq|apply CW.block|apply CW.region|apply CW.draw|apply CW.skip|apply CW.exit|apply CW.ret|apply q_then|apply q_then_exit|apply q_then_ret|apply q_block|apply q_block_ret|apply q_block_hit|apply q_ret|apply q_end|apply q_loop_exit|apply q_loop_ret|apply q_loopT_exit|apply q_loopT_ret|apply RW.nil)|((with_reducible apply s3); exact rfl; exact by_k)|((with_reducible apply s2); exact rfl; exact by_k)|((with_reducible apply s4); exact rfl)|((with_reducible apply s5); (first|exact a_callc cn2 rfl rfl by_sub|exact by_oa); exact by_g)|((with_reducible apply CW.cond_t); exact rfl; exact by_ks)|((with_reducible apply CW.cond_f); exact rfl; exact by_ks)|((with_reducible apply q_block_miss); exact rfl)|(refine And.intro (show chk [] [] _ _ = true by kernel_rfl) ?_))
                    exact .two (.cell rfl rfl rfl rfl (.aggd rfl (no_le hF))) (.tmp rfl (.one (.d (er_le hF))))
                  · have hu0 : (c0 :: r : Str)[0]? = some c0 := rfl
                    repeat (first|((with_reducible apply s1); exact rfl)|(with_reducible first|apply CW.seq|apply CW.block|apply CW.region|apply CW.draw|apply CW.skip|apply CW.exit|apply CW.ret|apply q_then|apply q_then_exit|apply q_then_ret|apply q_block|apply q_block_ret|apply q_block_hit|apply q_ret|apply q_end|apply q_loop_exit|apply q_loop_ret|apply q_loopT_exit|apply q_loopT_ret|apply RW.nil)|((with_reducible apply s3); exact rfl; exact by_k)|((with_reducible apply s2); exact rfl; exact by_k)|((with_reducible apply s4); exact rfl)|((with_reducible apply s5); (first|exact a_callc cn2 rfl rfl by_sub|((with_reducible apply (a_is (k := 0))); (iterate 5 exact rfl); exact rfl)|exact by_oa); exact by_g)|((with_reducible apply CW.cond_t); exact rfl; exact by_ks)|((with_reducible apply CW.cond_f); exact rfl; exact by_ks)|((with_reducible apply q_block_miss); exact rfl)|(refine And.intro (show chk [] [] _ _ = true by kernel_rfl) ?_))
                    exact .two (.cell rfl rfl rfl rfl (.aggd rfl (no_le hF))) (.tmp rfl (.one (.d (er_le hF))))
                  · have cm := ok_num r (by simp at hwjl; omega)
                    rw [q3] at cm
                    have hu0 : (114 :: r : Str)[0]? = some 114 := rfl
                    generalize atoiV r = na at cm
                    by_cases q4 : c = 114
                    · have q4' : c.toNat = 114 := (hcn 114).1 q4
                      repeat (first|((with_reducible apply s1); exact rfl)|(with_reducible first|apply CW.seq|apply CW.block|apply CW.region|apply CW.draw|apply CW.skip|apply CW.exit|apply CW.ret|apply q_then|apply q_then_exit|apply q_then_ret|apply q_block|apply q_block_ret|apply q_block_hit|apply q_ret|apply q_end|apply q_loop_exit|apply q_loop_ret|apply q_loopT_exit|apply q_loopT_ret|apply RW.nil)|((with_reducible apply s3); exact rfl; exact by_k)|((with_reducible apply s2); exact rfl; exact by_k)|((with_reducible apply s4); exact rfl)|((with_reducible apply s5); (first|exact a_call cm rfl by_sub|exact a_callc cn2 rfl rfl by_sub|((with_reducible apply (a_is (k := 0))); (iterate 5 exact rfl); exact rfl)|((with_reducible apply (a_subF (l := 1))); (iterate 5 exact rfl); exact Nat.succ_le_succ (Nat.zero_le _))|exact by_oa); exact by_g)|((with_reducible apply CW.cond_t); exact rfl; exact by_ks)|((with_reducible apply CW.cond_f); exact rfl; exact by_ks)|((with_reducible apply q_block_miss); exact rfl)|(refine And.intro (show chk [] [] _ _ = true by kernel_rfl) ?_))
                      exact .two (.cell rfl rfl rfl rfl (.aggd rfl (no_le hF))) (.tmp rfl (.one (.d (er_le hF))))
                    · have q4' : c.toNat ≠ 114 := fun e => q4 ((hcn 114).2 e)
                      repeat (first|((with_reducible apply s1); exact rfl)|(with_reducible first|apply CW.seq|apply CW.block|apply CW.region|apply CW.draw|apply CW.skip|apply CW.exit|apply CW.ret|apply q_then|apply q_then_exit|apply q_then_ret|apply q_block|apply q_block_ret|apply q_block_hit|apply q_ret|apply q_end|apply q_loop_exit|apply q_loop_ret|apply q_loopT_exit|apply q_loopT_ret|apply RW.nil)|((with_reducible apply s3); exact rfl; exact by_k)|((with_reducible apply s2); exact rfl; exact by_k)|((with_reducible apply s4); exact rfl)|((with_reducible apply s5); (first|exact a_call cm rfl by_sub|exact a_callc cn2 rfl rfl by_sub|((with_reducible apply (a_is (k := 0))); (iterate 5 exact rfl); exact rfl)|((with_reducible apply (a_subF (l := 1))); (iterate 5 exact rfl); exact Nat.succ_le_succ (Nat.zero_le _))|exact by_oa); exact by_g)|((with_reducible apply CW.cond_t); exact rfl; exact by_ks)|((with_reducible apply CW.cond_f); exact rfl; exact by_ks)|((with_reducible apply q_block_miss); exact rfl)|(refine And.intro (show chk [] [] _ _ = true by kernel_rfl) ?_))
                      exact .two (.cell rfl rfl rfl rfl (.aggd rfl (no_le hF))) (.tmp rfl (.one (.d (er_le hF))))
          · rw [hins2 hlen] at hF
            repeat (first|((with_reducible apply s1); exact rfl)|(with_reducible first|apply CW.seq|apply CW.block|apply CW.region|apply CW.draw|apply CW.skip|apply CW.exit|apply CW.ret|apply q_then|apply q_then_exit|apply q_then_ret|apply q_block|apply q_block_ret|apply q_block_hit|apply q_ret|apply q_end|apply q_loop_exit|apply q_loop_ret|apply q_loopT_exit|apply q_loopT_ret|apply RW.nil)|((with_reducible apply s3); exact rfl; exact by_k)|((with_reducible apply s2); exact rfl; exact by_k)|((with_reducible apply s4); exact rfl)|((with_reducible apply s5); (first|exact a_call cf rfl by_sub|exact a_callc cn2 rfl rfl by_sub|exact by_oa); exact by_g)|((with_reducible apply CW.cond_t); exact rfl; exact by_ks)|((with_reducible apply CW.cond_f); exact rfl; exact by_ks)|((with_reducible apply q_block_miss); exact rfl)|(refine And.intro (show chk [] [] _ _ = true by kernel_rfl) ?_))
            exact .two (.cell rfl rfl rfl rfl (.aggd rfl (no_le hF))) (.tmp rfl (.one (.d (er_le hF))))
        · rw [g1, kindGo] at hK
          by_cases hy0 : 0 < y
          · by_cases hu : u = w
            · rw [if_pos ⟨hy0, hu⟩] at hK
              repeat (first|((with_reducible apply s1); exact rfl)|(with_reducible first|apply CW.seq|apply CW.block|apply CW.region|apply CW.draw|apply CW.skip|apply CW.exit|apply CW.ret|apply q_then|apply q_then_exit|apply q_then_ret|apply q_block|apply q_block_ret|apply q_block_hit|apply q_ret|apply q_end|apply q_loop_exit|apply q_loop_ret|apply q_loopT_exit|apply q_loopT_ret|apply RW.nil)|((with_reducible apply s3); exact rfl; exact by_k)|((with_reducible apply s2); exact rfl; exact by_k)|((with_reducible apply s4); exact rfl)|((with_reducible apply s5); exact by_oa; exact by_g)|((with_reducible apply CW.cond_t); exact rfl; exact by_ks)|((with_reducible apply CW.cond_f); exact rfl; exact by_ks)|((with_reducible apply q_block_miss); exact rfl)|(refine And.intro (show chk [] [] _ _ = true by kernel_rfl) ?_))
              refine q_loopT (y + 1, (y : Int)) ⟨by dsimp only; omega, by dsimp only; omega, by dsimp only; omega, hK⟩ (by dsimp only; omega) ?_
              exact by_less
            · rw [if_neg (fun h => hu h.2)] at hK
              repeat (first|((with_reducible apply s1); exact rfl)|(with_reducible first|apply CW.seq|apply CW.block|apply CW.region|apply CW.draw|apply CW.skip|apply CW.exit|apply CW.ret|apply q_then|apply q_then_exit|apply q_then_ret|apply q_block|apply q_block_ret|apply q_block_hit|apply q_ret|apply q_end|apply q_loop_exit|apply q_loop_ret|apply q_loopT_exit|apply q_loopT_ret|apply RW.nil)|((with_reducible apply s3); exact rfl; exact by_k)|((with_reducible apply s2); exact rfl; exact by_k)|((with_reducible apply s4); exact rfl)|((with_reducible apply s5); exact by_oa; exact by_g)|((with_reducible apply CW.cond_t); exact rfl; exact by_ks)|((with_reducible apply CW.cond_f); exact rfl; exact by_ks)|((with_reducible apply q_block_miss); exact rfl)|(refine And.intro (show chk [] [] _ _ = true by kernel_rfl) ?_))
              refine q_loopT (y + 1, k) ⟨by dsimp only; omega, by dsimp only; omega, by dsimp only; omega, hK⟩ (by dsimp only; omega) ?_
              exact by_less
          · rw [if_neg (fun h => hy0 h.1)] at hK
            repeat (first|((with_reducible apply s1); exact rfl)|(with_reducible first|apply CW.seq|apply CW.block|apply CW.region|apply CW.draw|apply CW.skip|apply CW.exit|apply CW.ret|apply q_then|apply q_then_exit|apply q_then_ret|apply q_block|apply q_block_ret|apply q_block_hit|apply q_ret|apply q_end|apply q_loop_exit|apply q_loop_ret|apply q_loopT_exit|apply q_loopT_ret|apply RW.nil)|((with_reducible apply s3); exact rfl; exact by_k)|((with_reducible apply s2); exact rfl; exact by_k)|((with_reducible apply s4); exact rfl)|((with_reducible apply s5); exact by_oa; exact by_g)|((with_reducible apply CW.cond_t); exact rfl; exact by_ks)|((with_reducible apply CW.cond_f); exact rfl; exact by_ks)|((with_reducible apply q_block_miss); exact rfl)|(refine And.intro (show chk [] [] _ _ = true by kernel_rfl) ?_))
            refine q_loopT (y + 1, k) ⟨by dsimp only; omega, by dsimp only; omega, by dsimp only; omega, hK⟩ (by dsimp only; omega) ?_
            exact by_less

end Go.Proofs.YtfaaghkgfbhglaaGreatDoor
