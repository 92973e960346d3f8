/-
  Part 6 of what the claim leans on: ShTrim R3 G20 G21 G22 F4 L1 L14.
-/
import Derived.Test.YtembfadhnkabhaaGreatDoorK5
import Derived.Shelf.Strings.SlTrimAscii
import Derived.Test.YtembfadhnkabhaaGreatDoorProg

/-! ShTrim -/
/-
  The library's Trim, at this program's numbers (printed by tools/mklays.py 160).
-/
namespace Go.Proofs
open Go.Shelf Go.RowKit
set_option maxRecDepth 100000
noncomputable def Tryz.lays160_ren : Go.Shelf.Ren := ⟨fun | 119 => 155 | 120 => 147 | 137 => 154 | 151 => 136 | 152 => 146 | 160 => 107 | 197 => 135 | 217 => 160 | 224 => 156 | 225 => 157 | 227 => 121 | 228 => 134 | 231 => 119 | 232 => 120 | 233 => 122 | 234 => 123 | 235 => 124 | 236 => 125 | 260 => 145 | 266 => 161 | 271 => 137 | n => n, fun | 0 => 0 | 3 => 3 | 4 => 4 | 5 => 5 | 9 => 9 | 21 => 21 | 46 => 126 | 105 => 184 | 116 => 166 | 117 => 167 | 119 => 206 | 124 => 170 | 138 => 208 | 139 => 209 | n => n, fun | 3 => (Tryz.prog.globals.findIdx? (·.name == "unicode/utf8.first")).getD 0 | 4 => (Tryz.prog.globals.findIdx? (·.name == "unicode/utf8.acceptRanges")).getD 0 | n => n⟩
theorem Tryz.lays160 : Go.Proofs.Lays.n160 Tryz.prog Tryz.lays160_ren := {
  mixed := by kernel_rfl
  f119 := Tryz.func155.trans (congrArg some (by kernel_rfl))
  f120 := Tryz.func147.trans (congrArg some (by kernel_rfl))
  f137 := Tryz.func154.trans (congrArg some (by kernel_rfl))
  f151 := Tryz.func136.trans (congrArg some (by kernel_rfl))
  f152 := Tryz.func146.trans (congrArg some (by kernel_rfl))
  f160 := Tryz.func107.trans (congrArg some (by kernel_rfl))
  f197 := Tryz.func135.trans (congrArg some (by kernel_rfl))
  f217 := Tryz.func160.trans (congrArg some (by kernel_rfl))
  f224 := Tryz.func156.trans (congrArg some (by kernel_rfl))
  f225 := Tryz.func157.trans (congrArg some (by kernel_rfl))
  f227 := Tryz.func121.trans (congrArg some (by kernel_rfl))
  f228 := Tryz.func134.trans (congrArg some (by kernel_rfl))
  f231 := Tryz.func119.trans (congrArg some (by kernel_rfl))
  f232 := Tryz.func120.trans (congrArg some (by kernel_rfl))
  f233 := Tryz.func122.trans (congrArg some (by kernel_rfl))
  f234 := Tryz.func123.trans (congrArg some (by kernel_rfl))
  f235 := Tryz.func124.trans (congrArg some (by kernel_rfl))
  f236 := Tryz.func125.trans (congrArg some (by kernel_rfl))
  f260 := Tryz.func145.trans (congrArg some (by kernel_rfl))
  f266 := Tryz.func161.trans (congrArg some (by kernel_rfl))
  f271 := Tryz.func137.trans (congrArg some (by kernel_rfl))
  t0 := Tryz.underlying0
  a0 := Tryz.isAgg0
  z0 := Tryz.sizeOf0
  v0 := Tryz.zeroValue0
  t3 := Tryz.underlying3
  a3 := Tryz.isAgg3
  z3 := Tryz.sizeOf3
  v3 := Tryz.zeroValue3
  t4 := Tryz.underlying4
  a4 := Tryz.isAgg4
  z4 := Tryz.sizeOf4
  v4 := Tryz.zeroValue4
  t5 := Tryz.underlying5
  a5 := Tryz.isAgg5
  z5 := Tryz.sizeOf5
  v5 := Tryz.zeroValue5
  t9 := Tryz.underlying9
  a9 := Tryz.isAgg9
  z9 := Tryz.sizeOf9
  v9 := Tryz.zeroValue9
  t21 := Tryz.underlying21
  a21 := Tryz.isAgg21
  z21 := Tryz.sizeOf21
  v21 := Tryz.zeroValue21
  t46 := Tryz.underlying126
  a46 := Tryz.isAgg126
  z46 := Tryz.sizeOf126
  v46 := Tryz.zeroValue126
  t105 := Tryz.underlying184
  a105 := Tryz.isAgg184
  z105 := Tryz.sizeOf184
  v105 := Tryz.zeroValue184
  t116 := Tryz.underlying166
  a116 := Tryz.isAgg166
  z116 := Tryz.sizeOf166
  t117 := Tryz.underlying167
  a117 := Tryz.isAgg167
  z117 := Tryz.sizeOf167
  v117 := Tryz.zeroValue167
  t119 := Tryz.underlying206
  a119 := Tryz.isAgg206
  z119 := Tryz.sizeOf206
  t124 := Tryz.underlying170
  a124 := Tryz.isAgg170
  z124 := Tryz.sizeOf170
  v124 := Tryz.zeroValue170
  t138 := Tryz.underlying208
  a138 := Tryz.isAgg208
  z138 := Tryz.sizeOf208
  v138 := Tryz.zeroValue208
  t139 := Tryz.underlying209
  a139 := Tryz.isAgg209
  z139 := Tryz.sizeOf209
  v139 := Tryz.zeroValue209
  g3 := by kernel_rfl
  g4 := by kernel_rfl
  }
end Go.Proofs

/-! R3 -/
/-
  Contracts of the program's Key and Wrong of rows, and of the references' Round at whatever number.
-/
namespace Go.Proofs.YtembfadhnkabhaaGreatDoor
open Go.AX Go.RF Go.RowKit

set_option maxRecDepth 100000
set_option maxHeartbeats 8000000

theorem ok_trim (s : Str) (hs : s.length ≤ 1073741824) : FnOk Tryz.prog 107 [.d (dstr s), .d (dstr alpha)] (.one (dstr (Lib.trimS s alpha))) := by
  refine ⟨⟨_, Tryz.func107, by kernel_rfl, by kernel_rfl⟩, fun w own vs hown ha => ?_⟩
  match vs, ha with
  | [x, y], ⟨h1, h2, _⟩ =>
    obtain rfl : x = str s := rd_v h1
    obtain rfl : y = str alpha := rd_v h2
    refine (Any.strings_Trim_laid Tryz.lays160 (by kernel_rfl) ⟨s.toArray⟩ ⟨alpha.toArray⟩ w (by show s.toArray.size ≤ _; simp; omega) (by decide) (ascii_of_all (by decide))).mono fun e w' he => ?_
    obtain ⟨rfl, hb⟩ := he
    exact ⟨_, rfl, hb, Rd.v _⟩

theorem ok_pkey (s : Str) (hs : s.length ≤ 1073741824) : FnOk Tryz.prog 89 [.d (dstr s)] (.one (dbool (key s))) := by
  refine fnOk_of tbl_ok mixed_ok Tryz.func89 rfl (by kernel_rfl) rfl rfl fun w0 own0 => ?_
  have ht := ok_trim s hs
  rw [key_trim]
  by_cases h1 : 1 ≤ s.length
  · by_cases h2 : s.length ≤ 6
    ·
      repeat (first | ((with_reducible apply s1); exact rfl) | (with_reducible first | apply CW.seq | apply CW.block | apply CW.region | apply CW.draw | apply CW.skip | apply CW.exit | apply CW.ret | apply q_then | apply q_then_exit | apply q_then_ret | apply q_block | apply q_block_ret | apply q_block_hit | apply q_ret | apply q_end | apply q_loop_exit | apply q_loop_ret | apply q_loopT_exit | apply q_loopT_ret | apply RW.nil) | ((with_reducible apply s3); exact rfl; exact by_k) | ((with_reducible apply s2); exact rfl; exact by_k) | ((with_reducible apply s4); exact rfl) | ((with_reducible apply s5); (first | (focus ((with_reducible apply a_call); exact ht; exact rfl; (repeat (first | exact SubsE.nil | (apply SubsE.cons; exact rfl; (first | exact .d (.refl _) | exact .d (.nil _) | exact .agg rfl (.refl _) | exact .pd | exact .ptr rfl); (first | exact trivial | exact ⟨rfl, trivial⟩)))); done)) | exact by_oa); exact by_g) | ((with_reducible apply CW.cond_t); exact rfl; exact by_ks) | ((with_reducible apply CW.cond_f); exact rfl; exact by_ks) | ((with_reducible apply q_block_miss); exact rfl) | (refine And.intro (show chk [] [] _ _ = true by kernel_rfl) ?_))
      exact .one (.tmp rfl (.one (.d (dle_bool (by simp [h1, h2])))))
    ·
      repeat (first | ((with_reducible apply s1); exact rfl) | (with_reducible first | apply CW.seq | apply CW.block | apply CW.region | apply CW.draw | apply CW.skip | apply CW.exit | apply CW.ret | apply q_then | apply q_then_exit | apply q_then_ret | apply q_block | apply q_block_ret | apply q_block_hit | apply q_ret | apply q_end | apply q_loop_exit | apply q_loop_ret | apply q_loopT_exit | apply q_loopT_ret | apply RW.nil) | ((with_reducible apply s3); exact rfl; exact by_k) | ((with_reducible apply s2); exact rfl; exact by_k) | ((with_reducible apply s4); exact rfl) | ((with_reducible apply s5); (first | exact by_oa); exact by_g) | ((with_reducible apply CW.cond_t); exact rfl; exact by_ks) | ((with_reducible apply CW.cond_f); exact rfl; exact by_ks) | ((with_reducible apply q_block_miss); exact rfl) | (refine And.intro (show chk [] [] _ _ = true by kernel_rfl) ?_))
      exact .one (.tmp rfl (.one (.d (dle_bool (by simp [h2])))))
  ·
    repeat (first | ((with_reducible apply s1); exact rfl) | (with_reducible first | apply CW.seq | apply CW.block | apply CW.region | apply CW.draw | apply CW.skip | apply CW.exit | apply CW.ret | apply q_then | apply q_then_exit | apply q_then_ret | apply q_block | apply q_block_ret | apply q_block_hit | apply q_ret | apply q_end | apply q_loop_exit | apply q_loop_ret | apply q_loopT_exit | apply q_loopT_ret | apply RW.nil) | ((with_reducible apply s3); exact rfl; exact by_k) | ((with_reducible apply s2); exact rfl; exact by_k) | ((with_reducible apply s4); exact rfl) | ((with_reducible apply s5); (first | exact by_oa); exact by_g) | ((with_reducible apply CW.cond_t); exact rfl; exact by_ks) | ((with_reducible apply CW.cond_f); exact rfl; exact by_ks) | ((with_reducible apply q_block_miss); exact rfl) | (refine And.intro (show chk [] [] _ _ = true by kernel_rfl) ?_))
    exact .one (.tmp rfl (.one (.d (dle_bool (by simp [h1])))))

end Go.Proofs.YtembfadhnkabhaaGreatDoor

/-! G20 -/
/-
  Contracts of the program's Wrong of deeds.
-/
namespace Go.Proofs.YtembfadhnkabhaaGreatDoor
open Go.AX Go.RF

set_option maxRecDepth 100000
set_option maxHeartbeats 8000000

def regsN (k : Int) : Int := if k = 3 ∨ k = 4 ∨ k = 5 then 2 else if k = 7 then 0 else 1
def keyedB (k : Int) : Bool := decide (k = 1 ∨ k = 6 ∨ k = 7)
def loI (k : Int) : Int := if k = 2 then -1073741824 else if k = 8 then 1 else 0
def hiI (k m : Int) : Int := if k = 2 then 1073741824 else if k = 8 then m else 0
def outI (n lo hi a b x : Int) : Bool := decide (a < 0 ∨ 4 ≤ a ∨ (n < 1 ∧ a ≠ 0) ∨ b < 0 ∨ 4 ≤ b ∨ (n < 2 ∧ b ≠ 0) ∨ x < lo ∨ hi < x)
def pwrongIns (d : Deed) (m : Int) (i : Ins) : Int :=
  if i.kind < 1 ∨ 9 < i.kind then 1
  else if outI (regsN i.kind) (loI i.kind) (hiI i.kind m) i.a i.b i.n = true then 3
  else if keyedB i.kind = false ∧ i.key ≠ [] then 2
  else if (i.kind = 1 ∧ isIn d.reads i.key = false) ∨ (keyedB i.kind = true ∧ i.kind ≠ 1 ∧ isIn d.writes i.key = false) then 9 else 0

theorem pwrong_eq (d : Deed) (m : Int) (i : Ins) : pwrongIns d m i = wrongIns d m i := by
  unfold pwrongIns wrongIns
  by_cases h : i.kind < 1 ∨ 9 < i.kind
  · rw [if_pos h, if_pos h]
  rw [if_neg h, if_neg h]
  obtain ⟨kd, a, b, n, key⟩ := i
  dsimp only at h ⊢
  have hout : outI (regsN kd) (loI kd) (hiI kd m) a b n = insOut kd.toNat a b n m := by
    have hkd : kd = 1 ∨ kd = 2 ∨ kd = 3 ∨ kd = 4 ∨ kd = 5 ∨ kd = 6 ∨ kd = 7 ∨ kd = 8 ∨ kd = 9 := by omega
    unfold outI insOut
    rw [Bool.eq_iff_iff]
    simp only [Bool.or_eq_true, decide_eq_true_eq]
    rcases hkd with rfl | rfl | rfl | rfl | rfl | rfl | rfl | rfl | rfl
    · rw [show regsN 1 = 1 from rfl, show loI 1 = 0 from rfl, show hiI 1 m = 0 from rfl, show insA (Int.toNat 1) = 3 from rfl, show insB (Int.toNat 1) = 0 from rfl, show insLow (Int.toNat 1) = 0 from rfl, show insHigh (Int.toNat 1) m = 0 from rfl]
      omega
    · rw [show regsN 2 = 1 from rfl, show loI 2 = -1073741824 from rfl, show hiI 2 m = 1073741824 from rfl, show insA (Int.toNat 2) = 3 from rfl, show insB (Int.toNat 2) = 0 from rfl, show insLow (Int.toNat 2) = -1073741824 from rfl, show insHigh (Int.toNat 2) m = 1073741824 from rfl]
      omega
    · rw [show regsN 3 = 2 from rfl, show loI 3 = 0 from rfl, show hiI 3 m = 0 from rfl, show insA (Int.toNat 3) = 3 from rfl, show insB (Int.toNat 3) = 3 from rfl, show insLow (Int.toNat 3) = 0 from rfl, show insHigh (Int.toNat 3) m = 0 from rfl]
      omega
    · rw [show regsN 4 = 2 from rfl, show loI 4 = 0 from rfl, show hiI 4 m = 0 from rfl, show insA (Int.toNat 4) = 3 from rfl, show insB (Int.toNat 4) = 3 from rfl, show insLow (Int.toNat 4) = 0 from rfl, show insHigh (Int.toNat 4) m = 0 from rfl]
      omega
    · rw [show regsN 5 = 2 from rfl, show loI 5 = 0 from rfl, show hiI 5 m = 0 from rfl, show insA (Int.toNat 5) = 3 from rfl, show insB (Int.toNat 5) = 3 from rfl, show insLow (Int.toNat 5) = 0 from rfl, show insHigh (Int.toNat 5) m = 0 from rfl]
      omega
    · rw [show regsN 6 = 1 from rfl, show loI 6 = 0 from rfl, show hiI 6 m = 0 from rfl, show insA (Int.toNat 6) = 3 from rfl, show insB (Int.toNat 6) = 0 from rfl, show insLow (Int.toNat 6) = 0 from rfl, show insHigh (Int.toNat 6) m = 0 from rfl]
      omega
    · rw [show regsN 7 = 0 from rfl, show loI 7 = 0 from rfl, show hiI 7 m = 0 from rfl, show insA (Int.toNat 7) = 0 from rfl, show insB (Int.toNat 7) = 0 from rfl, show insLow (Int.toNat 7) = 0 from rfl, show insHigh (Int.toNat 7) m = 0 from rfl]
      omega
    · rw [show regsN 8 = 1 from rfl, show loI 8 = 1 from rfl, show hiI 8 m = m from rfl, show insA (Int.toNat 8) = 3 from rfl, show insB (Int.toNat 8) = 0 from rfl, show insLow (Int.toNat 8) = 1 from rfl, show insHigh (Int.toNat 8) m = m from rfl]
      omega
    · rw [show regsN 9 = 1 from rfl, show loI 9 = 0 from rfl, show hiI 9 m = 0 from rfl, show insA (Int.toNat 9) = 3 from rfl, show insB (Int.toNat 9) = 0 from rfl, show insLow (Int.toNat 9) = 0 from rfl, show insHigh (Int.toNat 9) m = 0 from rfl]
      omega
  rw [hout]
  split
  · rfl
  have hkd : kd = 1 ∨ kd = 2 ∨ kd = 3 ∨ kd = 4 ∨ kd = 5 ∨ kd = 6 ∨ kd = 7 ∨ kd = 8 ∨ kd = 9 := by omega
  have hk9 : has kd.toNat 107 = keyedB kd := by rcases hkd with rfl | rfl | rfl | rfl | rfl | rfl | rfl | rfl | rfl <;> decide
  rw [hk9]
  cases hkb : keyedB kd with
  | false =>
    have h1 : ¬ kd = 1 := fun e => by subst e; cases hkb
    by_cases hk0 : key = []
    · simp [hk0, h1]
    · simp [hk0]
  | true =>
    simp only [Bool.true_eq_false, false_and, if_false, true_and]
    by_cases h1 : kd = 1
    · simp only [h1, if_true, ne_eq, not_true_eq_false, false_and, or_false, true_and]
      cases isIn d.reads key <;> rfl
    · simp only [h1, if_false, false_and, ne_eq, not_false_eq_true, true_and, false_or]
      cases isIn d.writes key <;> rfl

theorem ok_regs (k : Int) : FnOk Tryz.prog 90 [.d (dint k)] (.one (dint (regsN k))) := by
  refine fnOk_of tbl_ok mixed_ok Tryz.func90 rfl (by kernel_rfl) rfl rfl fun w0 own0 => ?_
  unfold regsN
  by_cases h3 : k = 3
  · rw [if_pos (.inl h3)]
    repeat (first | ((with_reducible apply s1); exact rfl) | (with_reducible first | apply CW.seq | apply CW.block | apply CW.region | apply CW.draw | apply CW.skip | apply CW.exit | apply CW.ret | apply q_then | apply q_then_exit | apply q_then_ret | apply q_block | apply q_block_ret | apply q_block_hit | apply q_ret | apply q_end | apply q_loop_exit | apply q_loop_ret | apply q_loopT_exit | apply q_loopT_ret | apply RW.nil) | ((with_reducible apply s3); exact rfl; exact by_k) | ((with_reducible apply s2); exact rfl; exact by_k) | ((with_reducible apply s4); exact rfl) | ((with_reducible apply s5); (first | exact by_oa); exact by_g) | ((with_reducible apply CW.cond_t); exact rfl; exact by_ks) | ((with_reducible apply CW.cond_f); exact rfl; exact by_ks) | ((with_reducible apply q_block_miss); exact rfl) | (refine And.intro (show chk [] [] _ _ = true by kernel_rfl) ?_))
    exact .one (.tmp rfl (.one (.d (.refl _))))
  by_cases h4 : k = 4
  · rw [if_pos (.inr (.inl h4))]
    repeat (first | ((with_reducible apply s1); exact rfl) | (with_reducible first | apply CW.seq | apply CW.block | apply CW.region | apply CW.draw | apply CW.skip | apply CW.exit | apply CW.ret | apply q_then | apply q_then_exit | apply q_then_ret | apply q_block | apply q_block_ret | apply q_block_hit | apply q_ret | apply q_end | apply q_loop_exit | apply q_loop_ret | apply q_loopT_exit | apply q_loopT_ret | apply RW.nil) | ((with_reducible apply s3); exact rfl; exact by_k) | ((with_reducible apply s2); exact rfl; exact by_k) | ((with_reducible apply s4); exact rfl) | ((with_reducible apply s5); (first | exact by_oa); exact by_g) | ((with_reducible apply CW.cond_t); exact rfl; exact by_ks) | ((with_reducible apply CW.cond_f); exact rfl; exact by_ks) | ((with_reducible apply q_block_miss); exact rfl) | (refine And.intro (show chk [] [] _ _ = true by kernel_rfl) ?_))
    exact .one (.tmp rfl (.one (.d (.refl _))))
  by_cases h5 : k = 5
  · rw [if_pos (.inr (.inr h5))]
    repeat (first | ((with_reducible apply s1); exact rfl) | (with_reducible first | apply CW.seq | apply CW.block | apply CW.region | apply CW.draw | apply CW.skip | apply CW.exit | apply CW.ret | apply q_then | apply q_then_exit | apply q_then_ret | apply q_block | apply q_block_ret | apply q_block_hit | apply q_ret | apply q_end | apply q_loop_exit | apply q_loop_ret | apply q_loopT_exit | apply q_loopT_ret | apply RW.nil) | ((with_reducible apply s3); exact rfl; exact by_k) | ((with_reducible apply s2); exact rfl; exact by_k) | ((with_reducible apply s4); exact rfl) | ((with_reducible apply s5); (first | exact by_oa); exact by_g) | ((with_reducible apply CW.cond_t); exact rfl; exact by_ks) | ((with_reducible apply CW.cond_f); exact rfl; exact by_ks) | ((with_reducible apply q_block_miss); exact rfl) | (refine And.intro (show chk [] [] _ _ = true by kernel_rfl) ?_))
    exact .one (.tmp rfl (.one (.d (.refl _))))
  rw [if_neg (by omega)]
  by_cases h7 : k = 7
  · rw [if_pos h7]
    repeat (first | ((with_reducible apply s1); exact rfl) | (with_reducible first | apply CW.seq | apply CW.block | apply CW.region | apply CW.draw | apply CW.skip | apply CW.exit | apply CW.ret | apply q_then | apply q_then_exit | apply q_then_ret | apply q_block | apply q_block_ret | apply q_block_hit | apply q_ret | apply q_end | apply q_loop_exit | apply q_loop_ret | apply q_loopT_exit | apply q_loopT_ret | apply RW.nil) | ((with_reducible apply s3); exact rfl; exact by_k) | ((with_reducible apply s2); exact rfl; exact by_k) | ((with_reducible apply s4); exact rfl) | ((with_reducible apply s5); (first | exact by_oa); exact by_g) | ((with_reducible apply CW.cond_t); exact rfl; exact by_ks) | ((with_reducible apply CW.cond_f); exact rfl; exact by_ks) | ((with_reducible apply q_block_miss); exact rfl) | (refine And.intro (show chk [] [] _ _ = true by kernel_rfl) ?_))
    exact .one (.tmp rfl (.one (.d (.refl _))))
  · rw [if_neg h7]
    repeat (first | ((with_reducible apply s1); exact rfl) | (with_reducible first | apply CW.seq | apply CW.block | apply CW.region | apply CW.draw | apply CW.skip | apply CW.exit | apply CW.ret | apply q_then | apply q_then_exit | apply q_then_ret | apply q_block | apply q_block_ret | apply q_block_hit | apply q_ret | apply q_end | apply q_loop_exit | apply q_loop_ret | apply q_loopT_exit | apply q_loopT_ret | apply RW.nil) | ((with_reducible apply s3); exact rfl; exact by_k) | ((with_reducible apply s2); exact rfl; exact by_k) | ((with_reducible apply s4); exact rfl) | ((with_reducible apply s5); (first | exact by_oa); exact by_g) | ((with_reducible apply CW.cond_t); exact rfl; exact by_ks) | ((with_reducible apply CW.cond_f); exact rfl; exact by_ks) | ((with_reducible apply q_block_miss); exact rfl) | (refine And.intro (show chk [] [] _ _ = true by kernel_rfl) ?_))
    exact .one (.tmp rfl (.one (.d (.refl _))))

theorem ok_instr (d : Deed) (i : Ins) (m : Int) (hr : d.reads.length ≤ 268435456) (hw : d.writes.length ≤ 268435456) :
    FnOk Tryz.prog 72 [.pd d.enc, .d (.agg i.enc), .d (dint m)] (.one (dint (wrongIns d m i))) := by
  refine fnOk_of tbl_ok mixed_ok Tryz.func72 rfl (by kernel_rfl) rfl rfl fun w0 own0 => ?_
  rw [← pwrong_eq]
  have cr := ok_regs i.kind
  have c1 := ok_containsS d.reads i.key (by omega)
  have c2 := ok_containsS d.writes i.key (by omega)
  repeat (first | (with_reducible apply stop_reg 1) | ((with_reducible apply s1); exact rfl) | (with_reducible first | apply CW.seq | apply CW.block | apply CW.region | apply CW.draw | apply CW.skip | apply CW.exit | apply CW.ret | apply q_then | apply q_then_exit | apply q_then_ret | apply q_block | apply q_block_ret | apply q_block_hit | apply q_ret | apply q_end | apply q_loop_exit | apply q_loop_ret | apply q_loopT_exit | apply q_loopT_ret | apply RW.nil) | ((with_reducible apply s3); exact rfl; exact by_k) | ((with_reducible apply s2); exact rfl; exact by_k) | ((with_reducible apply s4); exact rfl) | ((with_reducible apply s5); (first | exact by_oa); exact by_g) | ((with_reducible apply CW.cond_t); exact rfl; exact by_ks) | ((with_reducible apply CW.cond_f); exact rfl; exact by_ks) | ((with_reducible apply q_block_miss); exact rfl) | (refine And.intro (show chk [] [] _ _ = true by kernel_rfl) ?_))
  refine Stop.cutk [sd 7 (dbool (keyedB i.kind))] [.s 0, .s 2, .s 4, .o 0, .nx] ?_ ?_
  · by_cases h1 : i.kind = 1
    · rw [show keyedB i.kind = true from decide_eq_true (.inl h1)]
      repeat (first | ((with_reducible apply s1); exact rfl) | (with_reducible first | apply CW.seq | apply CW.block | apply CW.region | apply CW.draw | apply CW.skip | apply CW.exit | apply CW.ret | apply q_then | apply q_then_exit | apply q_then_ret | apply q_block | apply q_block_ret | apply q_block_hit | apply q_ret | apply q_end | apply q_loop_exit | apply q_loop_ret | apply q_loopT_exit | apply q_loopT_ret | apply RW.nil) | ((with_reducible apply s3); exact rfl; exact by_k) | ((with_reducible apply s2); exact rfl; exact by_k) | ((with_reducible apply s4); exact rfl) | ((with_reducible apply s5); (first | exact by_oa); exact by_g) | ((with_reducible apply CW.cond_t); exact rfl; exact by_ks) | ((with_reducible apply CW.cond_f); exact rfl; exact by_ks) | ((with_reducible apply q_block_miss); exact rfl) | (refine And.intro (show chk [] [] _ _ = true by kernel_rfl) ?_))
      refine q_cut ?_
      exact by_less
    by_cases h6 : i.kind = 6
    · rw [show keyedB i.kind = true from decide_eq_true (.inr (.inl h6))]
      repeat (first | ((with_reducible apply s1); exact rfl) | (with_reducible first | apply CW.seq | apply CW.block | apply CW.region | apply CW.draw | apply CW.skip | apply CW.exit | apply CW.ret | apply q_then | apply q_then_exit | apply q_then_ret | apply q_block | apply q_block_ret | apply q_block_hit | apply q_ret | apply q_end | apply q_loop_exit | apply q_loop_ret | apply q_loopT_exit | apply q_loopT_ret | apply RW.nil) | ((with_reducible apply s3); exact rfl; exact by_k) | ((with_reducible apply s2); exact rfl; exact by_k) | ((with_reducible apply s4); exact rfl) | ((with_reducible apply s5); (first | exact by_oa); exact by_g) | ((with_reducible apply CW.cond_t); exact rfl; exact by_ks) | ((with_reducible apply CW.cond_f); exact rfl; exact by_ks) | ((with_reducible apply q_block_miss); exact rfl) | (refine And.intro (show chk [] [] _ _ = true by kernel_rfl) ?_))
      refine q_cut ?_
      exact by_less
    by_cases h7 : i.kind = 7
    · rw [show keyedB i.kind = true from decide_eq_true (.inr (.inr h7))]
      repeat (first | ((with_reducible apply s1); exact rfl) | (with_reducible first | apply CW.seq | apply CW.block | apply CW.region | apply CW.draw | apply CW.skip | apply CW.exit | apply CW.ret | apply q_then | apply q_then_exit | apply q_then_ret | apply q_block | apply q_block_ret | apply q_block_hit | apply q_ret | apply q_end | apply q_loop_exit | apply q_loop_ret | apply q_loopT_exit | apply q_loopT_ret | apply RW.nil) | ((with_reducible apply s3); exact rfl; exact by_k) | ((with_reducible apply s2); exact rfl; exact by_k) | ((with_reducible apply s4); exact rfl) | ((with_reducible apply s5); (first | exact by_oa); exact by_g) | ((with_reducible apply CW.cond_t); exact rfl; exact by_ks) | ((with_reducible apply CW.cond_f); exact rfl; exact by_ks) | ((with_reducible apply q_block_miss); exact rfl) | (refine And.intro (show chk [] [] _ _ = true by kernel_rfl) ?_))
      refine q_cut ?_
      exact by_less
    · rw [show keyedB i.kind = false from decide_eq_false (by omega)]
      repeat (first | ((with_reducible apply s1); exact rfl) | (with_reducible first | apply CW.seq | apply CW.block | apply CW.region | apply CW.draw | apply CW.skip | apply CW.exit | apply CW.ret | apply q_then | apply q_then_exit | apply q_then_ret | apply q_block | apply q_block_ret | apply q_block_hit | apply q_ret | apply q_end | apply q_loop_exit | apply q_loop_ret | apply q_loopT_exit | apply q_loopT_ret | apply RW.nil) | ((with_reducible apply s3); exact rfl; exact by_k) | ((with_reducible apply s2); exact rfl; exact by_k) | ((with_reducible apply s4); exact rfl) | ((with_reducible apply s5); (first | exact by_oa); exact by_g) | ((with_reducible apply CW.cond_t); exact rfl; exact by_ks) | ((with_reducible apply CW.cond_f); exact rfl; exact by_ks) | ((with_reducible apply q_block_miss); exact rfl) | (refine And.intro (show chk [] [] _ _ = true by kernel_rfl) ?_))
      refine q_cut ?_
      exact by_less
  repeat (first | ((with_reducible apply stop_at 3); exact rfl) | ((with_reducible apply s1); exact rfl) | (with_reducible first | apply CW.seq | apply CW.block | apply CW.region | apply CW.draw | apply CW.skip | apply CW.exit | apply CW.ret | apply q_then | apply q_then_exit | apply q_then_ret | apply q_block | apply q_block_ret | apply q_block_hit | apply q_ret | apply q_end | apply q_loop_exit | apply q_loop_ret | apply q_loopT_exit | apply q_loopT_ret | apply RW.nil) | ((with_reducible apply s3); exact rfl; exact by_k) | ((with_reducible apply s2); exact rfl; exact by_k) | ((with_reducible apply s4); exact rfl) | ((with_reducible apply s5); (first | exact by_oa); exact by_g) | ((with_reducible apply CW.cond_t); exact rfl; exact by_ks) | ((with_reducible apply CW.cond_f); exact rfl; exact by_ks) | ((with_reducible apply q_block_miss); exact rfl) | (refine And.intro (show chk [] [] _ _ = true by kernel_rfl) ?_))
  refine Stop.cutk [sd 8 (dint (loI i.kind)), sd 9 (dint (hiI i.kind m))] [.s 0, .s 4, .s 7, .o 0, .nx] ?_ ?_
  · by_cases h2 : i.kind = 2
    · rw [show loI i.kind = -1073741824 from if_pos h2, show hiI i.kind m = 1073741824 from if_pos h2]
      repeat (first | ((with_reducible apply s1); exact rfl) | (with_reducible first | apply CW.seq | apply CW.block | apply CW.region | apply CW.draw | apply CW.skip | apply CW.exit | apply CW.ret | apply q_then | apply q_then_exit | apply q_then_ret | apply q_block | apply q_block_ret | apply q_block_hit | apply q_ret | apply q_end | apply q_loop_exit | apply q_loop_ret | apply q_loopT_exit | apply q_loopT_ret | apply RW.nil) | ((with_reducible apply s3); exact rfl; exact by_k) | ((with_reducible apply s2); exact rfl; exact by_k) | ((with_reducible apply s4); exact rfl) | ((with_reducible apply s5); (first | exact by_oa); exact by_g) | ((with_reducible apply CW.cond_t); exact rfl; exact by_ks) | ((with_reducible apply CW.cond_f); exact rfl; exact by_ks) | ((with_reducible apply q_block_miss); exact rfl) | (refine And.intro (show chk [] [] _ _ = true by kernel_rfl) ?_))
      refine q_cut ?_
      exact by_less
    by_cases h8 : i.kind = 8
    · rw [show loI i.kind = 1 by unfold loI; rw [if_neg h2, if_pos h8], show hiI i.kind m = m by unfold hiI; rw [if_neg h2, if_pos h8]]
      repeat (first | ((with_reducible apply s1); exact rfl) | (with_reducible first | apply CW.seq | apply CW.block | apply CW.region | apply CW.draw | apply CW.skip | apply CW.exit | apply CW.ret | apply q_then | apply q_then_exit | apply q_then_ret | apply q_block | apply q_block_ret | apply q_block_hit | apply q_ret | apply q_end | apply q_loop_exit | apply q_loop_ret | apply q_loopT_exit | apply q_loopT_ret | apply RW.nil) | ((with_reducible apply s3); exact rfl; exact by_k) | ((with_reducible apply s2); exact rfl; exact by_k) | ((with_reducible apply s4); exact rfl) | ((with_reducible apply s5); (first | exact by_oa); exact by_g) | ((with_reducible apply CW.cond_t); exact rfl; exact by_ks) | ((with_reducible apply CW.cond_f); exact rfl; exact by_ks) | ((with_reducible apply q_block_miss); exact rfl) | (refine And.intro (show chk [] [] _ _ = true by kernel_rfl) ?_))
      refine q_cut ?_
      exact by_less
    · rw [show loI i.kind = 0 by unfold loI; rw [if_neg h2, if_neg h8], show hiI i.kind m = 0 by unfold hiI; rw [if_neg h2, if_neg h8]]
      repeat (first | ((with_reducible apply s1); exact rfl) | (with_reducible first | apply CW.seq | apply CW.block | apply CW.region | apply CW.draw | apply CW.skip | apply CW.exit | apply CW.ret | apply q_then | apply q_then_exit | apply q_then_ret | apply q_block | apply q_block_ret | apply q_block_hit | apply q_ret | apply q_end | apply q_loop_exit | apply q_loop_ret | apply q_loopT_exit | apply q_loopT_ret | apply RW.nil) | ((with_reducible apply s3); exact rfl; exact by_k) | ((with_reducible apply s2); exact rfl; exact by_k) | ((with_reducible apply s4); exact rfl) | ((with_reducible apply s5); (first | exact by_oa); exact by_g) | ((with_reducible apply CW.cond_t); exact rfl; exact by_ks) | ((with_reducible apply CW.cond_f); exact rfl; exact by_ks) | ((with_reducible apply q_block_miss); exact rfl) | (refine And.intro (show chk [] [] _ _ = true by kernel_rfl) ?_))
      refine q_cut ?_
      exact by_less
  unfold pwrongIns
  generalize regsN i.kind = n at cr ⊢
  generalize loI i.kind = lo
  generalize hiI i.kind m = hi
  by_cases hk0 : i.kind < 1
  · rw [if_pos (.inl hk0)]
    repeat (first | ((with_reducible apply s1); exact rfl) | (with_reducible first | apply CW.seq | apply CW.block | apply CW.region | apply CW.draw | apply CW.skip | apply CW.exit | apply CW.ret | apply q_then | apply q_then_exit | apply q_then_ret | apply q_block | apply q_block_ret | apply q_block_hit | apply q_ret | apply q_end | apply q_loop_exit | apply q_loop_ret | apply q_loopT_exit | apply q_loopT_ret | apply RW.nil) | ((with_reducible apply s3); exact rfl; exact by_k) | ((with_reducible apply s2); exact rfl; exact by_k) | ((with_reducible apply s4); exact rfl) | ((with_reducible apply s5); (first | (focus ((with_reducible apply a_call); exact cr; exact rfl; (repeat (first | exact SubsE.nil | (apply SubsE.cons; exact rfl; (first | exact .d (.refl _) | exact .d (.nil _) | exact .agg rfl (.refl _) | exact .pd | exact .ptr rfl); (first | exact trivial | exact ⟨rfl, trivial⟩)))); done)) | exact by_oa); exact by_g) | ((with_reducible apply CW.cond_t); exact rfl; exact by_ks) | ((with_reducible apply CW.cond_f); exact rfl; exact by_ks) | ((with_reducible apply q_block_miss); exact rfl) | (refine And.intro (show chk [] [] _ _ = true by kernel_rfl) ?_))
    exact .one (.tmp rfl (.one (.d (.refl _))))
  by_cases hk9 : 9 < i.kind
  · rw [if_pos (.inr hk9)]
    repeat (first | ((with_reducible apply s1); exact rfl) | (with_reducible first | apply CW.seq | apply CW.block | apply CW.region | apply CW.draw | apply CW.skip | apply CW.exit | apply CW.ret | apply q_then | apply q_then_exit | apply q_then_ret | apply q_block | apply q_block_ret | apply q_block_hit | apply q_ret | apply q_end | apply q_loop_exit | apply q_loop_ret | apply q_loopT_exit | apply q_loopT_ret | apply RW.nil) | ((with_reducible apply s3); exact rfl; exact by_k) | ((with_reducible apply s2); exact rfl; exact by_k) | ((with_reducible apply s4); exact rfl) | ((with_reducible apply s5); (first | (focus ((with_reducible apply a_call); exact cr; exact rfl; (repeat (first | exact SubsE.nil | (apply SubsE.cons; exact rfl; (first | exact .d (.refl _) | exact .d (.nil _) | exact .agg rfl (.refl _) | exact .pd | exact .ptr rfl); (first | exact trivial | exact ⟨rfl, trivial⟩)))); done)) | exact by_oa); exact by_g) | ((with_reducible apply CW.cond_t); exact rfl; exact by_ks) | ((with_reducible apply CW.cond_f); exact rfl; exact by_ks) | ((with_reducible apply q_block_miss); exact rfl) | (refine And.intro (show chk [] [] _ _ = true by kernel_rfl) ?_))
    exact .one (.tmp rfl (.one (.d (.refl _))))
  rw [if_neg (by omega)]
  repeat (first | ((with_reducible apply stop_at 11); exact rfl) | ((with_reducible apply s1); exact rfl) | (with_reducible first | apply CW.seq | apply CW.block | apply CW.region | apply CW.draw | apply CW.skip | apply CW.exit | apply CW.ret | apply q_then | apply q_then_exit | apply q_then_ret | apply q_block | apply q_block_ret | apply q_block_hit | apply q_ret | apply q_end | apply q_loop_exit | apply q_loop_ret | apply q_loopT_exit | apply q_loopT_ret | apply RW.nil) | ((with_reducible apply s3); exact rfl; exact by_k) | ((with_reducible apply s2); exact rfl; exact by_k) | ((with_reducible apply s4); exact rfl) | ((with_reducible apply s5); (first | (focus ((with_reducible apply a_call); exact cr; exact rfl; (repeat (first | exact SubsE.nil | (apply SubsE.cons; exact rfl; (first | exact .d (.refl _) | exact .d (.nil _) | exact .agg rfl (.refl _) | exact .pd | exact .ptr rfl); (first | exact trivial | exact ⟨rfl, trivial⟩)))); done)) | exact by_oa); exact by_g) | ((with_reducible apply CW.cond_t); exact rfl; exact by_ks) | ((with_reducible apply CW.cond_f); exact rfl; exact by_ks) | ((with_reducible apply q_block_miss); exact rfl) | (refine And.intro (show chk [] [] _ _ = true by kernel_rfl) ?_))
  refine Stop.cutk [sd 43 (dbool (outI n lo hi i.a i.b i.n))] [.s 0, .s 4, .s 7, .o 0, .nx] ?_ ?_
  · have T : (i.a < 0 ∨ 4 ≤ i.a ∨ (n < 1 ∧ i.a ≠ 0) ∨ i.b < 0 ∨ 4 ≤ i.b ∨ (n < 2 ∧ i.b ≠ 0) ∨ i.n < lo ∨ hi < i.n) → outI n lo hi i.a i.b i.n = true := fun h => decide_eq_true h
    have F : ¬ (i.a < 0 ∨ 4 ≤ i.a ∨ (n < 1 ∧ i.a ≠ 0) ∨ i.b < 0 ∨ 4 ≤ i.b ∨ (n < 2 ∧ i.b ≠ 0) ∨ i.n < lo ∨ hi < i.n) → outI n lo hi i.a i.b i.n = false := fun h => decide_eq_false h
    by_cases ha0 : i.a < 0
    · rw [T (by omega)]
      repeat (first | ((with_reducible apply s1); exact rfl) | (with_reducible first | apply CW.seq | apply CW.block | apply CW.region | apply CW.draw | apply CW.skip | apply CW.exit | apply CW.ret | apply q_then | apply q_then_exit | apply q_then_ret | apply q_block | apply q_block_ret | apply q_block_hit | apply q_ret | apply q_end | apply q_loop_exit | apply q_loop_ret | apply q_loopT_exit | apply q_loopT_ret | apply RW.nil) | ((with_reducible apply s3); exact rfl; exact by_k) | ((with_reducible apply s2); exact rfl; exact by_k) | ((with_reducible apply s4); exact rfl) | ((with_reducible apply s5); (first | exact by_oa); exact by_g) | ((with_reducible apply CW.cond_t); exact rfl; exact by_ks) | ((with_reducible apply CW.cond_f); exact rfl; exact by_ks) | ((with_reducible apply q_block_miss); exact rfl) | (refine And.intro (show chk [] [] _ _ = true by kernel_rfl) ?_))
      refine q_cut ?_
      exact by_less
    by_cases ha4 : 4 ≤ i.a
    · rw [T (by omega)]
      repeat (first | ((with_reducible apply s1); exact rfl) | (with_reducible first | apply CW.seq | apply CW.block | apply CW.region | apply CW.draw | apply CW.skip | apply CW.exit | apply CW.ret | apply q_then | apply q_then_exit | apply q_then_ret | apply q_block | apply q_block_ret | apply q_block_hit | apply q_ret | apply q_end | apply q_loop_exit | apply q_loop_ret | apply q_loopT_exit | apply q_loopT_ret | apply RW.nil) | ((with_reducible apply s3); exact rfl; exact by_k) | ((with_reducible apply s2); exact rfl; exact by_k) | ((with_reducible apply s4); exact rfl) | ((with_reducible apply s5); (first | exact by_oa); exact by_g) | ((with_reducible apply CW.cond_t); exact rfl; exact by_ks) | ((with_reducible apply CW.cond_f); exact rfl; exact by_ks) | ((with_reducible apply q_block_miss); exact rfl) | (refine And.intro (show chk [] [] _ _ = true by kernel_rfl) ?_))
      refine q_cut ?_
      exact by_less
    by_cases hn1 : n < 1
    · by_cases ha : i.a = 0
      · skip
        by_cases hb0 : i.b < 0
        · rw [T (by omega)]
          repeat (first | ((with_reducible apply s1); exact rfl) | (with_reducible first | apply CW.seq | apply CW.block | apply CW.region | apply CW.draw | apply CW.skip | apply CW.exit | apply CW.ret | apply q_then | apply q_then_exit | apply q_then_ret | apply q_block | apply q_block_ret | apply q_block_hit | apply q_ret | apply q_end | apply q_loop_exit | apply q_loop_ret | apply q_loopT_exit | apply q_loopT_ret | apply RW.nil) | ((with_reducible apply s3); exact rfl; exact by_k) | ((with_reducible apply s2); exact rfl; exact by_k) | ((with_reducible apply s4); exact rfl) | ((with_reducible apply s5); (first | exact by_oa); exact by_g) | ((with_reducible apply CW.cond_t); exact rfl; exact by_ks) | ((with_reducible apply CW.cond_f); exact rfl; exact by_ks) | ((with_reducible apply q_block_miss); exact rfl) | (refine And.intro (show chk [] [] _ _ = true by kernel_rfl) ?_))
          refine q_cut ?_
          exact by_less
        by_cases hb4 : 4 ≤ i.b
        · rw [T (by omega)]
          repeat (first | ((with_reducible apply s1); exact rfl) | (with_reducible first | apply CW.seq | apply CW.block | apply CW.region | apply CW.draw | apply CW.skip | apply CW.exit | apply CW.ret | apply q_then | apply q_then_exit | apply q_then_ret | apply q_block | apply q_block_ret | apply q_block_hit | apply q_ret | apply q_end | apply q_loop_exit | apply q_loop_ret | apply q_loopT_exit | apply q_loopT_ret | apply RW.nil) | ((with_reducible apply s3); exact rfl; exact by_k) | ((with_reducible apply s2); exact rfl; exact by_k) | ((with_reducible apply s4); exact rfl) | ((with_reducible apply s5); (first | exact by_oa); exact by_g) | ((with_reducible apply CW.cond_t); exact rfl; exact by_ks) | ((with_reducible apply CW.cond_f); exact rfl; exact by_ks) | ((with_reducible apply q_block_miss); exact rfl) | (refine And.intro (show chk [] [] _ _ = true by kernel_rfl) ?_))
          refine q_cut ?_
          exact by_less
        by_cases hn2 : n < 2
        · by_cases hb : i.b = 0
          · skip
            by_cases hx0 : i.n < lo
            · rw [T (by omega)]
              repeat (first | ((with_reducible apply s1); exact rfl) | (with_reducible first | apply CW.seq | apply CW.block | apply CW.region | apply CW.draw | apply CW.skip | apply CW.exit | apply CW.ret | apply q_then | apply q_then_exit | apply q_then_ret | apply q_block | apply q_block_ret | apply q_block_hit | apply q_ret | apply q_end | apply q_loop_exit | apply q_loop_ret | apply q_loopT_exit | apply q_loopT_ret | apply RW.nil) | ((with_reducible apply s3); exact rfl; exact by_k) | ((with_reducible apply s2); exact rfl; exact by_k) | ((with_reducible apply s4); exact rfl) | ((with_reducible apply s5); (first | exact by_oa); exact by_g) | ((with_reducible apply CW.cond_t); exact rfl; exact by_ks) | ((with_reducible apply CW.cond_f); exact rfl; exact by_ks) | ((with_reducible apply q_block_miss); exact rfl) | (refine And.intro (show chk [] [] _ _ = true by kernel_rfl) ?_))
              refine q_cut ?_
              exact by_less
            by_cases hx1 : hi < i.n
            · rw [T (by omega)]
              repeat (first | ((with_reducible apply s1); exact rfl) | (with_reducible first | apply CW.seq | apply CW.block | apply CW.region | apply CW.draw | apply CW.skip | apply CW.exit | apply CW.ret | apply q_then | apply q_then_exit | apply q_then_ret | apply q_block | apply q_block_ret | apply q_block_hit | apply q_ret | apply q_end | apply q_loop_exit | apply q_loop_ret | apply q_loopT_exit | apply q_loopT_ret | apply RW.nil) | ((with_reducible apply s3); exact rfl; exact by_k) | ((with_reducible apply s2); exact rfl; exact by_k) | ((with_reducible apply s4); exact rfl) | ((with_reducible apply s5); (first | exact by_oa); exact by_g) | ((with_reducible apply CW.cond_t); exact rfl; exact by_ks) | ((with_reducible apply CW.cond_f); exact rfl; exact by_ks) | ((with_reducible apply q_block_miss); exact rfl) | (refine And.intro (show chk [] [] _ _ = true by kernel_rfl) ?_))
              refine q_cut ?_
              exact by_less
            rw [F (by omega)]
            repeat (first | ((with_reducible apply s1); exact rfl) | (with_reducible first | apply CW.seq | apply CW.block | apply CW.region | apply CW.draw | apply CW.skip | apply CW.exit | apply CW.ret | apply q_then | apply q_then_exit | apply q_then_ret | apply q_block | apply q_block_ret | apply q_block_hit | apply q_ret | apply q_end | apply q_loop_exit | apply q_loop_ret | apply q_loopT_exit | apply q_loopT_ret | apply RW.nil) | ((with_reducible apply s3); exact rfl; exact by_k) | ((with_reducible apply s2); exact rfl; exact by_k) | ((with_reducible apply s4); exact rfl) | ((with_reducible apply s5); (first | exact by_oa); exact by_g) | ((with_reducible apply CW.cond_t); exact rfl; exact by_ks) | ((with_reducible apply CW.cond_f); exact rfl; exact by_ks) | ((with_reducible apply q_block_miss); exact rfl) | (refine And.intro (show chk [] [] _ _ = true by kernel_rfl) ?_))
            refine q_cut ?_
            exact by_less
          · rw [T (by omega)]
            repeat (first | ((with_reducible apply s1); exact rfl) | (with_reducible first | apply CW.seq | apply CW.block | apply CW.region | apply CW.draw | apply CW.skip | apply CW.exit | apply CW.ret | apply q_then | apply q_then_exit | apply q_then_ret | apply q_block | apply q_block_ret | apply q_block_hit | apply q_ret | apply q_end | apply q_loop_exit | apply q_loop_ret | apply q_loopT_exit | apply q_loopT_ret | apply RW.nil) | ((with_reducible apply s3); exact rfl; exact by_k) | ((with_reducible apply s2); exact rfl; exact by_k) | ((with_reducible apply s4); exact rfl) | ((with_reducible apply s5); (first | exact by_oa); exact by_g) | ((with_reducible apply CW.cond_t); exact rfl; exact by_ks) | ((with_reducible apply CW.cond_f); exact rfl; exact by_ks) | ((with_reducible apply q_block_miss); exact rfl) | (refine And.intro (show chk [] [] _ _ = true by kernel_rfl) ?_))
            refine q_cut ?_
            exact by_less
        by_cases hx0 : i.n < lo
        · rw [T (by omega)]
          repeat (first | ((with_reducible apply s1); exact rfl) | (with_reducible first | apply CW.seq | apply CW.block | apply CW.region | apply CW.draw | apply CW.skip | apply CW.exit | apply CW.ret | apply q_then | apply q_then_exit | apply q_then_ret | apply q_block | apply q_block_ret | apply q_block_hit | apply q_ret | apply q_end | apply q_loop_exit | apply q_loop_ret | apply q_loopT_exit | apply q_loopT_ret | apply RW.nil) | ((with_reducible apply s3); exact rfl; exact by_k) | ((with_reducible apply s2); exact rfl; exact by_k) | ((with_reducible apply s4); exact rfl) | ((with_reducible apply s5); (first | exact by_oa); exact by_g) | ((with_reducible apply CW.cond_t); exact rfl; exact by_ks) | ((with_reducible apply CW.cond_f); exact rfl; exact by_ks) | ((with_reducible apply q_block_miss); exact rfl) | (refine And.intro (show chk [] [] _ _ = true by kernel_rfl) ?_))
          refine q_cut ?_
          exact by_less
        by_cases hx1 : hi < i.n
        · rw [T (by omega)]
          repeat (first | ((with_reducible apply s1); exact rfl) | (with_reducible first | apply CW.seq | apply CW.block | apply CW.region | apply CW.draw | apply CW.skip | apply CW.exit | apply CW.ret | apply q_then | apply q_then_exit | apply q_then_ret | apply q_block | apply q_block_ret | apply q_block_hit | apply q_ret | apply q_end | apply q_loop_exit | apply q_loop_ret | apply q_loopT_exit | apply q_loopT_ret | apply RW.nil) | ((with_reducible apply s3); exact rfl; exact by_k) | ((with_reducible apply s2); exact rfl; exact by_k) | ((with_reducible apply s4); exact rfl) | ((with_reducible apply s5); (first | exact by_oa); exact by_g) | ((with_reducible apply CW.cond_t); exact rfl; exact by_ks) | ((with_reducible apply CW.cond_f); exact rfl; exact by_ks) | ((with_reducible apply q_block_miss); exact rfl) | (refine And.intro (show chk [] [] _ _ = true by kernel_rfl) ?_))
          refine q_cut ?_
          exact by_less
        rw [F (by omega)]
        repeat (first | ((with_reducible apply s1); exact rfl) | (with_reducible first | apply CW.seq | apply CW.block | apply CW.region | apply CW.draw | apply CW.skip | apply CW.exit | apply CW.ret | apply q_then | apply q_then_exit | apply q_then_ret | apply q_block | apply q_block_ret | apply q_block_hit | apply q_ret | apply q_end | apply q_loop_exit | apply q_loop_ret | apply q_loopT_exit | apply q_loopT_ret | apply RW.nil) | ((with_reducible apply s3); exact rfl; exact by_k) | ((with_reducible apply s2); exact rfl; exact by_k) | ((with_reducible apply s4); exact rfl) | ((with_reducible apply s5); (first | exact by_oa); exact by_g) | ((with_reducible apply CW.cond_t); exact rfl; exact by_ks) | ((with_reducible apply CW.cond_f); exact rfl; exact by_ks) | ((with_reducible apply q_block_miss); exact rfl) | (refine And.intro (show chk [] [] _ _ = true by kernel_rfl) ?_))
        refine q_cut ?_
        exact by_less
      · rw [T (by omega)]
        repeat (first | ((with_reducible apply s1); exact rfl) | (with_reducible first | apply CW.seq | apply CW.block | apply CW.region | apply CW.draw | apply CW.skip | apply CW.exit | apply CW.ret | apply q_then | apply q_then_exit | apply q_then_ret | apply q_block | apply q_block_ret | apply q_block_hit | apply q_ret | apply q_end | apply q_loop_exit | apply q_loop_ret | apply q_loopT_exit | apply q_loopT_ret | apply RW.nil) | ((with_reducible apply s3); exact rfl; exact by_k) | ((with_reducible apply s2); exact rfl; exact by_k) | ((with_reducible apply s4); exact rfl) | ((with_reducible apply s5); (first | exact by_oa); exact by_g) | ((with_reducible apply CW.cond_t); exact rfl; exact by_ks) | ((with_reducible apply CW.cond_f); exact rfl; exact by_ks) | ((with_reducible apply q_block_miss); exact rfl) | (refine And.intro (show chk [] [] _ _ = true by kernel_rfl) ?_))
        refine q_cut ?_
        exact by_less
    by_cases hb0 : i.b < 0
    · rw [T (by omega)]
      repeat (first | ((with_reducible apply s1); exact rfl) | (with_reducible first | apply CW.seq | apply CW.block | apply CW.region | apply CW.draw | apply CW.skip | apply CW.exit | apply CW.ret | apply q_then | apply q_then_exit | apply q_then_ret | apply q_block | apply q_block_ret | apply q_block_hit | apply q_ret | apply q_end | apply q_loop_exit | apply q_loop_ret | apply q_loopT_exit | apply q_loopT_ret | apply RW.nil) | ((with_reducible apply s3); exact rfl; exact by_k) | ((with_reducible apply s2); exact rfl; exact by_k) | ((with_reducible apply s4); exact rfl) | ((with_reducible apply s5); (first | exact by_oa); exact by_g) | ((with_reducible apply CW.cond_t); exact rfl; exact by_ks) | ((with_reducible apply CW.cond_f); exact rfl; exact by_ks) | ((with_reducible apply q_block_miss); exact rfl) | (refine And.intro (show chk [] [] _ _ = true by kernel_rfl) ?_))
      refine q_cut ?_
      exact by_less
    by_cases hb4 : 4 ≤ i.b
    · rw [T (by omega)]
      repeat (first | ((with_reducible apply s1); exact rfl) | (with_reducible first | apply CW.seq | apply CW.block | apply CW.region | apply CW.draw | apply CW.skip | apply CW.exit | apply CW.ret | apply q_then | apply q_then_exit | apply q_then_ret | apply q_block | apply q_block_ret | apply q_block_hit | apply q_ret | apply q_end | apply q_loop_exit | apply q_loop_ret | apply q_loopT_exit | apply q_loopT_ret | apply RW.nil) | ((with_reducible apply s3); exact rfl; exact by_k) | ((with_reducible apply s2); exact rfl; exact by_k) | ((with_reducible apply s4); exact rfl) | ((with_reducible apply s5); (first | exact by_oa); exact by_g) | ((with_reducible apply CW.cond_t); exact rfl; exact by_ks) | ((with_reducible apply CW.cond_f); exact rfl; exact by_ks) | ((with_reducible apply q_block_miss); exact rfl) | (refine And.intro (show chk [] [] _ _ = true by kernel_rfl) ?_))
      refine q_cut ?_
      exact by_less
    by_cases hn2 : n < 2
    · by_cases hb : i.b = 0
      · skip
        by_cases hx0 : i.n < lo
        · rw [T (by omega)]
          repeat (first | ((with_reducible apply s1); exact rfl) | (with_reducible first | apply CW.seq | apply CW.block | apply CW.region | apply CW.draw | apply CW.skip | apply CW.exit | apply CW.ret | apply q_then | apply q_then_exit | apply q_then_ret | apply q_block | apply q_block_ret | apply q_block_hit | apply q_ret | apply q_end | apply q_loop_exit | apply q_loop_ret | apply q_loopT_exit | apply q_loopT_ret | apply RW.nil) | ((with_reducible apply s3); exact rfl; exact by_k) | ((with_reducible apply s2); exact rfl; exact by_k) | ((with_reducible apply s4); exact rfl) | ((with_reducible apply s5); (first | exact by_oa); exact by_g) | ((with_reducible apply CW.cond_t); exact rfl; exact by_ks) | ((with_reducible apply CW.cond_f); exact rfl; exact by_ks) | ((with_reducible apply q_block_miss); exact rfl) | (refine And.intro (show chk [] [] _ _ = true by kernel_rfl) ?_))
          refine q_cut ?_
          exact by_less
        by_cases hx1 : hi < i.n
        · rw [T (by omega)]
          repeat (first | ((with_reducible apply s1); exact rfl) | (with_reducible first | apply CW.seq | apply CW.block | apply CW.region | apply CW.draw | apply CW.skip | apply CW.exit | apply CW.ret | apply q_then | apply q_then_exit | apply q_then_ret | apply q_block | apply q_block_ret | apply q_block_hit | apply q_ret | apply q_end | apply q_loop_exit | apply q_loop_ret | apply q_loopT_exit | apply q_loopT_ret | apply RW.nil) | ((with_reducible apply s3); exact rfl; exact by_k) | ((with_reducible apply s2); exact rfl; exact by_k) | ((with_reducible apply s4); exact rfl) | ((with_reducible apply s5); (first | exact by_oa); exact by_g) | ((with_reducible apply CW.cond_t); exact rfl; exact by_ks) | ((with_reducible apply CW.cond_f); exact rfl; exact by_ks) | ((with_reducible apply q_block_miss); exact rfl) | (refine And.intro (show chk [] [] _ _ = true by kernel_rfl) ?_))
          refine q_cut ?_
          exact by_less
        rw [F (by omega)]
        repeat (first | ((with_reducible apply s1); exact rfl) | (with_reducible first | apply CW.seq | apply CW.block | apply CW.region | apply CW.draw | apply CW.skip | apply CW.exit | apply CW.ret | apply q_then | apply q_then_exit | apply q_then_ret | apply q_block | apply q_block_ret | apply q_block_hit | apply q_ret | apply q_end | apply q_loop_exit | apply q_loop_ret | apply q_loopT_exit | apply q_loopT_ret | apply RW.nil) | ((with_reducible apply s3); exact rfl; exact by_k) | ((with_reducible apply s2); exact rfl; exact by_k) | ((with_reducible apply s4); exact rfl) | ((with_reducible apply s5); (first | exact by_oa); exact by_g) | ((with_reducible apply CW.cond_t); exact rfl; exact by_ks) | ((with_reducible apply CW.cond_f); exact rfl; exact by_ks) | ((with_reducible apply q_block_miss); exact rfl) | (refine And.intro (show chk [] [] _ _ = true by kernel_rfl) ?_))
        refine q_cut ?_
        exact by_less
      · rw [T (by omega)]
        repeat (first | ((with_reducible apply s1); exact rfl) | (with_reducible first | apply CW.seq | apply CW.block | apply CW.region | apply CW.draw | apply CW.skip | apply CW.exit | apply CW.ret | apply q_then | apply q_then_exit | apply q_then_ret | apply q_block | apply q_block_ret | apply q_block_hit | apply q_ret | apply q_end | apply q_loop_exit | apply q_loop_ret | apply q_loopT_exit | apply q_loopT_ret | apply RW.nil) | ((with_reducible apply s3); exact rfl; exact by_k) | ((with_reducible apply s2); exact rfl; exact by_k) | ((with_reducible apply s4); exact rfl) | ((with_reducible apply s5); (first | exact by_oa); exact by_g) | ((with_reducible apply CW.cond_t); exact rfl; exact by_ks) | ((with_reducible apply CW.cond_f); exact rfl; exact by_ks) | ((with_reducible apply q_block_miss); exact rfl) | (refine And.intro (show chk [] [] _ _ = true by kernel_rfl) ?_))
        refine q_cut ?_
        exact by_less
    by_cases hx0 : i.n < lo
    · rw [T (by omega)]
      repeat (first | ((with_reducible apply s1); exact rfl) | (with_reducible first | apply CW.seq | apply CW.block | apply CW.region | apply CW.draw | apply CW.skip | apply CW.exit | apply CW.ret | apply q_then | apply q_then_exit | apply q_then_ret | apply q_block | apply q_block_ret | apply q_block_hit | apply q_ret | apply q_end | apply q_loop_exit | apply q_loop_ret | apply q_loopT_exit | apply q_loopT_ret | apply RW.nil) | ((with_reducible apply s3); exact rfl; exact by_k) | ((with_reducible apply s2); exact rfl; exact by_k) | ((with_reducible apply s4); exact rfl) | ((with_reducible apply s5); (first | exact by_oa); exact by_g) | ((with_reducible apply CW.cond_t); exact rfl; exact by_ks) | ((with_reducible apply CW.cond_f); exact rfl; exact by_ks) | ((with_reducible apply q_block_miss); exact rfl) | (refine And.intro (show chk [] [] _ _ = true by kernel_rfl) ?_))
      refine q_cut ?_
      exact by_less
    by_cases hx1 : hi < i.n
    · rw [T (by omega)]
      repeat (first | ((with_reducible apply s1); exact rfl) | (with_reducible first | apply CW.seq | apply CW.block | apply CW.region | apply CW.draw | apply CW.skip | apply CW.exit | apply CW.ret | apply q_then | apply q_then_exit | apply q_then_ret | apply q_block | apply q_block_ret | apply q_block_hit | apply q_ret | apply q_end | apply q_loop_exit | apply q_loop_ret | apply q_loopT_exit | apply q_loopT_ret | apply RW.nil) | ((with_reducible apply s3); exact rfl; exact by_k) | ((with_reducible apply s2); exact rfl; exact by_k) | ((with_reducible apply s4); exact rfl) | ((with_reducible apply s5); (first | exact by_oa); exact by_g) | ((with_reducible apply CW.cond_t); exact rfl; exact by_ks) | ((with_reducible apply CW.cond_f); exact rfl; exact by_ks) | ((with_reducible apply q_block_miss); exact rfl) | (refine And.intro (show chk [] [] _ _ = true by kernel_rfl) ?_))
      refine q_cut ?_
      exact by_less
    rw [F (by omega)]
    repeat (first | ((with_reducible apply s1); exact rfl) | (with_reducible first | apply CW.seq | apply CW.block | apply CW.region | apply CW.draw | apply CW.skip | apply CW.exit | apply CW.ret | apply q_then | apply q_then_exit | apply q_then_ret | apply q_block | apply q_block_ret | apply q_block_hit | apply q_ret | apply q_end | apply q_loop_exit | apply q_loop_ret | apply q_loopT_exit | apply q_loopT_ret | apply RW.nil) | ((with_reducible apply s3); exact rfl; exact by_k) | ((with_reducible apply s2); exact rfl; exact by_k) | ((with_reducible apply s4); exact rfl) | ((with_reducible apply s5); (first | exact by_oa); exact by_g) | ((with_reducible apply CW.cond_t); exact rfl; exact by_ks) | ((with_reducible apply CW.cond_f); exact rfl; exact by_ks) | ((with_reducible apply q_block_miss); exact rfl) | (refine And.intro (show chk [] [] _ _ = true by kernel_rfl) ?_))
    refine q_cut ?_
    exact by_less
  cases ho : outI n lo hi i.a i.b i.n with
  | true =>
    rw [if_pos rfl]
    repeat (first | ((with_reducible apply s1); exact rfl) | (with_reducible first | apply CW.seq | apply CW.block | apply CW.region | apply CW.draw | apply CW.skip | apply CW.exit | apply CW.ret | apply q_then | apply q_then_exit | apply q_then_ret | apply q_block | apply q_block_ret | apply q_block_hit | apply q_ret | apply q_end | apply q_loop_exit | apply q_loop_ret | apply q_loopT_exit | apply q_loopT_ret | apply RW.nil) | ((with_reducible apply s3); exact rfl; exact by_k) | ((with_reducible apply s2); exact rfl; exact by_k) | ((with_reducible apply s4); exact rfl) | ((with_reducible apply s5); (first | exact by_oa); exact by_g) | ((with_reducible apply CW.cond_t); exact rfl; exact by_ks) | ((with_reducible apply CW.cond_f); exact rfl; exact by_ks) | ((with_reducible apply q_block_miss); exact rfl) | (refine And.intro (show chk [] [] _ _ = true by kernel_rfl) ?_))
    exact .one (.tmp rfl (.one (.d (.refl _))))
  | false =>
    rw [if_neg (by simp)]
    by_cases hkey : i.key = []
    · rw [if_neg (fun h => h.2 hkey)]
      by_cases h1 : i.kind = 1
      · have hk1 : keyedB i.kind = true := decide_eq_true (.inl h1)
        rw [hk1]
        cases hin : isIn d.reads i.key with
        | false =>
          rw [if_pos (.inl ⟨h1, rfl⟩)]
          rw [hin] at c1
          repeat (first | ((with_reducible apply s1); exact rfl) | (with_reducible first | apply CW.seq | apply CW.block | apply CW.region | apply CW.draw | apply CW.skip | apply CW.exit | apply CW.ret | apply q_then | apply q_then_exit | apply q_then_ret | apply q_block | apply q_block_ret | apply q_block_hit | apply q_ret | apply q_end | apply q_loop_exit | apply q_loop_ret | apply q_loopT_exit | apply q_loopT_ret | apply RW.nil) | ((with_reducible apply s3); exact rfl; exact by_k) | ((with_reducible apply s2); exact rfl; exact by_k) | ((with_reducible apply s4); exact rfl) | ((with_reducible apply s5); (first | (focus ((with_reducible apply a_call); exact c1; exact rfl; (repeat (first | exact SubsE.nil | (apply SubsE.cons; exact rfl; (first | exact .d (.refl _) | exact .d (.nil _) | exact .agg rfl (.refl _) | exact .pd | exact .ptr rfl); (first | exact trivial | exact ⟨rfl, trivial⟩)))); done)) | ((with_reducible apply a_nilpd); (iterate 2 exact rfl)) | exact by_oa); exact by_g) | ((with_reducible apply CW.cond_t); exact rfl; exact by_ks) | ((with_reducible apply CW.cond_f); exact rfl; exact by_ks) | ((with_reducible apply q_block_miss); exact rfl) | (refine And.intro (show chk [] [] _ _ = true by kernel_rfl) ?_))
          exact .one (.tmp rfl (.one (.d (.refl _))))
        | true =>
          rw [if_neg (by simp [h1])]
          rw [hin] at c1
          repeat (first | ((with_reducible apply s1); exact rfl) | (with_reducible first | apply CW.seq | apply CW.block | apply CW.region | apply CW.draw | apply CW.skip | apply CW.exit | apply CW.ret | apply q_then | apply q_then_exit | apply q_then_ret | apply q_block | apply q_block_ret | apply q_block_hit | apply q_ret | apply q_end | apply q_loop_exit | apply q_loop_ret | apply q_loopT_exit | apply q_loopT_ret | apply RW.nil) | ((with_reducible apply s3); exact rfl; exact by_k) | ((with_reducible apply s2); exact rfl; exact by_k) | ((with_reducible apply s4); exact rfl) | ((with_reducible apply s5); (first | (focus ((with_reducible apply a_call); exact c1; exact rfl; (repeat (first | exact SubsE.nil | (apply SubsE.cons; exact rfl; (first | exact .d (.refl _) | exact .d (.nil _) | exact .agg rfl (.refl _) | exact .pd | exact .ptr rfl); (first | exact trivial | exact ⟨rfl, trivial⟩)))); done)) | ((with_reducible apply a_nilpd); (iterate 2 exact rfl)) | exact by_oa); exact by_g) | ((with_reducible apply CW.cond_t); exact rfl; exact by_ks) | ((with_reducible apply CW.cond_f); exact rfl; exact by_ks) | ((with_reducible apply q_block_miss); exact rfl) | (refine And.intro (show chk [] [] _ _ = true by kernel_rfl) ?_))
          exact .one (.tmp rfl (.one (.d (.refl _))))
      · cases hkb : keyedB i.kind with
        | false =>
          rw [if_neg (by simp [h1])]
          repeat (first | ((with_reducible apply s1); exact rfl) | (with_reducible first | apply CW.seq | apply CW.block | apply CW.region | apply CW.draw | apply CW.skip | apply CW.exit | apply CW.ret | apply q_then | apply q_then_exit | apply q_then_ret | apply q_block | apply q_block_ret | apply q_block_hit | apply q_ret | apply q_end | apply q_loop_exit | apply q_loop_ret | apply q_loopT_exit | apply q_loopT_ret | apply RW.nil) | ((with_reducible apply s3); exact rfl; exact by_k) | ((with_reducible apply s2); exact rfl; exact by_k) | ((with_reducible apply s4); exact rfl) | ((with_reducible apply s5); (first | exact by_oa); exact by_g) | ((with_reducible apply CW.cond_t); exact rfl; exact by_ks) | ((with_reducible apply CW.cond_f); exact rfl; exact by_ks) | ((with_reducible apply q_block_miss); exact rfl) | (refine And.intro (show chk [] [] _ _ = true by kernel_rfl) ?_))
          exact .one (.tmp rfl (.one (.d (.refl _))))
        | true =>
          cases hin : isIn d.writes i.key with
          | false =>
            rw [if_pos (.inr ⟨rfl, h1, rfl⟩)]
            rw [hin] at c2
            repeat (first | ((with_reducible apply s1); exact rfl) | (with_reducible first | apply CW.seq | apply CW.block | apply CW.region | apply CW.draw | apply CW.skip | apply CW.exit | apply CW.ret | apply q_then | apply q_then_exit | apply q_then_ret | apply q_block | apply q_block_ret | apply q_block_hit | apply q_ret | apply q_end | apply q_loop_exit | apply q_loop_ret | apply q_loopT_exit | apply q_loopT_ret | apply RW.nil) | ((with_reducible apply s3); exact rfl; exact by_k) | ((with_reducible apply s2); exact rfl; exact by_k) | ((with_reducible apply s4); exact rfl) | ((with_reducible apply s5); (first | (focus ((with_reducible apply a_call); exact c2; exact rfl; (repeat (first | exact SubsE.nil | (apply SubsE.cons; exact rfl; (first | exact .d (.refl _) | exact .d (.nil _) | exact .agg rfl (.refl _) | exact .pd | exact .ptr rfl); (first | exact trivial | exact ⟨rfl, trivial⟩)))); done)) | ((with_reducible apply a_nilpd); (iterate 2 exact rfl)) | exact by_oa); exact by_g) | ((with_reducible apply CW.cond_t); exact rfl; exact by_ks) | ((with_reducible apply CW.cond_f); exact rfl; exact by_ks) | ((with_reducible apply q_block_miss); exact rfl) | (refine And.intro (show chk [] [] _ _ = true by kernel_rfl) ?_))
            exact .one (.tmp rfl (.one (.d (.refl _))))
          | true =>
            rw [if_neg (by simp [h1])]
            rw [hin] at c2
            repeat (first | ((with_reducible apply s1); exact rfl) | (with_reducible first | apply CW.seq | apply CW.block | apply CW.region | apply CW.draw | apply CW.skip | apply CW.exit | apply CW.ret | apply q_then | apply q_then_exit | apply q_then_ret | apply q_block | apply q_block_ret | apply q_block_hit | apply q_ret | apply q_end | apply q_loop_exit | apply q_loop_ret | apply q_loopT_exit | apply q_loopT_ret | apply RW.nil) | ((with_reducible apply s3); exact rfl; exact by_k) | ((with_reducible apply s2); exact rfl; exact by_k) | ((with_reducible apply s4); exact rfl) | ((with_reducible apply s5); (first | (focus ((with_reducible apply a_call); exact c2; exact rfl; (repeat (first | exact SubsE.nil | (apply SubsE.cons; exact rfl; (first | exact .d (.refl _) | exact .d (.nil _) | exact .agg rfl (.refl _) | exact .pd | exact .ptr rfl); (first | exact trivial | exact ⟨rfl, trivial⟩)))); done)) | ((with_reducible apply a_nilpd); (iterate 2 exact rfl)) | exact by_oa); exact by_g) | ((with_reducible apply CW.cond_t); exact rfl; exact by_ks) | ((with_reducible apply CW.cond_f); exact rfl; exact by_ks) | ((with_reducible apply q_block_miss); exact rfl) | (refine And.intro (show chk [] [] _ _ = true by kernel_rfl) ?_))
            exact .one (.tmp rfl (.one (.d (.refl _))))
    · by_cases h1 : i.kind = 1
      · have hk1 : keyedB i.kind = true := decide_eq_true (.inl h1)
        rw [hk1, if_neg (by simp)]
        cases hin : isIn d.reads i.key with
        | false =>
          rw [if_pos (.inl ⟨h1, rfl⟩)]
          rw [hin] at c1
          repeat (first | ((with_reducible apply s1); exact rfl) | (with_reducible first | apply CW.seq | apply CW.block | apply CW.region | apply CW.draw | apply CW.skip | apply CW.exit | apply CW.ret | apply q_then | apply q_then_exit | apply q_then_ret | apply q_block | apply q_block_ret | apply q_block_hit | apply q_ret | apply q_end | apply q_loop_exit | apply q_loop_ret | apply q_loopT_exit | apply q_loopT_ret | apply RW.nil) | ((with_reducible apply s3); exact rfl; exact by_k) | ((with_reducible apply s2); exact rfl; exact by_k) | ((with_reducible apply s4); exact rfl) | ((with_reducible apply s5); (first | (focus ((with_reducible apply a_call); exact c1; exact rfl; (repeat (first | exact SubsE.nil | (apply SubsE.cons; exact rfl; (first | exact .d (.refl _) | exact .d (.nil _) | exact .agg rfl (.refl _) | exact .pd | exact .ptr rfl); (first | exact trivial | exact ⟨rfl, trivial⟩)))); done)) | ((with_reducible apply a_nilpd); (iterate 2 exact rfl)) | exact by_oa); exact by_g) | ((with_reducible apply CW.cond_t); exact rfl; exact by_ks) | ((with_reducible apply CW.cond_f); exact rfl; exact by_ks) | ((with_reducible apply q_block_miss); exact rfl) | (refine And.intro (show chk [] [] _ _ = true by kernel_rfl) ?_))
          exact .one (.tmp rfl (.one (.d (.refl _))))
        | true =>
          rw [if_neg (by simp [h1])]
          rw [hin] at c1
          repeat (first | ((with_reducible apply s1); exact rfl) | (with_reducible first | apply CW.seq | apply CW.block | apply CW.region | apply CW.draw | apply CW.skip | apply CW.exit | apply CW.ret | apply q_then | apply q_then_exit | apply q_then_ret | apply q_block | apply q_block_ret | apply q_block_hit | apply q_ret | apply q_end | apply q_loop_exit | apply q_loop_ret | apply q_loopT_exit | apply q_loopT_ret | apply RW.nil) | ((with_reducible apply s3); exact rfl; exact by_k) | ((with_reducible apply s2); exact rfl; exact by_k) | ((with_reducible apply s4); exact rfl) | ((with_reducible apply s5); (first | (focus ((with_reducible apply a_call); exact c1; exact rfl; (repeat (first | exact SubsE.nil | (apply SubsE.cons; exact rfl; (first | exact .d (.refl _) | exact .d (.nil _) | exact .agg rfl (.refl _) | exact .pd | exact .ptr rfl); (first | exact trivial | exact ⟨rfl, trivial⟩)))); done)) | ((with_reducible apply a_nilpd); (iterate 2 exact rfl)) | exact by_oa); exact by_g) | ((with_reducible apply CW.cond_t); exact rfl; exact by_ks) | ((with_reducible apply CW.cond_f); exact rfl; exact by_ks) | ((with_reducible apply q_block_miss); exact rfl) | (refine And.intro (show chk [] [] _ _ = true by kernel_rfl) ?_))
          exact .one (.tmp rfl (.one (.d (.refl _))))
      · cases hkb : keyedB i.kind with
        | false =>
          rw [if_pos ⟨rfl, hkey⟩]
          repeat (first | ((with_reducible apply s1); exact rfl) | (with_reducible first | apply CW.seq | apply CW.block | apply CW.region | apply CW.draw | apply CW.skip | apply CW.exit | apply CW.ret | apply q_then | apply q_then_exit | apply q_then_ret | apply q_block | apply q_block_ret | apply q_block_hit | apply q_ret | apply q_end | apply q_loop_exit | apply q_loop_ret | apply q_loopT_exit | apply q_loopT_ret | apply RW.nil) | ((with_reducible apply s3); exact rfl; exact by_k) | ((with_reducible apply s2); exact rfl; exact by_k) | ((with_reducible apply s4); exact rfl) | ((with_reducible apply s5); (first | exact by_oa); exact by_g) | ((with_reducible apply CW.cond_t); exact rfl; exact by_ks) | ((with_reducible apply CW.cond_f); exact rfl; exact by_ks) | ((with_reducible apply q_block_miss); exact rfl) | (refine And.intro (show chk [] [] _ _ = true by kernel_rfl) ?_))
          exact .one (.tmp rfl (.one (.d (.refl _))))
        | true =>
          rw [if_neg (by simp)]
          cases hin : isIn d.writes i.key with
          | false =>
            rw [if_pos (.inr ⟨rfl, h1, rfl⟩)]
            rw [hin] at c2
            repeat (first | ((with_reducible apply s1); exact rfl) | (with_reducible first | apply CW.seq | apply CW.block | apply CW.region | apply CW.draw | apply CW.skip | apply CW.exit | apply CW.ret | apply q_then | apply q_then_exit | apply q_then_ret | apply q_block | apply q_block_ret | apply q_block_hit | apply q_ret | apply q_end | apply q_loop_exit | apply q_loop_ret | apply q_loopT_exit | apply q_loopT_ret | apply RW.nil) | ((with_reducible apply s3); exact rfl; exact by_k) | ((with_reducible apply s2); exact rfl; exact by_k) | ((with_reducible apply s4); exact rfl) | ((with_reducible apply s5); (first | (focus ((with_reducible apply a_call); exact c2; exact rfl; (repeat (first | exact SubsE.nil | (apply SubsE.cons; exact rfl; (first | exact .d (.refl _) | exact .d (.nil _) | exact .agg rfl (.refl _) | exact .pd | exact .ptr rfl); (first | exact trivial | exact ⟨rfl, trivial⟩)))); done)) | ((with_reducible apply a_nilpd); (iterate 2 exact rfl)) | exact by_oa); exact by_g) | ((with_reducible apply CW.cond_t); exact rfl; exact by_ks) | ((with_reducible apply CW.cond_f); exact rfl; exact by_ks) | ((with_reducible apply q_block_miss); exact rfl) | (refine And.intro (show chk [] [] _ _ = true by kernel_rfl) ?_))
            exact .one (.tmp rfl (.one (.d (.refl _))))
          | true =>
            rw [if_neg (by simp [h1])]
            rw [hin] at c2
            repeat (first | ((with_reducible apply s1); exact rfl) | (with_reducible first | apply CW.seq | apply CW.block | apply CW.region | apply CW.draw | apply CW.skip | apply CW.exit | apply CW.ret | apply q_then | apply q_then_exit | apply q_then_ret | apply q_block | apply q_block_ret | apply q_block_hit | apply q_ret | apply q_end | apply q_loop_exit | apply q_loop_ret | apply q_loopT_exit | apply q_loopT_ret | apply RW.nil) | ((with_reducible apply s3); exact rfl; exact by_k) | ((with_reducible apply s2); exact rfl; exact by_k) | ((with_reducible apply s4); exact rfl) | ((with_reducible apply s5); (first | (focus ((with_reducible apply a_call); exact c2; exact rfl; (repeat (first | exact SubsE.nil | (apply SubsE.cons; exact rfl; (first | exact .d (.refl _) | exact .d (.nil _) | exact .agg rfl (.refl _) | exact .pd | exact .ptr rfl); (first | exact trivial | exact ⟨rfl, trivial⟩)))); done)) | ((with_reducible apply a_nilpd); (iterate 2 exact rfl)) | exact by_oa); exact by_g) | ((with_reducible apply CW.cond_t); exact rfl; exact by_ks) | ((with_reducible apply CW.cond_f); exact rfl; exact by_ks) | ((with_reducible apply q_block_miss); exact rfl) | (refine And.intro (show chk [] [] _ _ = true by kernel_rfl) ?_))
            exact .one (.tmp rfl (.one (.d (.refl _))))

theorem ok_dkeys (l : List Str) (hl : l.length ≤ 268435456) (hk : ∀ s ∈ l, s.length ≤ 1073741824) : FnOk Tryz.prog 71 [.d (encStrs l)] (.one (dint (keysWrong l))) := by
  refine fnOk_of tbl_ok mixed_ok Tryz.func71 rfl (by kernel_rfl) rfl rfl fun w0 own0 => ?_
  unfold keysWrong
  by_cases h4 : 5 < l.length
  · rw [if_pos h4]
    repeat (first | ((with_reducible apply s1); exact rfl) | (with_reducible first | apply CW.seq | apply CW.block | apply CW.region | apply CW.draw | apply CW.skip | apply CW.exit | apply CW.ret | apply q_then | apply q_then_exit | apply q_then_ret | apply q_block | apply q_block_ret | apply q_block_hit | apply q_ret | apply q_end | apply q_loop_exit | apply q_loop_ret | apply q_loopT_exit | apply q_loopT_ret | apply RW.nil) | ((with_reducible apply s3); exact rfl; exact by_k) | ((with_reducible apply s2); exact rfl; exact by_k) | ((with_reducible apply s4); exact rfl) | ((with_reducible apply s5); (first | exact by_oa); exact by_g) | ((with_reducible apply CW.cond_t); exact rfl; exact by_ks) | ((with_reducible apply CW.cond_f); exact rfl; exact by_ks) | ((with_reducible apply q_block_miss); exact rfl) | (refine And.intro (show chk [] [] _ _ = true by kernel_rfl) ?_))
    exact .one (.tmp rfl (.one (.d (.refl _))))
  · rw [if_neg h4]
    repeat (first | ((with_reducible apply s1); exact rfl) | (with_reducible first | apply CW.seq | apply CW.block | apply CW.region | apply CW.draw | apply CW.skip | apply CW.exit | apply CW.ret | apply q_then | apply q_then_exit | apply q_then_ret | apply q_block | apply q_block_ret | apply q_block_hit | apply q_ret | apply q_end | apply q_loop_exit | apply q_loop_ret | apply q_loopT_exit | apply q_loopT_ret | apply RW.nil) | ((with_reducible apply s3); exact rfl; exact by_k) | ((with_reducible apply s2); exact rfl; exact by_k) | ((with_reducible apply s4); exact rfl) | ((with_reducible apply s5); (first | exact by_oa); exact by_g) | ((with_reducible apply CW.cond_t); exact rfl; exact by_ks) | ((with_reducible apply CW.cond_f); exact rfl; exact by_ks) | ((with_reducible apply q_block_miss); exact rfl) | (refine And.intro (show chk [] [] _ _ = true by kernel_rfl) ?_))
    refine CW.loopT (fun t : Nat => [sd 0 (encStrs l), sd 2 (dint 0), sd 8 (encStrs l), sd 9 (dint l.length), sd 10 (dint t), nxt 0])
      (fun t => t ≤ l.length ∧ keysGo l t (l.drop t) = keysGo l 0 l) (fun t => l.length - t) 0 ⟨by omega, rfl⟩ ?_ ?_
    ·
      exact by_less
    · rintro i ⟨hi, hJ⟩
      rcases drop_case hi with ⟨h5, h6⟩ | ⟨k, h5, h6, h7⟩
      · rw [h5, keysGo] at hJ
        repeat (first | ((with_reducible apply s1); exact rfl) | (with_reducible first | apply CW.seq | apply CW.block | apply CW.region | apply CW.draw | apply CW.skip | apply CW.exit | apply CW.ret | apply q_then | apply q_then_exit | apply q_then_ret | apply q_block | apply q_block_ret | apply q_block_hit | apply q_ret | apply q_end | apply q_loop_exit | apply q_loop_ret | apply q_loopT_exit | apply q_loopT_ret | apply RW.nil) | ((with_reducible apply s3); exact rfl; exact by_k) | ((with_reducible apply s2); exact rfl; exact by_k) | ((with_reducible apply s4); exact rfl) | ((with_reducible apply s5); (first | exact by_oa); exact by_g) | ((with_reducible apply CW.cond_t); exact rfl; exact by_ks) | ((with_reducible apply CW.cond_f); exact rfl; exact by_ks) | ((with_reducible apply q_block_miss); exact rfl) | (refine And.intro (show chk [] [] _ _ = true by kernel_rfl) ?_))
        rw [← hJ]
        exact .one (.tmp rfl (.one (.d (.refl _))))
      · rw [h5, keysGo] at hJ
        have hck := ok_pkey k (hk k (List.mem_of_getElem? h6))
        have hin : FnOk Tryz.prog 70 [.d (.sl 1 ((l.map encStr1).take i)), .d (dstr k)] (.one (dbool (isIn (l.take i) k))) := by
          rw [← List.map_take]
          exact ok_containsS (l.take i) k (by rw [List.length_take]; omega)
        cases h8 : key k with
        | false =>
          rw [h8] at hck
          rw [if_pos h8] at hJ
          repeat (first | ((with_reducible apply s1); exact rfl) | (with_reducible first | apply CW.seq | apply CW.block | apply CW.region | apply CW.draw | apply CW.skip | apply CW.exit | apply CW.ret | apply q_then | apply q_then_exit | apply q_then_ret | apply q_block | apply q_block_ret | apply q_block_hit | apply q_ret | apply q_end | apply q_loop_exit | apply q_loop_ret | apply q_loopT_exit | apply q_loopT_ret | apply RW.nil) | ((with_reducible apply s3); exact rfl; exact by_k) | ((with_reducible apply s2); exact rfl; exact by_k) | ((with_reducible apply s4); exact rfl) | ((with_reducible apply s5); (first | (focus ((with_reducible apply a_call); exact hck; exact rfl; (repeat (first | exact SubsE.nil | (apply SubsE.cons; exact rfl; (first | exact .d (.refl _) | exact .d (.nil _) | exact .agg rfl (.refl _) | exact .pd | exact .ptr rfl); (first | exact trivial | exact ⟨rfl, trivial⟩)))); done)) | exact by_oa); exact by_g) | ((with_reducible apply CW.cond_t); exact rfl; exact by_ks) | ((with_reducible apply CW.cond_f); exact rfl; exact by_ks) | ((with_reducible apply q_block_miss); exact rfl) | (refine And.intro (show chk [] [] _ _ = true by kernel_rfl) ?_))
          rw [← hJ]
          exact .one (.tmp rfl (.one (.d (.refl _))))
        | true =>
          rw [h8] at hck
          rw [if_neg (by simp [h8])] at hJ
          cases h9 : isIn (l.take i) k with
          | false =>
            rw [h9] at hin
            rw [if_neg (by simp [h9])] at hJ
            repeat (first | ((with_reducible apply s1); exact rfl) | (with_reducible first | apply CW.seq | apply CW.block | apply CW.region | apply CW.draw | apply CW.skip | apply CW.exit | apply CW.ret | apply q_then | apply q_then_exit | apply q_then_ret | apply q_block | apply q_block_ret | apply q_block_hit | apply q_ret | apply q_end | apply q_loop_exit | apply q_loop_ret | apply q_loopT_exit | apply q_loopT_ret | apply RW.nil) | ((with_reducible apply s3); exact rfl; exact by_k) | ((with_reducible apply s2); exact rfl; exact by_k) | ((with_reducible apply s4); exact rfl) | ((with_reducible apply s5); (first | (focus ((with_reducible apply a_call); exact hck; exact rfl; (repeat (first | exact SubsE.nil | (apply SubsE.cons; exact rfl; (first | exact .d (.refl _) | exact .d (.nil _) | exact .agg rfl (.refl _) | exact .pd | exact .ptr rfl); (first | exact trivial | exact ⟨rfl, trivial⟩)))); done)) | (focus ((with_reducible apply a_call); exact hin; exact rfl; (repeat (first | exact SubsE.nil | (apply SubsE.cons; exact rfl; (first | exact .d (.refl _) | exact .d (.nil _) | exact .agg rfl (.refl _) | exact .pd | exact .ptr rfl); (first | exact trivial | exact ⟨rfl, trivial⟩)))); done)) | exact by_oa); exact by_g) | ((with_reducible apply CW.cond_t); exact rfl; exact by_ks) | ((with_reducible apply CW.cond_f); exact rfl; exact by_ks) | ((with_reducible apply q_block_miss); exact rfl) | (refine And.intro (show chk [] [] _ _ = true by kernel_rfl) ?_))
            refine q_loopT (i + 1) ⟨by omega, hJ⟩ (by omega) ?_
            exact by_less
          | true =>
            rw [h9] at hin
            rw [if_pos h9] at hJ
            repeat (first | ((with_reducible apply s1); exact rfl) | (with_reducible first | apply CW.seq | apply CW.block | apply CW.region | apply CW.draw | apply CW.skip | apply CW.exit | apply CW.ret | apply q_then | apply q_then_exit | apply q_then_ret | apply q_block | apply q_block_ret | apply q_block_hit | apply q_ret | apply q_end | apply q_loop_exit | apply q_loop_ret | apply q_loopT_exit | apply q_loopT_ret | apply RW.nil) | ((with_reducible apply s3); exact rfl; exact by_k) | ((with_reducible apply s2); exact rfl; exact by_k) | ((with_reducible apply s4); exact rfl) | ((with_reducible apply s5); (first | (focus ((with_reducible apply a_call); exact hck; exact rfl; (repeat (first | exact SubsE.nil | (apply SubsE.cons; exact rfl; (first | exact .d (.refl _) | exact .d (.nil _) | exact .agg rfl (.refl _) | exact .pd | exact .ptr rfl); (first | exact trivial | exact ⟨rfl, trivial⟩)))); done)) | (focus ((with_reducible apply a_call); exact hin; exact rfl; (repeat (first | exact SubsE.nil | (apply SubsE.cons; exact rfl; (first | exact .d (.refl _) | exact .d (.nil _) | exact .agg rfl (.refl _) | exact .pd | exact .ptr rfl); (first | exact trivial | exact ⟨rfl, trivial⟩)))); done)) | exact by_oa); exact by_g) | ((with_reducible apply CW.cond_t); exact rfl; exact by_ks) | ((with_reducible apply CW.cond_f); exact rfl; exact by_ks) | ((with_reducible apply q_block_miss); exact rfl) | (refine And.intro (show chk [] [] _ _ = true by kernel_rfl) ?_))
            rw [← hJ]
            exact .one (.tmp rfl (.one (.d (.refl _))))

end Go.Proofs.YtembfadhnkabhaaGreatDoor

/-! G21 -/
/-
  Contract of the program's Wrong of deeds.
-/
namespace Go.Proofs.YtembfadhnkabhaaGreatDoor
open Go.AX Go.RF

set_option maxRecDepth 100000
set_option maxHeartbeats 8000000

theorem ok_pwrongDeed (d : Deed) (hs : d.Sm) : FnOk Tryz.prog 44 [.d (.agg d.enc)] (.one (dint (wrongDeed d))) := by
  refine fnOk_of tbl_ok mixed_ok Tryz.func44 rfl (by kernel_rfl) rfl rfl fun w0 own0 => ?_
  have hc := hs.c
  repeat (first | ((with_reducible apply s5); ((with_reducible apply a_bs ([d.reads, d.writes].map fun l => [encStrs l])); (iterate 9 exact rfl); (repeat (first | exact PartsE.nil | (apply PartsE.cons; exact rfl; exact rfl)))); exact by_g) | ((with_reducible apply s1); exact rfl) | (with_reducible first | apply CW.seq | apply CW.block | apply CW.region | apply CW.draw | apply CW.skip | apply CW.exit | apply CW.ret | apply q_then | apply q_then_exit | apply q_then_ret | apply q_block | apply q_block_ret | apply q_block_hit | apply q_ret | apply q_end | apply q_loop_exit | apply q_loop_ret | apply q_loopT_exit | apply q_loopT_ret | apply RW.nil) | ((with_reducible apply s3); exact rfl; exact by_k) | ((with_reducible apply s2); exact rfl; exact by_k) | ((with_reducible apply s4); exact rfl) | ((with_reducible apply s5); (first | exact by_oa); exact by_g) | ((with_reducible apply CW.cond_t); exact rfl; exact by_ks) | ((with_reducible apply CW.cond_f); exact rfl; exact by_ks) | ((with_reducible apply q_block_miss); exact rfl) | (refine And.intro (show chk [] [] _ _ = true by kernel_rfl) ?_))
  refine CW.loopT (fun j : Nat => [sp 1 0, ob 0 d.enc, sd 2 (dint 0), sd 13 (.sl 1 ([d.reads, d.writes].map fun l => [encStrs l])), sd 14 (dint 2), sd 15 (dint j), nxt 1])
    (fun j => j ≤ [d.reads, d.writes].length ∧ lsGo ([d.reads, d.writes].drop j) = lsGo [d.reads, d.writes]) (fun j => 2 - j) 0 ⟨by simp, rfl⟩ ?_ ?_
  ·
    exact by_less
  · rintro j ⟨hj, hI⟩
    have hj2 : j ≤ 2 := hj
    rcases drop_case hj with ⟨h1, h2⟩ | ⟨l, h1, h2, h3⟩
    · have h2' : j = 2 := h2
      rw [h1] at hI
      have hI' : lsGo [d.reads, d.writes] = 0 := hI.symm
      unfold wrongDeed
      rw [if_pos hI']
      by_cases h4 : 12 < d.code.length
      · rw [if_pos h4]
        repeat (first | ((with_reducible apply s1); exact rfl) | (with_reducible first | apply CW.seq | apply CW.block | apply CW.region | apply CW.draw | apply CW.skip | apply CW.exit | apply CW.ret | apply q_then | apply q_then_exit | apply q_then_ret | apply q_block | apply q_block_ret | apply q_block_hit | apply q_ret | apply q_end | apply q_loop_exit | apply q_loop_ret | apply q_loopT_exit | apply q_loopT_ret | apply RW.nil) | ((with_reducible apply s3); exact rfl; exact by_k) | ((with_reducible apply s2); exact rfl; exact by_k) | ((with_reducible apply s4); exact rfl) | ((with_reducible apply s5); (first | exact by_oa); exact by_g) | ((with_reducible apply CW.cond_t); exact rfl; exact by_ks) | ((with_reducible apply CW.cond_f); exact rfl; exact by_ks) | ((with_reducible apply q_block_miss); exact rfl) | (refine And.intro (show chk [] [] _ _ = true by kernel_rfl) ?_))
        exact .one (.tmp rfl (.one (.d (.refl _))))
      · rw [if_neg h4]
        repeat (first | ((with_reducible apply s1); exact rfl) | (with_reducible first | apply CW.seq | apply CW.block | apply CW.region | apply CW.draw | apply CW.skip | apply CW.exit | apply CW.ret | apply q_then | apply q_then_exit | apply q_then_ret | apply q_block | apply q_block_ret | apply q_block_hit | apply q_ret | apply q_end | apply q_loop_exit | apply q_loop_ret | apply q_loopT_exit | apply q_loopT_ret | apply RW.nil) | ((with_reducible apply s3); exact rfl; exact by_k) | ((with_reducible apply s2); exact rfl; exact by_k) | ((with_reducible apply s4); exact rfl) | ((with_reducible apply s5); (first | exact by_oa); exact by_g) | ((with_reducible apply CW.cond_t); exact rfl; exact by_ks) | ((with_reducible apply CW.cond_f); exact rfl; exact by_ks) | ((with_reducible apply q_block_miss); exact rfl) | (refine And.intro (show chk [] [] _ _ = true by kernel_rfl) ?_))
        refine CW.loopT (fun k : Nat => [sp 1 0, ob 0 d.enc, sd 2 (dint 0), sd 30 (encCode d.code), sd 31 (dint d.code.length), sd 32 (dint k), nxt 1])
          (fun k => k ≤ d.code.length ∧ codeGo d k (d.code.drop k) = codeGo d 0 d.code) (fun k => d.code.length - k) 0 ⟨by omega, rfl⟩ ?_ ?_
        ·
          exact by_less
        · rintro k ⟨hk, hJ⟩
          rcases drop_case hk with ⟨h5, h6⟩ | ⟨i, h5, h6, h7⟩
          · rw [h5, codeGo] at hJ
            repeat (first | ((with_reducible apply s1); exact rfl) | (with_reducible first | apply CW.seq | apply CW.block | apply CW.region | apply CW.draw | apply CW.skip | apply CW.exit | apply CW.ret | apply q_then | apply q_then_exit | apply q_then_ret | apply q_block | apply q_block_ret | apply q_block_hit | apply q_ret | apply q_end | apply q_loop_exit | apply q_loop_ret | apply q_loopT_exit | apply q_loopT_ret | apply RW.nil) | ((with_reducible apply s3); exact rfl; exact by_k) | ((with_reducible apply s2); exact rfl; exact by_k) | ((with_reducible apply s4); exact rfl) | ((with_reducible apply s5); (first | exact by_oa); exact by_g) | ((with_reducible apply CW.cond_t); exact rfl; exact by_ks) | ((with_reducible apply CW.cond_f); exact rfl; exact by_ks) | ((with_reducible apply q_block_miss); exact rfl) | (refine And.intro (show chk [] [] _ _ = true by kernel_rfl) ?_))
            rw [← hJ]
            exact .one (.tmp rfl (.one (.d (.refl _))))
          · rw [h5, codeGo] at hJ
            have ci : FnOk Tryz.prog 72 [.pd d.enc, .d (.agg i.enc), .d (dint (((d.code.map Ins.enc).length : Int) - 1 - k))] (.one (dint (wrongIns d ((d.code.length : Int) - 1 - k) i))) := by
              rw [List.length_map]; exact ok_instr d i ((d.code.length : Int) - 1 - k) hs.r hs.w
            by_cases h8 : wrongIns d ((d.code.length : Int) - 1 - k) i = 0
            · rw [if_pos h8] at hJ
              rw [h8] at ci
              repeat (first | ((with_reducible apply s1); exact rfl) | (with_reducible first | apply CW.seq | apply CW.block | apply CW.region | apply CW.draw | apply CW.skip | apply CW.exit | apply CW.ret | apply q_then | apply q_then_exit | apply q_then_ret | apply q_block | apply q_block_ret | apply q_block_hit | apply q_ret | apply q_end | apply q_loop_exit | apply q_loop_ret | apply q_loopT_exit | apply q_loopT_ret | apply RW.nil) | ((with_reducible apply s3); exact rfl; exact by_k) | ((with_reducible apply s2); exact rfl; exact by_k) | ((with_reducible apply s4); exact rfl) | ((with_reducible apply s5); (first | (focus ((with_reducible apply a_call); exact ci; exact rfl; (repeat (first | exact SubsE.nil | (apply SubsE.cons; exact rfl; (first | exact .d (.refl _) | exact .d (.nil _) | exact .agg rfl (.refl _) | exact .pd | exact .ptr rfl); (first | exact trivial | exact ⟨rfl, trivial⟩)))); done)) | exact by_oa); exact by_g) | ((with_reducible apply CW.cond_t); exact rfl; exact by_ks) | ((with_reducible apply CW.cond_f); exact rfl; exact by_ks) | ((with_reducible apply q_block_miss); exact rfl) | (refine And.intro (show chk [] [] _ _ = true by kernel_rfl) ?_))
              refine q_loopT (k + 1) ⟨by omega, hJ⟩ (by omega) ?_
              exact by_less
            · rw [if_neg h8] at hJ
              repeat (first | ((with_reducible apply s1); exact rfl) | (with_reducible first | apply CW.seq | apply CW.block | apply CW.region | apply CW.draw | apply CW.skip | apply CW.exit | apply CW.ret | apply q_then | apply q_then_exit | apply q_then_ret | apply q_block | apply q_block_ret | apply q_block_hit | apply q_ret | apply q_end | apply q_loop_exit | apply q_loop_ret | apply q_loopT_exit | apply q_loopT_ret | apply RW.nil) | ((with_reducible apply s3); exact rfl; exact by_k) | ((with_reducible apply s2); exact rfl; exact by_k) | ((with_reducible apply s4); exact rfl) | ((with_reducible apply s5); (first | (focus ((with_reducible apply a_call); exact ci; exact rfl; (repeat (first | exact SubsE.nil | (apply SubsE.cons; exact rfl; (first | exact .d (.refl _) | exact .d (.nil _) | exact .agg rfl (.refl _) | exact .pd | exact .ptr rfl); (first | exact trivial | exact ⟨rfl, trivial⟩)))); done)) | exact by_oa); exact by_g) | ((with_reducible apply CW.cond_t); exact rfl; exact by_ks) | ((with_reducible apply CW.cond_f); exact rfl; exact by_ks) | ((with_reducible apply q_block_miss); exact rfl) | (refine And.intro (show chk [] [] _ _ = true by kernel_rfl) ?_))
              rw [← hJ]
              exact .one (.tmp rfl (.one (.d (.refl _))))
    · rw [h1, lsGo] at hI
      have h3' : j < 2 := h3
      have hl : l.length ≤ 268435456 ∧ ∀ s ∈ l, s.length ≤ 1073741824 := by
        have := List.mem_of_getElem? h2
        simp at this
        rcases this with rfl | rfl
        · exact ⟨hs.r, hs.rk⟩
        · exact ⟨hs.w, hs.wk⟩
      have ck := ok_dkeys l hl.1 hl.2
      by_cases h8 : keysWrong l = 0
      · rw [if_pos h8] at hI
        rw [h8] at ck
        repeat (first | ((with_reducible apply s1); exact rfl) | (with_reducible first | apply CW.seq | apply CW.block | apply CW.region | apply CW.draw | apply CW.skip | apply CW.exit | apply CW.ret | apply q_then | apply q_then_exit | apply q_then_ret | apply q_block | apply q_block_ret | apply q_block_hit | apply q_ret | apply q_end | apply q_loop_exit | apply q_loop_ret | apply q_loopT_exit | apply q_loopT_ret | apply RW.nil) | ((with_reducible apply s3); exact rfl; exact by_k) | ((with_reducible apply s2); exact rfl; exact by_k) | ((with_reducible apply s4); exact rfl) | ((with_reducible apply s5); (first | (focus ((with_reducible apply a_call); exact ck; exact rfl; (repeat (first | exact SubsE.nil | (apply SubsE.cons; exact rfl; (first | exact .d (.refl _) | exact .d (.nil _) | exact .agg rfl (.refl _) | exact .pd | exact .ptr rfl); (first | exact trivial | exact ⟨rfl, trivial⟩)))); done)) | exact by_oa); exact by_g) | ((with_reducible apply CW.cond_t); exact rfl; exact by_ks) | ((with_reducible apply CW.cond_f); exact rfl; exact by_ks) | ((with_reducible apply q_block_miss); exact rfl) | (refine And.intro (show chk [] [] _ _ = true by kernel_rfl) ?_))
        refine q_loopT (j + 1) ⟨by simp; omega, hI⟩ (by omega) ?_
        exact by_less
      · rw [if_neg h8] at hI
        unfold wrongDeed
        rw [if_neg (by rw [← hI]; exact h8)]
        repeat (first | ((with_reducible apply s1); exact rfl) | (with_reducible first | apply CW.seq | apply CW.block | apply CW.region | apply CW.draw | apply CW.skip | apply CW.exit | apply CW.ret | apply q_then | apply q_then_exit | apply q_then_ret | apply q_block | apply q_block_ret | apply q_block_hit | apply q_ret | apply q_end | apply q_loop_exit | apply q_loop_ret | apply q_loopT_exit | apply q_loopT_ret | apply RW.nil) | ((with_reducible apply s3); exact rfl; exact by_k) | ((with_reducible apply s2); exact rfl; exact by_k) | ((with_reducible apply s4); exact rfl) | ((with_reducible apply s5); (first | (focus ((with_reducible apply a_call); exact ck; exact rfl; (repeat (first | exact SubsE.nil | (apply SubsE.cons; exact rfl; (first | exact .d (.refl _) | exact .d (.nil _) | exact .agg rfl (.refl _) | exact .pd | exact .ptr rfl); (first | exact trivial | exact ⟨rfl, trivial⟩)))); done)) | exact by_oa); exact by_g) | ((with_reducible apply CW.cond_t); exact rfl; exact by_ks) | ((with_reducible apply CW.cond_f); exact rfl; exact by_ks) | ((with_reducible apply q_block_miss); exact rfl) | (refine And.intro (show chk [] [] _ _ = true by kernel_rfl) ?_))
        rw [← hI]
        exact .one (.tmp rfl (.one (.d (.refl _))))

end Go.Proofs.YtembfadhnkabhaaGreatDoor

/-! G22 -/
/-
  Contracts of the program's New and Add of engines.
-/
namespace Go.Proofs.YtembfadhnkabhaaGreatDoor
open Go.AX Go.RF

set_option maxRecDepth 100000
set_option maxHeartbeats 8000000

theorem ok_pnew (r : List Pair) (hl : r.length ≤ 134217728) : FnOk Tryz.prog 41 [.d (encRows r)] (.one (.agg (newE r).enc)) := by
  refine fnOk_of tbl_ok mixed_ok Tryz.func41 rfl (by kernel_rfl) rfl rfl fun w0 own0 => ?_
  have c1 := ok_of r hl
  repeat (first | ((with_reducible apply s1); exact rfl) | (with_reducible first | apply CW.seq | apply CW.block | apply CW.region | apply CW.draw | apply CW.skip | apply CW.exit | apply CW.ret | apply q_then | apply q_then_exit | apply q_then_ret | apply q_block | apply q_block_ret | apply q_block_hit | apply q_ret | apply q_end | apply q_loop_exit | apply q_loop_ret | apply q_loopT_exit | apply q_loopT_ret | apply RW.nil) | ((with_reducible apply s3); exact rfl; exact by_k) | ((with_reducible apply s2); exact rfl; exact by_k) | ((with_reducible apply s4); exact rfl) | ((with_reducible apply s5); (first | (focus ((with_reducible apply a_call); exact c1; exact rfl; (repeat (first | exact SubsE.nil | (apply SubsE.cons; exact rfl; (first | exact .d (.refl _) | exact .d (.nil _) | exact .agg rfl (.refl _) | exact .pd | exact .ptr rfl); (first | exact trivial | exact ⟨rfl, trivial⟩)))); done)) | exact by_oa); exact by_g) | ((with_reducible apply CW.cond_t); exact rfl; exact by_ks) | ((with_reducible apply CW.cond_f); exact rfl; exact by_ks) | ((with_reducible apply q_block_miss); exact rfl) | (refine And.intro (show chk [] [] _ _ = true by kernel_rfl) ?_))
  exact .one (.cell rfl rfl rfl rfl (.aggd (ds := [encChains (r.map rowChain), .v nilS, .v nilS, .v nilS, dint 0]) rfl (DLes.agg (.cons (.refl _) (.cons (dle_nil 3) (.cons (dle_nil 1) (.cons (dle_nil 5) (.cons (.refl _) .nil))))))))

theorem ok_padde (e : Engine) (l : List Deed) (N : Nat) (hE : EInv e N) (hS : SInv e) (hd : ∀ d ∈ l, d.Sm) (hl : l.length ≤ 10000000) (hN : N ≤ 50000000) :
    FnOk Tryz.prog 24 [.d (.agg e.enc), .d (encDeeds l)] (.tup [.agg (addE e l).1.enc, dint (addE e l).2]) := by
  refine fnOk_of tbl_ok mixed_ok Tryz.func24 rfl (by kernel_rfl) rfl rfl fun w0 own0 => ?_
  repeat (first | ((with_reducible apply s1); exact rfl) | (with_reducible first | apply CW.seq | apply CW.block | apply CW.region | apply CW.draw | apply CW.skip | apply CW.exit | apply CW.ret | apply q_then | apply q_then_exit | apply q_then_ret | apply q_block | apply q_block_ret | apply q_block_hit | apply q_ret | apply q_end | apply q_loop_exit | apply q_loop_ret | apply q_loopT_exit | apply q_loopT_ret | apply RW.nil) | ((with_reducible apply s3); exact rfl; exact by_k) | ((with_reducible apply s2); exact rfl; exact by_k) | ((with_reducible apply s4); exact rfl) | ((with_reducible apply s5); (first | exact by_oa); exact by_g) | ((with_reducible apply CW.cond_t); exact rfl; exact by_ks) | ((with_reducible apply CW.cond_f); exact rfl; exact by_ks) | ((with_reducible apply q_block_miss); exact rfl) | (refine And.intro (show chk [] [] _ _ = true by kernel_rfl) ?_))
  refine CW.loopT (fun i : Nat => [sd 1 (encDeeds l), sp 2 0, ob 0 e.enc, sp 4 1, ob 1 noE.enc0, sd 5 (dint 0), sd 15 (encDeeds l), sd 16 (dint l.length), sd 17 (dint i), nxt 2])
    (fun i => i ≤ l.length ∧ wrongs (l.drop i) = wrongs l) (fun i => l.length - i) 0 ⟨by omega, rfl⟩ ?_ ?_
  ·
    exact by_less
  · rintro i ⟨hi, hI⟩
    rcases drop_case hi with ⟨h1, h2⟩ | ⟨d, h1, h2, h3⟩
    · rw [h1, wrongs] at hI
      have hw : wrongs l = 0 := hI.symm
      have hok := wrongs_mem hw
      have hres : addE e l = (addAll e l, 0) := by rw [addE, if_pos hw]
      rw [hres]
      have hs := hE.z.sm (by omega)
      have co := news_planOwn e hs
      repeat (first | ((with_reducible apply s1); exact rfl) | (with_reducible first | apply CW.seq | apply CW.block | apply CW.region | apply CW.draw | apply CW.skip | apply CW.exit | apply CW.ret | apply q_then | apply q_then_exit | apply q_then_ret | apply q_block | apply q_block_ret | apply q_block_hit | apply q_ret | apply q_end | apply q_loop_exit | apply q_loop_ret | apply q_loopT_exit | apply q_loopT_ret | apply RW.nil) | ((with_reducible apply s3); exact rfl; exact by_k) | ((with_reducible apply s2); exact rfl; exact by_k) | ((with_reducible apply s4); exact rfl) | ((with_reducible apply s5); (first | (focus ((with_reducible apply a_callnews); exact co; (iterate 2 exact rfl); (repeat (first | exact SubsE.nil | (apply SubsE.cons; exact rfl; (first | exact .d (.refl _) | exact .d (.nil _) | exact .agg rfl (.refl _) | exact .pd | exact .ptr rfl); (first | exact trivial | exact ⟨rfl, trivial⟩)))); done)) | exact by_oa); exact by_g) | ((with_reducible apply CW.cond_t); exact rfl; exact by_ks) | ((with_reducible apply CW.cond_f); exact rfl; exact by_ks) | ((with_reducible apply q_block_miss); exact rfl) | (refine And.intro (show chk [] [] _ _ = true by kernel_rfl) ?_))
      refine CW.loopT (fun t : Nat × Engine => [sd 1 (encDeeds l), sp 4 1, ob 1 noE.enc0, sd 5 (dint 0), sp 9 5, (.o 5, .ob (.box [.d (encChains t.2.chains), .own 2 (t.2.deeds.map Deed.enc).length, .own 3 (t.2.state.map encInt1).length, .own 4 (t.2.ends.map Done.enc).length, .d (dint t.2.base)])),
          oa 2 69 3 (t.2.deeds.map Deed.enc), oa 3 3 1 (t.2.state.map encInt1), oa 4 53 5 (t.2.ends.map Done.enc), sd 30 (encDeeds l), sd 31 (dint l.length), sd 32 (dint t.1), nxt 6])
        (fun t => t.1 ≤ l.length ∧ EInv t.2 (N + 5 * t.1) ∧ SInv t.2 ∧ addAll t.2 (l.drop t.1) = addAll e l) (fun t => l.length - t.1) (0, e) ⟨by omega, hE, hS, rfl⟩ ?_ ?_
      ·
        exact by_less
      · rintro ⟨i, x⟩ ⟨hi, hX, hSx, hJ⟩
        dsimp only at hi hX hSx hJ ⊢
        rcases drop_case hi with ⟨h1, h2⟩ | ⟨d, h1, h2, h3⟩
        · rw [h1, addAll] at hJ
          repeat (first | ((with_reducible apply s1); exact rfl) | (with_reducible first | apply CW.seq | apply CW.block | apply CW.region | apply CW.draw | apply CW.skip | apply CW.exit | apply CW.ret | apply q_then | apply q_then_exit | apply q_then_ret | apply q_block | apply q_block_ret | apply q_block_hit | apply q_ret | apply q_end | apply q_loop_exit | apply q_loop_ret | apply q_loopT_exit | apply q_loopT_ret | apply RW.nil) | ((with_reducible apply s3); exact rfl; exact by_k) | ((with_reducible apply s2); exact rfl; exact by_k) | ((with_reducible apply s4); exact rfl) | ((with_reducible apply s5); (first | exact by_oa); exact by_g) | ((with_reducible apply CW.cond_t); exact rfl; exact by_ks) | ((with_reducible apply CW.cond_f); exact rfl; exact by_ks) | ((with_reducible apply q_block_miss); exact rfl) | (refine And.intro (show chk [] [] _ _ = true by kernel_rfl) ?_))
          rw [← hJ]
          exact .two (.cell rfl rfl rfl rfl (.agg (.cons (.d (.refl _)) (.cons (.own rfl (by simp) (.refl _)) (.cons (.own rfl (by simp) (.refl _)) (.cons (.own rfl (by simp) (.refl _)) (.cons (.d (.refl _)) .nil))))))) (.tmp rfl (.one (.d (.refl _))))
        · rw [h1, addAll] at hJ
          have hdm := List.mem_of_getElem? h2
          have hds := hd d hdm
          have hdo := wrongDeed_ok (hok d hdm)
          have hX1 := hX.add1 hds hdo
          have hS1 := hSx.add1 (wrong_keys (hok d hdm)).2
          have cow := ok_deedOwn d hds
          have hz := hX.z
          have hb := hz.b
          have hwl := hdo.w
          have hdl := hz.d
          have hst := hz.s
          have hen := hz.n
          repeat (first | ((with_reducible apply s1); exact rfl) | (with_reducible first | apply CW.seq | apply CW.block | apply CW.region | apply CW.draw | apply CW.skip | apply CW.exit | apply CW.ret | apply q_then | apply q_then_exit | apply q_then_ret | apply q_block | apply q_block_ret | apply q_block_hit | apply q_ret | apply q_end | apply q_loop_exit | apply q_loop_ret | apply q_loopT_exit | apply q_loopT_ret | apply RW.nil) | ((with_reducible apply s3); exact rfl; exact by_k) | ((with_reducible apply s2); exact rfl; exact by_k) | ((with_reducible apply s4); exact rfl) | ((with_reducible apply s5); (first | exact by_oa); exact by_g) | ((with_reducible apply CW.cond_t); exact rfl; exact by_ks) | ((with_reducible apply CW.cond_f); exact rfl; exact by_ks) | ((with_reducible apply q_block_miss); exact rfl) | (refine And.intro (show chk [] [] _ _ = true by kernel_rfl) ?_))
          refine CW.loopT (fun t : Nat × List Chain => [sd 1 (encDeeds l), sp 4 1, ob 1 noE.enc0, sd 5 (dint 0), sp 9 5, (.o 5, .ob (.box [.d (encChains t.2), .own 2 (x.deeds.map Deed.enc).length, .own 3 (x.state.map encInt1).length, .own 4 (x.ends.map Done.enc).length, .d (dint x.base)])),
              oa 2 69 3 (x.deeds.map Deed.enc), oa 3 3 1 (x.state.map encInt1), oa 4 53 5 (x.ends.map Done.enc), sd 30 (encDeeds l), sd 31 (dint l.length), sd 32 (dint i),
              sp 11 6, ob 6 d.enc, sd 12 (dint (x.base + x.deeds.length)), sd 43 (encStrs d.writes), sd 44 (dint d.writes.length), sd 45 (dint t.1), nxt 7])
            (fun t => t.1 ≤ d.writes.length ∧ t.2.length ≤ N + 5 * i + t.1 ∧ (∀ c ∈ t.2, c.vs.length ≤ N + 5 * i + t.1) ∧ Srt Chain.key t.2 ∧ addKeys (x.base + x.deeds.length) t.2 (d.writes.drop t.1) = addKeys (x.base + x.deeds.length) x.chains d.writes) (fun t => d.writes.length - t.1) (0, x.chains) ⟨by omega, hz.c, hz.v, hSx.k, rfl⟩ ?_ ?_
          ·
            exact by_less
          · rintro ⟨j, cs⟩ ⟨hj, hcl, hcv, hcs, hK⟩
            dsimp only at hj hcl hcv hcs hK ⊢
            rcases drop_case hj with ⟨g1, g2⟩ | ⟨k, g1, g2, g3⟩
            · rw [g1, addKeys] at hK
              subst hK
              repeat (first | ((with_reducible apply s1); exact rfl) | (with_reducible first | apply CW.seq | apply CW.block | apply CW.region | apply CW.draw | apply CW.skip | apply CW.exit | apply CW.ret | apply q_then | apply q_then_exit | apply q_then_ret | apply q_block | apply q_block_ret | apply q_block_hit | apply q_ret | apply q_end | apply q_loop_exit | apply q_loop_ret | apply q_loopT_exit | apply q_loopT_ret | apply RW.nil) | ((with_reducible apply s3); exact rfl; exact by_k) | ((with_reducible apply s2); exact rfl; exact by_k) | ((with_reducible apply s4); exact rfl) | ((with_reducible apply s5); (first | (focus ((with_reducible apply a_call); exact cow; exact rfl; (repeat (first | exact SubsE.nil | (apply SubsE.cons; exact rfl; (first | exact .d (.refl _) | exact .d (.nil _) | exact .agg rfl (.refl _) | exact .pd | exact .ptr rfl); (first | exact trivial | exact ⟨rfl, trivial⟩)))); done)) | exact by_oa); exact by_g) | ((with_reducible apply CW.cond_t); exact rfl; exact by_ks) | ((with_reducible apply CW.cond_f); exact rfl; exact by_ks) | ((with_reducible apply q_block_miss); exact rfl) | (refine And.intro (show chk [] [] _ _ = true by kernel_rfl) ?_))
              refine q_loopT (i + 1, add1 x d) ⟨by dsimp only; omega, by dsimp only; rw [show N + 5 * (i + 1) = N + 5 * i + 5 by omega]; exact hX1, hS1, hJ⟩ (by dsimp only; omega) ?_
              unfold add1
              exact by_less
            · rw [g1, addKeys, addC_srt hcs] at hK
              have ca := ok_padd cs k (x.base + x.deeds.length) (by omega) (fun c hc => by have := hcv c hc; omega) hcs
              repeat (first | ((with_reducible apply s1); exact rfl) | (with_reducible first | apply CW.seq | apply CW.block | apply CW.region | apply CW.draw | apply CW.skip | apply CW.exit | apply CW.ret | apply q_then | apply q_then_exit | apply q_then_ret | apply q_block | apply q_block_ret | apply q_block_hit | apply q_ret | apply q_end | apply q_loop_exit | apply q_loop_ret | apply q_loopT_exit | apply q_loopT_ret | apply RW.nil) | ((with_reducible apply s3); exact rfl; exact by_k) | ((with_reducible apply s2); exact rfl; exact by_k) | ((with_reducible apply s4); exact rfl) | ((with_reducible apply s5); (first | (focus ((with_reducible apply a_call); exact ca; exact rfl; (repeat (first | exact SubsE.nil | (apply SubsE.cons; exact rfl; (first | exact .d (.refl _) | exact .d (.nil _) | exact .agg rfl (.refl _) | exact .pd | exact .ptr rfl); (first | exact trivial | exact ⟨rfl, trivial⟩)))); done)) | exact by_oa); exact by_g) | ((with_reducible apply CW.cond_t); exact rfl; exact by_ks) | ((with_reducible apply CW.cond_f); exact rfl; exact by_ks) | ((with_reducible apply q_block_miss); exact rfl) | (refine And.intro (show chk [] [] _ _ = true by kernel_rfl) ?_))
              refine q_loopT (j + 1, addS k (x.base + x.deeds.length) cs) ⟨by dsimp only; omega, by have := addS_len (k := k) (b := x.base + x.deeds.length) cs; dsimp only; omega, fun c hc => by have := addS_vs hcv c hc; dsimp only; omega, addS_srt hcs, hK⟩ (by dsimp only; omega) ?_
              exact by_less
    · rw [h1] at hI
      simp only [wrongs] at hI
      have hc := ok_pwrongDeed d (hd d (List.mem_of_getElem? h2))
      by_cases h4 : wrongDeed d = 0
      · rw [if_pos h4] at hI
        rw [h4] at hc
        repeat (first | ((with_reducible apply s1); exact rfl) | (with_reducible first | apply CW.seq | apply CW.block | apply CW.region | apply CW.draw | apply CW.skip | apply CW.exit | apply CW.ret | apply q_then | apply q_then_exit | apply q_then_ret | apply q_block | apply q_block_ret | apply q_block_hit | apply q_ret | apply q_end | apply q_loop_exit | apply q_loop_ret | apply q_loopT_exit | apply q_loopT_ret | apply RW.nil) | ((with_reducible apply s3); exact rfl; exact by_k) | ((with_reducible apply s2); exact rfl; exact by_k) | ((with_reducible apply s4); exact rfl) | ((with_reducible apply s5); (first | (focus ((with_reducible apply a_call); exact hc; exact rfl; (repeat (first | exact SubsE.nil | (apply SubsE.cons; exact rfl; (first | exact .d (.refl _) | exact .d (.nil _) | exact .agg rfl (.refl _) | exact .pd | exact .ptr rfl); (first | exact trivial | exact ⟨rfl, trivial⟩)))); done)) | exact by_oa); exact by_g) | ((with_reducible apply CW.cond_t); exact rfl; exact by_ks) | ((with_reducible apply CW.cond_f); exact rfl; exact by_ks) | ((with_reducible apply q_block_miss); exact rfl) | (refine And.intro (show chk [] [] _ _ = true by kernel_rfl) ?_))
        refine q_loopT (i + 1) ⟨by omega, hI⟩ (by omega) ?_
        exact by_less
      · rw [if_neg h4] at hI
        have hres : addE e l = (noE, wrongs l) := by rw [addE, if_neg (by rw [← hI]; exact h4)]
        rw [hres]
        repeat (first | ((with_reducible apply s1); exact rfl) | (with_reducible first | apply CW.seq | apply CW.block | apply CW.region | apply CW.draw | apply CW.skip | apply CW.exit | apply CW.ret | apply q_then | apply q_then_exit | apply q_then_ret | apply q_block | apply q_block_ret | apply q_block_hit | apply q_ret | apply q_end | apply q_loop_exit | apply q_loop_ret | apply q_loopT_exit | apply q_loopT_ret | apply RW.nil) | ((with_reducible apply s3); exact rfl; exact by_k) | ((with_reducible apply s2); exact rfl; exact by_k) | ((with_reducible apply s4); exact rfl) | ((with_reducible apply s5); (first | (focus ((with_reducible apply a_call); exact hc; exact rfl; (repeat (first | exact SubsE.nil | (apply SubsE.cons; exact rfl; (first | exact .d (.refl _) | exact .d (.nil _) | exact .agg rfl (.refl _) | exact .pd | exact .ptr rfl); (first | exact trivial | exact ⟨rfl, trivial⟩)))); done)) | exact by_oa); exact by_g) | ((with_reducible apply CW.cond_t); exact rfl; exact by_ks) | ((with_reducible apply CW.cond_f); exact rfl; exact by_ks) | ((with_reducible apply q_block_miss); exact rfl) | (refine And.intro (show chk [] [] _ _ = true by kernel_rfl) ?_))
        exact .two (.cell rfl rfl rfl rfl (.aggd (ds := noE.enc0) rfl (DLes.agg (.cons (dle_nil 2) (.cons (dle_nil 3) (.cons (dle_nil 1) (.cons (dle_nil 5) (.cons (.refl _) .nil)))))))) (.tmp rfl (.one (.d (dle_int hI))))

end Go.Proofs.YtembfadhnkabhaaGreatDoor

/-! F4 -/
/-
  Contract of the references' WrongRows.
-/
namespace Go.Proofs.YtembfadhnkabhaaGreatDoor
open Go.AX Go.RF

set_option maxRecDepth 100000
set_option maxHeartbeats 4000000

theorem ok_wrongRows (l : List Pair) (hl : l.length ≤ 268435456) (hk : ∀ p ∈ l, p.key.length ≤ 1073741824) : FnOk Tryz.prog 9 [.d (encRows l)] (.one (dint (wrongRows l))) := by
  refine fnOk_of tbl_ok mixed_ok Tryz.func9 rfl (by kernel_rfl) rfl rfl fun w0 own0 => ?_
  repeat (first | ((with_reducible apply s1); exact rfl) | (with_reducible first | apply CW.seq | apply CW.block | apply CW.region | apply CW.draw | apply CW.skip | apply CW.exit | apply CW.ret | apply q_then | apply q_then_exit | apply q_then_ret | apply q_block | apply q_block_ret | apply q_block_hit | apply q_ret | apply q_end | apply q_loop_exit | apply q_loop_ret | apply q_loopT_exit | apply q_loopT_ret | apply RW.nil) | ((with_reducible apply s3); exact rfl; exact by_k) | ((with_reducible apply s2); exact rfl; exact by_k) | ((with_reducible apply s4); exact rfl) | ((with_reducible apply s5); (first | exact by_oa); exact by_g) | ((with_reducible apply CW.cond_t); exact rfl; exact by_ks) | ((with_reducible apply CW.cond_f); exact rfl; exact by_ks) | ((with_reducible apply q_block_miss); exact rfl) | (refine And.intro (show chk [] [] _ _ = true by kernel_rfl) ?_))
  refine CW.loopT (fun t : Nat × Str => [(.s 3, .av (.d (dstr t.2))), (.s 6, .av (.d (encRows l))), (.s 7, .av (.d (dint l.length))), (.s 8, .av (.d (dint t.1))), (.nx, .num 0)])
    (fun t => t.1 ≤ l.length ∧ wrongRowsGo t.1 t.2 (l.drop t.1) = wrongRows l) (fun t => l.length - t.1) (0, []) ⟨by omega, rfl⟩ ?_ ?_
  ·
    exact by_less
  · rintro ⟨i, last⟩ ⟨hi, hI⟩
    dsimp only at hi hI ⊢
    rcases drop_case hi with ⟨h1, h2⟩ | ⟨p, h1, h2, h3⟩
    · rw [h1] at hI
      simp only [wrongRowsGo] at hI
      repeat (first | ((with_reducible apply s1); exact rfl) | (with_reducible first | apply CW.seq | apply CW.block | apply CW.region | apply CW.draw | apply CW.skip | apply CW.exit | apply CW.ret | apply q_then | apply q_then_exit | apply q_then_ret | apply q_block | apply q_block_ret | apply q_block_hit | apply q_ret | apply q_end | apply q_loop_exit | apply q_loop_ret | apply q_loopT_exit | apply q_loopT_ret | apply RW.nil) | ((with_reducible apply s3); exact rfl; exact by_k) | ((with_reducible apply s2); exact rfl; exact by_k) | ((with_reducible apply s4); exact rfl) | ((with_reducible apply s5); (first | exact by_oa); exact by_g) | ((with_reducible apply CW.cond_t); exact rfl; exact by_ks) | ((with_reducible apply CW.cond_f); exact rfl; exact by_ks) | ((with_reducible apply q_block_miss); exact rfl) | (refine And.intro (show chk [] [] _ _ = true by kernel_rfl) ?_))
      exact .one (.tmp rfl (.one (.d (dle_int hI))))
    · rw [h1] at hI
      simp only [wrongRowsGo] at hI
      have hc := ok_key p.key (hk p (List.mem_of_getElem? h2))
      cases h4 : key p.key
      · rw [if_pos h4] at hI
        repeat (first | ((with_reducible apply s1); exact rfl) | (with_reducible first | apply CW.seq | apply CW.block | apply CW.region | apply CW.draw | apply CW.skip | apply CW.exit | apply CW.ret | apply q_then | apply q_then_exit | apply q_then_ret | apply q_block | apply q_block_ret | apply q_block_hit | apply q_ret | apply q_end | apply q_loop_exit | apply q_loop_ret | apply q_loopT_exit | apply q_loopT_ret | apply RW.nil) | ((with_reducible apply s3); exact rfl; exact by_k) | ((with_reducible apply s2); exact rfl; exact by_k) | ((with_reducible apply s4); exact rfl) | ((with_reducible apply s5); (first | (focus ((with_reducible apply a_call); exact hc; exact rfl; (repeat (first | exact SubsE.nil | (apply SubsE.cons; exact rfl; (first | exact .d (.refl _) | exact .d (.nil _) | exact .agg rfl (.refl _) | exact .pd | exact .ptr rfl); (first | exact trivial | exact ⟨rfl, trivial⟩)))); done)) | exact by_oa); exact by_g) | ((with_reducible apply CW.cond_t); exact rfl; exact by_ks) | ((with_reducible apply CW.cond_f); exact rfl; exact by_ks) | ((with_reducible apply q_block_miss); exact rfl) | (refine And.intro (show chk [] [] _ _ = true by kernel_rfl) ?_))
        exact .one (.tmp rfl (.one (.d (dle_int hI))))
      · rw [if_neg (by simp [h4])] at hI
        by_cases h5 : 0 < i
        · cases h6 : sle p.key last
          · rw [if_neg (by simp [h6])] at hI
            have h6' : (Go.Op.bytesLess p.key last || decide (p.key = last)) = false := h6
            by_cases h7 : 1073741824 < p.n
            · rw [if_pos (.inl h7)] at hI
              repeat (first | ((with_reducible apply s1); exact rfl) | (with_reducible first | apply CW.seq | apply CW.block | apply CW.region | apply CW.draw | apply CW.skip | apply CW.exit | apply CW.ret | apply q_then | apply q_then_exit | apply q_then_ret | apply q_block | apply q_block_ret | apply q_block_hit | apply q_ret | apply q_end | apply q_loop_exit | apply q_loop_ret | apply q_loopT_exit | apply q_loopT_ret | apply RW.nil) | ((with_reducible apply s3); exact rfl; exact by_k) | ((with_reducible apply s2); exact rfl; exact by_k) | ((with_reducible apply s4); exact rfl) | ((with_reducible apply s5); (first | (focus ((with_reducible apply a_call); exact hc; exact rfl; (repeat (first | exact SubsE.nil | (apply SubsE.cons; exact rfl; (first | exact .d (.refl _) | exact .d (.nil _) | exact .agg rfl (.refl _) | exact .pd | exact .ptr rfl); (first | exact trivial | exact ⟨rfl, trivial⟩)))); done)) | exact by_oa); exact by_g) | ((with_reducible apply CW.cond_t); exact rfl; exact by_ks) | ((with_reducible apply CW.cond_f); exact rfl; exact by_ks) | ((with_reducible apply q_block_miss); exact rfl) | (refine And.intro (show chk [] [] _ _ = true by kernel_rfl) ?_))
              exact .one (.tmp rfl (.one (.d (dle_int hI))))
            · by_cases h8 : p.n < -1073741824
              · rw [if_pos (.inr h8)] at hI
                repeat (first | ((with_reducible apply s1); exact rfl) | (with_reducible first | apply CW.seq | apply CW.block | apply CW.region | apply CW.draw | apply CW.skip | apply CW.exit | apply CW.ret | apply q_then | apply q_then_exit | apply q_then_ret | apply q_block | apply q_block_ret | apply q_block_hit | apply q_ret | apply q_end | apply q_loop_exit | apply q_loop_ret | apply q_loopT_exit | apply q_loopT_ret | apply RW.nil) | ((with_reducible apply s3); exact rfl; exact by_k) | ((with_reducible apply s2); exact rfl; exact by_k) | ((with_reducible apply s4); exact rfl) | ((with_reducible apply s5); (first | (focus ((with_reducible apply a_call); exact hc; exact rfl; (repeat (first | exact SubsE.nil | (apply SubsE.cons; exact rfl; (first | exact .d (.refl _) | exact .d (.nil _) | exact .agg rfl (.refl _) | exact .pd | exact .ptr rfl); (first | exact trivial | exact ⟨rfl, trivial⟩)))); done)) | exact by_oa); exact by_g) | ((with_reducible apply CW.cond_t); exact rfl; exact by_ks) | ((with_reducible apply CW.cond_f); exact rfl; exact by_ks) | ((with_reducible apply q_block_miss); exact rfl) | (refine And.intro (show chk [] [] _ _ = true by kernel_rfl) ?_))
                exact .one (.tmp rfl (.one (.d (dle_int hI))))
              · rw [if_neg (by omega)] at hI
                repeat (first | ((with_reducible apply s1); exact rfl) | (with_reducible first | apply CW.seq | apply CW.block | apply CW.region | apply CW.draw | apply CW.skip | apply CW.exit | apply CW.ret | apply q_then | apply q_then_exit | apply q_then_ret | apply q_block | apply q_block_ret | apply q_block_hit | apply q_ret | apply q_end | apply q_loop_exit | apply q_loop_ret | apply q_loopT_exit | apply q_loopT_ret | apply RW.nil) | ((with_reducible apply s3); exact rfl; exact by_k) | ((with_reducible apply s2); exact rfl; exact by_k) | ((with_reducible apply s4); exact rfl) | ((with_reducible apply s5); (first | (focus ((with_reducible apply a_call); exact hc; exact rfl; (repeat (first | exact SubsE.nil | (apply SubsE.cons; exact rfl; (first | exact .d (.refl _) | exact .d (.nil _) | exact .agg rfl (.refl _) | exact .pd | exact .ptr rfl); (first | exact trivial | exact ⟨rfl, trivial⟩)))); done)) | exact by_oa); exact by_g) | ((with_reducible apply CW.cond_t); exact rfl; exact by_ks) | ((with_reducible apply CW.cond_f); exact rfl; exact by_ks) | ((with_reducible apply q_block_miss); exact rfl) | (refine And.intro (show chk [] [] _ _ = true by kernel_rfl) ?_))
                refine q_loopT (i + 1, _) ⟨by omega, hI⟩ (by dsimp only; omega) ?_
                exact by_less
          · rw [if_pos ⟨h5, h6⟩] at hI
            have h6' : (Go.Op.bytesLess p.key last || decide (p.key = last)) = true := h6
            repeat (first | ((with_reducible apply s1); exact rfl) | (with_reducible first | apply CW.seq | apply CW.block | apply CW.region | apply CW.draw | apply CW.skip | apply CW.exit | apply CW.ret | apply q_then | apply q_then_exit | apply q_then_ret | apply q_block | apply q_block_ret | apply q_block_hit | apply q_ret | apply q_end | apply q_loop_exit | apply q_loop_ret | apply q_loopT_exit | apply q_loopT_ret | apply RW.nil) | ((with_reducible apply s3); exact rfl; exact by_k) | ((with_reducible apply s2); exact rfl; exact by_k) | ((with_reducible apply s4); exact rfl) | ((with_reducible apply s5); (first | (focus ((with_reducible apply a_call); exact hc; exact rfl; (repeat (first | exact SubsE.nil | (apply SubsE.cons; exact rfl; (first | exact .d (.refl _) | exact .d (.nil _) | exact .agg rfl (.refl _) | exact .pd | exact .ptr rfl); (first | exact trivial | exact ⟨rfl, trivial⟩)))); done)) | exact by_oa); exact by_g) | ((with_reducible apply CW.cond_t); exact rfl; exact by_ks) | ((with_reducible apply CW.cond_f); exact rfl; exact by_ks) | ((with_reducible apply q_block_miss); exact rfl) | (refine And.intro (show chk [] [] _ _ = true by kernel_rfl) ?_))
            exact .one (.tmp rfl (.one (.d (dle_int hI))))
        · rw [if_neg (by simp; omega)] at hI
          by_cases h7 : 1073741824 < p.n
          · rw [if_pos (.inl h7)] at hI
            repeat (first | ((with_reducible apply s1); exact rfl) | (with_reducible first | apply CW.seq | apply CW.block | apply CW.region | apply CW.draw | apply CW.skip | apply CW.exit | apply CW.ret | apply q_then | apply q_then_exit | apply q_then_ret | apply q_block | apply q_block_ret | apply q_block_hit | apply q_ret | apply q_end | apply q_loop_exit | apply q_loop_ret | apply q_loopT_exit | apply q_loopT_ret | apply RW.nil) | ((with_reducible apply s3); exact rfl; exact by_k) | ((with_reducible apply s2); exact rfl; exact by_k) | ((with_reducible apply s4); exact rfl) | ((with_reducible apply s5); (first | (focus ((with_reducible apply a_call); exact hc; exact rfl; (repeat (first | exact SubsE.nil | (apply SubsE.cons; exact rfl; (first | exact .d (.refl _) | exact .d (.nil _) | exact .agg rfl (.refl _) | exact .pd | exact .ptr rfl); (first | exact trivial | exact ⟨rfl, trivial⟩)))); done)) | exact by_oa); exact by_g) | ((with_reducible apply CW.cond_t); exact rfl; exact by_ks) | ((with_reducible apply CW.cond_f); exact rfl; exact by_ks) | ((with_reducible apply q_block_miss); exact rfl) | (refine And.intro (show chk [] [] _ _ = true by kernel_rfl) ?_))
            exact .one (.tmp rfl (.one (.d (dle_int hI))))
          · by_cases h8 : p.n < -1073741824
            · rw [if_pos (.inr h8)] at hI
              repeat (first | ((with_reducible apply s1); exact rfl) | (with_reducible first | apply CW.seq | apply CW.block | apply CW.region | apply CW.draw | apply CW.skip | apply CW.exit | apply CW.ret | apply q_then | apply q_then_exit | apply q_then_ret | apply q_block | apply q_block_ret | apply q_block_hit | apply q_ret | apply q_end | apply q_loop_exit | apply q_loop_ret | apply q_loopT_exit | apply q_loopT_ret | apply RW.nil) | ((with_reducible apply s3); exact rfl; exact by_k) | ((with_reducible apply s2); exact rfl; exact by_k) | ((with_reducible apply s4); exact rfl) | ((with_reducible apply s5); (first | (focus ((with_reducible apply a_call); exact hc; exact rfl; (repeat (first | exact SubsE.nil | (apply SubsE.cons; exact rfl; (first | exact .d (.refl _) | exact .d (.nil _) | exact .agg rfl (.refl _) | exact .pd | exact .ptr rfl); (first | exact trivial | exact ⟨rfl, trivial⟩)))); done)) | exact by_oa); exact by_g) | ((with_reducible apply CW.cond_t); exact rfl; exact by_ks) | ((with_reducible apply CW.cond_f); exact rfl; exact by_ks) | ((with_reducible apply q_block_miss); exact rfl) | (refine And.intro (show chk [] [] _ _ = true by kernel_rfl) ?_))
              exact .one (.tmp rfl (.one (.d (dle_int hI))))
            · rw [if_neg (by omega)] at hI
              repeat (first | ((with_reducible apply s1); exact rfl) | (with_reducible first | apply CW.seq | apply CW.block | apply CW.region | apply CW.draw | apply CW.skip | apply CW.exit | apply CW.ret | apply q_then | apply q_then_exit | apply q_then_ret | apply q_block | apply q_block_ret | apply q_block_hit | apply q_ret | apply q_end | apply q_loop_exit | apply q_loop_ret | apply q_loopT_exit | apply q_loopT_ret | apply RW.nil) | ((with_reducible apply s3); exact rfl; exact by_k) | ((with_reducible apply s2); exact rfl; exact by_k) | ((with_reducible apply s4); exact rfl) | ((with_reducible apply s5); (first | (focus ((with_reducible apply a_call); exact hc; exact rfl; (repeat (first | exact SubsE.nil | (apply SubsE.cons; exact rfl; (first | exact .d (.refl _) | exact .d (.nil _) | exact .agg rfl (.refl _) | exact .pd | exact .ptr rfl); (first | exact trivial | exact ⟨rfl, trivial⟩)))); done)) | exact by_oa); exact by_g) | ((with_reducible apply CW.cond_t); exact rfl; exact by_ks) | ((with_reducible apply CW.cond_f); exact rfl; exact by_ks) | ((with_reducible apply q_block_miss); exact rfl) | (refine And.intro (show chk [] [] _ _ = true by kernel_rfl) ?_))
              refine q_loopT (i + 1, _) ⟨by omega, hI⟩ (by dsimp only; omega) ?_
              exact by_less

end Go.Proofs.YtembfadhnkabhaaGreatDoor

/-! L1 -/
/-
  The law TidyTells answers true of whatever data.
-/
namespace Go.Proofs.YtembfadhnkabhaaGreatDoor
open Go.AX Go.RF

set_option maxRecDepth 100000
set_option maxHeartbeats 8000000

theorem sumLen_eq (bs : List (List Deed)) : sumLen bs = (bs.map List.length).sum := by
  induction bs with
  | nil => rfl
  | cons b bs ih => simp [sumLen, ih]
end Go.Proofs.YtembfadhnkabhaaGreatDoor

/-! L14 -/
/-
  The laws PlanAhead and PlanBack answer true of whatever data.
-/
namespace Go.Proofs.YtembfadhnkabhaaGreatDoor
open Go.AX Go.RF

set_option maxRecDepth 100000
set_option maxHeartbeats 8000000

theorem ok_read6 (s : Str) (d : Deed) (h : parseD s = some d) (hm : smallS s = true) : FnOk Tryz.prog 42 [.d (dstr s)] (.one (.agg d.enc)) := by
  refine fnOk_of tbl_ok mixed_ok Tryz.func42 rfl (by kernel_rfl) rfl rfl fun w0 own0 => ?_
  have c1 := ok_parseS s d h hm
  repeat (first | ((with_reducible apply s1); exact rfl) | (with_reducible first | apply CW.seq | apply CW.block | apply CW.region | apply CW.draw | apply CW.skip | apply CW.exit | apply CW.ret | apply q_then | apply q_then_exit | apply q_then_ret | apply q_block | apply q_block_ret | apply q_block_hit | apply q_ret | apply q_end | apply q_loop_exit | apply q_loop_ret | apply q_loopT_exit | apply q_loopT_ret | apply RW.nil) | ((with_reducible apply s3); exact rfl; exact by_k) | ((with_reducible apply s2); exact rfl; exact by_k) | ((with_reducible apply s4); exact rfl) | ((with_reducible apply s5); (first | (focus ((with_reducible apply a_call); exact c1; exact rfl; (repeat (first | exact SubsE.nil | (apply SubsE.cons; exact rfl; (first | exact .d (.refl _) | exact .d (.nil _) | exact .agg rfl (.refl _) | exact .pd | exact .ptr rfl); (first | exact trivial | exact ⟨rfl, trivial⟩)))); done)) | exact by_oa); exact by_g) | ((with_reducible apply CW.cond_t); exact rfl; exact by_ks) | ((with_reducible apply CW.cond_f); exact rfl; exact by_ks) | ((with_reducible apply q_block_miss); exact rfl) | (refine And.intro (show chk [] [] _ _ = true by kernel_rfl) ?_))
  exact .one (.cell rfl rfl rfl rfl (.aggd rfl (.refl _)))

def r6 : List Pair := [⟨[97], 1⟩]
def l6 : List Deed := [dE, dF]
theorem e6_add : (addE (newE r6) l6).2 = 0 := by decide +kernel
theorem e6_n1 : needs (addE (newE r6) l6).1 1 dF = [0] := by decide +kernel
theorem e6_n0 : needs (addE (newE r6) l6).1 0 dE = [] := by decide +kernel
theorem e6_d : (addE (newE r6) l6).1.deeds = [dE, dF] ∧ (addE (newE r6) l6).1.chains.length = 2 ∧ (addE (newE r6) l6).1.state.length = 2 := by decide +kernel
theorem e6_k : (keysD dF).length = 2 := by decide +kernel
theorem l6_sm : ∀ d ∈ l6, d.Sm := by
  intro d hd
  simp [l6] at hd
  rcases hd with rfl | rfl <;> constructor <;> simp [dE, dF]

theorem ok_alive6 : FnOk Tryz.prog 23 [] (.one (dbool true)) := by
  refine fnOk_of tbl_ok mixed_ok Tryz.func23 rfl (by kernel_rfl) rfl rfl fun w0 own0 => ?_
  have q1 := ok_read6 tE dE pE sE
  have q2 := ok_read6 tF dF pF sF
  have hok : rowsOk r6 := by simp [rowsOk, r6, nOk]
  have hE0 := newE_inv hok
  have hB0 := newE_b (r := r6) (by decide +kernel)
  have hB := hB0.addE e6_add
  have hE := hE0.addE l6_sm e6_add
  have c1 := ok_pnew r6 (by simp [r6])
  have c2 := ok_padde (newE r6) l6 _ hE0 hB0.S l6_sm (by simp [l6]) (by simp [r6])
  rw [e6_add] at c2
  have hN : r6.length + 1 + 5 * l6.length = 12 := rfl
  rw [hN] at hE
  have n1 := e6_n1
  have n0 := e6_n0
  obtain ⟨f1, f2, f3⟩ := e6_d
  have f4 := e6_k
  have k1 := ok_pkeys dF (by decide) (by decide) (by decide)
  generalize (addE (newE r6) l6).1 = e at *
  generalize newE r6 = e0 at *
  generalize keysD dF = kd at k1 f4
  have hz := hE.z.sm (by omega)
  have hd0 : e.deeds[0]? = some dE := by rw [f1]; rfl
  have hd1 : e.deeds[1]? = some dF := by rw [f1]; rfl
  have c3 := ok_pneeds e 1 dF hz hd1 (by decide) hB.S.k hB.W.nb
  have c4 := ok_pneeds e 0 dE hz hd0 (by decide) hB.S.k hB.W.nb
  rw [n1] at c3
  rw [n0] at c4
  have c5 := ok_planOwn e hz
  have hi0 : ([0] : List Int)[0]? = some 0 := rfl
  have fdl : e.deeds.length = 2 := by rw [f1]; rfl
  repeat (first | ((with_reducible apply s5); ((with_reducible apply a_bs ([⟨[97], 1⟩].map Pair.enc)); (iterate 9 exact rfl); (repeat (first | exact PartsE.nil | (apply PartsE.cons; exact rfl; exact rfl)))); exact by_g) | ((with_reducible apply s5); ((with_reducible apply a_bs ([dE, dF].map Deed.enc)); (iterate 9 exact rfl); (repeat (first | exact PartsE.nil | (apply PartsE.cons; exact rfl; exact rfl)))); exact by_g) | ((with_reducible apply s1); exact rfl) | (with_reducible first | apply CW.seq | apply CW.block | apply CW.region | apply CW.draw | apply CW.skip | apply CW.exit | apply CW.ret | apply q_then | apply q_then_exit | apply q_then_ret | apply q_block | apply q_block_ret | apply q_block_hit | apply q_ret | apply q_end | apply q_loop_exit | apply q_loop_ret | apply q_loopT_exit | apply q_loopT_ret | apply RW.nil) | ((with_reducible apply s3); exact rfl; exact by_k) | ((with_reducible apply s2); exact rfl; exact by_k) | ((with_reducible apply s4); exact rfl) | ((with_reducible apply s5); (first | (focus ((with_reducible apply a_call); exact q1; exact rfl; (repeat (first | exact SubsE.nil | (apply SubsE.cons; exact rfl; (first | exact .d (.refl _) | exact .d (.nil _) | exact .agg rfl (.refl _) | exact .pd | exact .ptr rfl); (first | exact trivial | exact ⟨rfl, trivial⟩)))); done)) | (focus ((with_reducible apply a_call); exact q2; exact rfl; (repeat (first | exact SubsE.nil | (apply SubsE.cons; exact rfl; (first | exact .d (.refl _) | exact .d (.nil _) | exact .agg rfl (.refl _) | exact .pd | exact .ptr rfl); (first | exact trivial | exact ⟨rfl, trivial⟩)))); done)) | (focus ((with_reducible apply a_call); exact c1; exact rfl; (repeat (first | exact SubsE.nil | (apply SubsE.cons; exact rfl; (first | exact .d (.refl _) | exact .d (.nil _) | exact .agg rfl (.refl _) | exact .pd | exact .ptr rfl); (first | exact trivial | exact ⟨rfl, trivial⟩)))); done)) | (focus ((with_reducible apply a_call); exact c2; exact rfl; (repeat (first | exact SubsE.nil | (apply SubsE.cons; exact rfl; (first | exact .d (.refl _) | exact .d (.nil _) | exact .agg rfl (.refl _) | exact .pd | exact .ptr rfl); (first | exact trivial | exact ⟨rfl, trivial⟩)))); done)) | (focus ((with_reducible apply a_call); exact c3; exact rfl; (repeat (first | exact SubsE.nil | (apply SubsE.cons; exact rfl; (first | exact .d (.refl _) | exact .d (.nil _) | exact .agg rfl (.refl _) | exact .pd | exact .ptr rfl); (first | exact trivial | exact ⟨rfl, trivial⟩)))); done)) | (focus ((with_reducible apply a_call); exact c4; exact rfl; (repeat (first | exact SubsE.nil | (apply SubsE.cons; exact rfl; (first | exact .d (.refl _) | exact .d (.nil _) | exact .agg rfl (.refl _) | exact .pd | exact .ptr rfl); (first | exact trivial | exact ⟨rfl, trivial⟩)))); done)) | (focus ((with_reducible apply a_call); exact c5; exact rfl; (repeat (first | exact SubsE.nil | (apply SubsE.cons; exact rfl; (first | exact .d (.refl _) | exact .d (.nil _) | exact .agg rfl (.refl _) | exact .pd | exact .ptr rfl); (first | exact trivial | exact ⟨rfl, trivial⟩)))); done)) | (focus ((with_reducible apply a_call); exact k1; exact rfl; (repeat (first | exact SubsE.nil | (apply SubsE.cons; exact rfl; (first | exact .d (.refl _) | exact .d (.nil _) | exact .agg rfl (.refl _) | exact .pd | exact .ptr rfl); (first | exact trivial | exact ⟨rfl, trivial⟩)))); done)) | ((with_reducible apply a_ia); (iterate 5 exact rfl); exact idx_map (k := 0) hi0) | ((with_reducible apply a_ia); (iterate 5 exact rfl); exact idx_map (k := 1) hd1) | exact by_oa); exact by_g) | ((with_reducible apply CW.cond_t); exact rfl; exact by_ks) | ((with_reducible apply CW.cond_f); exact rfl; exact by_ks) | ((with_reducible apply q_block_miss); exact rfl) | (refine And.intro (show chk [] [] _ _ = true by kernel_rfl) ?_))
  exact .one (.tmp rfl (.one (.d (dle_bool (by simp [f2, f3, f4, fdl])))))

theorem ok_PlanBack (r : List Pair) (bs : List (List Deed)) (p : List Int) (hrl : r.length ≤ 1048576) (hrk : ∀ q ∈ r, q.key.length ≤ 1073741824) (hb : ∀ b ∈ bs, b.length ≤ 1048576 ∧ ∀ d ∈ b, d.Sm) (hbl : bs.length ≤ 1048576) (hsum : sumLen bs ≤ 1048576) (hp : p.length ≤ 1048576) :
    FnOk Tryz.prog 7 [.d (encRows r), .d (encBatches bs), .d (encInts p)] (.one (dbool true)) := by
  refine fnOk_of tbl_ok mixed_ok Tryz.func7 rfl (by kernel_rfl) rfl rfl fun w0 own0 => ?_
  have c0 := ok_alive6
  have c1 := ok_wrongRows r (by omega) hrk
  by_cases hw : wrongRows r = 0
  · obtain ⟨hsrt, _, hok⟩ := wrongRows_srt hw
    have c2 := ok_rBuild r bs p hok (by omega) (fun b h => ⟨by have := (hb b h).1; omega, (hb b h).2⟩) (by omega) (by omega) (by omega)
    have hE : EInv (buildE r bs p) (r.length + 1 + 5 * sumLen bs) := EInv.buildGo (p := p) (newE_inv hok) (fun b h => (hb b h).2)
    obtain ⟨r', hB⟩ := build_b hw bs p
    generalize buildE r bs p = e at c2 hE hB
    have hz := hE.z.sm (by omega)
    have hdl := hz.d
    have hsl := hE.z.s
    repeat (first | ((with_reducible apply s1); exact rfl) | (with_reducible first | apply CW.seq | apply CW.block | apply CW.region | apply CW.draw | apply CW.skip | apply CW.exit | apply CW.ret | apply q_then | apply q_then_exit | apply q_then_ret | apply q_block | apply q_block_ret | apply q_block_hit | apply q_ret | apply q_end | apply q_loop_exit | apply q_loop_ret | apply q_loopT_exit | apply q_loopT_ret | apply RW.nil) | ((with_reducible apply s3); exact rfl; exact by_k) | ((with_reducible apply s2); exact rfl; exact by_k) | ((with_reducible apply s4); exact rfl) | ((with_reducible apply s5); (first | (focus ((with_reducible apply a_call); exact c0; exact rfl; (repeat (first | exact SubsE.nil | (apply SubsE.cons; exact rfl; (first | exact .d (.refl _) | exact .d (.nil _) | exact .agg rfl (.refl _) | exact .pd | exact .ptr rfl); (first | exact trivial | exact ⟨rfl, trivial⟩)))); done)) | (focus ((with_reducible apply a_call); exact c1; exact rfl; (repeat (first | exact SubsE.nil | (apply SubsE.cons; exact rfl; (first | exact .d (.refl _) | exact .d (.nil _) | exact .agg rfl (.refl _) | exact .pd | exact .ptr rfl); (first | exact trivial | exact ⟨rfl, trivial⟩)))); done)) | (focus ((with_reducible apply a_call); exact c2; exact rfl; (repeat (first | exact SubsE.nil | (apply SubsE.cons; exact rfl; (first | exact .d (.refl _) | exact .d (.nil _) | exact .agg rfl (.refl _) | exact .pd | exact .ptr rfl); (first | exact trivial | exact ⟨rfl, trivial⟩)))); done)) | exact by_oa); exact by_g) | ((with_reducible apply CW.cond_t); exact rfl; exact by_ks) | ((with_reducible apply CW.cond_f); exact rfl; exact by_ks) | ((with_reducible apply q_block_miss); exact rfl) | (refine And.intro (show chk [] [] _ _ = true by kernel_rfl) ?_))
    refine CW.loopT (fun t : Nat × Bool × Bool => [sp 7 0, ob 0 e.enc, sd 8 (dbool t.2.1), sd 9 (dbool t.2.2), sd 25 (dint e.deeds.length), sd 26 (dint t.1), nxt 1])
      (fun t => t.1 ≤ e.deeds.length ∧ (t.2.1 = true → ∃ A : Nat, e.state[A]? = some 0) ∧ ∀ B : Nat, B < t.1 → e.state[B]? = some 0 → needsAt e B = [] → t.2.2 = true) (fun t => e.deeds.length - t.1) (0, false, false) ⟨by dsimp only; omega, by simp, by simp⟩ ?_ ?_
    ·
      exact by_less
    · rintro ⟨i, ws, fr⟩ ⟨hi, hw1, hf1⟩
      dsimp only at hi hw1 hf1 ⊢
      rcases drop_case hi with ⟨h1, h2⟩ | ⟨d, h1, h2, h3⟩
      · cases ws with
        | true =>
          obtain ⟨A, hA⟩ := hw1 rfl
          obtain ⟨B, hB1, hB2⟩ := free_one hB.W hA
          obtain rfl := hf1 B (by have := (List.getElem?_eq_some_iff.1 hB1).1; omega) hB1 hB2
          repeat (first | ((with_reducible apply s1); exact rfl) | (with_reducible first | apply CW.seq | apply CW.block | apply CW.region | apply CW.draw | apply CW.skip | apply CW.exit | apply CW.ret | apply q_then | apply q_then_exit | apply q_then_ret | apply q_block | apply q_block_ret | apply q_block_hit | apply q_ret | apply q_end | apply q_loop_exit | apply q_loop_ret | apply q_loopT_exit | apply q_loopT_ret | apply RW.nil) | ((with_reducible apply s3); exact rfl; exact by_k) | ((with_reducible apply s2); exact rfl; exact by_k) | ((with_reducible apply s4); exact rfl) | ((with_reducible apply s5); (first | exact by_oa); exact by_g) | ((with_reducible apply CW.cond_t); exact rfl; exact by_ks) | ((with_reducible apply CW.cond_f); exact rfl; exact by_ks) | ((with_reducible apply q_block_miss); exact rfl) | (refine And.intro (show chk [] [] _ _ = true by kernel_rfl) ?_))
          exact .one (.tmp rfl (.one (.d (.refl _))))
        | false =>
          cases fr with
          | true =>
            repeat (first | ((with_reducible apply s1); exact rfl) | (with_reducible first | apply CW.seq | apply CW.block | apply CW.region | apply CW.draw | apply CW.skip | apply CW.exit | apply CW.ret | apply q_then | apply q_then_exit | apply q_then_ret | apply q_block | apply q_block_ret | apply q_block_hit | apply q_ret | apply q_end | apply q_loop_exit | apply q_loop_ret | apply q_loopT_exit | apply q_loopT_ret | apply RW.nil) | ((with_reducible apply s3); exact rfl; exact by_k) | ((with_reducible apply s2); exact rfl; exact by_k) | ((with_reducible apply s4); exact rfl) | ((with_reducible apply s5); (first | exact by_oa); exact by_g) | ((with_reducible apply CW.cond_t); exact rfl; exact by_ks) | ((with_reducible apply CW.cond_f); exact rfl; exact by_ks) | ((with_reducible apply q_block_miss); exact rfl) | (refine And.intro (show chk [] [] _ _ = true by kernel_rfl) ?_))
            exact .one (.tmp rfl (.one (.d (.refl _))))
          | false =>
            repeat (first | ((with_reducible apply s1); exact rfl) | (with_reducible first | apply CW.seq | apply CW.block | apply CW.region | apply CW.draw | apply CW.skip | apply CW.exit | apply CW.ret | apply q_then | apply q_then_exit | apply q_then_ret | apply q_block | apply q_block_ret | apply q_block_hit | apply q_ret | apply q_end | apply q_loop_exit | apply q_loop_ret | apply q_loopT_exit | apply q_loopT_ret | apply RW.nil) | ((with_reducible apply s3); exact rfl; exact by_k) | ((with_reducible apply s2); exact rfl; exact by_k) | ((with_reducible apply s4); exact rfl) | ((with_reducible apply s5); (first | exact by_oa); exact by_g) | ((with_reducible apply CW.cond_t); exact rfl; exact by_ks) | ((with_reducible apply CW.cond_f); exact rfl; exact by_ks) | ((with_reducible apply q_block_miss); exact rfl) | (refine And.intro (show chk [] [] _ _ = true by kernel_rfl) ?_))
            exact .one (.tmp rfl (.one (.d (.refl _))))
      · have hdm := List.mem_of_getElem? h2
        have hnd := (wrong_keys (hB.W.d d hdm)).1
        have k1 := ok_pneeds e i d hz h2 hnd hB.S.k hB.W.nb
        have hnb := fun x (hx : x ∈ needs e i d) => needs_back hB.W hx
        have hna : needsAt e i = needs e i d := by unfold needsAt; rw [h2]
        have hnl : (needs e i d).length ≤ 268435456 := by
          have := needs_len e.chains e.base (e.base + i) (keysD d) (List.range i) 0
          unfold needs
          simp at this
          omega
        generalize needs e i d = N at *
        repeat (first | ((with_reducible apply s1); exact rfl) | (with_reducible first | apply CW.seq | apply CW.block | apply CW.region | apply CW.draw | apply CW.skip | apply CW.exit | apply CW.ret | apply q_then | apply q_then_exit | apply q_then_ret | apply q_block | apply q_block_ret | apply q_block_hit | apply q_ret | apply q_end | apply q_loop_exit | apply q_loop_ret | apply q_loopT_exit | apply q_loopT_ret | apply RW.nil) | ((with_reducible apply s3); exact rfl; exact by_k) | ((with_reducible apply s2); exact rfl; exact by_k) | ((with_reducible apply s4); exact rfl) | ((with_reducible apply s5); (first | (focus ((with_reducible apply a_call); exact k1; exact rfl; (repeat (first | exact SubsE.nil | (apply SubsE.cons; exact rfl; (first | exact .d (.refl _) | exact .d (.nil _) | exact .agg rfl (.refl _) | exact .pd | exact .ptr rfl); (first | exact trivial | exact ⟨rfl, trivial⟩)))); done)) | exact by_oa); exact by_g) | ((with_reducible apply CW.cond_t); exact rfl; exact by_ks) | ((with_reducible apply CW.cond_f); exact rfl; exact by_ks) | ((with_reducible apply q_block_miss); exact rfl) | (refine And.intro (show chk [] [] _ _ = true by kernel_rfl) ?_))
        refine CW.loopT (fun j : Nat => [sp 7 0, ob 0 e.enc, sd 8 (dbool ws), sd 9 (dbool fr), sd 10 (dint i), sd 11 (encInts N), sd 25 (dint e.deeds.length), sd 26 (dint i), sd 32 (encInts N), sd 33 (dint N.length), sd 34 (dint j), nxt 1])
          (fun j => j ≤ N.length) (fun j => N.length - j) 0 (by omega) ?_ ?_
        ·
          exact by_less
        · intro j hj
          rcases drop_case hj with ⟨g1, g2⟩ | ⟨x, g1, g2, g3⟩
          · obtain ⟨s, hs⟩ : ∃ s, e.state[i]? = some s := ⟨_, List.getElem?_eq_getElem (show i < _ by omega)⟩
            have hlt : ∀ B : Nat, B < i + 1 → B ≠ i → B < i := fun B h1 h2 => by omega
            by_cases hs0 : s = 0
            · subst hs0
              by_cases hN0 : N = []
              · subst hN0
                cases fr with
                | true =>
                  repeat (first | ((with_reducible apply s1); exact rfl) | (with_reducible first | apply CW.seq | apply CW.block | apply CW.region | apply CW.draw | apply CW.skip | apply CW.exit | apply CW.ret | apply q_then | apply q_then_exit | apply q_then_ret | apply q_block | apply q_block_ret | apply q_block_hit | apply q_ret | apply q_end | apply q_loop_exit | apply q_loop_ret | apply q_loopT_exit | apply q_loopT_ret | apply RW.nil) | ((with_reducible apply s3); exact rfl; exact by_k) | ((with_reducible apply s2); exact rfl; exact by_k) | ((with_reducible apply s4); exact rfl) | ((with_reducible apply s5); (first | exact by_oa); exact by_g) | ((with_reducible apply CW.cond_t); exact rfl; exact by_ks) | ((with_reducible apply CW.cond_f); exact rfl; exact by_ks) | ((with_reducible apply q_block_miss); exact rfl) | (refine And.intro (show chk [] [] _ _ = true by kernel_rfl) ?_))
                  refine q_loopT (i + 1, true, true) ⟨by dsimp only; omega, fun _ => ⟨i, hs⟩, fun _ _ _ _ => rfl⟩ (by dsimp only; omega) ?_
                  exact by_less
                | false =>
                  repeat (first | ((with_reducible apply s1); exact rfl) | (with_reducible first | apply CW.seq | apply CW.block | apply CW.region | apply CW.draw | apply CW.skip | apply CW.exit | apply CW.ret | apply q_then | apply q_then_exit | apply q_then_ret | apply q_block | apply q_block_ret | apply q_block_hit | apply q_ret | apply q_end | apply q_loop_exit | apply q_loop_ret | apply q_loopT_exit | apply q_loopT_ret | apply RW.nil) | ((with_reducible apply s3); exact rfl; exact by_k) | ((with_reducible apply s2); exact rfl; exact by_k) | ((with_reducible apply s4); exact rfl) | ((with_reducible apply s5); (first | exact by_oa); exact by_g) | ((with_reducible apply CW.cond_t); exact rfl; exact by_ks) | ((with_reducible apply CW.cond_f); exact rfl; exact by_ks) | ((with_reducible apply q_block_miss); exact rfl) | (refine And.intro (show chk [] [] _ _ = true by kernel_rfl) ?_))
                  refine q_loopT (i + 1, true, true) ⟨by dsimp only; omega, fun _ => ⟨i, hs⟩, fun _ _ _ _ => rfl⟩ (by dsimp only; omega) ?_
                  exact by_less
              · have hNl : ¬ N.length = 0 := fun h => hN0 (List.eq_nil_of_length_eq_zero h)
                cases fr with
                | true =>
                  repeat (first | ((with_reducible apply s1); exact rfl) | (with_reducible first | apply CW.seq | apply CW.block | apply CW.region | apply CW.draw | apply CW.skip | apply CW.exit | apply CW.ret | apply q_then | apply q_then_exit | apply q_then_ret | apply q_block | apply q_block_ret | apply q_block_hit | apply q_ret | apply q_end | apply q_loop_exit | apply q_loop_ret | apply q_loopT_exit | apply q_loopT_ret | apply RW.nil) | ((with_reducible apply s3); exact rfl; exact by_k) | ((with_reducible apply s2); exact rfl; exact by_k) | ((with_reducible apply s4); exact rfl) | ((with_reducible apply s5); (first | exact by_oa); exact by_g) | ((with_reducible apply CW.cond_t); exact rfl; exact by_ks) | ((with_reducible apply CW.cond_f); exact rfl; exact by_ks) | ((with_reducible apply q_block_miss); exact rfl) | (refine And.intro (show chk [] [] _ _ = true by kernel_rfl) ?_))
                  refine q_loopT (i + 1, true, true) ⟨by dsimp only; omega, fun _ => ⟨i, hs⟩, fun _ _ _ _ => rfl⟩ (by dsimp only; omega) ?_
                  exact by_less
                | false =>
                  repeat (first | ((with_reducible apply s1); exact rfl) | (with_reducible first | apply CW.seq | apply CW.block | apply CW.region | apply CW.draw | apply CW.skip | apply CW.exit | apply CW.ret | apply q_then | apply q_then_exit | apply q_then_ret | apply q_block | apply q_block_ret | apply q_block_hit | apply q_ret | apply q_end | apply q_loop_exit | apply q_loop_ret | apply q_loopT_exit | apply q_loopT_ret | apply RW.nil) | ((with_reducible apply s3); exact rfl; exact by_k) | ((with_reducible apply s2); exact rfl; exact by_k) | ((with_reducible apply s4); exact rfl) | ((with_reducible apply s5); (first | exact by_oa); exact by_g) | ((with_reducible apply CW.cond_t); exact rfl; exact by_ks) | ((with_reducible apply CW.cond_f); exact rfl; exact by_ks) | ((with_reducible apply q_block_miss); exact rfl) | (refine And.intro (show chk [] [] _ _ = true by kernel_rfl) ?_))
                  refine q_loopT (i + 1, true, false) ⟨by dsimp only; omega, fun _ => ⟨i, hs⟩, fun B hB1 hB2 hB3 => ?_⟩ (by dsimp only; omega) ?_
                  · by_cases hBi : B = i
                    · subst hBi; rw [hna] at hB3; exact absurd hB3 hN0
                    · exact hf1 B (hlt B hB1 hBi) hB2 hB3
                  exact by_less
            ·
              repeat (first | ((with_reducible apply s1); exact rfl) | (with_reducible first | apply CW.seq | apply CW.block | apply CW.region | apply CW.draw | apply CW.skip | apply CW.exit | apply CW.ret | apply q_then | apply q_then_exit | apply q_then_ret | apply q_block | apply q_block_ret | apply q_block_hit | apply q_ret | apply q_end | apply q_loop_exit | apply q_loop_ret | apply q_loopT_exit | apply q_loopT_ret | apply RW.nil) | ((with_reducible apply s3); exact rfl; exact by_k) | ((with_reducible apply s2); exact rfl; exact by_k) | ((with_reducible apply s4); exact rfl) | ((with_reducible apply s5); (first | exact by_oa); exact by_g) | ((with_reducible apply CW.cond_t); exact rfl; exact by_ks) | ((with_reducible apply CW.cond_f); exact rfl; exact by_ks) | ((with_reducible apply q_block_miss); exact rfl) | (refine And.intro (show chk [] [] _ _ = true by kernel_rfl) ?_))
              refine q_loopT (i + 1, ws, fr) ⟨by dsimp only; omega, hw1, fun B hB1 hB2 hB3 => ?_⟩ (by dsimp only; omega) ?_
              · by_cases hBi : B = i
                · subst hBi; rw [hs] at hB2; simp at hB2; exact absurd hB2 hs0
                · exact hf1 B (hlt B hB1 hBi) hB2 hB3
              exact by_less
          · obtain ⟨k, rfl, hk1, hk2⟩ := hnb x (List.mem_of_getElem? g2)
            repeat (first | ((with_reducible apply s1); exact rfl) | (with_reducible first | apply CW.seq | apply CW.block | apply CW.region | apply CW.draw | apply CW.skip | apply CW.exit | apply CW.ret | apply q_then | apply q_then_exit | apply q_then_ret | apply q_block | apply q_block_ret | apply q_block_hit | apply q_ret | apply q_end | apply q_loop_exit | apply q_loop_ret | apply q_loopT_exit | apply q_loopT_ret | apply RW.nil) | ((with_reducible apply s3); exact rfl; exact by_k) | ((with_reducible apply s2); exact rfl; exact by_k) | ((with_reducible apply s4); exact rfl) | ((with_reducible apply s5); (first | exact by_oa); exact by_g) | ((with_reducible apply CW.cond_t); exact rfl; exact by_ks) | ((with_reducible apply CW.cond_f); exact rfl; exact by_ks) | ((with_reducible apply q_block_miss); exact rfl) | (refine And.intro (show chk [] [] _ _ = true by kernel_rfl) ?_))
            refine q_loopT (j + 1) (by omega) (by omega) ?_
            exact by_less
  ·
    repeat (first | ((with_reducible apply s1); exact rfl) | (with_reducible first | apply CW.seq | apply CW.block | apply CW.region | apply CW.draw | apply CW.skip | apply CW.exit | apply CW.ret | apply q_then | apply q_then_exit | apply q_then_ret | apply q_block | apply q_block_ret | apply q_block_hit | apply q_ret | apply q_end | apply q_loop_exit | apply q_loop_ret | apply q_loopT_exit | apply q_loopT_ret | apply RW.nil) | ((with_reducible apply s3); exact rfl; exact by_k) | ((with_reducible apply s2); exact rfl; exact by_k) | ((with_reducible apply s4); exact rfl) | ((with_reducible apply s5); (first | (focus ((with_reducible apply a_call); exact c0; exact rfl; (repeat (first | exact SubsE.nil | (apply SubsE.cons; exact rfl; (first | exact .d (.refl _) | exact .d (.nil _) | exact .agg rfl (.refl _) | exact .pd | exact .ptr rfl); (first | exact trivial | exact ⟨rfl, trivial⟩)))); done)) | (focus ((with_reducible apply a_call); exact c1; exact rfl; (repeat (first | exact SubsE.nil | (apply SubsE.cons; exact rfl; (first | exact .d (.refl _) | exact .d (.nil _) | exact .agg rfl (.refl _) | exact .pd | exact .ptr rfl); (first | exact trivial | exact ⟨rfl, trivial⟩)))); done)) | exact by_oa); exact by_g) | ((with_reducible apply CW.cond_t); exact rfl; exact by_ks) | ((with_reducible apply CW.cond_f); exact rfl; exact by_ks) | ((with_reducible apply q_block_miss); exact rfl) | (refine And.intro (show chk [] [] _ _ = true by kernel_rfl) ?_))
    exact .one (.tmp rfl (.one (.d (.refl _))))

end Go.Proofs.YtembfadhnkabhaaGreatDoor
