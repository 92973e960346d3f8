/-
  Part 6 of what the claim leans on: ShNum H2 H3 H4 H5 L5 AxPdA L12.
-/
import Derived.Test.YtembfadhnkabhaaGreatDoorK5
import Derived.Shelf.Strconv.AtoiAll
import Derived.Shelf.Strconv.Itoa3
import Derived.Test.YtembfadhnkabhaaGreatDoorProg

/-! ShNum -/
/-
  The library's Atoi and Itoa of numbers, at this program's numbers of functions and types.
-/
namespace Go.Proofs
open Go.Shelf Go.RowKit
noncomputable def Tryz.laysC172_ren : Go.Shelf.Ren := ⟨fun | 129 => 103 | 171 => 105 | 172 => 104 | 205 => 140 | 243 => 117 | 244 => 115 | 245 => 116 | 246 => 133 | 247 => 128 | 279 => 129 | 280 => 130 | 281 => 131 | 282 => 132 | 283 => 141 | 284 => 142 | 285 => 143 | 286 => 144 | 287 => 138 | 316 => 139 | 317 => 150 | 318 => 151 | 319 => 152 | 320 => 153 | 321 => 148 | 322 => 149 | 337 => 158 | 338 => 159 | n => n, fun | 0 => 0 | 2 => 2 | 3 => 3 | 4 => 4 | 5 => 5 | 9 => 9 | 20 => 20 | 21 => 21 | 37 => 176 | 46 => 126 | 51 => 148 | 53 => 150 | 75 => 152 | 76 => 153 | 85 => 177 | 127 => 199 | 143 => 200 | 145 => 202 | 167 => 175 | 168 => 179 | 171 => 193 | 173 => 195 | 175 => 187 | 210 => 191 | 212 => 204 | 213 => 205 | 232 => 212 | 233 => 213 | 80 => 214 | n => n, fun | 15 => (Tryz.prog.globals.findIdx? (·.name == "strconv.ErrSyntax")).getD 0 | 16 => (Tryz.prog.globals.findIdx? (·.name == "strconv.ErrRange")).getD 0 | 17 => (Tryz.prog.globals.findIdx? (·.name == "internal/strconv.uint64pow10")).getD 0 | 18 => (Tryz.prog.globals.findIdx? (·.name == "math/bits.deBruijn32tab")).getD 0 | 19 => (Tryz.prog.globals.findIdx? (·.name == "math/bits.deBruijn64tab")).getD 0 | n => n⟩
theorem Tryz.laysC172 : Go.Proofs.LaysC.n172 Tryz.prog Tryz.laysC172_ren := {
  mixed := by kernel_rfl
  f129 := Tryz.func103.trans (congrArg some (by kernel_rfl))
  f171 := Tryz.func105.trans (congrArg some (by kernel_rfl))
  f172 := Tryz.func104.trans (congrArg some (by kernel_rfl))
  f205 := Tryz.func140.trans (congrArg some (by kernel_rfl))
  f243 := Tryz.func117.trans (congrArg some (by kernel_rfl))
  f244 := Tryz.func115.trans (congrArg some (by kernel_rfl))
  f245 := Tryz.func116.trans (congrArg some (by kernel_rfl))
  f246 := Tryz.func133.trans (congrArg some (by kernel_rfl))
  f247 := Tryz.func128.trans (congrArg some (by kernel_rfl))
  f279 := Tryz.func129.trans (congrArg some (by kernel_rfl))
  f280 := Tryz.func130.trans (congrArg some (by kernel_rfl))
  f281 := Tryz.func131.trans (congrArg some (by kernel_rfl))
  f282 := Tryz.func132.trans (congrArg some (by kernel_rfl))
  f283 := Tryz.func141.trans (congrArg some (by kernel_rfl))
  f284 := Tryz.func142.trans (congrArg some (by kernel_rfl))
  f285 := Tryz.func143.trans (congrArg some (by kernel_rfl))
  f286 := Tryz.func144.trans (congrArg some (by kernel_rfl))
  f287 := Tryz.func138.trans (congrArg some (by kernel_rfl))
  f316 := Tryz.func139.trans (congrArg some (by kernel_rfl))
  f317 := Tryz.func150.trans (congrArg some (by kernel_rfl))
  f318 := Tryz.func151.trans (congrArg some (by kernel_rfl))
  f319 := Tryz.func152.trans (congrArg some (by kernel_rfl))
  f320 := Tryz.func153.trans (congrArg some (by kernel_rfl))
  f321 := Tryz.func148.trans (congrArg some (by kernel_rfl))
  f322 := Tryz.func149.trans (congrArg some (by kernel_rfl))
  f337 := Tryz.func158.trans (congrArg some (by kernel_rfl))
  f338 := Tryz.func159.trans (congrArg some (by kernel_rfl))
  t0 := Tryz.underlying0
  a0 := Tryz.isAgg0
  z0 := Tryz.sizeOf0
  v0 := Tryz.zeroValue0
  t2 := Tryz.underlying2
  a2 := Tryz.isAgg2
  z2 := Tryz.sizeOf2
  v2 := Tryz.zeroValue2
  t3 := Tryz.underlying3
  a3 := Tryz.isAgg3
  z3 := Tryz.sizeOf3
  v3 := Tryz.zeroValue3
  t4 := Tryz.underlying4
  a4 := Tryz.isAgg4
  z4 := Tryz.sizeOf4
  v4 := Tryz.zeroValue4
  t5 := Tryz.underlying5
  a5 := Tryz.isAgg5
  z5 := Tryz.sizeOf5
  v5 := Tryz.zeroValue5
  t9 := Tryz.underlying9
  a9 := Tryz.isAgg9
  z9 := Tryz.sizeOf9
  v9 := Tryz.zeroValue9
  t20 := Tryz.underlying20
  a20 := Tryz.isAgg20
  z20 := Tryz.sizeOf20
  v20 := Tryz.zeroValue20
  t21 := Tryz.underlying21
  a21 := Tryz.isAgg21
  z21 := Tryz.sizeOf21
  v21 := Tryz.zeroValue21
  t37 := Tryz.underlying176
  a37 := Tryz.isAgg176
  z37 := Tryz.sizeOf176
  v37 := Tryz.zeroValue176
  t46 := Tryz.underlying126
  a46 := Tryz.isAgg126
  z46 := Tryz.sizeOf126
  v46 := Tryz.zeroValue126
  t51 := Tryz.underlying148
  a51 := Tryz.isAgg148
  z51 := Tryz.sizeOf148
  v51 := Tryz.zeroValue148
  t53 := Tryz.underlying150
  a53 := Tryz.isAgg150
  z53 := Tryz.sizeOf150
  v53 := Tryz.zeroValue150
  t75 := Tryz.underlying152
  a75 := Tryz.isAgg152
  z75 := Tryz.sizeOf152
  v75 := Tryz.zeroValue152
  t76 := Tryz.underlying153
  a76 := Tryz.isAgg153
  z76 := Tryz.sizeOf153
  v76 := Tryz.zeroValue153
  t85 := Tryz.underlying177
  a85 := Tryz.isAgg177
  z85 := Tryz.sizeOf177
  v85 := Tryz.zeroValue177
  t127 := Tryz.underlying199
  a127 := Tryz.isAgg199
  z127 := Tryz.sizeOf199
  v127 := Tryz.zeroValue199
  t143 := Tryz.underlying200
  a143 := Tryz.isAgg200
  z143 := Tryz.sizeOf200
  v143 := Tryz.zeroValue200
  t145 := Tryz.underlying202
  a145 := Tryz.isAgg202
  z145 := Tryz.sizeOf202
  v145 := Tryz.zeroValue202
  t167 := Tryz.underlying175
  a167 := Tryz.isAgg175
  z167 := Tryz.sizeOf175
  v167 := Tryz.zeroValue175
  t168 := Tryz.underlying179
  a168 := Tryz.isAgg179
  z168 := Tryz.sizeOf179
  v168 := Tryz.zeroValue179
  t171 := Tryz.underlying193
  a171 := Tryz.isAgg193
  z171 := Tryz.sizeOf193
  v171 := Tryz.zeroValue193
  t173 := Tryz.underlying195
  a173 := Tryz.isAgg195
  z173 := Tryz.sizeOf195
  v173 := Tryz.zeroValue195
  t175 := Tryz.underlying187
  a175 := Tryz.isAgg187
  z175 := Tryz.sizeOf187
  v175 := Tryz.zeroValue187
  t210 := Tryz.underlying191
  a210 := Tryz.isAgg191
  z210 := Tryz.sizeOf191
  v210 := Tryz.zeroValue191
  t212 := Tryz.underlying204
  a212 := Tryz.isAgg204
  z212 := Tryz.sizeOf204
  v212 := Tryz.zeroValue204
  t213 := Tryz.underlying205
  a213 := Tryz.isAgg205
  z213 := Tryz.sizeOf205
  t232 := Tryz.underlying212
  a232 := Tryz.isAgg212
  z232 := Tryz.sizeOf212
  v232 := Tryz.zeroValue212
  t233 := Tryz.underlying213
  a233 := Tryz.isAgg213
  z233 := Tryz.sizeOf213
  v233 := Tryz.zeroValue213
  g15 := by kernel_rfl
  g16 := by kernel_rfl
  g17 := by kernel_rfl
  g18 := by kernel_rfl
  g19 := by kernel_rfl
  t80 := Tryz.underlying214
  a80 := Tryz.isAgg214
  z80 := Tryz.sizeOf214
  v80 := Tryz.zeroValue214
  i0 := by kernel_rfl
  i2 := by kernel_rfl
  i3 := by kernel_rfl
  i4 := by kernel_rfl
  i5 := by kernel_rfl
  i9 := by kernel_rfl
  i20 := by kernel_rfl
  i21 := by kernel_rfl
  i37 := by kernel_rfl
  i46 := by kernel_rfl
  i51 := by kernel_rfl
  i53 := by kernel_rfl
  i75 := by kernel_rfl
  i76 := by kernel_rfl
  i80 := by kernel_rfl
  i85 := by kernel_rfl
  i127 := by kernel_rfl
  i143 := by kernel_rfl
  i145 := by kernel_rfl
  i167 := by kernel_rfl
  i168 := by kernel_rfl
  i171 := by kernel_rfl
  i173 := by kernel_rfl
  i175 := by kernel_rfl
  i210 := by kernel_rfl
  i212 := by kernel_rfl
  i232 := by kernel_rfl
  i233 := by kernel_rfl
  m15 := by kernel_rfl
  m16 := by kernel_rfl
  m17 := by kernel_rfl
  m18 := by kernel_rfl
  m19 := by kernel_rfl
  c0 := by kernel_rfl
  c2 := by kernel_rfl
  c3 := by kernel_rfl
  c4 := by kernel_rfl
  c5 := by kernel_rfl
  c9 := by kernel_rfl
  c20 := by kernel_rfl
  c21 := by kernel_rfl
  c37 := by kernel_rfl
  c46 := by kernel_rfl
  c51 := by kernel_rfl
  c53 := by kernel_rfl
  c75 := by kernel_rfl
  c76 := by kernel_rfl
  c80 := by kernel_rfl
  c85 := by kernel_rfl
  c127 := by kernel_rfl
  c143 := by kernel_rfl
  c145 := by kernel_rfl
  c167 := by kernel_rfl
  c168 := by kernel_rfl
  c171 := by kernel_rfl
  c173 := by kernel_rfl
  c175 := by kernel_rfl
  c210 := by kernel_rfl
  c212 := by kernel_rfl
  c213 := by kernel_rfl
  c232 := by kernel_rfl
  c233 := by kernel_rfl
  }
noncomputable def Tryz.lays171_ren : Go.Shelf.Ren := ⟨fun | 129 => 103 | 171 => 105 | 243 => 117 | 246 => 133 | 283 => 141 | 284 => 142 | 285 => 143 | 286 => 144 | 317 => 150 | 318 => 151 | 319 => 152 | 320 => 153 | 337 => 158 | 338 => 159 | n => n, fun | 0 => 0 | 2 => 2 | 3 => 3 | 4 => 4 | 5 => 5 | 9 => 9 | 20 => 20 | 37 => 176 | 46 => 126 | 51 => 148 | 53 => 150 | 171 => 193 | 173 => 195 | 212 => 204 | 213 => 205 | 232 => 212 | 233 => 213 | n => n, fun | 17 => (Tryz.prog.globals.findIdx? (·.name == "internal/strconv.uint64pow10")).getD 0 | 18 => (Tryz.prog.globals.findIdx? (·.name == "math/bits.deBruijn32tab")).getD 0 | 19 => (Tryz.prog.globals.findIdx? (·.name == "math/bits.deBruijn64tab")).getD 0 | n => n⟩
theorem Tryz.lays171 : Go.Proofs.Lays.n171 Tryz.prog Tryz.lays171_ren := {
  mixed := by kernel_rfl
  f129 := Tryz.func103.trans (congrArg some (by kernel_rfl))
  f171 := Tryz.func105.trans (congrArg some (by kernel_rfl))
  f243 := Tryz.func117.trans (congrArg some (by kernel_rfl))
  f246 := Tryz.func133.trans (congrArg some (by kernel_rfl))
  f283 := Tryz.func141.trans (congrArg some (by kernel_rfl))
  f284 := Tryz.func142.trans (congrArg some (by kernel_rfl))
  f285 := Tryz.func143.trans (congrArg some (by kernel_rfl))
  f286 := Tryz.func144.trans (congrArg some (by kernel_rfl))
  f317 := Tryz.func150.trans (congrArg some (by kernel_rfl))
  f318 := Tryz.func151.trans (congrArg some (by kernel_rfl))
  f319 := Tryz.func152.trans (congrArg some (by kernel_rfl))
  f320 := Tryz.func153.trans (congrArg some (by kernel_rfl))
  f337 := Tryz.func158.trans (congrArg some (by kernel_rfl))
  f338 := Tryz.func159.trans (congrArg some (by kernel_rfl))
  t0 := Tryz.underlying0
  a0 := Tryz.isAgg0
  z0 := Tryz.sizeOf0
  v0 := Tryz.zeroValue0
  t2 := Tryz.underlying2
  a2 := Tryz.isAgg2
  z2 := Tryz.sizeOf2
  v2 := Tryz.zeroValue2
  t3 := Tryz.underlying3
  a3 := Tryz.isAgg3
  z3 := Tryz.sizeOf3
  v3 := Tryz.zeroValue3
  t4 := Tryz.underlying4
  a4 := Tryz.isAgg4
  z4 := Tryz.sizeOf4
  v4 := Tryz.zeroValue4
  t5 := Tryz.underlying5
  a5 := Tryz.isAgg5
  z5 := Tryz.sizeOf5
  v5 := Tryz.zeroValue5
  t9 := Tryz.underlying9
  a9 := Tryz.isAgg9
  z9 := Tryz.sizeOf9
  v9 := Tryz.zeroValue9
  t20 := Tryz.underlying20
  a20 := Tryz.isAgg20
  z20 := Tryz.sizeOf20
  v20 := Tryz.zeroValue20
  t37 := Tryz.underlying176
  a37 := Tryz.isAgg176
  z37 := Tryz.sizeOf176
  v37 := Tryz.zeroValue176
  t46 := Tryz.underlying126
  a46 := Tryz.isAgg126
  z46 := Tryz.sizeOf126
  v46 := Tryz.zeroValue126
  t51 := Tryz.underlying148
  a51 := Tryz.isAgg148
  z51 := Tryz.sizeOf148
  v51 := Tryz.zeroValue148
  t53 := Tryz.underlying150
  a53 := Tryz.isAgg150
  z53 := Tryz.sizeOf150
  v53 := Tryz.zeroValue150
  t171 := Tryz.underlying193
  a171 := Tryz.isAgg193
  z171 := Tryz.sizeOf193
  v171 := Tryz.zeroValue193
  t173 := Tryz.underlying195
  a173 := Tryz.isAgg195
  z173 := Tryz.sizeOf195
  v173 := Tryz.zeroValue195
  t212 := Tryz.underlying204
  a212 := Tryz.isAgg204
  z212 := Tryz.sizeOf204
  v212 := Tryz.zeroValue204
  t213 := Tryz.underlying205
  a213 := Tryz.isAgg205
  z213 := Tryz.sizeOf205
  t232 := Tryz.underlying212
  a232 := Tryz.isAgg212
  z232 := Tryz.sizeOf212
  v232 := Tryz.zeroValue212
  t233 := Tryz.underlying213
  a233 := Tryz.isAgg213
  z233 := Tryz.sizeOf213
  v233 := Tryz.zeroValue213
  g17 := by kernel_rfl
  g18 := by kernel_rfl
  g19 := by kernel_rfl
  }
end Go.Proofs

/-! H2 -/
/-
  Contract of the references' num, at small numbers as they are written.
-/
namespace Go.Proofs.YtembfadhnkabhaaGreatDoor
open Go.AX Go.RF Go.RowKit

set_option maxRecDepth 100000
set_option maxHeartbeats 4000000

theorem numV_ok {s : Str} {v : Int} (h : numV s = some v) : Lib.atoiAll s = .ok v ∧ Lib.itoa v = s := by
  unfold numV at h
  split at h
  · next x hx =>
    split at h
    · next hy => cases h; exact ⟨hx, hy⟩
    · cases h
  · cases h
theorem ok_atoi (s : Str) (v : Int) (hs : s.length ≤ 1073741824) (h : Lib.atoiAll s = .ok v) : FnOk Tryz.prog 104 [.d (dstr s)] (.tup [dint v, .v .nilIface]) := by
  refine ⟨⟨_, Tryz.func104, by kernel_rfl, by kernel_rfl⟩, fun w own vs hown ha => ?_⟩
  match vs, ha with
  | [x], ⟨h1, _⟩ =>
    obtain rfl : x = str s := rd_v h1
    refine (Any.strconv_Atoi_ok Tryz.laysC172 ⟨s.toArray⟩ (by show s.toArray.size ≤ _; simp; omega) v (by simpa using h) w).mono fun e w' he => ?_
    obtain ⟨rfl, hw⟩ := he
    refine ⟨_, rfl, ?_, _, rfl, rfl, fun j c x hj hc => ?_⟩
    · rcases hw with rfl | ⟨t, rfl⟩
      · exact Below.refl _ _
      · exact Lib.bytesWorld_below _ _ _
    · match j, hj, hc with
      | 0, hj, hc => simp at hj hc; subst hj hc; exact Rd.v _
      | 1, hj, hc => simp at hj hc; subst hj hc; exact Rd.v _
      | j + 2, hj, hc => simp at hj
theorem ok_itoaS (i : Nat) (hi : i < 100) : FnOk Tryz.prog 105 [.d (dint i)] (.one (dstr (Lib.itoa i))) := by
  refine ⟨⟨_, Tryz.func105, by kernel_rfl, by kernel_rfl⟩, fun w own vs hown ha => ?_⟩
  match vs, ha with
  | [x], ⟨h1, _⟩ =>
    obtain rfl : x = i64 i := rd_v h1
    refine (Any.strconv_Itoa_small Tryz.lays171 i hi w).mono fun e w' he => ?_
    obtain ⟨rfl, rfl⟩ := he
    refine ⟨_, rfl, Below.refl _ _, ?_⟩
    have hx : Lib.itoa i = Lib.decDigits i := by rw [Lib.itoa, if_neg (by omega)]; rfl
    rw [hx]
    exact Rd.v _
theorem ok_numS (s : Str) (v : Int) (hs : s.length ≤ 1073741824) (h : numV s = some v) (h0 : 0 ≤ v) (h1 : v < 100) : FnOk Tryz.prog 82 [.d (dstr s)] (.tup [dint v, dbool true]) := by
  refine fnOk_of tbl_ok mixed_ok Tryz.func82 rfl (by kernel_rfl) rfl rfl fun w0 own0 => ?_
  obtain ⟨ha, hb⟩ := numV_ok h
  obtain ⟨i, rfl⟩ := Int.eq_ofNat_of_zero_le h0
  have c1 := ok_atoi s i hs ha
  have c2 := ok_itoaS i (by omega)
  rw [hb] at c2
  repeat (first | ((with_reducible apply s1); exact rfl) | (with_reducible first | apply CW.seq | apply CW.block | apply CW.region | apply CW.draw | apply CW.skip | apply CW.exit | apply CW.ret | apply q_then | apply q_then_exit | apply q_then_ret | apply q_block | apply q_block_ret | apply q_block_hit | apply q_ret | apply q_end | apply q_loop_exit | apply q_loop_ret | apply q_loopT_exit | apply q_loopT_ret | apply RW.nil) | ((with_reducible apply s3); exact rfl; exact by_k) | ((with_reducible apply s2); exact rfl; exact by_k) | ((with_reducible apply s4); exact rfl) | ((with_reducible apply s5); (first | (focus ((with_reducible apply a_call); exact c1; exact rfl; (repeat (first | exact SubsE.nil | (apply SubsE.cons; exact rfl; (first | exact .d (.refl _) | exact .d (.nil _) | exact .agg rfl (.refl _) | exact .pd | exact .ptr rfl); (first | exact trivial | exact ⟨rfl, trivial⟩)))); done)) | (focus ((with_reducible apply a_call); exact c2; exact rfl; (repeat (first | exact SubsE.nil | (apply SubsE.cons; exact rfl; (first | exact .d (.refl _) | exact .d (.nil _) | exact .agg rfl (.refl _) | exact .pd | exact .ptr rfl); (first | exact trivial | exact ⟨rfl, trivial⟩)))); done)) | ((with_reducible apply a_noerr); exact rfl; exact Tryz.underlying152; exact rfl) | exact by_oa); exact by_g) | ((with_reducible apply CW.cond_t); exact rfl; exact by_ks) | ((with_reducible apply CW.cond_f); exact rfl; exact by_ks) | ((with_reducible apply q_block_miss); exact rfl) | (refine And.intro (show chk [] [] _ _ = true by kernel_rfl) ?_))
  exact .two (.tmp rfl (.one (.d (.refl _)))) (.tmp rfl (.one (.d (dle_bool (by simp)))))

end Go.Proofs.YtembfadhnkabhaaGreatDoor

/-! H3 -/
/-
  Contract of the references' Parse, at the text of a right deed whose numbers are small.
-/
namespace Go.Proofs.YtembfadhnkabhaaGreatDoor
open Go.AX Go.RF Go.RowKit

set_option maxRecDepth 100000
set_option maxHeartbeats 16000000

theorem splitF_part (sep : Str) : ∀ (n : Nat) (cur r : Str), ∀ p ∈ splitF sep n cur r, p.length ≤ cur.length + r.length
  | 0, cur, r => by simp [splitF]
  | n + 1, cur, r => by
    rw [splitF_succ]
    split
    · simp
    split
    · intro p hp
      rcases List.mem_cons.1 hp with rfl | hp
      · omega
      · have := splitF_part sep n [] _ p hp
        rw [List.length_nil, List.length_drop] at this
        omega
    cases r with
    | nil => simp
    | cons c t =>
      intro p hp
      have := splitF_part sep n _ _ p hp
      simp at this ⊢
      omega
theorem split_part {s sep : Str} {p : Str} (h : p ∈ split s sep) : p.length ≤ s.length := by
  have := splitF_part sep _ _ _ p h
  simpa using this
theorem split_len (s sep : Str) : (split s sep).length ≤ s.length + 1 := splitF_len sep _ _ _

/-- A word's number, if it has one, is small. -/
def smallN (o : Option Int) : Bool := match o with
  | none => true
  | some v => decide (0 ≤ v ∧ v < 100)
def smallS (s : Str) : Bool := (split s [59, 32]).all fun p => (split p [32]).all fun w => smallN (numV w) && smallN (regV w)
theorem smallN_of {o : Option Int} {v : Int} (h : smallN o = true) (hv : o = some v) : 0 ≤ v ∧ v < 100 := by
  subst hv; simpa [smallN] using h

theorem insAll_cons {p : Str} {r : List Str} {l : List Ins} (h : insAll (p :: r) = some l) : ∃ i l', insP (split p [32]) = some i ∧ insAll r = some l' ∧ l = i :: l' := by
  simp only [insAll] at h
  split at h
  · next i l' h1 h2 => cases h; exact ⟨i, l', h1, h2, rfl⟩
  · cases h
theorem insP_some {l : List Str} {i : Ins} (h : insP l = some i) : ∃ w ws, l = w :: ws ∧ kindOf w ≠ 0 ∧ ws.length = (form (kindOf w).toNat).length ∧ fillI ⟨kindOf w, 0, 0, 0, []⟩ (form (kindOf w).toNat) ws = some i := by
  match l, h with
  | [], h => simp [insP] at h
  | w :: ws, h =>
    simp only [insP] at h
    split at h
    · cases h
    · next h1 =>
      split at h
      · next h2 => exact ⟨w, ws, rfl, h1, h2, h⟩
      · cases h
theorem fillI_cons {i i' : Ins} {c : UInt8} {f : Str} {w : Str} {ws : List Str} (h : fillI i (c :: f) (w :: ws) = some i') :
    (c.toNat = 107 ∧ fillI { i with key := w } f ws = some i') ∨ (c.toNat = 110 ∧ ∃ n, numV w = some n ∧ fillI { i with n := n } f ws = some i') ∨
    (c.toNat ≠ 107 ∧ c.toNat ≠ 110 ∧ ∃ r x, w = 114 :: r ∧ numV r = some x ∧ ((c.toNat = 114 ∧ fillI { i with a := x } f ws = some i') ∨ (c.toNat ≠ 114 ∧ fillI { i with b := x } f ws = some i'))) := by
  have hc : ∀ k : UInt8, c = k ↔ c.toNat = k.toNat := fun k => by rw [UInt8.toNat_inj]
  simp only [fillI] at h
  split at h
  · next h1 => exact .inl ⟨(hc _).1 h1, h⟩
  · next h1 =>
    have h1' : c.toNat ≠ 107 := fun e => h1 ((hc 107).2 e)
    split at h
    · next h2 =>
      split at h
      · next n hn => exact .inr (.inl ⟨(hc _).1 h2, n, hn, h⟩)
      · cases h
    · next h2 =>
      have h2' : c.toNat ≠ 110 := fun e => h2 ((hc 110).2 e)
      refine .inr (.inr ⟨h1', h2', ?_⟩)
      split at h
      · next x hx =>
        have : ∃ r, w = 114 :: r ∧ numV r = some x := by
          match w, hx with
          | [], hx => simp [regV] at hx
          | b :: r, hx =>
            by_cases hb : b = 114
            · subst hb; exact ⟨r, rfl, hx⟩
            · unfold regV at hx
              split at hx
              · next r' he => cases he; exact absurd rfl hb
              · cases hx
        obtain ⟨r, h3, h4⟩ := this
        refine ⟨r, x, h3, h4, ?_⟩
        split at h
        · next h5 => exact .inl ⟨(hc _).1 h5, h⟩
        · next h5 => exact .inr ⟨fun e => h5 ((hc 114).2 e), h⟩
      · cases h

/-- What parseD takes apart. -/
theorem parseD_some {s : Str} {d : Deed} (h : parseD s = some d) : s.length ≤ 400 ∧ ∃ p0 p1 ps, split s [59, 32] = p0 :: p1 :: ps ∧ split p0 [32] = [114, 101, 97, 100, 115] :: d.reads ∧ split p1 [32] = [119, 114, 105, 116, 101, 115] :: d.writes ∧ insAll ps = some d.code ∧ wrongDeed d = 0 := by
  unfold parseD at h
  split at h
  · cases h
  · next h0 =>
    refine ⟨by omega, ?_⟩
    split at h
    · next p0 p1 ps h1 =>
      split at h
      · next w0 rs w1 ws code h2 h3 h4 =>
        split at h
        · next h5 =>
          obtain ⟨rfl, rfl, h6⟩ := h5
          cases h
          exact ⟨p0, p1, ps, h1, h2, h3, h4, h6⟩
        · cases h
      · cases h
    · cases h

end Go.Proofs.YtembfadhnkabhaaGreatDoor

/-! H4 -/
/-
  Contract of the references' Parse, at the text of a right deed whose numbers are small.
-/
namespace Go.Proofs.YtembfadhnkabhaaGreatDoor
open Go.AX Go.RF Go.RowKit

set_option maxRecDepth 100000
set_option maxHeartbeats 16000000

theorem ok_parseS (s : Str) (d : Deed) (h : parseD s = some d) (hm : smallS s = true) : FnOk Tryz.prog 49 [.d (dstr s)] (.tup [.agg d.enc, dint 0]) := by
  refine fnOk_of tbl_ok mixed_ok Tryz.func49 rfl (by kernel_rfl) rfl rfl fun w0 own0 => ?_
  obtain ⟨hs, p0, p1, ps, e0, e1, e2, e3, e4⟩ := parseD_some h
  obtain ⟨rs, ws, cd⟩ := d
  dsimp only at e1 e2 e3
  have c1 := ok_split s [59, 32] (by omega) (by simp) (by simp)
  have hsl := split_len s [59, 32]
  have hsp : ∀ p ∈ split s [59, 32], p.length ≤ 400 := fun p hp => Nat.le_trans (split_part hp) hs
  have hsm : ∀ p ∈ split s [59, 32], ∀ w ∈ split p [32], smallN (numV w) = true ∧ smallN (regV w) = true := fun p hp w hw => by
    have := List.all_eq_true.1 (List.all_eq_true.1 hm p hp) w hw
    simpa using this
  generalize hl : split s [59, 32] = l at *
  have h2l : 2 ≤ l.length := by rw [e0]; simp
  repeat (first | ((with_reducible apply stop_at 8); exact rfl) | ((with_reducible apply s1); exact rfl) | (with_reducible first | apply CW.seq | apply CW.block | apply CW.region | apply CW.draw | apply CW.skip | apply CW.exit | apply CW.ret | apply q_then | apply q_then_exit | apply q_then_ret | apply q_block | apply q_block_ret | apply q_block_hit | apply q_ret | apply q_end | apply q_loop_exit | apply q_loop_ret | apply q_loopT_exit | apply q_loopT_ret | apply RW.nil) | ((with_reducible apply s3); exact rfl; exact by_k) | ((with_reducible apply s2); exact rfl; exact by_k) | ((with_reducible apply s4); exact rfl) | ((with_reducible apply s5); (first | (focus ((with_reducible apply a_call); exact c1; exact rfl; (repeat (first | exact SubsE.nil | (apply SubsE.cons; exact rfl; (first | exact .d (.refl _) | exact .d (.nil _) | exact .agg rfl (.refl _) | exact .pd | exact .ptr rfl); (first | exact trivial | exact ⟨rfl, trivial⟩)))); done)) | exact by_oa); exact by_g) | ((with_reducible apply CW.cond_t); exact rfl; exact by_ks) | ((with_reducible apply CW.cond_f); exact rfl; exact by_ks) | ((with_reducible apply q_block_miss); exact rfl) | (refine And.intro (show chk [] [] _ _ = true by kernel_rfl) ?_))
  refine Stop.go (CW.stut (stut_promote_cell (id := 1) (j := 2) 93 5 rfl) ⟨rfl, rfl, trivial⟩ ?_)
  repeat (first | ((with_reducible apply s1); exact rfl) | (with_reducible first | apply CW.seq | apply CW.block | apply CW.region | apply CW.draw | apply CW.skip | apply CW.exit | apply CW.ret | apply q_then | apply q_then_exit | apply q_then_ret | apply q_block | apply q_block_ret | apply q_block_hit | apply q_ret | apply q_end | apply q_loop_exit | apply q_loop_ret | apply q_loopT_exit | apply q_loopT_ret | apply RW.nil) | ((with_reducible apply s3); exact rfl; exact by_k) | ((with_reducible apply s2); exact rfl; exact by_k) | ((with_reducible apply s4); exact rfl) | ((with_reducible apply s5); (first | exact by_oa); exact by_g) | ((with_reducible apply CW.cond_t); exact rfl; exact by_ks) | ((with_reducible apply CW.cond_f); exact rfl; exact by_ks) | ((with_reducible apply q_block_miss); exact rfl) | (refine And.intro (show chk [] [] _ _ = true by kernel_rfl) ?_))
  refine CW.loopT (fun t : Nat × D × D × List Ins => [sp 2 0, ob 0 [.v nilS, .v nilS, .v nilS], sp 6 1, (.o 1, .ob (.box [.d t.2.1, .d t.2.2.1, .own 2 t.2.2.2.length])), oa 2 93 5 (t.2.2.2.map Ins.enc), sd 36 (encStrs l), sd 37 (dint l.length), sd 38 (dint t.1), nxt 3])
    (fun t => t.1 ≤ l.length ∧ (1 ≤ t.1 → t.2.1 = encStrs rs) ∧ (2 ≤ t.1 → t.2.2.1 = encStrs ws) ∧ t.2.2.2.length ≤ t.1 ∧ ∃ rest, insAll (l.drop (max t.1 2)) = some rest ∧ t.2.2.2 ++ rest = cd) (fun t => l.length - t.1) (0, .v nilS, .v nilS, [])
    ⟨by dsimp only; omega, fun h => by dsimp only at h; omega, fun h => by dsimp only at h; omega, by simp, cd, by rw [e0]; exact e3, rfl⟩ ?_ ?_
  ·
    exact by_less
  · rintro ⟨x, R, W, code⟩ ⟨hx, hR, hW, hc, rest, hr, hcd⟩
    dsimp only at hx hR hW hc hr hcd ⊢
    rcases drop_case hx with ⟨h1, h2⟩ | ⟨p, h1, h2, h3⟩
    · rw [show max x 2 = x by omega, h1] at hr
      cases hr
      rw [List.append_nil] at hcd
      obtain rfl := hR (by omega)
      obtain rfl := hW (by omega)
      subst hcd
      have hrs : ∀ k ∈ rs, k.length ≤ 400 := fun k hk => Nat.le_trans (split_part (s := p0) (sep := [32]) (by rw [e1]; exact List.mem_cons_of_mem _ hk)) (hsp p0 (by rw [e0]; simp))
      have hws : ∀ k ∈ ws, k.length ≤ 400 := fun k hk => Nat.le_trans (split_part (s := p1) (sep := [32]) (by rw [e2]; exact List.mem_cons_of_mem _ hk)) (hsp p1 (by rw [e0]; simp))
      have hrl : rs.length ≤ 400 := by have := split_len p0 [32]; rw [e1] at this; have := hsp p0 (by rw [e0]; simp); simp at *; omega
      have hwl : ws.length ≤ 400 := by have := split_len p1 [32]; rw [e2] at this; have := hsp p1 (by rw [e0]; simp); simp at *; omega
      have cw := ok_wrongDeed ⟨rs, ws, code⟩ (by dsimp only; omega) (by dsimp only; omega) (by dsimp only; omega) (fun k hk => by have := hrs k hk; omega) (fun k hk => by have := hws k hk; omega)
      rw [e4] at cw
      repeat (first | ((with_reducible apply stop_at 52); exact rfl) | ((with_reducible apply s1); exact rfl) | (with_reducible first | apply CW.seq | apply CW.block | apply CW.region | apply CW.draw | apply CW.skip | apply CW.exit | apply CW.ret | apply q_then | apply q_then_exit | apply q_then_ret | apply q_block | apply q_block_ret | apply q_block_hit | apply q_ret | apply q_end | apply q_loop_exit | apply q_loop_ret | apply q_loopT_exit | apply q_loopT_ret | apply RW.nil) | ((with_reducible apply s3); exact rfl; exact by_k) | ((with_reducible apply s2); exact rfl; exact by_k) | ((with_reducible apply s4); exact rfl) | ((with_reducible apply s5); (first | exact by_oa); exact by_g) | ((with_reducible apply CW.cond_t); exact rfl; exact by_ks) | ((with_reducible apply CW.cond_f); exact rfl; exact by_ks) | ((with_reducible apply q_block_miss); exact rfl) | (refine And.intro (show chk [] [] _ _ = true by kernel_rfl) ?_))
      refine Stop.go (CW.stut (stut_freeze_cell (id := 1) (j := 2) (i := 2) rfl (by simp)) ⟨rfl, rfl, trivial⟩ ?_)
      repeat (first | ((with_reducible apply s1); exact rfl) | (with_reducible first | apply CW.seq | apply CW.block | apply CW.region | apply CW.draw | apply CW.skip | apply CW.exit | apply CW.ret | apply q_then | apply q_then_exit | apply q_then_ret | apply q_block | apply q_block_ret | apply q_block_hit | apply q_ret | apply q_end | apply q_loop_exit | apply q_loop_ret | apply q_loopT_exit | apply q_loopT_ret | apply RW.nil) | ((with_reducible apply s3); exact rfl; exact by_k) | ((with_reducible apply s2); exact rfl; exact by_k) | ((with_reducible apply s4); exact rfl) | ((with_reducible apply s5); (first | (focus ((with_reducible apply a_call); exact cw; exact rfl; (repeat (first | exact SubsE.nil | (apply SubsE.cons; exact rfl; (first | exact .d (.refl _) | exact .d (.nil _) | exact .agg rfl (.refl _) | exact .pd | exact .ptr rfl); (first | exact trivial | exact ⟨rfl, trivial⟩)))); done)) | exact by_oa); exact by_g) | ((with_reducible apply CW.cond_t); exact rfl; exact by_ks) | ((with_reducible apply CW.cond_f); exact rfl; exact by_ks) | ((with_reducible apply q_block_miss); exact rfl) | (refine And.intro (show chk [] [] _ _ = true by kernel_rfl) ?_))
      exact .two (.cell rfl rfl rfl rfl (.aggd rfl (.refl _))) (.tmp rfl (.one (.d (.refl _))))
    · have hp : p ∈ l := List.mem_of_getElem? h2
      have hpl := hsp p hp
      have c2 := ok_split p [32] (by omega) (by simp) (by simp)
      by_cases hx0 : x = 0
      · subst hx0
        have h2' := h2
        rw [e0] at h2
        obtain rfl : p0 = p := by simpa using h2
        rw [e1] at c2
        have hrl : rs.length ≤ 400 := by have := split_len p0 [32]; rw [e1] at this; simp at *; omega
        have hw0 : (([114, 101, 97, 100, 115] : Str) :: rs)[0]? = some [114, 101, 97, 100, 115] := rfl
        have hn0 : ([[114, 101, 97, 100, 115], [119, 114, 105, 116, 101, 115]] : List Str)[0]? = some [114, 101, 97, 100, 115] := rfl
        repeat (first | ((with_reducible apply s5); ((with_reducible apply a_bs (([[114, 101, 97, 100, 115], [119, 114, 105, 116, 101, 115]] : List Str).map encStr1)); (iterate 9 exact rfl); (repeat (first | exact PartsE.nil | (apply PartsE.cons; exact rfl; exact rfl)))); exact by_g) | ((with_reducible apply s1); exact rfl) | (with_reducible first | apply CW.seq | apply CW.block | apply CW.region | apply CW.draw | apply CW.skip | apply CW.exit | apply CW.ret | apply q_then | apply q_then_exit | apply q_then_ret | apply q_block | apply q_block_ret | apply q_block_hit | apply q_ret | apply q_end | apply q_loop_exit | apply q_loop_ret | apply q_loopT_exit | apply q_loopT_ret | apply RW.nil) | ((with_reducible apply s3); exact rfl; exact by_k) | ((with_reducible apply s2); exact rfl; exact by_k) | ((with_reducible apply s4); exact rfl) | ((with_reducible apply s5); (first | (focus ((with_reducible apply a_call); exact c2; exact rfl; (repeat (first | exact SubsE.nil | (apply SubsE.cons; exact rfl; (first | exact .d (.refl _) | exact .d (.nil _) | exact .agg rfl (.refl _) | exact .pd | exact .ptr rfl); (first | exact trivial | exact ⟨rfl, trivial⟩)))); done)) | exact by_oa); exact by_g) | ((with_reducible apply CW.cond_t); exact rfl; exact by_ks) | ((with_reducible apply CW.cond_f); exact rfl; exact by_ks) | ((with_reducible apply q_block_miss); exact rfl) | (refine And.intro (show chk [] [] _ _ = true by kernel_rfl) ?_))
        refine q_loopT (1, encStrs rs, W, code) ⟨by dsimp only; omega, fun _ => rfl, fun h => by dsimp only at h; omega, by dsimp only; omega, rest, hr, hcd⟩ (by dsimp only; omega) ?_
        exact by_less
      by_cases hx1 : x = 1
      · subst hx1
        have h2' := h2
        rw [e0] at h2
        obtain rfl : p1 = p := by simpa using h2
        rw [e2] at c2
        have hwl : ws.length ≤ 400 := by have := split_len p1 [32]; rw [e2] at this; simp at *; omega
        have hw0 : (([119, 114, 105, 116, 101, 115] : Str) :: ws)[0]? = some [119, 114, 105, 116, 101, 115] := rfl
        have hn0 : ([[114, 101, 97, 100, 115], [119, 114, 105, 116, 101, 115]] : List Str)[1]? = some [119, 114, 105, 116, 101, 115] := rfl
        repeat (first | ((with_reducible apply s5); ((with_reducible apply a_bs (([[114, 101, 97, 100, 115], [119, 114, 105, 116, 101, 115]] : List Str).map encStr1)); (iterate 9 exact rfl); (repeat (first | exact PartsE.nil | (apply PartsE.cons; exact rfl; exact rfl)))); exact by_g) | ((with_reducible apply s1); exact rfl) | (with_reducible first | apply CW.seq | apply CW.block | apply CW.region | apply CW.draw | apply CW.skip | apply CW.exit | apply CW.ret | apply q_then | apply q_then_exit | apply q_then_ret | apply q_block | apply q_block_ret | apply q_block_hit | apply q_ret | apply q_end | apply q_loop_exit | apply q_loop_ret | apply q_loopT_exit | apply q_loopT_ret | apply RW.nil) | ((with_reducible apply s3); exact rfl; exact by_k) | ((with_reducible apply s2); exact rfl; exact by_k) | ((with_reducible apply s4); exact rfl) | ((with_reducible apply s5); (first | (focus ((with_reducible apply a_call); exact c2; exact rfl; (repeat (first | exact SubsE.nil | (apply SubsE.cons; exact rfl; (first | exact .d (.refl _) | exact .d (.nil _) | exact .agg rfl (.refl _) | exact .pd | exact .ptr rfl); (first | exact trivial | exact ⟨rfl, trivial⟩)))); done)) | exact by_oa); exact by_g) | ((with_reducible apply CW.cond_t); exact rfl; exact by_ks) | ((with_reducible apply CW.cond_f); exact rfl; exact by_ks) | ((with_reducible apply q_block_miss); exact rfl) | (refine And.intro (show chk [] [] _ _ = true by kernel_rfl) ?_))
        refine q_loopT (2, R, encStrs ws, code) ⟨by dsimp only; omega, fun _ => hR (by omega), fun _ => rfl, by dsimp only; omega, rest, hr, hcd⟩ (by dsimp only; omega) ?_
        exact by_less
      rw [show max x 2 = x by omega, h1] at hr
      obtain ⟨i1, rest', hi, hr', rfl⟩ := insAll_cons hr
      have hsw := hsm p hp
      generalize hwds : split p [32] = wds at *
      obtain ⟨w, wz, rfl, hk0, hlen, hfi⟩ := insP_some hi
      have hwl : wz.length ≤ 400 := by have := split_len p [32]; rw [hwds] at this; simp at *; omega
      have cw := ok_words
      have hw0 : (w :: wz)[0]? = some w := rfl
      repeat (first | ((with_reducible apply s1); exact rfl) | (with_reducible first | apply CW.seq | apply CW.block | apply CW.region | apply CW.draw | apply CW.skip | apply CW.exit | apply CW.ret | apply q_then | apply q_then_exit | apply q_then_ret | apply q_block | apply q_block_ret | apply q_block_hit | apply q_ret | apply q_end | apply q_loop_exit | apply q_loop_ret | apply q_loopT_exit | apply q_loopT_ret | apply RW.nil) | ((with_reducible apply s3); exact rfl; exact by_k) | ((with_reducible apply s2); exact rfl; exact by_k) | ((with_reducible apply s4); exact rfl) | ((with_reducible apply s5); (first | (focus ((with_reducible apply a_call); exact c2; exact rfl; (repeat (first | exact SubsE.nil | (apply SubsE.cons; exact rfl; (first | exact .d (.refl _) | exact .d (.nil _) | exact .agg rfl (.refl _) | exact .pd | exact .ptr rfl); (first | exact trivial | exact ⟨rfl, trivial⟩)))); done)) | (focus ((with_reducible apply a_call); exact cw; exact rfl; (repeat (first | exact SubsE.nil | (apply SubsE.cons; exact rfl; (first | exact .d (.refl _) | exact .d (.nil _) | exact .agg rfl (.refl _) | exact .pd | exact .ptr rfl); (first | exact trivial | exact ⟨rfl, trivial⟩)))); done)) | exact by_oa); exact by_g) | ((with_reducible apply CW.cond_t); exact rfl; exact by_ks) | ((with_reducible apply CW.cond_f); exact rfl; exact by_ks) | ((with_reducible apply q_block_miss); exact rfl) | (refine And.intro (show chk [] [] _ _ = true by kernel_rfl) ?_))
      refine CW.loopT (fun t : Nat × Int => [sp 2 0, ob 0 [.v nilS, .v nilS, .v nilS], sp 6 1, (.o 1, .ob (.box [.d R, .d W, .own 2 code.length])), oa 2 93 5 (code.map Ins.enc), sd 36 (encStrs l), sd 37 (dint l.length), sd 38 (dint x),
          sd 9 (encStrs (w :: wz)), sp 10 3, ob 3 [dint t.2, dint 0, dint 0, dint 0, dstr []], sd 68 (encStrs words), sd 69 (dint words.length), sd 70 (dint t.1), nxt 4])
        (fun t => t.1 ≤ words.length ∧ 0 ≤ t.2 ∧ t.2 < 10 ∧ kindGo w t.1 t.2 (words.drop t.1) = kindOf w) (fun t => words.length - t.1) (0, 0) ⟨by dsimp only; omega, by dsimp only; omega, by dsimp only; omega, rfl⟩ ?_ ?_
      ·
        exact by_less
      · rintro ⟨y, k⟩ ⟨hy, hk1, hk2, hK⟩
        dsimp only at hy hk1 hk2 hK ⊢
        have hwn : words.length = 10 := rfl
        rcases drop_case hy with ⟨g1, g2⟩ | ⟨u, g1, g2, g3⟩
        · rw [g1, kindGo] at hK
          subst hK
          obtain ⟨K, hKe⟩ := Int.eq_ofNat_of_zero_le hk1
          rw [hKe] at hlen hfi hk0 hk2 ⊢
          rw [Int.toNat_natCast] at hlen hfi
          have cf := ok_form K (by omega)
          have hfl := form_len K
          generalize form K = f at *
          repeat (first | ((with_reducible apply s1); exact rfl) | (with_reducible first | apply CW.seq | apply CW.block | apply CW.region | apply CW.draw | apply CW.skip | apply CW.exit | apply CW.ret | apply q_then | apply q_then_exit | apply q_then_ret | apply q_block | apply q_block_ret | apply q_block_hit | apply q_ret | apply q_end | apply q_loop_exit | apply q_loop_ret | apply q_loopT_exit | apply q_loopT_ret | apply RW.nil) | ((with_reducible apply s3); exact rfl; exact by_k) | ((with_reducible apply s2); exact rfl; exact by_k) | ((with_reducible apply s4); exact rfl) | ((with_reducible apply s5); (first | (focus ((with_reducible apply a_call); exact cf; exact rfl; (repeat (first | exact SubsE.nil | (apply SubsE.cons; exact rfl; (first | exact .d (.refl _) | exact .d (.nil _) | exact .agg rfl (.refl _) | exact .pd | exact .ptr rfl); (first | exact trivial | exact ⟨rfl, trivial⟩)))); done)) | exact by_oa); exact by_g) | ((with_reducible apply CW.cond_t); exact rfl; exact by_ks) | ((with_reducible apply CW.cond_f); exact rfl; exact by_ks) | ((with_reducible apply q_block_miss); exact rfl) | (refine And.intro (show chk [] [] _ _ = true by kernel_rfl) ?_))
          refine CW.loopT (fun t : Nat × Ins => [sp 2 0, ob 0 [.v nilS, .v nilS, .v nilS], sp 6 1, (.o 1, .ob (.box [.d R, .d W, .own 2 code.length])), oa 2 93 5 (code.map Ins.enc), sd 36 (encStrs l), sd 37 (dint l.length), sd 38 (dint x),
              sd 9 (encStrs (w :: wz)), sp 10 3, ob 3 t.2.enc, sd 13 (dstr f), sd 107 (dstr f), sd 108 (dint f.length), sd 109 (dint t.1), nxt 4])
            (fun t => t.1 ≤ f.length ∧ fillI t.2 (f.drop t.1) (wz.drop t.1) = some i1) (fun t => f.length - t.1) (0, ⟨K, 0, 0, 0, []⟩) ⟨by dsimp only; omega, hfi⟩ ?_ ?_
          ·
            exact by_less
          · rintro ⟨j, i⟩ ⟨hj, hI⟩
            dsimp only at hj hI ⊢
            rcases drop_case hj with ⟨b1, b2⟩ | ⟨c, b1, b2, b3⟩
            · rw [b1, fillI] at hI
              cases hI
              repeat (first | ((with_reducible apply s1); exact rfl) | (with_reducible first | apply CW.seq | apply CW.block | apply CW.region | apply CW.draw | apply CW.skip | apply CW.exit | apply CW.ret | apply q_then | apply q_then_exit | apply q_then_ret | apply q_block | apply q_block_ret | apply q_block_hit | apply q_ret | apply q_end | apply q_loop_exit | apply q_loop_ret | apply q_loopT_exit | apply q_loopT_ret | apply RW.nil) | ((with_reducible apply s3); exact rfl; exact by_k) | ((with_reducible apply s2); exact rfl; exact by_k) | ((with_reducible apply s4); exact rfl) | ((with_reducible apply s5); (first | exact by_oa); exact by_g) | ((with_reducible apply CW.cond_t); exact rfl; exact by_ks) | ((with_reducible apply CW.cond_f); exact rfl; exact by_ks) | ((with_reducible apply q_block_miss); exact rfl) | (refine And.intro (show chk [] [] _ _ = true by kernel_rfl) ?_))
              refine q_loopT (x + 1, R, W, code ++ [i1]) ⟨by dsimp only; omega, fun _ => hR (by omega), fun _ => hW (by omega), by dsimp only; simp; omega, rest', by dsimp only; rw [show max (x + 1) 2 = x + 1 by omega]; exact hr', by dsimp only; rw [← hcd]; simp⟩ (by dsimp only; omega) ?_
              exact by_less
            · have hwj : j < wz.length := by omega
              have hwa : (w :: wz)[j + 1]? = some wz[j] := by simp [List.getElem?_eq_getElem hwj]
              rw [b1, List.drop_eq_getElem_cons hwj] at hI
              have hsj := hsw wz[j] (List.mem_cons_of_mem _ (List.getElem_mem hwj))
              have hwjl : wz[j].length ≤ 400 := Nat.le_trans (split_part (s := p) (sep := [32]) (by rw [hwds]; exact List.mem_cons_of_mem _ (List.getElem_mem hwj))) hpl
              generalize wz[j] = u at hwa hI hsj hwjl
              rcases fillI_cons hI with ⟨q1, q2⟩ | ⟨q1, n, q2, q3⟩ | ⟨q1, q2, r, n, rfl, q3, q4⟩
              ·
                repeat (first | ((with_reducible apply s1); exact rfl) | (with_reducible first | apply CW.seq | apply CW.block | apply CW.region | apply CW.draw | apply CW.skip | apply CW.exit | apply CW.ret | apply q_then | apply q_then_exit | apply q_then_ret | apply q_block | apply q_block_ret | apply q_block_hit | apply q_ret | apply q_end | apply q_loop_exit | apply q_loop_ret | apply q_loopT_exit | apply q_loopT_ret | apply RW.nil) | ((with_reducible apply s3); exact rfl; exact by_k) | ((with_reducible apply s2); exact rfl; exact by_k) | ((with_reducible apply s4); exact rfl) | ((with_reducible apply s5); (first | exact by_oa); exact by_g) | ((with_reducible apply CW.cond_t); exact rfl; exact by_ks) | ((with_reducible apply CW.cond_f); exact rfl; exact by_ks) | ((with_reducible apply q_block_miss); exact rfl) | (refine And.intro (show chk [] [] _ _ = true by kernel_rfl) ?_))
                refine q_loopT (j + 1, { i with key := u }) ⟨by dsimp only; omega, q2⟩ (by dsimp only; omega) ?_
                exact by_less
              · have hn := smallN_of hsj.1 q2
                have cn := ok_numS u n (by omega) q2 hn.1 hn.2
                repeat (first | ((with_reducible apply s1); exact rfl) | (with_reducible first | apply CW.seq | apply CW.block | apply CW.region | apply CW.draw | apply CW.skip | apply CW.exit | apply CW.ret | apply q_then | apply q_then_exit | apply q_then_ret | apply q_block | apply q_block_ret | apply q_block_hit | apply q_ret | apply q_end | apply q_loop_exit | apply q_loop_ret | apply q_loopT_exit | apply q_loopT_ret | apply RW.nil) | ((with_reducible apply s3); exact rfl; exact by_k) | ((with_reducible apply s2); exact rfl; exact by_k) | ((with_reducible apply s4); exact rfl) | ((with_reducible apply s5); (first | (focus ((with_reducible apply a_call); exact cn; exact rfl; (repeat (first | exact SubsE.nil | (apply SubsE.cons; exact rfl; (first | exact .d (.refl _) | exact .d (.nil _) | exact .agg rfl (.refl _) | exact .pd | exact .ptr rfl); (first | exact trivial | exact ⟨rfl, trivial⟩)))); done)) | exact by_oa); exact by_g) | ((with_reducible apply CW.cond_t); exact rfl; exact by_ks) | ((with_reducible apply CW.cond_f); exact rfl; exact by_ks) | ((with_reducible apply q_block_miss); exact rfl) | (refine And.intro (show chk [] [] _ _ = true by kernel_rfl) ?_))
                refine q_loopT (j + 1, { i with n := n }) ⟨by dsimp only; omega, q3⟩ (by dsimp only; omega) ?_
                exact by_less
              · have hn := smallN_of hsj.2 (show regV (114 :: r) = some n from q3)
                have cn := ok_numS r n (by simp at hwjl; omega) q3 hn.1 hn.2
                have hu0 : (114 :: r : Str)[0]? = some 114 := rfl
                rcases q4 with ⟨q4, q5⟩ | ⟨q4, q5⟩
                ·
                  repeat (first | ((with_reducible apply s1); exact rfl) | (with_reducible first | apply CW.seq | apply CW.block | apply CW.region | apply CW.draw | apply CW.skip | apply CW.exit | apply CW.ret | apply q_then | apply q_then_exit | apply q_then_ret | apply q_block | apply q_block_ret | apply q_block_hit | apply q_ret | apply q_end | apply q_loop_exit | apply q_loop_ret | apply q_loopT_exit | apply q_loopT_ret | apply RW.nil) | ((with_reducible apply s3); exact rfl; exact by_k) | ((with_reducible apply s2); exact rfl; exact by_k) | ((with_reducible apply s4); exact rfl) | ((with_reducible apply s5); (first | (focus ((with_reducible apply a_call); exact cn; exact rfl; (repeat (first | exact SubsE.nil | (apply SubsE.cons; exact rfl; (first | exact .d (.refl _) | exact .d (.nil _) | exact .agg rfl (.refl _) | exact .pd | exact .ptr rfl); (first | exact trivial | exact ⟨rfl, trivial⟩)))); done)) | ((with_reducible apply (a_is (k := 0))); (iterate 5 exact rfl); exact rfl) | ((with_reducible apply (a_subF (l := 1))); (iterate 5 exact rfl); exact Nat.succ_le_succ (Nat.zero_le _)) | exact by_oa); exact by_g) | ((with_reducible apply CW.cond_t); exact rfl; exact by_ks) | ((with_reducible apply CW.cond_f); exact rfl; exact by_ks) | ((with_reducible apply q_block_miss); exact rfl) | (refine And.intro (show chk [] [] _ _ = true by kernel_rfl) ?_))
                  refine q_loopT (j + 1, { i with a := n }) ⟨by dsimp only; omega, q5⟩ (by dsimp only; omega) ?_
                  exact by_less
                ·
                  repeat (first | ((with_reducible apply s1); exact rfl) | (with_reducible first | apply CW.seq | apply CW.block | apply CW.region | apply CW.draw | apply CW.skip | apply CW.exit | apply CW.ret | apply q_then | apply q_then_exit | apply q_then_ret | apply q_block | apply q_block_ret | apply q_block_hit | apply q_ret | apply q_end | apply q_loop_exit | apply q_loop_ret | apply q_loopT_exit | apply q_loopT_ret | apply RW.nil) | ((with_reducible apply s3); exact rfl; exact by_k) | ((with_reducible apply s2); exact rfl; exact by_k) | ((with_reducible apply s4); exact rfl) | ((with_reducible apply s5); (first | (focus ((with_reducible apply a_call); exact cn; exact rfl; (repeat (first | exact SubsE.nil | (apply SubsE.cons; exact rfl; (first | exact .d (.refl _) | exact .d (.nil _) | exact .agg rfl (.refl _) | exact .pd | exact .ptr rfl); (first | exact trivial | exact ⟨rfl, trivial⟩)))); done)) | ((with_reducible apply (a_is (k := 0))); (iterate 5 exact rfl); exact rfl) | ((with_reducible apply (a_subF (l := 1))); (iterate 5 exact rfl); exact Nat.succ_le_succ (Nat.zero_le _)) | exact by_oa); exact by_g) | ((with_reducible apply CW.cond_t); exact rfl; exact by_ks) | ((with_reducible apply CW.cond_f); exact rfl; exact by_ks) | ((with_reducible apply q_block_miss); exact rfl) | (refine And.intro (show chk [] [] _ _ = true by kernel_rfl) ?_))
                  refine q_loopT (j + 1, { i with b := n }) ⟨by dsimp only; omega, q5⟩ (by dsimp only; omega) ?_
                  exact by_less
        · rw [g1, kindGo] at hK
          by_cases hy0 : 0 < y
          · by_cases hu : u = w
            · rw [if_pos ⟨hy0, hu⟩] at hK
              repeat (first | ((with_reducible apply s1); exact rfl) | (with_reducible first | apply CW.seq | apply CW.block | apply CW.region | apply CW.draw | apply CW.skip | apply CW.exit | apply CW.ret | apply q_then | apply q_then_exit | apply q_then_ret | apply q_block | apply q_block_ret | apply q_block_hit | apply q_ret | apply q_end | apply q_loop_exit | apply q_loop_ret | apply q_loopT_exit | apply q_loopT_ret | apply RW.nil) | ((with_reducible apply s3); exact rfl; exact by_k) | ((with_reducible apply s2); exact rfl; exact by_k) | ((with_reducible apply s4); exact rfl) | ((with_reducible apply s5); (first | exact by_oa); exact by_g) | ((with_reducible apply CW.cond_t); exact rfl; exact by_ks) | ((with_reducible apply CW.cond_f); exact rfl; exact by_ks) | ((with_reducible apply q_block_miss); exact rfl) | (refine And.intro (show chk [] [] _ _ = true by kernel_rfl) ?_))
              refine q_loopT (y + 1, (y : Int)) ⟨by dsimp only; omega, by dsimp only; omega, by dsimp only; omega, hK⟩ (by dsimp only; omega) ?_
              exact by_less
            · rw [if_neg (fun h => hu h.2)] at hK
              repeat (first | ((with_reducible apply s1); exact rfl) | (with_reducible first | apply CW.seq | apply CW.block | apply CW.region | apply CW.draw | apply CW.skip | apply CW.exit | apply CW.ret | apply q_then | apply q_then_exit | apply q_then_ret | apply q_block | apply q_block_ret | apply q_block_hit | apply q_ret | apply q_end | apply q_loop_exit | apply q_loop_ret | apply q_loopT_exit | apply q_loopT_ret | apply RW.nil) | ((with_reducible apply s3); exact rfl; exact by_k) | ((with_reducible apply s2); exact rfl; exact by_k) | ((with_reducible apply s4); exact rfl) | ((with_reducible apply s5); (first | exact by_oa); exact by_g) | ((with_reducible apply CW.cond_t); exact rfl; exact by_ks) | ((with_reducible apply CW.cond_f); exact rfl; exact by_ks) | ((with_reducible apply q_block_miss); exact rfl) | (refine And.intro (show chk [] [] _ _ = true by kernel_rfl) ?_))
              refine q_loopT (y + 1, k) ⟨by dsimp only; omega, by dsimp only; omega, by dsimp only; omega, hK⟩ (by dsimp only; omega) ?_
              exact by_less
          · rw [if_neg (fun h => hy0 h.1)] at hK
            repeat (first | ((with_reducible apply s1); exact rfl) | (with_reducible first | apply CW.seq | apply CW.block | apply CW.region | apply CW.draw | apply CW.skip | apply CW.exit | apply CW.ret | apply q_then | apply q_then_exit | apply q_then_ret | apply q_block | apply q_block_ret | apply q_block_hit | apply q_ret | apply q_end | apply q_loop_exit | apply q_loop_ret | apply q_loopT_exit | apply q_loopT_ret | apply RW.nil) | ((with_reducible apply s3); exact rfl; exact by_k) | ((with_reducible apply s2); exact rfl; exact by_k) | ((with_reducible apply s4); exact rfl) | ((with_reducible apply s5); (first | exact by_oa); exact by_g) | ((with_reducible apply CW.cond_t); exact rfl; exact by_ks) | ((with_reducible apply CW.cond_f); exact rfl; exact by_ks) | ((with_reducible apply q_block_miss); exact rfl) | (refine And.intro (show chk [] [] _ _ = true by kernel_rfl) ?_))
            refine q_loopT (y + 1, k) ⟨by dsimp only; omega, by dsimp only; omega, by dsimp only; omega, hK⟩ (by dsimp only; omega) ?_
            exact by_less

end Go.Proofs.YtembfadhnkabhaaGreatDoor

/-! H5 -/
/-
  Texts of deeds that laws ask first.
-/
namespace Go.Proofs.YtembfadhnkabhaaGreatDoor
open Go.AX Go.RF

/-- 'reads; writes a; const r0 4; store r0 a' -/
def tA : Str := [114, 101, 97, 100, 115, 59, 32, 119, 114, 105, 116, 101, 115, 32, 97, 59, 32, 99, 111, 110, 115, 116, 32, 114, 48, 32, 52, 59, 32, 115, 116, 111, 114, 101, 32, 114, 48, 32, 97]
def dA : Deed := ⟨[], [[97]], [⟨2, 0, 0, 4, []⟩, ⟨6, 0, 0, 0, [97]⟩]⟩
theorem pA : parseD tA = some dA := by decide +kernel
theorem sA : smallS tA = true := by decide +kernel
/-- 'reads a; writes; load r1 a' -/
def tB : Str := [114, 101, 97, 100, 115, 32, 97, 59, 32, 119, 114, 105, 116, 101, 115, 59, 32, 108, 111, 97, 100, 32, 114, 49, 32, 97]
def dB : Deed := ⟨[[97]], [], [⟨1, 1, 0, 0, [97]⟩]⟩
theorem pB : parseD tB = some dB := by decide +kernel
theorem sB : smallS tB = true := by decide +kernel
end Go.Proofs.YtembfadhnkabhaaGreatDoor

/-! L5 -/
/-
  The law PlainTells answers true of whatever data.
-/
namespace Go.Proofs.YtembfadhnkabhaaGreatDoor
open Go.AX Go.RF

set_option maxRecDepth 100000
set_option maxHeartbeats 8000000

theorem ok_all (r : List Pair) (l : List Deed) (hl : r.length ≤ 1048576) (hll : l.length ≤ 1048576) (hr : rowsOk r) (hw : ∀ d ∈ l, Deed.Ok d) :
    FnOk Tryz.prog 14 [.d (encRows r), .d (encDeeds l)] (.tup [encRows (allD r l).1, encEnds (allD r l).2]) := by
  refine fnOk_of tbl_ok mixed_ok Tryz.func14 rfl (by kernel_rfl) rfl rfl fun w0 own0 => ?_
  repeat (first | ((with_reducible apply stop_at 2); exact rfl) | ((with_reducible apply s1); exact rfl) | (with_reducible first | apply CW.seq | apply CW.block | apply CW.region | apply CW.draw | apply CW.skip | apply CW.exit | apply CW.ret | apply q_then | apply q_then_exit | apply q_then_ret | apply q_block | apply q_block_ret | apply q_block_hit | apply q_ret | apply q_end | apply q_loop_exit | apply q_loop_ret | apply q_loopT_exit | apply q_loopT_ret | apply RW.nil) | ((with_reducible apply s3); exact rfl; exact by_k) | ((with_reducible apply s2); exact rfl; exact by_k) | ((with_reducible apply s4); exact rfl) | ((with_reducible apply s5); (first | exact by_oa); exact by_g) | ((with_reducible apply CW.cond_t); exact rfl; exact by_ks) | ((with_reducible apply CW.cond_f); exact rfl; exact by_ks) | ((with_reducible apply q_block_miss); exact rfl) | (refine And.intro (show chk [] [] _ _ = true by kernel_rfl) ?_))
  refine Stop.go (CW.stut (stut_promote (i := 6) 53 5) ⟨rfl, rfl, trivial⟩ ?_)
  repeat (first | ((with_reducible apply s1); exact rfl) | (with_reducible first | apply CW.seq | apply CW.block | apply CW.region | apply CW.draw | apply CW.skip | apply CW.exit | apply CW.ret | apply q_then | apply q_then_exit | apply q_then_ret | apply q_block | apply q_block_ret | apply q_block_hit | apply q_ret | apply q_end | apply q_loop_exit | apply q_loop_ret | apply q_loopT_exit | apply q_loopT_ret | apply RW.nil) | ((with_reducible apply s3); exact rfl; exact by_k) | ((with_reducible apply s2); exact rfl; exact by_k) | ((with_reducible apply s4); exact rfl) | ((with_reducible apply s5); (first | exact by_oa); exact by_g) | ((with_reducible apply CW.cond_t); exact rfl; exact by_ks) | ((with_reducible apply CW.cond_f); exact rfl; exact by_ks) | ((with_reducible apply q_block_miss); exact rfl) | (refine And.intro (show chk [] [] _ _ = true by kernel_rfl) ?_))
  refine CW.loopT (fun t : Nat × List Pair × List Done => [sd 4 (.v nilS), sd 5 (.v nilS), sd 0 (encRows t.2.1), so 6 0 t.2.2.length, oa 0 53 5 (t.2.2.map Done.enc), sd 11 (encDeeds l), sd 12 (dint l.length), sd 13 (dint t.1), nxt 1])
    (fun t => t.1 ≤ l.length ∧ t.2.2.length ≤ t.1 ∧ t.2.1.length ≤ r.length + 12 * t.1 ∧ rowsOk t.2.1 ∧ (allD t.2.1 (l.drop t.1)).1 = (allD r l).1 ∧ t.2.2 ++ (allD t.2.1 (l.drop t.1)).2 = (allD r l).2) (fun t => l.length - t.1) (0, r, []) ⟨by omega, by simp, by simp, hr, rfl, rfl⟩ ?_ ?_
  ·
    exact by_less
  · rintro ⟨j, out, es⟩ ⟨hj, hes, hol, hor, hJ1, hJ2⟩
    dsimp only at hj hes hol hor hJ1 hJ2 ⊢
    rcases drop_case hj with ⟨h1, h2⟩ | ⟨c, h1, h2, h3⟩
    · rw [h1] at hJ1 hJ2
      simp only [allD, List.append_nil] at hJ1 hJ2
      repeat (first | ((with_reducible apply s1); exact rfl) | (with_reducible first | apply CW.seq | apply CW.block | apply CW.region | apply CW.draw | apply CW.skip | apply CW.exit | apply CW.ret | apply q_then | apply q_then_exit | apply q_then_ret | apply q_block | apply q_block_ret | apply q_block_hit | apply q_ret | apply q_end | apply q_loop_exit | apply q_loop_ret | apply q_loopT_exit | apply q_loopT_ret | apply RW.nil) | ((with_reducible apply s3); exact rfl; exact by_k) | ((with_reducible apply s2); exact rfl; exact by_k) | ((with_reducible apply s4); exact rfl) | ((with_reducible apply s5); (first | exact by_oa); exact by_g) | ((with_reducible apply CW.cond_t); exact rfl; exact by_ks) | ((with_reducible apply CW.cond_f); exact rfl; exact by_ks) | ((with_reducible apply q_block_miss); exact rfl) | (refine And.intro (show chk [] [] _ _ = true by kernel_rfl) ?_))
      rw [← hJ1, ← hJ2]
      exact .two (.tmp rfl (.one (.d (.refl _)))) (.tmp rfl (.one (.own rfl (by simp) (.refl _))))
    · rw [h1] at hJ1 hJ2
      simp only [allD] at hJ1 hJ2
      have hwc := hw c (List.mem_of_getElem? h2)
      have hwl := hwc.c
      have c1 := ok_do out c (by omega) hor (by omega) hwc.i
      have hlen := doD_len out c
      have hd2 := doD_ok hor hwc
      generalize doD out c = q at c1 hlen hd2 hJ1 hJ2
      obtain ⟨q1, q2⟩ := q
      dsimp only at c1 hlen hd2 hJ1 hJ2
      repeat (first | ((with_reducible apply s1); exact rfl) | (with_reducible first | apply CW.seq | apply CW.block | apply CW.region | apply CW.draw | apply CW.skip | apply CW.exit | apply CW.ret | apply q_then | apply q_then_exit | apply q_then_ret | apply q_block | apply q_block_ret | apply q_block_hit | apply q_ret | apply q_end | apply q_loop_exit | apply q_loop_ret | apply q_loopT_exit | apply q_loopT_ret | apply RW.nil) | ((with_reducible apply s3); exact rfl; exact by_k) | ((with_reducible apply s2); exact rfl; exact by_k) | ((with_reducible apply s4); exact rfl) | ((with_reducible apply s5); (first | (focus ((with_reducible apply a_call); exact c1; exact rfl; (repeat (first | exact SubsE.nil | (apply SubsE.cons; exact rfl; (first | exact .d (.refl _) | exact .d (.nil _) | exact .agg rfl (.refl _) | exact .pd | exact .ptr rfl); (first | exact trivial | exact ⟨rfl, trivial⟩)))); done)) | exact by_oa); exact by_g) | ((with_reducible apply CW.cond_t); exact rfl; exact by_ks) | ((with_reducible apply CW.cond_f); exact rfl; exact by_ks) | ((with_reducible apply q_block_miss); exact rfl) | (refine And.intro (show chk [] [] _ _ = true by kernel_rfl) ?_))
      refine q_loopT (j + 1, q1, es ++ [q2]) ⟨by dsimp only; omega, by dsimp only; simp; omega, by dsimp only; omega, hd2, hJ1, by rw [← hJ2]; simp⟩ (by dsimp only; omega) ?_
      exact by_less

theorem right_mem : ∀ {l : List Deed}, right l = true → ∀ d ∈ l, wrongDeed d = 0
  | x :: l, h, d, hd => by
    simp only [right] at h
    by_cases h0 : wrongDeed x = 0
    · rw [if_pos h0] at h
      rcases List.mem_cons.1 hd with rfl | hd
      · exact h0
      · exact right_mem h d hd
    · rw [if_neg h0] at h; cases h
theorem allD_len1 : ∀ {l : List Deed} {r : List Pair}, (∀ d ∈ l, Deed.Ok d) → (allD r l).1.length ≤ r.length + 12 * l.length
  | [], r, _ => by simp [allD]
  | d :: l, r, h => by
    have h1 := doD_len r d
    have h2 := (h d (List.mem_cons_self ..)).c
    have := allD_len1 (l := l) (r := (doD r d).1) fun x hx => h x (List.mem_cons_of_mem _ hx)
    simp only [allD, List.length_cons]
    omega

end Go.Proofs.YtembfadhnkabhaaGreatDoor

/-! AxPdA -/
/-
  Arrays in what stays, indexed.
-/
namespace Go.AX
open Go.RowKit

variable {cx : Cx} {g : Nat → Value} {σ σ' : St} {a : Act} {w w' : World} {nx : Nat}
variable {ty : TypeId} {pos : String} {af : Array Edge} {gd : Option (Nat × Bool)} {d : Nat}

theorem a_ibpd {t : TypeId} {x y : Operand} {n k : Nat} {cells : List D} {kd : IntKind} {i : Nat} {ti : TI} (hx : ev σ x = some (.pd cells)) (hy : ev σ y = some (.d (.v (.int kd (i : Int)))))
    (ht : tget cx.T t = some ti) (hk : arK ti = some (n, k)) (hd : Nat.blt d cx.n = true) (hi : i < n) :
    OA cx σ ⟨some d, .indexAddr t x y, ty, pos, af, gd⟩ ⟨rdOf x (.pd cells) ++ rdOf y (.d (.v (.int kd (i : Int)))), [(.s d, .av (.pd (cells.drop (i * k))))]⟩ := by
  refine ⟨ok_val rfl (lt_of_blt hd) fun σ a w g nx hs hr => ?_, (ev_out hx).2.append (ev_out hy).2⟩
  obtain ⟨ad, hv, h1, h2, hc⟩ := (hs.ev (ev_out hx).1 hr.left).1
  have hy' := rep_v (hs.ev (ev_out hy).1 hr.right).1
  obtain ⟨e, ie, hu, hie, hks⟩ := array_of (cx.hT t ti ht) hk
  refine ⟨.pointer (some (ad.add (i * k))), w, ?_, Below.refl _ _, ⟨_, rfl, by rw [add_block]; exact h1, by rw [add_block]; exact h2, hc.drop (i * k)⟩, trivial⟩
  have : (0 : Int) ≤ (i : Int) ∧ (i : Int) < (n : Int) := ⟨by omega, by omega⟩
  simp [execOp, hy', hv, Instr.indexAt, asIntOf, run_underlying hu, Instr.sureAddr, hi, sizeOf, typeInfo, hie, hks]

end Go.AX

/-! L12 -/
/-
  The laws RunSame and RunEach answer true of whatever data.
-/
namespace Go.Proofs.YtembfadhnkabhaaGreatDoor
open Go.AX Go.RF

set_option maxRecDepth 100000
set_option maxHeartbeats 8000000

theorem ok_read7 (s : Str) (d : Deed) (h : parseD s = some d) (hm : smallS s = true) : FnOk Tryz.prog 27 [.d (dstr s)] (.one (.agg d.enc)) := by
  refine fnOk_of tbl_ok mixed_ok Tryz.func27 rfl (by kernel_rfl) rfl rfl fun w0 own0 => ?_
  have c1 := ok_parseS s d h hm
  repeat (first | ((with_reducible apply s1); exact rfl) | (with_reducible first | apply CW.seq | apply CW.block | apply CW.region | apply CW.draw | apply CW.skip | apply CW.exit | apply CW.ret | apply q_then | apply q_then_exit | apply q_then_ret | apply q_block | apply q_block_ret | apply q_block_hit | apply q_ret | apply q_end | apply q_loop_exit | apply q_loop_ret | apply q_loopT_exit | apply q_loopT_ret | apply RW.nil) | ((with_reducible apply s3); exact rfl; exact by_k) | ((with_reducible apply s2); exact rfl; exact by_k) | ((with_reducible apply s4); exact rfl) | ((with_reducible apply s5); (first | (focus ((with_reducible apply a_call); exact c1; exact rfl; (repeat (first | exact SubsE.nil | (apply SubsE.cons; exact rfl; (first | exact .d (.refl _) | exact .d (.nil _) | exact .agg rfl (.refl _) | exact .pd | exact .ptr rfl); (first | exact trivial | exact ⟨rfl, trivial⟩)))); done)) | exact by_oa); exact by_g) | ((with_reducible apply CW.cond_t); exact rfl; exact by_ks) | ((with_reducible apply CW.cond_f); exact rfl; exact by_ks) | ((with_reducible apply q_block_miss); exact rfl) | (refine And.intro (show chk [] [] _ _ = true by kernel_rfl) ?_))
  exact .one (.cell rfl rfl rfl rfl (.aggd rfl (.refl _)))

def l7 : List Deed := [dA, dB]
theorem e7_add : (addE (newE []) l7).2 = 0 := by decide +kernel
theorem e7_ready : (ready (addE (newE []) l7).1).length = 1 := by decide +kernel
theorem e7_wait : (goE (addE (newE []) l7).1 1).2 = 10 := by decide +kernel
theorem e7_ok : (goE (addE (newE []) l7).1 0).2 = 0 := by decide +kernel
theorem x7_ready : (ready (goE (addE (newE []) l7).1 0).1).length = 1 := by decide +kernel
theorem y7_ready : (ready (allE (goE (addE (newE []) l7).1 0).1 [])).length = 0 := by decide +kernel
theorem y7_end : (allE (goE (addE (newE []) l7).1 0).1 []).ends[1]? = some ⟨false, 0, 4, 0, 0⟩ := by decide +kernel
theorem l7_sm : ∀ d ∈ l7, d.Sm := by
  intro d hd
  simp [l7] at hd
  rcases hd with rfl | rfl <;> constructor <;> simp [dA, dB]

theorem ok_alive7 : FnOk Tryz.prog 8 [] (.one (dbool true)) := by
  refine fnOk_of tbl_ok mixed_ok Tryz.func8 rfl (by kernel_rfl) rfl rfl fun w0 own0 => ?_
  have r1 := ok_read7 tA dA pA sA
  have r2 := ok_read7 tB dB pB sB
  have hok : rowsOk [] := by simp [rowsOk]
  have hE0 := newE_inv hok
  have hB := (newE_b (r := []) (by decide +kernel)).addE e7_add
  have hE := hE0.addE l7_sm e7_add
  have c1 := ok_new [] (by simp)
  have c2 := ok_addE (newE []) l7 _ hE0.z l7_sm (by simp [l7]) (by simp [l7])
  rw [e7_add] at c2
  have hN : ([] : List Pair).length + 1 + 5 * l7.length = 11 := rfl
  rw [hN] at hE
  have hz := hE.z.sm (by omega)
  have c3 := ok_pready (addE (newE []) l7).1 hz hE.z.s (fun d hd => (wrong_keys (hB.W.d d hd)).1) hB.S.k hB.W.nb
  have c4 := ok_pgoE (addE (newE []) l7).1 1 hz hB.S hB.W hE.c hE.z.n
  rw [e7_wait] at c4
  have c5 := ok_pgoE (addE (newE []) l7).1 0 hz hB.S hB.W hE.c hE.z.n
  rw [e7_ok] at c5
  have hB2 := hB.goE 0
  have hE2 := hE.goE 0
  have f1 := e7_ready
  have f2 := x7_ready
  have f3 := y7_ready
  have f4 := y7_end
  generalize (goE (addE (newE []) l7).1 1).1 = v at c4
  generalize (goE (addE (newE []) l7).1 0).1 = x at *
  generalize (addE (newE []) l7).1 = e at *
  generalize newE [] = e0 at *
  have hz2 := hE2.z.sm (by omega)
  have c6 := ok_pready x hz2 hE2.z.s (fun d hd => (wrong_keys (hB2.W.d d hd)).1) hB2.S.k hB2.W.nb
  have c7 := ok_runAll x [] _ hE2 (by omega) hB2.S hB2.W (by simp)
  have hB3 := (all_inv (p := []) rfl hB2).1
  have hE3 := hE2.allE (p := []) rfl
  generalize allE x [] = y at *
  have hz3 := hE3.z.sm (by omega)
  have c8 := ok_pready y hz3 hE3.z.s (fun d hd => (wrong_keys (hB3.W.d d hd)).1) hB3.S.k hB3.W.nb
  repeat (first | ((with_reducible apply s5); ((with_reducible apply a_bs ([dA, dB].map Deed.enc)); (iterate 9 exact rfl); (repeat (first | exact PartsE.nil | (apply PartsE.cons; exact rfl; exact rfl)))); exact by_g) | ((with_reducible apply s1); exact rfl) | (with_reducible first | apply CW.seq | apply CW.block | apply CW.region | apply CW.draw | apply CW.skip | apply CW.exit | apply CW.ret | apply q_then | apply q_then_exit | apply q_then_ret | apply q_block | apply q_block_ret | apply q_block_hit | apply q_ret | apply q_end | apply q_loop_exit | apply q_loop_ret | apply q_loopT_exit | apply q_loopT_ret | apply RW.nil) | ((with_reducible apply s3); exact rfl; exact by_k) | ((with_reducible apply s2); exact rfl; exact by_k) | ((with_reducible apply s4); exact rfl) | ((with_reducible apply s5); (first | (focus ((with_reducible apply a_call); exact r1; exact rfl; (repeat (first | exact SubsE.nil | (apply SubsE.cons; exact rfl; (first | exact .d (.refl _) | exact .d (.nil _) | exact .agg rfl (.refl _) | exact .pd | exact .ptr rfl); (first | exact trivial | exact ⟨rfl, trivial⟩)))); done)) | (focus ((with_reducible apply a_call); exact r2; exact rfl; (repeat (first | exact SubsE.nil | (apply SubsE.cons; exact rfl; (first | exact .d (.refl _) | exact .d (.nil _) | exact .agg rfl (.refl _) | exact .pd | exact .ptr rfl); (first | exact trivial | exact ⟨rfl, trivial⟩)))); done)) | (focus ((with_reducible apply a_call); exact c1; exact rfl; (repeat (first | exact SubsE.nil | (apply SubsE.cons; exact rfl; (first | exact .d (.refl _) | exact .d (.nil _) | exact .agg rfl (.refl _) | exact .pd | exact .ptr rfl); (first | exact trivial | exact ⟨rfl, trivial⟩)))); done)) | (focus ((with_reducible apply a_call); exact c2; exact rfl; (repeat (first | exact SubsE.nil | (apply SubsE.cons; exact rfl; (first | exact .d (.refl _) | exact .d (.nil _) | exact .agg rfl (.refl _) | exact .pd | exact .ptr rfl); (first | exact trivial | exact ⟨rfl, trivial⟩)))); done)) | (focus ((with_reducible apply a_call); exact c3; exact rfl; (repeat (first | exact SubsE.nil | (apply SubsE.cons; exact rfl; (first | exact .d (.refl _) | exact .d (.nil _) | exact .agg rfl (.refl _) | exact .pd | exact .ptr rfl); (first | exact trivial | exact ⟨rfl, trivial⟩)))); done)) | (focus ((with_reducible apply a_call); exact c4; exact rfl; (repeat (first | exact SubsE.nil | (apply SubsE.cons; exact rfl; (first | exact .d (.refl _) | exact .d (.nil _) | exact .agg rfl (.refl _) | exact .pd | exact .ptr rfl); (first | exact trivial | exact ⟨rfl, trivial⟩)))); done)) | (focus ((with_reducible apply a_call); exact c5; exact rfl; (repeat (first | exact SubsE.nil | (apply SubsE.cons; exact rfl; (first | exact .d (.refl _) | exact .d (.nil _) | exact .agg rfl (.refl _) | exact .pd | exact .ptr rfl); (first | exact trivial | exact ⟨rfl, trivial⟩)))); done)) | (focus ((with_reducible apply a_call); exact c6; exact rfl; (repeat (first | exact SubsE.nil | (apply SubsE.cons; exact rfl; (first | exact .d (.refl _) | exact .d (.nil _) | exact .agg rfl (.refl _) | exact .pd | exact .ptr rfl); (first | exact trivial | exact ⟨rfl, trivial⟩)))); done)) | (focus ((with_reducible apply a_call); exact c7; exact rfl; (repeat (first | exact SubsE.nil | (apply SubsE.cons; exact rfl; (first | exact .d (.refl _) | exact .d (.nil _) | exact .agg rfl (.refl _) | exact .pd | exact .ptr rfl); (first | exact trivial | exact ⟨rfl, trivial⟩)))); done)) | (focus ((with_reducible apply a_call); exact c8; exact rfl; (repeat (first | exact SubsE.nil | (apply SubsE.cons; exact rfl; (first | exact .d (.refl _) | exact .d (.nil _) | exact .agg rfl (.refl _) | exact .pd | exact .ptr rfl); (first | exact trivial | exact ⟨rfl, trivial⟩)))); done)) | ((with_reducible apply a_ia); (iterate 5 exact rfl); exact idx_map (k := 1) f4) | ((with_reducible apply (a_ibpd (i := 1))); (iterate 5 exact rfl); decide) | exact by_oa); exact by_g) | ((with_reducible apply CW.cond_t); exact rfl; exact by_ks) | ((with_reducible apply CW.cond_f); exact rfl; exact by_ks) | ((with_reducible apply q_block_miss); exact rfl) | (refine And.intro (show chk [] [] _ _ = true by kernel_rfl) ?_))
  exact .one (.tmp rfl (.one (.d (dle_bool (by simp [f1, f2, f3])))))

theorem wrongs_of : ∀ {l : List Deed}, (∀ d ∈ l, wrongDeed d = 0) → wrongs l = 0
  | [], _ => rfl
  | d :: l, h => by
    simp only [wrongs]
    rw [if_pos (h d (List.mem_cons_self ..)), wrongs_of fun x hx => h x (List.mem_cons_of_mem _ hx)]
theorem addE_of {e : Engine} {l : List Deed} (h : ∀ d ∈ l, wrongDeed d = 0) : addE e l = (addAll e l, 0) := by
  unfold addE
  rw [if_pos (wrongs_of h)]
theorem encDeeds_take (l : List Deed) (n : Nat) : encDeeds (l.take n) = .sl 3 ((l.map Deed.enc).take n) := by simp [encDeeds]
theorem ok_RunEach (r : List Pair) (l : List Deed) (p : List Int) (at_ : Int) (hrl : r.length ≤ 1048576) (hrk : ∀ q ∈ r, q.key.length ≤ 1073741824) (hll : l.length ≤ 1048576) (hls : ∀ d ∈ l, d.Sm) (hp : p.length ≤ 1048576) :
    FnOk Tryz.prog 4 [.d (encRows r), .d (encDeeds l), .d (encInts p), .d (dint at_)] (.one (dbool true)) := by
  refine fnOk_of tbl_ok mixed_ok Tryz.func4 rfl (by kernel_rfl) rfl rfl fun w0 own0 => ?_
  have c0 := ok_alive7
  have c1 := ok_wrongRows r (by omega) hrk
  have c2 := ok_right l (by omega) hls
  by_cases hw : wrongRows r = 0
  · cases hrt : right l with
    | false =>
      rw [hrt] at c2
      repeat (first | ((with_reducible apply s1); exact rfl) | (with_reducible first | apply CW.seq | apply CW.block | apply CW.region | apply CW.draw | apply CW.skip | apply CW.exit | apply CW.ret | apply q_then | apply q_then_exit | apply q_then_ret | apply q_block | apply q_block_ret | apply q_block_hit | apply q_ret | apply q_end | apply q_loop_exit | apply q_loop_ret | apply q_loopT_exit | apply q_loopT_ret | apply RW.nil) | ((with_reducible apply s3); exact rfl; exact by_k) | ((with_reducible apply s2); exact rfl; exact by_k) | ((with_reducible apply s4); exact rfl) | ((with_reducible apply s5); (first | (focus ((with_reducible apply a_call); exact c0; exact rfl; (repeat (first | exact SubsE.nil | (apply SubsE.cons; exact rfl; (first | exact .d (.refl _) | exact .d (.nil _) | exact .agg rfl (.refl _) | exact .pd | exact .ptr rfl); (first | exact trivial | exact ⟨rfl, trivial⟩)))); done)) | (focus ((with_reducible apply a_call); exact c1; exact rfl; (repeat (first | exact SubsE.nil | (apply SubsE.cons; exact rfl; (first | exact .d (.refl _) | exact .d (.nil _) | exact .agg rfl (.refl _) | exact .pd | exact .ptr rfl); (first | exact trivial | exact ⟨rfl, trivial⟩)))); done)) | (focus ((with_reducible apply a_call); exact c2; exact rfl; (repeat (first | exact SubsE.nil | (apply SubsE.cons; exact rfl; (first | exact .d (.refl _) | exact .d (.nil _) | exact .agg rfl (.refl _) | exact .pd | exact .ptr rfl); (first | exact trivial | exact ⟨rfl, trivial⟩)))); done)) | exact by_oa); exact by_g) | ((with_reducible apply CW.cond_t); exact rfl; exact by_ks) | ((with_reducible apply CW.cond_f); exact rfl; exact by_ks) | ((with_reducible apply q_block_miss); exact rfl) | (refine And.intro (show chk [] [] _ _ = true by kernel_rfl) ?_))
      exact .one (.tmp rfl (.one (.d (.refl _))))
    | true =>
      rw [hrt] at c2
      by_cases hneg : at_ < 0
      ·
        repeat (first | ((with_reducible apply s1); exact rfl) | (with_reducible first | apply CW.seq | apply CW.block | apply CW.region | apply CW.draw | apply CW.skip | apply CW.exit | apply CW.ret | apply q_then | apply q_then_exit | apply q_then_ret | apply q_block | apply q_block_ret | apply q_block_hit | apply q_ret | apply q_end | apply q_loop_exit | apply q_loop_ret | apply q_loopT_exit | apply q_loopT_ret | apply RW.nil) | ((with_reducible apply s3); exact rfl; exact by_k) | ((with_reducible apply s2); exact rfl; exact by_k) | ((with_reducible apply s4); exact rfl) | ((with_reducible apply s5); (first | (focus ((with_reducible apply a_call); exact c0; exact rfl; (repeat (first | exact SubsE.nil | (apply SubsE.cons; exact rfl; (first | exact .d (.refl _) | exact .d (.nil _) | exact .agg rfl (.refl _) | exact .pd | exact .ptr rfl); (first | exact trivial | exact ⟨rfl, trivial⟩)))); done)) | (focus ((with_reducible apply a_call); exact c1; exact rfl; (repeat (first | exact SubsE.nil | (apply SubsE.cons; exact rfl; (first | exact .d (.refl _) | exact .d (.nil _) | exact .agg rfl (.refl _) | exact .pd | exact .ptr rfl); (first | exact trivial | exact ⟨rfl, trivial⟩)))); done)) | (focus ((with_reducible apply a_call); exact c2; exact rfl; (repeat (first | exact SubsE.nil | (apply SubsE.cons; exact rfl; (first | exact .d (.refl _) | exact .d (.nil _) | exact .agg rfl (.refl _) | exact .pd | exact .ptr rfl); (first | exact trivial | exact ⟨rfl, trivial⟩)))); done)) | exact by_oa); exact by_g) | ((with_reducible apply CW.cond_t); exact rfl; exact by_ks) | ((with_reducible apply CW.cond_f); exact rfl; exact by_ks) | ((with_reducible apply q_block_miss); exact rfl) | (refine And.intro (show chk [] [] _ _ = true by kernel_rfl) ?_))
        exact .one (.tmp rfl (.one (.d (.refl _))))
      obtain ⟨n, rfl⟩ := Int.eq_ofNat_of_zero_le (show 0 ≤ at_ by omega)
      by_cases hbig : l.length < n
      ·
        repeat (first | ((with_reducible apply s1); exact rfl) | (with_reducible first | apply CW.seq | apply CW.block | apply CW.region | apply CW.draw | apply CW.skip | apply CW.exit | apply CW.ret | apply q_then | apply q_then_exit | apply q_then_ret | apply q_block | apply q_block_ret | apply q_block_hit | apply q_ret | apply q_end | apply q_loop_exit | apply q_loop_ret | apply q_loopT_exit | apply q_loopT_ret | apply RW.nil) | ((with_reducible apply s3); exact rfl; exact by_k) | ((with_reducible apply s2); exact rfl; exact by_k) | ((with_reducible apply s4); exact rfl) | ((with_reducible apply s5); (first | (focus ((with_reducible apply a_call); exact c0; exact rfl; (repeat (first | exact SubsE.nil | (apply SubsE.cons; exact rfl; (first | exact .d (.refl _) | exact .d (.nil _) | exact .agg rfl (.refl _) | exact .pd | exact .ptr rfl); (first | exact trivial | exact ⟨rfl, trivial⟩)))); done)) | (focus ((with_reducible apply a_call); exact c1; exact rfl; (repeat (first | exact SubsE.nil | (apply SubsE.cons; exact rfl; (first | exact .d (.refl _) | exact .d (.nil _) | exact .agg rfl (.refl _) | exact .pd | exact .ptr rfl); (first | exact trivial | exact ⟨rfl, trivial⟩)))); done)) | (focus ((with_reducible apply a_call); exact c2; exact rfl; (repeat (first | exact SubsE.nil | (apply SubsE.cons; exact rfl; (first | exact .d (.refl _) | exact .d (.nil _) | exact .agg rfl (.refl _) | exact .pd | exact .ptr rfl); (first | exact trivial | exact ⟨rfl, trivial⟩)))); done)) | exact by_oa); exact by_g) | ((with_reducible apply CW.cond_t); exact rfl; exact by_ks) | ((with_reducible apply CW.cond_f); exact rfl; exact by_ks) | ((with_reducible apply q_block_miss); exact rfl) | (refine And.intro (show chk [] [] _ _ = true by kernel_rfl) ?_))
        exact .one (.tmp rfl (.one (.d (.refl _))))
      obtain ⟨hs, _, hro⟩ := wrongRows_srt hw
      have hwd := right_mem hrt
      have hok : ∀ d ∈ l.take n, Deed.Ok d := fun d hd => wrongDeed_ok (hwd d (List.mem_of_mem_take hd))
      have hE0 := newE_inv hro
      have hB := (newE_b hw).addAll hwd
      have hE := hE0.addE hls (by rw [addE_of hwd])
      have c3 := ok_new r (by omega)
      have c4 := ok_addE (newE r) l _ hE0.z hls (by omega) (by omega)
      rw [addE_of hwd] at c4 hE
      dsimp only at c4 hE
      have c5 := ok_runAll (addAll (newE r) l) p _ hE (by omega) hB.S hB.W (by omega)
      obtain ⟨y1, y2, y3, y4⟩ := run_same (p := p) hw hwd
      have hE2 := hE.allE (p := p) rfl
      have hz2 := hE2.z.sm (by omega)
      have hxc := hz2.c
      have htl : (l.take n).length ≤ 1048576 := by rw [List.length_take]; omega
      have c6 := ok_all r (l.take n) (by omega) (by omega) hro hok
      rw [encDeeds_take] at c6
      generalize allE (addAll (newE r) l) p = x at *
      have c8 := ok_rowsAt x.chains n (by omega) (fun c hc => by have := hz2.v c hc; omega)
      rw [y4 n (by omega), show sq r l n = (allD r (l.take n)).1 from rfl] at c8
      have hul := allD_len1 (r := r) hok
      generalize (allD r (l.take n)).1 = u at *
      generalize (allD r (l.take n)).2 = ee at *
      have c9 := ok_SameRows u u (by omega)
      rw [allB_refl (by simp)] at c9
      repeat (first | ((with_reducible apply s1); exact rfl) | (with_reducible first | apply CW.seq | apply CW.block | apply CW.region | apply CW.draw | apply CW.skip | apply CW.exit | apply CW.ret | apply q_then | apply q_then_exit | apply q_then_ret | apply q_block | apply q_block_ret | apply q_block_hit | apply q_ret | apply q_end | apply q_loop_exit | apply q_loop_ret | apply q_loopT_exit | apply q_loopT_ret | apply RW.nil) | ((with_reducible apply s3); exact rfl; exact by_k) | ((with_reducible apply s2); exact rfl; exact by_k) | ((with_reducible apply s4); exact rfl) | ((with_reducible apply s5); (first | (focus ((with_reducible apply a_call); exact c0; exact rfl; (repeat (first | exact SubsE.nil | (apply SubsE.cons; exact rfl; (first | exact .d (.refl _) | exact .d (.nil _) | exact .agg rfl (.refl _) | exact .pd | exact .ptr rfl); (first | exact trivial | exact ⟨rfl, trivial⟩)))); done)) | (focus ((with_reducible apply a_call); exact c1; exact rfl; (repeat (first | exact SubsE.nil | (apply SubsE.cons; exact rfl; (first | exact .d (.refl _) | exact .d (.nil _) | exact .agg rfl (.refl _) | exact .pd | exact .ptr rfl); (first | exact trivial | exact ⟨rfl, trivial⟩)))); done)) | (focus ((with_reducible apply a_call); exact c2; exact rfl; (repeat (first | exact SubsE.nil | (apply SubsE.cons; exact rfl; (first | exact .d (.refl _) | exact .d (.nil _) | exact .agg rfl (.refl _) | exact .pd | exact .ptr rfl); (first | exact trivial | exact ⟨rfl, trivial⟩)))); done)) | (focus ((with_reducible apply a_call); exact c3; exact rfl; (repeat (first | exact SubsE.nil | (apply SubsE.cons; exact rfl; (first | exact .d (.refl _) | exact .d (.nil _) | exact .agg rfl (.refl _) | exact .pd | exact .ptr rfl); (first | exact trivial | exact ⟨rfl, trivial⟩)))); done)) | (focus ((with_reducible apply a_call); exact c4; exact rfl; (repeat (first | exact SubsE.nil | (apply SubsE.cons; exact rfl; (first | exact .d (.refl _) | exact .d (.nil _) | exact .agg rfl (.refl _) | exact .pd | exact .ptr rfl); (first | exact trivial | exact ⟨rfl, trivial⟩)))); done)) | (focus ((with_reducible apply a_call); exact c5; exact rfl; (repeat (first | exact SubsE.nil | (apply SubsE.cons; exact rfl; (first | exact .d (.refl _) | exact .d (.nil _) | exact .agg rfl (.refl _) | exact .pd | exact .ptr rfl); (first | exact trivial | exact ⟨rfl, trivial⟩)))); done)) | (focus ((with_reducible apply a_call); exact c6; exact rfl; (repeat (first | exact SubsE.nil | (apply SubsE.cons; exact rfl; (first | exact .d (.refl _) | exact .d (.nil _) | exact .agg rfl (.refl _) | exact .pd | exact .ptr rfl); (first | exact trivial | exact ⟨rfl, trivial⟩)))); done)) | (focus ((with_reducible apply a_call); exact c8; exact rfl; (repeat (first | exact SubsE.nil | (apply SubsE.cons; exact rfl; (first | exact .d (.refl _) | exact .d (.nil _) | exact .agg rfl (.refl _) | exact .pd | exact .ptr rfl); (first | exact trivial | exact ⟨rfl, trivial⟩)))); done)) | (focus ((with_reducible apply a_call); exact c9; exact rfl; (repeat (first | exact SubsE.nil | (apply SubsE.cons; exact rfl; (first | exact .d (.refl _) | exact .d (.nil _) | exact .agg rfl (.refl _) | exact .pd | exact .ptr rfl); (first | exact trivial | exact ⟨rfl, trivial⟩)))); done)) | exact by_oa); exact by_g) | ((with_reducible apply CW.cond_t); exact rfl; exact by_ks) | ((with_reducible apply CW.cond_f); exact rfl; exact by_ks) | ((with_reducible apply q_block_miss); exact rfl) | (refine And.intro (show chk [] [] _ _ = true by kernel_rfl) ?_))
      exact .one (.tmp rfl (.one (.d (.refl _))))
  ·
    repeat (first | ((with_reducible apply s1); exact rfl) | (with_reducible first | apply CW.seq | apply CW.block | apply CW.region | apply CW.draw | apply CW.skip | apply CW.exit | apply CW.ret | apply q_then | apply q_then_exit | apply q_then_ret | apply q_block | apply q_block_ret | apply q_block_hit | apply q_ret | apply q_end | apply q_loop_exit | apply q_loop_ret | apply q_loopT_exit | apply q_loopT_ret | apply RW.nil) | ((with_reducible apply s3); exact rfl; exact by_k) | ((with_reducible apply s2); exact rfl; exact by_k) | ((with_reducible apply s4); exact rfl) | ((with_reducible apply s5); (first | (focus ((with_reducible apply a_call); exact c0; exact rfl; (repeat (first | exact SubsE.nil | (apply SubsE.cons; exact rfl; (first | exact .d (.refl _) | exact .d (.nil _) | exact .agg rfl (.refl _) | exact .pd | exact .ptr rfl); (first | exact trivial | exact ⟨rfl, trivial⟩)))); done)) | (focus ((with_reducible apply a_call); exact c1; exact rfl; (repeat (first | exact SubsE.nil | (apply SubsE.cons; exact rfl; (first | exact .d (.refl _) | exact .d (.nil _) | exact .agg rfl (.refl _) | exact .pd | exact .ptr rfl); (first | exact trivial | exact ⟨rfl, trivial⟩)))); done)) | exact by_oa); exact by_g) | ((with_reducible apply CW.cond_t); exact rfl; exact by_ks) | ((with_reducible apply CW.cond_f); exact rfl; exact by_ks) | ((with_reducible apply q_block_miss); exact rfl) | (refine And.intro (show chk [] [] _ _ = true by kernel_rfl) ?_))
    exact .one (.tmp rfl (.one (.d (.refl _))))

end Go.Proofs.YtembfadhnkabhaaGreatDoor
