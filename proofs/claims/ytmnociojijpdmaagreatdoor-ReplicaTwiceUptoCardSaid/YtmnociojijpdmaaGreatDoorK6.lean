/-
  Part 6 of what the claim leans on: L10 L17 AxLaid.
-/
import Derived.Test.YtmnociojijpdmaaGreatDoorK5
import Derived.Shelf.Vars
import Derived.FnData

/-! L10 -/
/-
  The laws PlainFails and PlainApart answer true of whatever data.
-/
namespace Go.Proofs.YtmnociojijpdmaaGreatDoor
open Go.AX Go.RF

set_option maxRecDepth 100000
set_option maxHeartbeats 8000000

/-- 'reads a; writes a; load r0 a; const r1 1; add r0 r1; store r0 a', and its deed. -/
def egS : Str := [114, 101, 97, 100, 115, 32, 97, 59, 32, 119, 114, 105, 116, 101, 115, 32, 97, 59, 32, 108, 111, 97, 100, 32, 114, 48, 32, 97, 59, 32, 99, 111, 110, 115, 116, 32, 114, 49, 32, 49, 59, 32, 97, 100, 100, 32, 114, 48, 32, 114, 49, 59, 32, 115, 116, 111, 114, 101, 32, 114, 48, 32, 97]
def eg : Deed := ⟨[[97]], [[97]], [⟨1, 0, 0, 0, [97]⟩, ⟨2, 1, 0, 1, []⟩, ⟨3, 0, 1, 0, []⟩, ⟨6, 0, 0, 0, [97]⟩]⟩
theorem eg_parse : parseD egS = some eg := by decide +kernel
theorem eg_small : smallS egS = true := by decide +kernel
end Go.Proofs.YtmnociojijpdmaaGreatDoor

/-! L17 -/
/-
  The laws of replicas answer true of whatever data.
-/
namespace Go.Proofs.YtmnociojijpdmaaGreatDoor
open Go.AX Go.RF

set_option maxRecDepth 100000
set_option maxHeartbeats 8000000

theorem ok_read10 (s : Str) (d : Deed) (h : parseD s = some d) (hm : smallS s = true) : FnOk Tryz.prog 71 [.d (dstr s)] (.one (.agg d.enc)) := by
  refine fnOk_of tbl_ok mixed_ok Tryz.func71 rfl (by kernel_rfl) rfl rfl fun w0 own0 => ?_
  have c1 := ok_parseS s d h hm
  try refine wk ?_
  exact .one (.cell rfl rfl rfl rfl (.aggd rfl (.refl _)))

def eg1 : Entry := ⟨1, [eg]⟩
def eg0 : Entry := ⟨0, [eg]⟩
def egA : Replica := (comeE noR eg1).1
def egB : Replica := (comeE egA eg0).1
theorem a10_w : wrongEntry eg1 = 0 ∧ wrongEntry eg0 = 0 := by decide +kernel
theorem a10_a : (comeE noR eg1).2 = 12 ∧ egA.early.length = 1 := by decide +kernel
theorem a10_b : (comeE egA eg0).2 = 0 ∧ egB.next = 2 ∧ egB.engine.deeds.length = 2 := by decide +kernel
theorem a10_c : (goR egB 0).2 = 0 ∧ (seenE (goR egB 0).1.engine (markN (goR egB 0).1.engine.state)).1.length = 1 ∧ (clearR (goR egB 0).1).engine.deeds.length = 1 := by decide +kernel
theorem a10_d : (goR (goR egB 0).1 5).2 = 6 ∧ (goR (goR egB 0).1 5).1.engine.deeds.length = 2 := by decide +kernel

theorem ok_alive10 : FnOk Tryz.prog 36 [] (.one (dbool true)) := by
  refine fnOk_of tbl_ok mixed_ok Tryz.func36 rfl (by kernel_rfl) rfl rfl fun w0 own0 => ?_
  have c1 := ok_read10 egS eg eg_parse eg_small
  have c2 := ok_repNew
  have c3 := ok_come noR eg1 noR_inv a10_w.1
  have hA := comeE_inv noR_inv a10_w.1
  obtain ⟨f1, f2⟩ := a10_a
  obtain ⟨f3, f4, f5⟩ := a10_b
  obtain ⟨f6, f7, f8⟩ := a10_c
  obtain ⟨f9, f10⟩ := a10_d
  rw [f1] at c3
  have c4 := ok_come egA eg0 hA a10_w.2
  have hB := comeE_inv hA a10_w.2
  rw [f3] at c4
  have c5 := ok_repGo egB 0 hB
  rw [f6] at c5
  have hC := hB.go 0
  have c6 := ok_repGo (goR egB 0).1 5 hC
  rw [f9] at c6
  have c7 := ok_repSeen (goR egB 0).1 hC
  have c8 := ok_repClear (goR egB 0).1 hC
  have c9 := ok_repOwn (goR (goR egB 0).1 5).1 (hC.go 5).sm
  change FnOk _ _ _ (.tup [.agg egA.enc, _]) at c3
  change FnOk _ _ _ (.tup [.agg egB.enc, _]) at c4
  clear hA hB hC f1 f3 f6 f9
  generalize seenE (goR egB 0).1.engine (markN (goR egB 0).1.engine.state) = p at *
  generalize (goR (goR egB 0).1 5).1 = x at *
  generalize clearR (goR egB 0).1 = y at *
  generalize (goR egB 0).1 = c at *
  generalize egB = b at *
  generalize egA = a at *
  obtain ⟨p1, p2⟩ := p
  dsimp only at f7 c7
  repeat (first|((with_reducible apply s5); ((with_reducible apply a_bs [eg.enc]); (iterate 9 exact rfl); (repeat (first | exact PartsE.nil | (apply PartsE.cons; exact rfl; exact rfl)))); exact by_g)|refine wa1 ?_|((with_reducible apply s5); (first|((with_reducible apply a_buildA); (iterate 4 exact rfl); (repeat (first | exact PartsV.nil | (apply PartsV.cons; exact rfl; exact rfl; (first | exact ⟨rfl, trivial⟩ | (apply nw_own; exact rfl; (focus first | exact rfl | (simp; done) | (simp; omega))))))); exact rfl)|exact a_call c3 rfl by_sub|exact a_call c4 rfl by_sub|exact a_call c5 rfl by_sub|exact a_call c6 rfl by_sub|(focus (with_reducible apply (a_fieldS (t2 := 30))); exact rfl; exact rfl; exact rfl; exact ⟨_, _, Tryz.underlying32, rfl, rfl, rfl⟩; exact rfl; exact rfl)|exact by_oa|exact by_ca); exact by_g)|refine wb ?_)
  exact .one (.tmp rfl (.one (.d (dle_bool (by simp [f2, f4, f5, f7, f8, f10])))))

theorem ok_ReplicaTwice (l : List Entry) (ps : List Int) (e : Entry) (hl : l.length ≤ 10000000) (hd : ∀ e ∈ l, e.deeds.length ≤ 10000000 ∧ ∀ d ∈ e.deeds, d.Sm) (hp : ps.length ≤ 10000000) (he : e.deeds.length ≤ 10000000 ∧ ∀ d ∈ e.deeds, d.Sm) :
    FnOk Tryz.prog 9 [.d (encEntries l), .d (encInts ps), .d (.agg e.enc)] (.one (dbool true)) := by
  refine fnOk_of tbl_ok mixed_ok Tryz.func9 rfl (by kernel_rfl) rfl rfl fun w0 own0 => ?_
  have c0 := ok_alive10
  have c1 := ok_rwrongEntry e he.2 (by omega)
  by_cases hw : wrongEntry e = 0
  · rw [hw] at c1
    have c2 := ok_build10 l ps hl hd hp
    have hR := buildR_inv (l := l) (ps := ps) noR_inv
    generalize buildR noR l ps = r at *
    have c3 := ok_come r e hR hw
    have hX := comeE_inv hR hw
    have c4 := ok_come (comeE r e).1 e hX hw
    have c5 := ok_sameR r r hR.sm
    rw [sameR_refl] at c5
    have c6 := ok_sameR (comeE r e).1 (comeE r e).1 hX.sm
    rw [sameR_refl] at c6
    rcases come_twice hR hw with ⟨h1, h2⟩ | ⟨h1, h2⟩ | ⟨h1, h2⟩
    · rw [h2] at c3 c4 c6
      rw [h1] at c3 c4
      rw [h2] at c4
      repeat (first|refine wa ?_|((with_reducible apply s5); (first|exact a_call c3 rfl by_sub|exact a_call c5 rfl by_sub|exact by_oa|exact by_ca); exact by_g)|refine wb ?_)
      exact .one (.tmp rfl (.one (.d (.refl _))))
    · rw [h2] at c3 c4 c6
      rw [h1] at c3 c4
      rw [h2] at c4
      repeat (first|refine wa ?_|((with_reducible apply s5); (first|exact a_call c3 rfl by_sub|exact a_call c5 rfl by_sub|exact by_oa|exact by_ca); exact by_g)|refine wb ?_)
      exact .one (.tmp rfl (.one (.d (.refl _))))
    · rw [h2] at c4
      generalize (comeE r e).1 = x at *
      rcases h1 with h1 | h1
      · rw [h1] at c3
        repeat (first|refine wa ?_|((with_reducible apply s5); (first|exact a_call c3 rfl by_sub|exact a_call c4 rfl by_sub|exact a_call c6 rfl by_sub|exact by_oa|exact by_ca); exact by_g)|refine wb ?_)
        exact .one (.tmp rfl (.one (.d (.refl _))))
      · rw [h1] at c3
        repeat (first|refine wa ?_|((with_reducible apply s5); (first|exact a_call c3 rfl by_sub|exact a_call c4 rfl by_sub|exact a_call c6 rfl by_sub|exact by_oa|exact by_ca); exact by_g)|refine wb ?_)
        exact .one (.tmp rfl (.one (.d (.refl _))))
  · generalize wrongEntry e = we at *
    try refine wk ?_
    exact .one (.tmp rfl (.one (.d (.refl _))))

end Go.Proofs.YtmnociojijpdmaaGreatDoor

/-! AxLaid -/
/-
  What package-level variables hold, out of a row's list of them.
-/
namespace Go.AX
open Go.RowKit

theorem laid_drop {P : Program} {w : World} : ∀ {laid : List (String × DataW Unit)} (i : Nat), laidMet P laid w → laidMet P (laid.drop i) w
  | _, 0, h => h
  | [], _ + 1, h => h
  | (n, d) :: r, i + 1, h => by
    obtain ⟨ps, hv, hnd, hrows⟩ := h
    obtain ⟨g, t, cs, fuel, p, q, _, _, _, _, hq, rfl⟩ := hv
    exact laid_drop i ⟨q, hq, List.Nodup.sublist (List.sublist_append_right _ _) hnd, fun b off hm => hrows b off (List.mem_append_right _ hm)⟩
theorem trod_iface {P : Program} {w : World} {ti : TypeId} {ms : Array (String × TypeId)} {sp : Nat → Bool} {fuel : Nat} {cs : List Value} {nm : String} {d : DataW Unit} {p : List MemPlace} (hi : P.underlying ti = some (.interface ms))
    (h : DataW.trod (fun _ => ()) P w 0 sp false fuel ti cs = some (.iface nm d, p)) : ∃ u v, cs = [.iface u v] := by
  cases fuel with
  | zero => simp [DataW.trod] at h
  | succ n =>
    rcases cs with _ | ⟨c, _ | ⟨c2, r⟩⟩
    · simp [DataW.trod, hi] at h
    · cases c <;> simp [DataW.trod, hi] at h ⊢
    · cases c <;> simp [DataW.trod, hi] at h
/-- A variable of an interface type that the list has, not nil. -/
theorem gl_iface {P : Program} {w : World} {laid rest : List (String × DataW Unit)} {n nm : String} {d : DataW Unit} {g : Nat} {ti : TypeId} {ms : Array (String × TypeId)} (i : Nat) (hi : laid.drop i = (n, .iface nm d) :: rest)
    (hg : P.globalNamed n = some g) (ht : (P.globals[g]?).map (·.type) = some ti) (hu : P.underlying ti = some (.interface ms)) (h : laidMet P laid w) : GlAt P w n fun cs => ∃ tp p, cs = #[.iface tp p] := by
  intro g' hg'
  have h1 := laid_drop i h
  rw [hi] at h1
  obtain ⟨ps, ⟨g0, t0, cs0, f0, p0, q0, hg0, ht0, hv0, hd0, _, _⟩, _⟩ := h1
  obtain rfl := Option.some.inj (hg.symm.trans hg0)
  obtain rfl := Option.some.inj (ht.symm.trans ht0)
  obtain ⟨u, v, hc⟩ := trod_iface hu hd0
  refine ⟨cs0, hv0, u, v, ?_⟩
  rw [← Array.toArray_toList (xs := cs0), hc]
/-- A table that the list has. -/
theorem gl_tab {P : Program} {w : World} {laid rest : List (String × DataW Unit)} {n : String} {k : IntKind} {zs : List Int} {g : Nat} {t e : TypeId} {m : Nat} (i : Nat) (hi : laid.drop i = (n, Lib.tabData k zs) :: rest)
    (hg : P.globalNamed n = some g) (hty : (P.globals[g]?).map (·.type) = some t) (ht : P.underlying t = some (.array m e)) (he : P.underlying e = some (.int k)) (hce : P.cellsOf e = 1) (hct : P.cellsOf t = m) (h : laidMet P laid w) :
    GlAt P w n fun cs => cs = (zs.map fun z => Value.int k z).toArray := by
  intro g' hg'
  have h1 := laid_drop i h
  rw [hi] at h1
  exact ⟨_, Lib.tabIs_of_head hg hty ht he hce hct h1, rfl⟩
/-- A variable of an integer's type. -/
theorem gl_int {P : Program} {w : World} {n : String} {g : Nat} {m : Int} (hg : P.globalNamed n = some g) (h : w.cell? ⟨g, 0, none⟩ = some (.int .i64 m)) : GlAt P w n fun cs => ∃ m, cs[0]? = some (.int .i64 m) := by
  intro g' hg'
  have hx : ∃ cs, w.var? P n = some cs ∧ cs[0]? = some (.int .i64 m) := by
    unfold World.var?
    rw [hg]
    simp only [Option.bind_some]
    unfold World.cell? at h
    simp only at h
    split at h
    · next cs _ _ hh => rw [hh]; exact ⟨cs, rfl, h⟩
    · cases h
  obtain ⟨cs, h1, h2⟩ := hx
  exact ⟨cs, h1, m, h2⟩

end Go.AX
