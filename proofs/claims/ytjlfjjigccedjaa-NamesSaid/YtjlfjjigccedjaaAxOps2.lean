/-
  Operations on boxes, slices, structs.
-/
import Derived.Test.YtjlfjjigccedjaaAxOps
namespace Go.AX
open Go.RowKit

variable {cx : Cx} {g : Nat → Value} {σ : St} {a : Act} {w : World} {nx : Nat}
variable {ty : TypeId} {pos : String} {af : Array Edge} {gd : Option (Nat × Bool)} {d : Nat}

/-- What is loaded of a box's cells from a place on. -/
def ldA (ti : TI) (cells : List AV) : Option AV := match ti.kind with
  | .st _ | .arr _ _ _ => match Nat.beq cells.length ti.n with
    | true => some (.agg cells)
    | false => match Nat.blt cells.length ti.n with
      | true => none
      | false => some (.agg (cells.take ti.n))
  | _ => cells.head?

theorem load_ptr (hs : SimG cx σ a w g nx) {t : TypeId} {x : Value} {id off : Nat} {cells : List AV} {ti : TI} {y : AV} (hx : Rep cx g σ w x (.ptr id off)) (ho : get σ (.o id) = .ob (.box cells)) (ht : tget cx.T t = some ti)
    (hl : ldA ti (cells.drop off) = some y) : ∃ v, (Instr.loadAt t x).run cx.P w = .ok v w ∧ Rep cx g σ w v y ∧ y.bd nx := by
  obtain ⟨b0, hg0, hv⟩ := hx cells ho
  subst hv
  obtain ⟨_, ⟨b, cs, et, hg, _, hh, hsz, h1, hrep⟩, hbd⟩ := hs.objs id _ ho
  have hbb : b0 = b := by rw [hg0] at hg; simpa using hg
  subst hbb
  have hF := cx.hT t ti ht
  have hcell : ∀ j, w.cell? ((⟨b0, off, none⟩ : Addr).add j) = cs[off + j]? := fun j => by rw [add_lit]; simp [World.cell?, hh]
  have hA := isAgg_of hF w
  have hS := sizeOf_of hF w
  have one : ∀ {y : AV}, (cells.drop off).head? = some y → (isAgg t).run cx.P w = .ok false w → ∃ v, (Instr.loadAt t (.pointer (some ⟨b0, off, none⟩))).run cx.P w = .ok v w ∧ Rep1 cx g σ w v y ∧ y.bd1 nx := by
    intro y hy hA
    have h0 : cells[off]? = some y := by
      rw [List.head?_eq_getElem?, List.getElem?_drop] at hy
      simpa using hy
    have hlt : off < cs.size := by
      have := (List.getElem?_eq_some_iff.1 h0).1; omega
    have hc : cs[off]? = some cs[off] := Array.getElem?_eq_getElem hlt
    have hcl := hcell 0
    rw [add_zero, Nat.add_zero, hc] at hcl
    exact ⟨cs[off], by simp [Instr.loadAt, Instr.sureAddr, loadVar, hA, hcl], hrep off _ y h0 hc, hbd y (List.mem_of_getElem? h0)⟩
  have agg : ti.n ≤ (cells.drop off).length → (isAgg t).run cx.P w = .ok true w → ∃ v, (Instr.loadAt t (.pointer (some ⟨b0, off, none⟩))).run cx.P w = .ok v w ∧
      Rep2 cx g σ w v (.agg ((cells.drop off).take ti.n)) ∧ ∀ z ∈ (cells.drop off).take ti.n, z.bd1 nx := by
    intro hle hA
    rw [List.length_drop] at hle
    have hf : ∀ j, j < ti.n → w.cell? ((⟨b0, off, none⟩ : Addr).add j) = some (cs.getD (off + j) undef) := fun j hj => by
      rw [hcell, Array.getElem?_eq_getElem (by omega)]
      simp [Array.getD, show off + j < cs.size by omega]
    have hrun := run_loadCells (P := cx.P) w ⟨b0, off, none⟩ ti.n (fun j => cs.getD (off + j) undef) hf
    have hat : ∀ (j : Nat) (c : Value), (((List.range ti.n).map fun j => cs.getD (off + j) undef).toArray)[j]? = some c → j < ti.n ∧ cs[off + j]? = some c := by
      intro j c hj
      have hjn : j < ti.n := by
        have := (Array.getElem?_eq_some_iff.1 hj).1
        simpa using this
      refine ⟨hjn, ?_⟩
      have hlt : off + j < cs.size := by omega
      simp [hjn, Array.getD, hlt] at hj
      rw [Array.getElem?_eq_getElem hlt, hj]
    refine ⟨.agg _, by simp [Instr.loadAt, Instr.sureAddr, loadVar, hA, hS, hrun], ⟨_, rfl, by simp; omega, fun j c hj => h1 _ c (hat j c hj).2, fun j c av hj hc => ?_⟩, fun z hz => ?_⟩
    · rw [List.getElem?_take] at hj
      split at hj
      · rw [List.getElem?_drop] at hj
        exact hrep _ c av hj (hat j c hc).2
      · cases hj
    · exact hbd z (List.mem_of_mem_drop (List.mem_of_mem_take hz))
  have aggs : (isAgg t).run cx.P w = .ok true w → (match Nat.beq (cells.drop off).length ti.n with
    | true => some (AV.agg (cells.drop off))
    | false => match Nat.blt (cells.drop off).length ti.n with
      | true => none
      | false => some (.agg ((cells.drop off).take ti.n))) = some y → ∃ v, (Instr.loadAt t (.pointer (some ⟨b0, off, none⟩))).run cx.P w = .ok v w ∧ Rep cx g σ w v y ∧ y.bd nx := by
    intro hA hl
    split at hl
    · next hb =>
      cases hl
      have he : (cells.drop off).length = ti.n := by simpa using hb
      have := agg (by omega) hA
      rw [List.take_of_length_le (by omega)] at this
      exact this
    · split at hl
      · cases hl
      · next hb =>
        cases hl
        have hle : ¬ (cells.drop off).length < ti.n := by
          intro hlt
          have : Nat.blt (cells.drop off).length ti.n = true := by simpa using hlt
          rw [hb] at this; cases this
        exact agg (by omega) hA
  have ones : (isAgg t).run cx.P w = .ok false w → (cells.drop off).head? = some y → ∃ v, (Instr.loadAt t (.pointer (some ⟨b0, off, none⟩))).run cx.P w = .ok v w ∧ Rep cx g σ w v y ∧ y.bd nx := by
    intro hA hl
    obtain ⟨v, h2, h3, h4⟩ := one hl hA
    cases y with
    | agg c => exact h3.elim
    | tup c => exact h3.elim
    | d z => exact ⟨v, h2, h3, h4⟩
    | pd z => exact ⟨v, h2, h3, h4⟩
    | ptr i o => exact ⟨v, h2, h3, h4⟩
    | own i n => exact ⟨v, h2, h3, h4⟩
    | pe i n p q => exact ⟨v, h2, h3, h4⟩
    | any => exact ⟨v, h2, h3, h4⟩
  unfold ldA at hl
  cases hkd : ti.kind <;> simp only [hkd] at hl hA
  · exact ones hA hl
  · exact ones hA hl
  · exact ones hA hl
  · exact ones hA hl
  · exact ones hA hl
  · exact aggs hA hl
  · exact aggs hA hl

theorem ok_load_ptr {t : TypeId} {x : Operand} {id off : Nat} {cells : List AV} {ti : TI} {y : AV} (hn : d < cx.n) (hx : EvS x (.ptr id off)) (ht : tget cx.T t = some ti)
    (hl : ldA ti (cells.drop off) = some y) :
    OpOk cx ⟨some d, .load t x, ty, pos, af, gd⟩ ⟨rdOf x (.ptr id off) ++ [(.o id, .ob (.box cells))], [(.s d, .av y)]⟩ := by
  refine ok_val rfl hn fun σ a w g nx hs hr => ?_
  obtain ⟨v, h2, h3, h4⟩ := load_ptr hs (hs.ev hx hr.left).1 hr.right.1 ht hl
  exact ⟨v, w, by simp [execOp, h2], Below.refl _ _, h3, h4⟩

/-- An element's cells, at an index. -/
def idx (rows : List (List D)) (i : Int) : Option (List D) := if 0 ≤ i then rows[i.toNat]? else none

def slK (ti : TI) : Option Nat := match ti.kind with
  | .sl _ k => some k
  | _ => none

theorem slice_of {P : Program} {t : Nat} {ti : TI} {k : Nat} (h : TF P t ti) (hk : slK ti = some k) : ∃ e i, P.underlying t = some (.slice e) ∧ P.info? e = some i ∧ i.size = k ∧ 0 < k := by
  have hkd := h.kind
  unfold slK at hk
  split at hk
  · next e k' hkk =>
    cases hk
    rw [hkk] at hkd
    obtain ⟨h1, ⟨i, h2, h3⟩, h4, _⟩ := hkd
    exact ⟨e, i, h1, h2, h3, h4⟩
  · cases hk

theorem ok_ia_sl {t : TypeId} {x y : Operand} {k : Nat} {rows : List (List D)} {kd : IntKind} {i : Int} {ti : TI} {r : List D} (hn : d < cx.n) (hx : EvS x (.d (.sl k rows)))
    (hy : EvS y (.d (.v (.int kd i)))) (ht : tget cx.T t = some ti) (hk : slK ti = some k) (hi : idx rows i = some r) :
    OpOk cx ⟨some d, .indexAddr t x y, ty, pos, af, gd⟩ ⟨rdOf x (.d (.sl k rows)) ++ rdOf y (.d (.v (.int kd i))), [(.s d, .av (.pd r))]⟩ := by
  refine ok_val rfl hn fun σ a w g nx hs hr => ?_
  obtain ⟨e, ie, hu, hie, hks, hk0⟩ := slice_of (cx.hT t ti ht) hk
  have h1 : Rd w (cx.own g σ) (a.eval x) (.sl k rows) := (hs.ev hx hr.left).1
  have h2 := rep_v (hs.ev hy hr.right).1
  unfold idx at hi
  split at hi
  · next hi0 =>
    have hlt : i.toNat < rows.length := (List.getElem?_eq_some_iff.1 hi).1
    generalize hv : a.eval x = v at h1
    generalize hD : D.sl k rows = D0 at h1
    cases h1 with
    | v => cases hD
    | agg => cases hD
    | nil => cases hD; simp at hlt
    | sl ad cap k' rows' f hb hsz hcap hlen hc hone hrd =>
      cases hD
      refine ⟨.pointer (some (ad.add (i.toNat * k))), w, ?_, Below.refl _ _, ⟨_, rfl, .inr (by rw [add_block]; exact hb), by rw [add_block]; exact hsz, fun j dd hj => ?_⟩, trivial⟩
      · have : 0 ≤ i ∧ i < (rows.length : Int) := ⟨hi0, by omega⟩
        simp [execOp, h2, hv, Instr.indexAt, asIntOf, run_underlying hu, this, sizeOf, typeInfo, hie, hks]
      · exact ⟨f i.toNat j, by rw [add_add]; exact hc _ _ _ _ hi hj, hone _ _ _ _ hi hj, hrd _ _ _ _ hi hj⟩
  · cases hi

theorem ok_len_sl {t tt : TypeId} {x : Operand} {k k' : Nat} {rows : List (List D)} {ti : TI} (hn : d < cx.n) (hx : EvS x (.d (.sl k rows))) (ht : tget cx.T t = some ti) (hk : slK ti = some k') :
    OpOk cx ⟨some d, .call { callee := .builtin .len, args := #[x], argTypes := #[t] }, tt, pos, af, gd⟩ ⟨rdOf x (.d (.sl k rows)), [(.s d, .av (.d (.v (.int .i64 rows.length))))]⟩ := by
  refine ok_val rfl hn fun σ a w g nx hs hr => ?_
  obtain ⟨e, ie, hu, _⟩ := slice_of (cx.hT t ti ht) hk
  have h1 : Rd w (cx.own g σ) (a.eval x) (.sl k rows) := (hs.ev hx hr).1
  have hv : ∃ p c, a.eval x = .slice p rows.length c := by
    generalize a.eval x = v at h1
    generalize hD : D.sl k rows = D0 at h1
    cases h1 with
    | v => cases hD
    | agg => cases hD
    | nil p c => cases hD; exact ⟨p, c, rfl⟩
    | sl ad cap => cases hD; exact ⟨_, cap, rfl⟩
  obtain ⟨p, c, hv⟩ := hv
  refine ⟨.int .i64 rows.length, w, ?_, Below.refl _ _, Rd.v _, trivial⟩
  simp [execOp, resolve, invoke, builtin, hv, Builtin.len_, run_underlying hu, goInt]

theorem ok_len_nil {t tt : TypeId} {x : Operand} {k' : Nat} {ti : TI} (hn : d < cx.n) (hx : EvS x (.d (.v nilS))) (ht : tget cx.T t = some ti) (hk : slK ti = some k') :
    OpOk cx ⟨some d, .call { callee := .builtin .len, args := #[x], argTypes := #[t] }, tt, pos, af, gd⟩ ⟨rdOf x (.d (.v nilS)), [(.s d, .av (.d (.v (.int .i64 0))))]⟩ := by
  refine ok_val rfl hn fun σ a w g nx hs hr => ?_
  obtain ⟨e, ie, hu, _⟩ := slice_of (cx.hT t ti ht) hk
  have hv := rep_v (hs.ev hx hr).1
  refine ⟨.int .i64 0, w, ?_, Below.refl _ _, Rd.v _, trivial⟩
  simp [execOp, resolve, invoke, builtin, hv, Builtin.len_, run_underlying hu, goInt]

theorem ok_extract {x : Operand} {avs : List AV} {i : Nat} {av : AV} (hn : d < cx.n) (hx : EvS x (.tup avs)) (hi : avs[i]? = some av) (hav : match av with | .tup _ => False | _ => True) :
    OpOk cx ⟨some d, .extract x i, ty, pos, af, gd⟩ ⟨rdOf x (.tup avs), [(.s d, .av av)]⟩ := by
  refine ok_val rfl hn fun σ a w g nx hs hr => ?_
  obtain ⟨⟨vs, hv, hl, h⟩, hb⟩ := hs.ev hx hr
  have hlt : i < vs.size := by have := (List.getElem?_eq_some_iff.1 hi).1; omega
  have hc : vs[i]? = some vs[i] := Array.getElem?_eq_getElem hlt
  have h2 := h i vs[i] av hi hc
  have hb2 := hb av (List.mem_of_getElem? hi)
  refine ⟨vs[i], w, by simp [execOp, hv, Instr.extract, hc], Below.refl _ _, ?_, ?_⟩
  · cases av <;> first | exact h2 | exact hav.elim
  · cases av <;> first | exact hb2 | exact hav.elim

theorem ok_nilCheck_pd {x : Operand} {cells : List D} (hn : d < cx.n) (hx : EvS x (.pd cells)) :
    OpOk cx ⟨some d, .nilCheck x, ty, pos, af, gd⟩ ⟨rdOf x (.pd cells), [(.s d, .av (.pd cells))]⟩ := by
  refine ok_val rfl hn fun σ a w g nx hs hr => ?_
  have h := hs.ev hx hr
  obtain ⟨ad, hv, _⟩ := h.1
  exact ⟨a.eval x, w, by simp [execOp, hv], Below.refl _ _, h.1, h.2⟩

theorem ok_nilCheck_ptr {x : Operand} {id off : Nat} {cells : List AV} (hn : d < cx.n) (hx : EvS x (.ptr id off)) :
    OpOk cx ⟨some d, .nilCheck x, ty, pos, af, gd⟩ ⟨rdOf x (.ptr id off) ++ [(.o id, .ob (.box cells))], [(.s d, .av (.ptr id off))]⟩ := by
  refine ok_val rfl hn fun σ a w g nx hs hr => ?_
  have h := hs.ev hx hr.left
  obtain ⟨b, _, hv⟩ := h.1 cells hr.right.1
  exact ⟨a.eval x, w, by simp [execOp, hv], Below.refl _ _, h.1, h.2⟩

end Go.AX
