/-
  The table of a program's types, held against the program by computing.
-/
import Derived.Test.YtjlfjjigccedjaaAxStep2
namespace Go.AX

def vEq : Value → Value → Bool
  | .bool a, .bool b => a == b
  | .int k a, .int k' b => k == k' && a == b
  | .string a, .string b => a.data.toList == b.data.toList
  | .slice none 0 0, .slice none 0 0 => true
  | .pointer none, .pointer none => true
  | .map none, .map none => true
  | .nilFunc, .nilFunc => true
  | .nilIface, .nilIface => true
  | _, _ => false
theorem vEq_out {a b : Value} (h : vEq a b = true) : a = b := by
  unfold vEq at h
  split at h <;> simp_all
  rename_i x y
  cases x; cases y
  simp_all

def vsEq : List Value → List Value → Bool
  | [], [] => true
  | a :: l, b :: r => vEq a b && vsEq l r
  | _, _ => false
theorem vsEq_out : ∀ {l r : List Value}, vsEq l r = true → l = r
  | [], [], _ => rfl
  | a :: l, b :: r, h => by
    simp only [vsEq, Bool.and_eq_true] at h
    rw [vEq_out h.1, vsEq_out h.2]

def notAgg (P : Program) (t : Nat) : Bool := match P.underlying t with
  | some (.struct _) => false
  | some (.array _ _) => false
  | some _ => true
  | none => false
theorem notAgg_out {P : Program} {t : Nat} (h : notAgg P t = true) : ∃ dd, P.underlying t = some dd ∧ (∀ fs, dd ≠ .struct fs) ∧ ∀ n e, dd ≠ .array n e := by
  unfold notAgg at h
  cases hu : P.underlying t with
  | none => rw [hu] at h; cases h
  | some dd =>
    rw [hu] at h
    cases dd <;> first | (cases h; done) | exact ⟨_, rfl, by simp, by simp⟩

def fsB (P : Program) : List Field → List (Nat × Nat) → Bool
  | [], [] => true
  | f :: l, p :: r => (Nat.beq f.offset p.1 && (match P.info? f.type with | some i => Nat.beq i.size p.2 && (Nat.blt 0 p.2 && (!(Nat.beq p.2 1) || notAgg P f.type)) | none => false)) && fsB P l r
  | _, _ => false
theorem fsB_out {P : Program} : ∀ {l : List Field} {r : List (Nat × Nat)}, fsB P l r = true → l.length = r.length ∧
    ∀ (j : Nat) (p : Nat × Nat), r[j]? = some p → ∃ (f : Field) (i : TypeInfo), l[j]? = some f ∧ f.offset = p.1 ∧ P.info? f.type = some i ∧ i.size = p.2 ∧ 0 < p.2 ∧
      (p.2 = 1 → ∃ dd, P.underlying f.type = some dd ∧ (∀ fs, dd ≠ .struct fs) ∧ ∀ n e, dd ≠ .array n e)
  | [], [], _ => ⟨rfl, fun j p h => by simp at h⟩
  | f :: l, p :: r, h => by
    simp only [fsB, Bool.and_eq_true] at h
    obtain ⟨⟨h1, h2⟩, h3⟩ := h
    obtain ⟨h4, h5⟩ := fsB_out h3
    refine ⟨by simp [h4], fun j q hj => ?_⟩
    cases j with
    | zero =>
      simp at hj
      subst hj
      cases hi : P.info? f.type with
      | none => rw [hi] at h2; cases h2
      | some i =>
        rw [hi] at h2
        simp only [Bool.and_eq_true] at h2
        exact ⟨f, i, rfl, by simpa using h1, hi, by simpa using h2.1, by simpa using h2.2.1, fun h1' => notAgg_out (by have := h2.2.2; simpa [h1'] using this)⟩
    | succ j =>
      obtain ⟨f', i, h6⟩ := h5 j q (by simpa using hj)
      exact ⟨f', i, by simpa using h6⟩

def kB (P : Program) (t : Nat) (ti : TI) : Bool := match ti.kind with
  | .int k => match P.underlying t with
    | some (.int k') => k == k' && Nat.beq ti.n 1
    | _ => false
  | .bool => match P.underlying t with
    | some .bool => Nat.beq ti.n 1
    | _ => false
  | .str => match P.underlying t with
    | some .string => Nat.beq ti.n 1
    | _ => false
  | .sl e k => match P.underlying t with
    | some (.slice e') => Nat.beq e e' && (match P.info? e with | some i => Nat.beq i.size k | none => false) && Nat.blt 0 k && Nat.beq ti.n 1
    | _ => false
  | .st fs => match P.underlying t with
    | some (.struct a) => fsB P a.toList fs
    | _ => false
  | .arr n e k => match P.underlying t with
    | some (.array n' e') => Nat.beq n n' && Nat.beq e e' && (match P.info? e with | some i => Nat.beq i.size k | none => false)
    | _ => false
  | .one => match P.underlying t with
    | some (.struct _) => false
    | some (.array _ _) => false
    | some _ => Nat.beq ti.n 1
    | none => false

def tiB (P : Program) (t : Nat) (ti : TI) : Bool :=
  (match P.info? t with
    | some i => Nat.beq i.size ti.n && Nat.beq i.bytes ti.bytes && (match i.zero with | some z => vsEq z.cells.toList ti.zero | none => false)
    | none => false) && (Nat.beq ti.zero.length ti.n && kB P t ti)

theorem tiB_out {P : Program} {t : Nat} {ti : TI} (h : tiB P t ti = true) : TF P t ti := by
  simp only [tiB, Bool.and_eq_true] at h
  obtain ⟨h1, h2, h3⟩ := h
  refine ⟨?_, by simpa using h2, ?_⟩
  · cases hi : P.info? t with
    | none => rw [hi] at h1; cases h1
    | some i =>
      rw [hi] at h1
      simp only [Bool.and_eq_true] at h1
      obtain ⟨⟨h4, h5⟩, h6⟩ := h1
      cases hz : i.zero with
      | none => rw [hz] at h6; cases h6
      | some z =>
        rw [hz] at h6
        exact ⟨i, rfl, by simpa using h4, by simpa using h5, z, hz, vsEq_out h6⟩
  · unfold kB at h3
    cases hk : ti.kind <;> simp only [hk] at h3 ⊢
    · cases hu : P.underlying t with
      | none => rw [hu] at h3; cases h3
      | some dd =>
        rw [hu] at h3
        cases dd <;> first | (cases h3; done) | exact ⟨_, rfl, by simp, by simp, by simpa using h3⟩
    · split at h3
      · next hu => simp only [Bool.and_eq_true, beq_iff_eq, Nat.beq_eq] at h3; rw [h3.1]; exact ⟨hu, h3.2⟩
      · cases h3
    · split at h3
      · next hu => exact ⟨hu, by simpa using h3⟩
      · cases h3
    · split at h3
      · next hu => exact ⟨hu, by simpa using h3⟩
      · cases h3
    · split at h3
      · next hu =>
        simp only [Bool.and_eq_true, Nat.beq_eq] at h3
        obtain ⟨⟨⟨h4, h5⟩, h6⟩, h7⟩ := h3
        subst h4
        split at h5
        · next i hi => exact ⟨hu, ⟨i, hi, by simpa using h5⟩, by simpa using h6, h7⟩
        · cases h5
      · cases h3
    · split at h3
      · next hu =>
        obtain ⟨h4, h5⟩ := fsB_out h3
        refine ⟨_, hu, by simpa using h4, fun j p hj => ?_⟩
        obtain ⟨f, i, h6, h7⟩ := h5 j p hj
        exact ⟨f, i, by simpa using h6, h7⟩
      · cases h3
    · split at h3
      · next hu =>
        simp only [Bool.and_eq_true, Nat.beq_eq] at h3
        obtain ⟨⟨h4, h5⟩, h6⟩ := h3
        subst h4 h5
        split at h6
        · next i hi => exact ⟨hu, i, hi, by simpa using h6⟩
        · cases h6
      · cases h3

def tblB (P : Program) (T : Tbl) : Bool := T.all fun p => tiB P p.1 p.2

theorem tget_mem : ∀ {T : Tbl} {t : Nat} {ti : TI}, tget T t = some ti → (t, ti) ∈ T
  | (q, i) :: r, t, ti, h => by
    simp only [tget] at h
    split at h
    · next hb =>
      obtain rfl : q = t := by simpa using hb
      cases h
      exact List.mem_cons_self ..
    · exact List.mem_cons_of_mem _ (tget_mem h)

theorem tok_of {P : Program} {T : Tbl} (h : tblB P T = true) : TOk P T :=
  fun _ _ ht => tiB_out (List.all_eq_true.1 h _ (tget_mem ht))

end Go.AX
