/-
  The check that a region's transitions fit its edges, by computing.
-/
import Derived.Test.YtjlfjjigccedjaaAxDraw
namespace Go.AX

def disj (a b : List (Key × Val)) : Bool := a.all fun p => b.all fun q => !(p.1.beq q.1)
def apartB (s t : Tr) : Bool := disj s.wr t.wr && (disj s.wr t.rd && disj s.rd t.wr)
def memB (n : Nat) : List Nat → Bool
  | [] => false
  | m :: l => Nat.beq n m || memB n l
def chkP (an : List Nat) : Nat → List Tr → Tr → Bool
  | _, [], _ => true
  | j, s :: F, t => (memB j an || apartB s t) && chkP an (j + 1) F t
def ancOf (A : List (List Nat)) (es : List Nat) : List Nat := es ++ es.flatMap fun j => A.getD j []
def chk : List (List Nat) → List Tr → List Oper → List Tr → Bool
  | A, F, o :: l, t :: ts => ((edges o).all fun j => Nat.blt j A.length) && (chkP (ancOf A (edges o)) 0 F t && chk (A ++ [ancOf A (edges o)]) (F ++ [t]) l ts)
  | _, _, [], [] => true
  | _, _, _, _ => false

theorem disj_out {a b : List (Key × Val)} (h : disj a b = true) : ∀ k, k ∈ a.map (·.1) → k ∈ b.map (·.1) → False := by
  intro k ha hb
  obtain ⟨p, hp, rfl⟩ := List.mem_map.1 ha
  obtain ⟨q, hq, hk⟩ := List.mem_map.1 hb
  have := List.all_eq_true.1 (List.all_eq_true.1 h p hp) q hq
  rw [Key.beq_iff.2 hk.symm] at this
  cases this
theorem apartB_out {s t : Tr} (h : apartB s t = true) : Apart s t := by
  simp only [apartB, Bool.and_eq_true] at h
  exact ⟨disj_out h.1, disj_out h.2.1, disj_out h.2.2⟩
theorem memB_out {n : Nat} : ∀ {l : List Nat}, memB n l = true → n ∈ l
  | [], h => by cases h
  | m :: l, h => by
    simp only [memB, Bool.or_eq_true, Nat.beq_eq] at h
    rcases h with h | h
    · subst h; exact List.mem_cons_self ..
    · exact List.mem_cons_of_mem _ (memB_out h)
theorem chkP_out {an : List Nat} {t : Tr} : ∀ {F : List Tr} {j : Nat}, chkP an j F t = true → ∀ i s, F[i]? = some s → (j + i) ∈ an ∨ Apart s t
  | [], _, _, i, s, h => by simp at h
  | x :: F, j, h, i, s, hi => by
    simp only [chkP, Bool.and_eq_true, Bool.or_eq_true] at h
    cases i with
    | zero =>
      obtain rfl : x = s := by simpa using hi
      exact h.1.imp memB_out apartB_out
    | succ i =>
      have := chkP_out h.2 i s (by simpa using hi)
      rwa [show j + (i + 1) = j + 1 + i by omega]

theorem chk_out {full : List Oper} {tall : List Tr} : ∀ {l : List Oper} {ts : List Tr} {A : List (List Nat)} {F : List Tr} {pre : List Oper},
    full = pre ++ l → tall = F ++ ts → A.length = pre.length → F.length = pre.length →
    (∀ i an, A[i]? = some an → ∀ j ∈ an, Anc full j i) →
    (∀ i o, i < pre.length → full[i]? = some o → ∀ j ∈ edges o, j < i) →
    (∀ i j s t, i < pre.length → j < i → tall[j]? = some s → tall[i]? = some t → Anc full j i ∨ Apart s t) →
    chk A F l ts = true → Fit full tall := by
  intro l
  induction l with
  | nil =>
    intro ts A F pre hf ht hA hF h1 h2 h3 hc
    cases ts with
    | cons t ts => cases hc
    | nil =>
      subst hf ht
      refine ⟨fun i o ho => h2 i o ?_ ho, fun i j s t hj hs hti => h3 i j s t ?_ hj hs hti⟩
      · simpa using (List.getElem?_eq_some_iff.1 ho).1
      · simpa [hF] using (List.getElem?_eq_some_iff.1 hti).1
  | cons o l ih =>
    intro ts A F pre hf ht hA hF h1 h2 h3 hc
    cases ts with
    | nil => cases hc
    | cons t ts =>
      simp only [chk, Bool.and_eq_true] at hc
      obtain ⟨hc1, hc2, hc3⟩ := hc
      have hdown : ∀ j ∈ edges o, j < pre.length := fun j hj => by
        have := List.all_eq_true.1 hc1 j hj
        simp only [Nat.blt_eq, hA] at this
        exact this
      have hoi : full[pre.length]? = some o := by subst hf; simp
      have hti : tall[pre.length]? = some t := by subst ht; simp [← hF]
      have hanc : ∀ j ∈ ancOf A (edges o), Anc full j pre.length := fun j hj => by
        rcases List.mem_append.1 hj with hj | hj
        · exact .one hoi hj
        · obtain ⟨m, hm, hjm⟩ := List.mem_flatMap.1 hj
          have hml : m < A.length := by have := hdown m hm; omega
          rw [List.getD_eq_getElem?_getD, List.getElem?_eq_getElem hml] at hjm
          exact .step hoi hm (h1 m _ (List.getElem?_eq_getElem hml) j hjm)
      refine ih (pre := pre ++ [o]) (by simp [hf]) (by simp [ht]) (by simp [hA]) (by simp [hF]) (fun i an hi j hj => ?_) (fun i o' hi ho' j hj => ?_) (fun i j s t' hi hj hs ht' => ?_) hc3
      · rcases Nat.lt_or_ge i A.length with hl | hl
        · rw [List.getElem?_append_left hl] at hi
          exact h1 i an hi j hj
        · have hil : i < (A ++ [ancOf A (edges o)]).length := (List.getElem?_eq_some_iff.1 hi).1
          have he : i = A.length := by simp at hil; omega
          subst he
          obtain rfl : ancOf A (edges o) = an := by simpa using hi
          rw [hA]
          exact hanc j hj
      · rcases Nat.lt_or_ge i pre.length with hl | hl
        · exact h2 i o' hl ho' j hj
        · have he : i = pre.length := by simp at hi; omega
          subst he
          rw [hoi] at ho'
          cases ho'
          exact hdown j hj
      · rcases Nat.lt_or_ge i pre.length with hl | hl
        · exact h3 i j s t' hl hj hs ht'
        · have he : i = pre.length := by simp at hi; omega
          subst he
          rw [hti] at ht'
          cases ht'
          have hjF : F[j]? = some s := by
            rw [ht] at hs
            rwa [List.getElem?_append_left (by omega)] at hs
          have := chkP_out hc2 j s hjF
          rw [Nat.zero_add] at this
          exact this.imp (hanc j) id

theorem fit_of_chk {l : List Oper} {ts : List Tr} (h : chk [] [] l ts = true) : Fit l ts :=
  chk_out (pre := []) rfl rfl rfl rfl (by simp) (by simp) (by simp) h

end Go.AX
