/-
  Part 4 of what the claim leans on: G8 AxPin4 G11 AxIns G12 G9 AxPin5 G10 F4 F11 L2.
-/
import Derived.Test.YtnhnnkljlglhbaaK3
import Derived.Shelf.Spec.SlicesInsertGrow
import Derived.Maps.AppendAt

/-! G8 -/
/-
  Contracts of the program's copies of chains: what comes back is the caller's own, and one chain's versions, too.
-/
namespace Go.Proofs.Ytnhnnkljlglhbaa
open Go.AX Go.RF

set_option maxRecDepth 100000
set_option maxHeartbeats 8000000

theorem new_chainOwn (l : List Chain) (hl : l.length ≤ 268435456) (hv : ∀ c ∈ l, c.vs.length ≤ 268435456) : FnNew Try.prog 9 [.d (encChains l)] 45 2 (l.map Chain.enc) := by
  refine fnNew_of tbl_ok mixed_ok Try.func9 rfl (by kernel_rfl) rfl rfl fun w0 own0 => ?_
  repeat (first | ((with_reducible apply s1); exact rfl) | (with_reducible first | apply CW.seq | apply CW.block | apply CW.region | apply CW.draw | apply CW.skip | apply CW.exit | apply CW.ret | apply q_then | apply q_then_exit | apply q_then_ret | apply q_block | apply q_block_ret | apply q_block_hit | apply q_ret | apply q_end | apply q_loop_exit | apply q_loop_ret | apply q_loopT_exit | apply q_loopT_ret | apply RW.nil) | ((with_reducible apply s3); exact rfl; exact by_k) | ((with_reducible apply s2); exact rfl; exact by_k) | ((with_reducible apply s4); exact rfl) | ((with_reducible apply s5); (first | exact by_oa); exact by_g) | ((with_reducible apply CW.cond_t); exact rfl; exact by_ks) | ((with_reducible apply CW.cond_f); exact rfl; exact by_ks) | ((with_reducible apply q_block_miss); exact rfl) | (refine And.intro (show chk [] [] _ _ = true by kernel_rfl) ?_))
  refine CW.stut (stut_promote (i := 3) 45 2) ⟨rfl, rfl, trivial⟩ ?_
  refine CW.loopT (fun i : Nat => [sd 6 (encChains l), sd 7 (dint l.length), sd 8 (dint i), so 3 0 i, oa 0 45 2 ((l.take i).map Chain.enc), nxt 1]) (fun i => i ≤ l.length) (fun i => l.length - i) 0 (by omega) ?_ ?_
  ·
    exact by_less
  · rintro i hi
    rcases drop_case hi with ⟨h1, h2⟩ | ⟨c, h1, h2, h3⟩
    · subst h2
      rw [List.take_length]
      repeat (first | ((with_reducible apply s1); exact rfl) | (with_reducible first | apply CW.seq | apply CW.block | apply CW.region | apply CW.draw | apply CW.skip | apply CW.exit | apply CW.ret | apply q_then | apply q_then_exit | apply q_then_ret | apply q_block | apply q_block_ret | apply q_block_hit | apply q_ret | apply q_end | apply q_loop_exit | apply q_loop_ret | apply q_loopT_exit | apply q_loopT_ret | apply RW.nil) | ((with_reducible apply s3); exact rfl; exact by_k) | ((with_reducible apply s2); exact rfl; exact by_k) | ((with_reducible apply s4); exact rfl) | ((with_reducible apply s5); (first | exact by_oa); exact by_g) | ((with_reducible apply CW.cond_t); exact rfl; exact by_ks) | ((with_reducible apply CW.cond_f); exact rfl; exact by_ks) | ((with_reducible apply q_block_miss); exact rfl) | (refine And.intro (show chk [] [] _ _ = true by kernel_rfl) ?_))
      exact RetNew.own rfl rfl (by simp)
    · have h4 : (l.take i).map Chain.enc ++ [c.enc] = (l.take (i + 1)).map Chain.enc := by rw [List.take_add_one, h2]; simp
      have hcv := hv c (List.mem_of_getElem? h2)
      have hc := ok_clone_version (c.vs.map Version.enc) (by simp; omega)
      repeat (first | ((with_reducible apply s1); exact rfl) | (with_reducible first | apply CW.seq | apply CW.block | apply CW.region | apply CW.draw | apply CW.skip | apply CW.exit | apply CW.ret | apply q_then | apply q_then_exit | apply q_then_ret | apply q_block | apply q_block_ret | apply q_block_hit | apply q_ret | apply q_end | apply q_loop_exit | apply q_loop_ret | apply q_loopT_exit | apply q_loopT_ret | apply RW.nil) | ((with_reducible apply s3); exact rfl; exact by_k) | ((with_reducible apply s2); exact rfl; exact by_k) | ((with_reducible apply s4); exact rfl) | ((with_reducible apply s5); (first | (focus ((with_reducible apply a_call); exact hc; exact rfl; (repeat (first | exact SubsE.nil | (apply SubsE.cons; exact rfl; (first | exact .d (.refl _) | exact .d (.nil _) | exact .agg rfl (.refl _) | exact .pd | exact .ptr rfl); (first | exact trivial | exact ⟨rfl, trivial⟩)))); done)) | exact by_oa); exact by_g) | ((with_reducible apply CW.cond_t); exact rfl; exact by_ks) | ((with_reducible apply CW.cond_f); exact rfl; exact by_ks) | ((with_reducible apply q_block_miss); exact rfl) | (refine And.intro (show chk [] [] _ _ = true by kernel_rfl) ?_))
      refine q_loopT (i + 1) (by omega) (by omega) ?_
      exact by_less

def keptRows (l : List Chain) (m : Nat) (c : Chain) (x : Value) : List (List D) := (l.map Chain.enc).set m [dstr c.key, .v x]

theorem own2_chain (l : List Chain) (m : Nat) (c0 : Chain) (h0 : l[m]? = some c0) (hl : l.length ≤ 268435456) (hv : ∀ c ∈ l, c.vs.length ≤ 268435456) :
    FnOwn2 Try.prog 9 [.d (encChains l)] 45 2 (keptRows l m c0) 26 4 (c0.vs.map Version.enc) := by
  refine fnOwn2_of tbl_ok mixed_ok Try.func9 rfl (by kernel_rfl) rfl rfl fun w0 own0 => ?_
  have hml : m < l.length := (List.getElem?_eq_some_iff.1 h0).1
  repeat (first | ((with_reducible apply s1); exact rfl) | (with_reducible first | apply CW.seq | apply CW.block | apply CW.region | apply CW.draw | apply CW.skip | apply CW.exit | apply CW.ret | apply q_then | apply q_then_exit | apply q_then_ret | apply q_block | apply q_block_ret | apply q_block_hit | apply q_ret | apply q_end | apply q_loop_exit | apply q_loop_ret | apply q_loopT_exit | apply q_loopT_ret | apply RW.nil) | ((with_reducible apply s3); exact rfl; exact by_k) | ((with_reducible apply s2); exact rfl; exact by_k) | ((with_reducible apply s4); exact rfl) | ((with_reducible apply s5); (first | exact by_oa); exact by_g) | ((with_reducible apply CW.cond_t); exact rfl; exact by_ks) | ((with_reducible apply CW.cond_f); exact rfl; exact by_ks) | ((with_reducible apply q_block_miss); exact rfl) | (refine And.intro (show chk [] [] _ _ = true by kernel_rfl) ?_))
  refine CW.stut (stut_promote (i := 3) 45 2) ⟨rfl, rfl, trivial⟩ ?_
  refine CW.loopT (fun t : Nat × Option Value => match t.2 with
      | none => [sd 6 (encChains l), sd 7 (dint l.length), sd 8 (dint t.1), so 3 0 t.1, oa 0 45 2 ((l.take t.1).map Chain.enc), nxt 1]
      | some x => [sd 6 (encChains l), sd 7 (dint l.length), sd 8 (dint t.1), so 3 0 t.1, oa 0 45 2 ((keptRows l m c0 x).take t.1), (.o 2, .ob (.pin 26 4 (c0.vs.map Version.enc) x)), nxt 3])
    (fun t => t.1 ≤ l.length ∧ (t.2 = none → t.1 ≤ m) ∧ (t.2 ≠ none → m < t.1)) (fun t => l.length - t.1) (0, none) ⟨by omega, fun _ => Nat.zero_le _, fun h => absurd rfl h⟩ ?_ ?_
  ·
    exact by_less
  · rintro ⟨i, o⟩ ⟨hi, hn, hs⟩
    dsimp only at hi hn hs ⊢
    have hkl : ∀ x, (keptRows l m c0 x).length = l.length := fun x => by simp [keptRows]
    cases o with
    | none =>
      have him := hn rfl
      dsimp only
      rcases drop_case hi with ⟨h1, h2⟩ | ⟨c, h1, h2, h3⟩
      · omega
      · have hcv := hv c (List.mem_of_getElem? h2)
        rcases Nat.lt_or_ge i m with hlt | hge
        · have h4 : (l.take i).map Chain.enc ++ [c.enc] = (l.take (i + 1)).map Chain.enc := by rw [List.take_add_one, h2]; simp
          have hc := ok_clone_version (c.vs.map Version.enc) (by simp; omega)
          repeat (first | ((with_reducible apply s1); exact rfl) | (with_reducible first | apply CW.seq | apply CW.block | apply CW.region | apply CW.draw | apply CW.skip | apply CW.exit | apply CW.ret | apply q_then | apply q_then_exit | apply q_then_ret | apply q_block | apply q_block_ret | apply q_block_hit | apply q_ret | apply q_end | apply q_loop_exit | apply q_loop_ret | apply q_loopT_exit | apply q_loopT_ret | apply RW.nil) | ((with_reducible apply s3); exact rfl; exact by_k) | ((with_reducible apply s2); exact rfl; exact by_k) | ((with_reducible apply s4); exact rfl) | ((with_reducible apply s5); (first | (focus ((with_reducible apply a_call); exact hc; exact rfl; (repeat (first | exact SubsE.nil | (apply SubsE.cons; exact rfl; (first | exact .d (.refl _) | exact .d (.nil _) | exact .agg rfl (.refl _) | exact .pd | exact .ptr rfl); (first | exact trivial | exact ⟨rfl, trivial⟩)))); done)) | exact by_oa); exact by_g) | ((with_reducible apply CW.cond_t); exact rfl; exact by_ks) | ((with_reducible apply CW.cond_f); exact rfl; exact by_ks) | ((with_reducible apply q_block_miss); exact rfl) | (refine And.intro (show chk [] [] _ _ = true by kernel_rfl) ?_))
          refine q_loopT (i + 1, none) ⟨by dsimp only; omega, fun _ => by dsimp only; omega, fun h => absurd rfl h⟩ (by dsimp only; omega) ?_
          exact by_less
        · obtain rfl : i = m := by omega
          obtain rfl : c0 = c := by rw [h0] at h2; exact Option.some.inj h2
          have h4 : ∀ x, (l.take i).map Chain.enc ++ [[dstr c0.key, .v x]] = (keptRows l i c0 x).take (i + 1) := fun x => by
            rw [keptRows, List.take_add_one, List.getElem?_set_self (by simpa using hml), List.take_set_of_le (Nat.le_refl _), List.map_take]; rfl
          have hc := new_clone_version (c0.vs.map Version.enc) (by simp; omega)
          repeat (first | (with_reducible apply stop_region 5) | ((with_reducible apply s1); exact rfl) | (with_reducible first | apply CW.seq | apply CW.block | apply CW.region | apply CW.draw | apply CW.skip | apply CW.exit | apply CW.ret | apply q_then | apply q_then_exit | apply q_then_ret | apply q_block | apply q_block_ret | apply q_block_hit | apply q_ret | apply q_end | apply q_loop_exit | apply q_loop_ret | apply q_loopT_exit | apply q_loopT_ret | apply RW.nil) | ((with_reducible apply s3); exact rfl; exact by_k) | ((with_reducible apply s2); exact rfl; exact by_k) | ((with_reducible apply s4); exact rfl) | ((with_reducible apply s5); (first | exact by_oa); exact by_g) | ((with_reducible apply CW.cond_t); exact rfl; exact by_ks) | ((with_reducible apply CW.cond_f); exact rfl; exact by_ks) | ((with_reducible apply q_block_miss); exact rfl) | (refine And.intro (show chk [] [] _ _ = true by kernel_rfl) ?_))
          refine Stop.go ?_
          apply CW.drawF (x0 := ((none, 0, 0) : Option Addr × Nat × Nat)) (l1 := [_, _, _, _, _]) (l2 := [_, _, _, _]) (tS := fun x => ⟨(rdOf (.tmp 16) (.d (encVs c0.vs)) ++ ([] ++ [])) ++ [(.nx, .num 2)], [(.s 17, .av (.d (.v (.slice x.1 x.2.1 x.2.2)))), (.o 2, .ob (.pin 26 4 (c0.vs.map Version.enc) (.slice x.1 x.2.1 x.2.2))), (.nx, .num 3)]⟩)
            (rs := (rdOf (.tmp 16) (.d (encVs c0.vs)) ++ ([] ++ [])) ++ [(.nx, .num 2)]) 
          · rfl
          · rfl
          · exact fun _ => rfl
          · exact fam_newpin rfl hc (.cons (x := .tmp 16) (av := .d (encVs c0.vs)) trivial (.d (.refl _)) .nil)
          · rfl
          repeat (first | ((with_reducible apply s1); exact rfl) | (with_reducible first | apply CW.seq | apply CW.block | apply CW.region | apply CW.draw | apply CW.skip | apply CW.exit | apply CW.ret | apply q_then | apply q_then_exit | apply q_then_ret | apply q_block | apply q_block_ret | apply q_block_hit | apply q_ret | apply q_end | apply q_loop_exit | apply q_loop_ret | apply q_loopT_exit | apply q_loopT_ret | apply RW.nil) | ((with_reducible apply s3); exact rfl; exact by_k) | ((with_reducible apply s2); exact rfl; exact by_k) | ((with_reducible apply s4); exact rfl) | ((with_reducible apply s5); (first | exact by_oa); exact by_g) | ((with_reducible apply CW.cond_t); exact rfl; exact by_ks) | ((with_reducible apply CW.cond_f); exact rfl; exact by_ks) | ((with_reducible apply q_block_miss); exact rfl) | (refine And.intro (show chk [] [] _ _ = true by kernel_rfl) ?_))
          refine And.intro ⟨rfl, rfl, trivial⟩ fun x => ?_
          obtain ⟨p, n, cp⟩ := x
          have h4' := h4 (.slice p n cp)
          have hk := hkl (.slice p n cp)
          dsimp only
          repeat (first | ((with_reducible apply s1); exact rfl) | (with_reducible first | apply CW.seq | apply CW.block | apply CW.region | apply CW.draw | apply CW.skip | apply CW.exit | apply CW.ret | apply q_then | apply q_then_exit | apply q_then_ret | apply q_block | apply q_block_ret | apply q_block_hit | apply q_ret | apply q_end | apply q_loop_exit | apply q_loop_ret | apply q_loopT_exit | apply q_loopT_ret | apply RW.nil) | ((with_reducible apply s3); exact rfl; exact by_k) | ((with_reducible apply s2); exact rfl; exact by_k) | ((with_reducible apply s4); exact rfl) | ((with_reducible apply s5); (first | exact by_oa); exact by_g) | ((with_reducible apply CW.cond_t); exact rfl; exact by_ks) | ((with_reducible apply CW.cond_f); exact rfl; exact by_ks) | ((with_reducible apply q_block_miss); exact rfl) | (refine And.intro (show chk [] [] _ _ = true by kernel_rfl) ?_))
          refine q_loopT (i + 1, some (.slice p n cp)) ⟨by dsimp only; omega, fun h => (by cases h), fun _ => by dsimp only; omega⟩ (by dsimp only; omega) ?_
          exact by_less
    | some x =>
      have him := hs (by simp)
      have hk := hkl x
      dsimp only
      rcases drop_case hi with ⟨h1, h2⟩ | ⟨c, h1, h2, h3⟩
      · subst h2
        rw [List.take_of_length_le (by rw [hkl]; exact Nat.le_refl _)]
        repeat (first | ((with_reducible apply s1); exact rfl) | (with_reducible first | apply CW.seq | apply CW.block | apply CW.region | apply CW.draw | apply CW.skip | apply CW.exit | apply CW.ret | apply q_then | apply q_then_exit | apply q_then_ret | apply q_block | apply q_block_ret | apply q_block_hit | apply q_ret | apply q_end | apply q_loop_exit | apply q_loop_ret | apply q_loopT_exit | apply q_loopT_ret | apply RW.nil) | ((with_reducible apply s3); exact rfl; exact by_k) | ((with_reducible apply s2); exact rfl; exact by_k) | ((with_reducible apply s4); exact rfl) | ((with_reducible apply s5); (first | exact by_oa); exact by_g) | ((with_reducible apply CW.cond_t); exact rfl; exact by_ks) | ((with_reducible apply CW.cond_f); exact rfl; exact by_ks) | ((with_reducible apply q_block_miss); exact rfl) | (refine And.intro (show chk [] [] _ _ = true by kernel_rfl) ?_))
        exact own2_ret (id2 := 2) rfl rfl (hkl x).symm rfl
      · have hcv := hv c (List.mem_of_getElem? h2)
        have h4 : (keptRows l m c0 x).take i ++ [c.enc] = (keptRows l m c0 x).take (i + 1) := by
          rw [List.take_add_one, keptRows, List.getElem?_set_ne (by omega)]; simp [h2]
        have hc := ok_clone_version (c.vs.map Version.enc) (by simp; omega)
        repeat (first | ((with_reducible apply s1); exact rfl) | (with_reducible first | apply CW.seq | apply CW.block | apply CW.region | apply CW.draw | apply CW.skip | apply CW.exit | apply CW.ret | apply q_then | apply q_then_exit | apply q_then_ret | apply q_block | apply q_block_ret | apply q_block_hit | apply q_ret | apply q_end | apply q_loop_exit | apply q_loop_ret | apply q_loopT_exit | apply q_loopT_ret | apply RW.nil) | ((with_reducible apply s3); exact rfl; exact by_k) | ((with_reducible apply s2); exact rfl; exact by_k) | ((with_reducible apply s4); exact rfl) | ((with_reducible apply s5); (first | (focus ((with_reducible apply a_call); exact hc; exact rfl; (repeat (first | exact SubsE.nil | (apply SubsE.cons; exact rfl; (first | exact .d (.refl _) | exact .d (.nil _) | exact .agg rfl (.refl _) | exact .pd | exact .ptr rfl); (first | exact trivial | exact ⟨rfl, trivial⟩)))); done)) | exact by_oa); exact by_g) | ((with_reducible apply CW.cond_t); exact rfl; exact by_ks) | ((with_reducible apply CW.cond_f); exact rfl; exact by_ks) | ((with_reducible apply q_block_miss); exact rfl) | (refine And.intro (show chk [] [] _ _ = true by kernel_rfl) ?_))
        refine q_loopT (i + 1, some x) ⟨by dsimp only; omega, fun h => (by cases h), fun _ => by dsimp only; omega⟩ (by dsimp only; omega) ?_
        exact by_less

end Go.Proofs.Ytnhnnkljlglhbaa

/-! AxPin4 -/
/-
  Stutters between a region's operations; facts out of a state; a slice whose handle is known, read and written in place.
-/
namespace Go.AX
open Go.RowKit

variable {cx : Cx} {g : Nat → Value} {σ σ' : St} {a : Act} {w w' : World} {nx : Nat} {c : Code} {Q : Exit → St → Prop}
variable {ty : TypeId} {pos : String} {af : Array Edge} {gd : Option (Nat × Bool)} {d : Nat}
variable {ops : Array Oper} {rest : List Oper} {o : Oper}

theorem SW.s1 {rd wr : List (Key × Val)} (ha : autA cx σ o = some ⟨rd, wr⟩) (h : SW cx ops Q rest (wr ++ σ)) : SW cx ops Q (o :: rest) σ := by
  obtain ⟨dst, op, ty, pos, af, gd⟩ := o
  cases gd with
  | some p => cases ha
  | none =>
    simp only [autA] at ha
    split at ha
    · next hd => 
      obtain ⟨h1, h2⟩ := trA_ok (cx := cx) (ty := ty) (pos := pos) (af := af) (gd := none) hd ha
      exact SW.step rfl ⟨h1, h2⟩ h
    · cases ha
theorem SW.s5 {rd wr : List (Key × Val)} (ho : OA cx σ o ⟨rd, wr⟩) (hg : o.guard = none) (h : SW cx ops Q rest (wr ++ σ)) : SW cx ops Q (o :: rest) σ := SW.step hg ho h
theorem SW.nil (h : Q .normal σ) : SW cx ops Q [] σ := fun a w hs => wpList_nil ⟨σ, hs, h⟩
theorem SW.stut {t : Tr} {l : List Oper} (hs : Stut cx t) (ha : App σ t.rd) (h : SW cx ops Q l (t.wr ++ σ)) : SW cx ops Q l σ := fun a w hsim => h a w (hs σ a w hsim ha)
theorem CW.fact {p : Prop} (hf : ∀ a w, Sim cx σ a w → p) (h : p → CW cx c Q σ) : CW cx c Q σ := fun a w hs => h (hf a w hs) a w hs
theorem SW.fact {p : Prop} {l : List Oper} (hf : ∀ a w, Sim cx σ a w → p) (h : p → SW cx ops Q l σ) : SW cx ops Q l σ := fun a w hs => h (hf a w hs) a w hs
/-- The handle of a slice that has elements. -/
theorem pin_shape {id e k : Nat} {rows : List (List D)} {x : Value} (ho : get σ (.o id) = .ob (.pin e k rows x)) (h0 : rows ≠ []) (a : Act) (w : World) (hs : Sim cx σ a w) : ∃ b cp, x = .slice (some ⟨b, 0, none⟩) rows.length cp := by
  obtain ⟨g, nx, hs⟩ := hs
  obtain ⟨_, ⟨hgx, xs, h1, _⟩, _⟩ := hs.objs id _ ho
  rcases h1.2 with ⟨_, hn⟩ | ⟨b, cap, cur, hv, _⟩
  · exact absurd (List.eq_nil_of_length_eq_zero hn) h0
  · exact ⟨b, cap, by rw [← hgx]; exact hv⟩
theorem pin_slice {id e k : Nat} {rows : List (List D)} {x : Value} (ho : get σ (.o id) = .ob (.pin e k rows x)) (a : Act) (w : World) (hs : Sim cx σ a w) : ∃ p cp, x = .slice p rows.length cp := by
  obtain ⟨g, nx, hs⟩ := hs
  obtain ⟨_, ⟨hgx, xs, h1, _⟩, _⟩ := hs.objs id _ ho
  rcases h1.2 with ⟨hv, hn⟩ | ⟨b, cap, cur, hv, _⟩
  · exact ⟨none, 0, by rw [← hgx, hv, hn]⟩
  · exact ⟨_, cap, by rw [← hgx]; exact hv⟩
theorem stut_unpin {i id e k : Nat} {rows : List (List D)} {x : Value} :
    Stut cx ⟨[(.s i, .av (.d (.v x))), (.o id, .ob (.pin e k rows x)), (.nx, .num nx)], [(.s i, .av (.own nx rows.length)), (.o nx, .ob (.arr e k rows)), (.nx, .num (nx + 1)), (.o id, .none)]⟩ := by
  intro σ a w hs hr
  exact sim_unpin i id e k nx rows x hr.1 hr.2.1 hr.2.2.1 hs

/-- A slice value whose handle is known: an element's address; a field's. -/
theorem ok_iav {t : TypeId} {x y : Operand} {b n cp k i : Nat} {kd : IntKind} {ti : TI} (hd : d < cx.n) (hx : EvS x (.d (.v (.slice (some ⟨b, 0, none⟩) n cp)))) (hy : EvS y (.d (.v (.int kd (i : Int))))) (ht : tget cx.T t = some ti) (hk : slK ti = some k) (hi : i < n) :
    OpOk cx ⟨some d, .indexAddr t x y, ty, pos, af, gd⟩ ⟨rdOf x (.d (.v (.slice (some ⟨b, 0, none⟩) n cp))) ++ rdOf y (.d (.v (.int kd (i : Int)))), [(.s d, .av (.d (.v (.pointer (some ⟨b, i * k, none⟩)))))]⟩ := by
  refine ok_val rfl hd fun σ a w g nx hs hr => ?_
  obtain ⟨_, ie, hu, hie, hks, _⟩ := slice_of (cx.hT t ti ht) hk
  have hv := rep_v (hs.ev hx hr.left).1
  have hy' := rep_v (hs.ev hy hr.right).1
  refine ⟨.pointer (some ⟨b, i * k, none⟩), w, ?_, Below.refl _ _, Rd.v _, trivial⟩
  have : (⟨b, 0, none⟩ : Addr).add (i * k) = ⟨b, i * k, none⟩ := by rw [add_lit, Nat.zero_add]
  simp [execOp, hy', hv, Instr.indexAt, asIntOf, run_underlying hu, sizeOf, typeInfo, hie, hks, this]
  omega
theorem ok_fav {t : TypeId} {x : Operand} {b q : Nat} {ti : TI} {fl off : Nat} (hd : d < cx.n) (hx : EvS x (.d (.v (.pointer (some ⟨b, q, none⟩))))) (ht : tget cx.T t = some ti) (hf : fldOff ti fl = some off) :
    OpOk cx ⟨some d, .fieldAddr t x fl, ty, pos, af, gd⟩ ⟨rdOf x (.d (.v (.pointer (some ⟨b, q, none⟩)))), [(.s d, .av (.d (.v (.pointer (some ⟨b, q + off, none⟩)))))]⟩ := by
  refine ok_val rfl hd fun σ a w g nx hs hr => ?_
  have hv := rep_v (hs.ev hx hr).1
  refine ⟨.pointer (some ⟨b, q + off, none⟩), w, ?_, Below.refl _ _, Rd.v _, trivial⟩
  have h2 := fieldAt_of (cx.hT t ti ht) hf ⟨b, q, none⟩ w
  rw [add_lit] at h2
  simp [execOp, hv, h2]

/-- An element's cells are read. -/
theorem ok_load_pin {t : TypeId} {x : Operand} {id n i f e k b cp q : Nat} {rows : List (List D)} {r : List D} {ti : TI} {y : D} (hd : d < cx.n) (hx : EvS x (.d (.v (.pointer (some ⟨b, q, none⟩))))) (ht : tget cx.T t = some ti) (hq : q = i * k + f) (hr : rows[i]? = some r)
    (hl : ldD ti (r.drop f) = some y) :
    OpOk cx ⟨some d, .load t x, ty, pos, af, gd⟩ ⟨rdOf x (.d (.v (.pointer (some ⟨b, q, none⟩)))) ++ [(.o id, .ob (.pin e k rows (.slice (some ⟨b, 0, none⟩) n cp)))], [(.s d, .av (.d y))]⟩ := by
  refine ok_val rfl hd fun σ a w g nx hs hrd => ?_
  have ho : get σ (.o id) = .ob (.pin e k rows (.slice (some ⟨b, 0, none⟩) n cp)) := hrd.right.1
  subst hq
  have hv := rep_v (hs.ev hx hrd.left).1
  obtain ⟨_, ⟨hgx, xs, h1, h2, h3, h4⟩, _⟩ := hs.objs id _ ho
  have hb : blk (g id) = some b := by rw [hgx]; rfl
  have hil := (List.getElem?_eq_some_iff.1 hr).1
  have hrk := h3 r (List.mem_of_getElem? hr)
  have hc : RdCells w (cx.own g σ) ⟨b, i * k + f, none⟩ (r.drop f) := by
    intro j z hz
    rw [List.getElem?_drop] at hz
    have hj : f + j < k := by rw [← hrk]; exact (List.getElem?_eq_some_iff.1 hz).1
    have hlen : i * k + (f + j) < xs.length := by
      rw [h1.1]
      have h5 : (i + 1) * k ≤ rows.length * k := Nat.mul_le_mul_right _ hil
      rw [Nat.add_mul, Nat.one_mul] at h5
      omega
    refine ⟨xs[i * k + (f + j)], ?_, h2 _ (List.getElem_mem _), h4 i (f + j) r z _ hr hz (List.getElem?_eq_getElem hlen)⟩
    rw [add_lit, show i * k + f + j = i * k + (f + j) by omega]
    have := h1.cells (g := b) (by rw [← blk_own h1]; exact hb) (i * k + (f + j)) _ (List.getElem?_eq_getElem hlen)
    rw [add_lit, Nat.zero_add] at this
    exact this
  obtain ⟨v, h5, h6⟩ := run_load_cells (cx.hT t ti ht) hc hl
  have h5' : (loadVar t ⟨b, i * k + f, none⟩).run cx.P w = .ok v w := by simpa [Instr.loadAt, Instr.sureAddr] using h5
  exact ⟨v, w, by simp [execOp, hv, Instr.loadAt, Instr.sureAddr, h5'], Below.refl _ _, h6, trivial⟩

/-- An element's cells are written. -/
theorem ok_store_pin {t : TypeId} {x y : Operand} {id n i f e k b cp q : Nat} {rows : List (List D)} {r new : List D} {av : AV} {ti : TI} (hx : EvS x (.d (.v (.pointer (some ⟨b, q, none⟩))))) (hy : EvS y av) (ht : tget cx.T t = some ti) (hc : dcells av = some new)
    (hq : q = i * k + f) (hr : rows[i]? = some r) (hnn : Nat.beq new.length ti.n = true) (hle : f + new.length ≤ r.length) :
    OpOk cx ⟨none, .store t x y, ty, pos, af, gd⟩ ⟨rdOf x (.d (.v (.pointer (some ⟨b, q, none⟩)))) ++ (rdOf y av ++ [(.o id, .ob (.pin e k rows (.slice (some ⟨b, 0, none⟩) n cp)))]), [(.o id, .ob (.pin e k (rows.set i (splice r f new)) (.slice (some ⟨b, 0, none⟩) n cp)))]⟩ := by
  rintro σ a w K Q ⟨g, nx, hs⟩ hrd hK
  have ho : get σ (.o id) = .ob (.pin e k rows (.slice (some ⟨b, 0, none⟩) n cp)) := hrd.right.right.1
  subst hq
  have hv := rep_v (hs.ev hx hrd.left).1
  obtain ⟨hav, hbd⟩ := hs.ev hy hrd.right.left
  obtain ⟨hidn, ⟨hgx, xs, h1, h2, h3, h4⟩, _⟩ := hs.objs id _ ho
  have hb : blk (g id) = some b := by rw [hgx]; rfl
  obtain ⟨c1, c2, c3⟩ := dcells_ok hs hav hc
  have hF := cx.hT t ti ht
  have hnn' : new.length = ti.n := by simpa using hnn
  have hil := (List.getElem?_eq_some_iff.1 hr).1
  have hrk := h3 r (List.mem_of_getElem? hr)
  have h5 : (i + 1) * k ≤ rows.length * k := Nat.mul_le_mul_right _ hil
  rw [Nat.add_mul, Nat.one_mul] at h5
  rcases h1.2 with ⟨_, h6⟩ | ⟨b', cap, cur, hv', hge, hh, hle', hcm, hsz, htk⟩
  · omega
  have hbb : b' = b := by rw [hv'] at hb; simpa [blk] using hb
  subst hbb
  generalize hX : a.eval y = X at hav c1 c2 c3
  have hlen : X.cells.toList.length = new.length := c1
  have hcap : rows.length * k ≤ cap * k := Nat.mul_le_mul_right _ hle'
  have hst := run_storeCells_at (P := cx.P) b' (i * k + f) e X.cells.toList 0 cur w hh (by rw [hlen]; omega) c2
  simp only [Nat.add_zero] at hst
  have hX' : X.cells.size = ti.n := by rw [← hnn', ← hlen]; simp
  have hrun : (Instr.storeAt t (.pointer (some ⟨b', i * k + f, none⟩)) X).run cx.P w = .ok () (w.setRow b' (splice cur.toList (i * k + f) X.cells.toList).toArray) := by
    simp [Instr.storeAt, Instr.sureAddr, storeVar, sizeOf_of hF w, hX', hst, splice]
  generalize hcs' : (splice cur.toList (i * k + f) X.cells.toList).toArray = cs' at hrun
  have hheap : (w.setRow b' cs').heap[b']? = some (.cells cs' e (0, 0)) := setRow_heap w b' cur cs' e (0, 0) hh
  have hle2 : i * k + f + X.cells.toList.length ≤ cur.toList.length := by rw [hlen]; simp; omega
  have hrows : (rows.set i (splice r f new)).length = rows.length := by simp
  have hOS : ObjStep cx σ g nx nx w (w.setRow b' cs') id (.pin e k (rows.set i (splice r f new)) (.slice (some ⟨b', 0, none⟩) n cp)) (g id) := by
    refine ⟨.inr ⟨rfl, .pin e k rows (.slice (some ⟨b', 0, none⟩) n cp), ho, trivial⟩, ⟨rfl, rfl, rfl, by simp, fun k hk => setRow_other w b' k cs' (by omega)⟩, fun b hb hne => setRow_other w b' b cs' (fun e => hne _ ho (by rw [hv', e]; rfl)), fun b hb => .inl ⟨_, ho, hb⟩⟩
  have hxs' : cs'.toList.take (rows.length * k) = splice xs (i * k + f) X.cells.toList := by
    subst hcs'
    apply List.ext_getElem?
    intro j
    have hxl : xs.length = rows.length * k := h1.1
    rw [List.getElem?_take]
    show (if j < rows.length * k then (splice cur.toList (i * k + f) X.cells.toList)[j]? else none) = _
    rw [splice_get hle2, splice_get (l := xs) (by rw [hxl, hlen]; omega)]
    by_cases hj : j < rows.length * k
    · rw [if_pos hj]
      split
      · rfl
      · rw [← htk, List.getElem?_take, if_pos hj]
    · rw [if_neg hj, if_neg (by rw [hlen]; omega), List.getElem?_eq_none (by omega)]
  have hG := SimG.obj hs hOS (fun hlat => ?_) trivial
  · unfold Oper.wp
    simp only [execOp, hv, hX, Sem.run_bind, hrun, Result.andThen_ok, Sem.run_pure, Oper.upon, Act.put]
    refine hK _ _ (Sim.eqv ⟨_, _, hG⟩ fun k => ?_)
    cases k with
    | s i => rw [objSt_s]; exact (get_cons_ne (by simp)).symm
    | o i =>
      by_cases hi : i = id
      · subst hi; rw [get_cons_same]; exact get_cons_same.symm
      · rw [objSt_o hi]; exact (get_cons_ne (by simpa using fun e => hi e.symm)).symm
    | nx => rw [objSt_nx]; exact hs.hnx.symm.trans (get_cons_ne (by simp)).symm
  · have hsl : (splice xs (i * k + f) X.cells.toList).length = xs.length := splice_len (by rw [h1.1, hlen]; omega)
    refine ⟨(upd_same _ _ _).trans hgx, splice xs (i * k + f) X.cells.toList, ⟨by rw [hsl, h1.1, hrows], .inr ⟨b', cap, cs', ?_, hge, hheap, by rw [hrows]; exact hle', hcm, ?_, by rw [hrows]; exact hxs'⟩⟩, fun x hx => ?_, fun r' hr' => ?_, fun i' j r' z x hi' hj hx => ?_⟩
    · rw [upd_same, hv', hrows]
    · subst hcs'; rw [← hsz]; simpa using splice_len hle2
    · obtain ⟨j, hj⟩ := List.getElem?_of_mem hx
      rw [splice_get (by rw [h1.1, hlen]; omega)] at hj
      split at hj
      · exact c2 x (List.mem_of_getElem? hj)
      · exact h2 x (List.mem_of_getElem? hj)
    · rcases List.mem_or_eq_of_mem_set hr' with h | h
      · exact h3 r' h
      · subst h; rw [splice_len hle, hrk]
    · have hjk : j < k := by
        have hm : r' ∈ rows.set i (splice r f new) := List.mem_of_getElem? hi'
        have : r'.length = k := by
          rcases List.mem_or_eq_of_mem_set hm with h | h
          · exact h3 r' h
          · subst h; rw [splice_len hle, hrk]
        rw [← this]; exact (List.getElem?_eq_some_iff.1 hj).1
      rw [splice_get (by rw [h1.1, hlen]; omega)] at hx
      by_cases hii : i = i'
      · subst hii
        rw [List.getElem?_set_self hil] at hi'
        cases hi'
        rw [splice_get hle] at hj
        by_cases hin : f ≤ j ∧ j < f + new.length
        · rw [if_pos hin] at hj
          rw [if_pos (by rw [hlen]; omega), show i * k + j - (i * k + f) = j - f by omega] at hx
          exact (c3 (j - f) x z hj hx).step hlat.ext hlat.own
        · rw [if_neg hin] at hj
          rw [if_neg (by rw [hlen]; omega)] at hx
          exact (h4 i j r z x hr hj hx).step hlat.ext hlat.own
      · rw [List.getElem?_set_ne hii] at hi'
        have hout : ¬ (i * k + f ≤ i' * k + j ∧ i' * k + j < i * k + f + X.cells.toList.length) := by
          rw [hlen]
          rcases Nat.lt_or_ge i' i with hlt | hge
          · have := Nat.mul_le_mul_right k hlt
            rw [Nat.succ_mul] at this
            omega
          · have := Nat.mul_le_mul_right k (show i + 1 ≤ i' by omega)
            rw [Nat.add_mul, Nat.one_mul] at this
            omega
        rw [if_neg hout] at hx
        exact (h4 i' j r' z x hi' hj hx).step hlat.ext hlat.own


theorem a_iav {t : TypeId} {x y : Operand} {b n cp k i : Nat} {kd : IntKind} {ti : TI} (hx : ev σ x = some (.d (.v (.slice (some ⟨b, 0, none⟩) n cp)))) (hy : ev σ y = some (.d (.v (.int kd (i : Int))))) (ht : tget cx.T t = some ti) (hk : slK ti = some k) (hd : Nat.blt d cx.n = true) (hi : i < n) :
    OA cx σ ⟨some d, .indexAddr t x y, ty, pos, af, gd⟩ ⟨rdOf x (.d (.v (.slice (some ⟨b, 0, none⟩) n cp))) ++ rdOf y (.d (.v (.int kd (i : Int)))), [(.s d, .av (.d (.v (.pointer (some ⟨b, i * k, none⟩)))))]⟩ :=
  ⟨ok_iav (lt_of_blt hd) (ev_out hx).1 (ev_out hy).1 ht hk hi, (ev_out hx).2.append (ev_out hy).2⟩
theorem a_fav {t : TypeId} {x : Operand} {b q : Nat} {ti : TI} {fl off : Nat} (hx : ev σ x = some (.d (.v (.pointer (some ⟨b, q, none⟩))))) (ht : tget cx.T t = some ti) (hf : fldOff ti fl = some off) (hd : Nat.blt d cx.n = true) :
    OA cx σ ⟨some d, .fieldAddr t x fl, ty, pos, af, gd⟩ ⟨rdOf x (.d (.v (.pointer (some ⟨b, q, none⟩)))), [(.s d, .av (.d (.v (.pointer (some ⟨b, q + off, none⟩)))))]⟩ :=
  ⟨ok_fav (lt_of_blt hd) (ev_out hx).1 ht hf, (ev_out hx).2⟩
theorem a_lpin {t : TypeId} {x : Operand} (id i f : Nat) {n e k b cp q : Nat} {rows : List (List D)} {r : List D} {ti : TI} {y : D} (hx : ev σ x = some (.d (.v (.pointer (some ⟨b, q, none⟩))))) (ho : get σ (.o id) = .ob (.pin e k rows (.slice (some ⟨b, 0, none⟩) n cp))) (ht : tget cx.T t = some ti)
    (hd : Nat.blt d cx.n = true) (hr : rows[i]? = some r) (hl : ldD ti (r.drop f) = some y) (hq : q = i * k + f) :
    OA cx σ ⟨some d, .load t x, ty, pos, af, gd⟩ ⟨rdOf x (.d (.v (.pointer (some ⟨b, q, none⟩)))) ++ [(.o id, .ob (.pin e k rows (.slice (some ⟨b, 0, none⟩) n cp)))], [(.s d, .av (.d y))]⟩ :=
  ⟨ok_load_pin (lt_of_blt hd) (ev_out hx).1 ht hq hr hl, (ev_out hx).2.append ⟨ho, trivial⟩⟩
theorem a_spin {t : TypeId} {x y : Operand} (id i f : Nat) {n e k b cp q : Nat} {rows : List (List D)} {r new : List D} {av : AV} {ti : TI} (hx : ev σ x = some (.d (.v (.pointer (some ⟨b, q, none⟩))))) (ho : get σ (.o id) = .ob (.pin e k rows (.slice (some ⟨b, 0, none⟩) n cp))) (hy : ev σ y = some av) (ht : tget cx.T t = some ti)
    (hc : dcells av = some new) (hnn : Nat.beq new.length ti.n = true) (hr : rows[i]? = some r) (hle : Nat.ble (f + new.length) r.length = true) (hq : q = i * k + f) :
    OA cx σ ⟨none, .store t x y, ty, pos, af, gd⟩ ⟨rdOf x (.d (.v (.pointer (some ⟨b, q, none⟩)))) ++ (rdOf y av ++ [(.o id, .ob (.pin e k rows (.slice (some ⟨b, 0, none⟩) n cp)))]), [(.o id, .ob (.pin e k (rows.set i (splice r f new)) (.slice (some ⟨b, 0, none⟩) n cp)))]⟩ :=
  ⟨ok_store_pin (ev_out hx).1 (ev_out hy).1 ht hc hq hr hnn (by simpa using hle), (ev_out hx).2.append ((ev_out hy).2.append ⟨ho, trivial⟩)⟩

/-- A slice with a known handle, handed on as data: it is ours no more. -/
theorem stut_freeze_pin {i id e k : Nat} {rows : List (List D)} {x : Value} : Stut cx ⟨[(.s i, .av (.d (.v x))), (.o id, .ob (.pin e k rows x))], [(.s i, .av (.d (.sl k rows))), (.o id, .none)]⟩ := by
  rintro σ a w hs hr
  have hs0 := hs
  obtain ⟨g, nx, hG⟩ := hs0
  have ho : get σ (.o id) = .ob (.pin e k rows x) := hr.2.1
  obtain ⟨_, ⟨hgx, hrows⟩, _⟩ := hG.objs id _ ho
  have hrows' : RowsAt w cx.w0.heap.size (cx.own g σ) e k (g id) rows := hrows
  have hv := rd_v (hG.slots i _ hr.1).1
  have h1 := hs.less (Less.drop hs id)
  obtain ⟨g2, nx2, hG2⟩ := h1
  have hl := Less.drop hs id
  have hlat : Later cx g g σ ((.o id, .none) :: σ) w w nx := by
    refine ⟨Ext.refl _ _, Below.refl _ _, fun b hb => ?_, fun j o' _ h => ⟨o', hl.o _ _ h, ?_⟩⟩
    · rcases hb with hb | ⟨j, o, h5, h6⟩
      · exact .inl (.inl hb)
      · exact .inl (.inr ⟨j, o, hl.o _ _ h5, h6⟩)
    · cases o' <;> simp [ObLe]
  have hG3 : SimG cx ((.o id, .none) :: σ) a w g nx :=
    hG.next hlat ((get_cons_ne (by simp)).trans hG.hnx) (Nat.le_refl _) hG.size hG.defers (Below.refl _ _) (fun j av hj => .inl ⟨hl.s _ _ hj, rfl⟩) (fun j o hj => .inl ⟨hl.o _ _ hj, rfl, fun _ _ => rfl⟩)
      (fun j j' o o' b h1 h2 => hG.sep j j' o o' b (hl.o _ _ h1) (hl.o _ _ h2))
  refine Sim.retell hG3 (av := .d (.sl k rows)) ?_ trivial
  show Rd w _ (a.tmps.getD i undef) (.sl k rows)
  rw [hv, ← hgx]
  refine hrows'.rd fun b hb => ?_
  rcases hb with h | ⟨j, o, h1, h2⟩
  · refine ⟨.inl h, fun hb => ?_⟩
    have h3 := obj_ge hG ho hb
    have h4 := hG.own0 b h
    omega
  · have hj : j ≠ id := fun e => by subst e; rw [get_cons_same] at h1; cases h1
    have h1' := hl.o _ _ h1
    exact ⟨.inr ⟨j, o, h1', h2⟩, fun hb => hj (hG.sep j id o _ b h1' ho h2 hb)⟩

end Go.AX

/-! G11 -/
/-
  Contract of the library's Insert, of one element of two cells.
-/
namespace Go.Proofs.Ytnhnnkljlglhbaa
open Go.AX Go.RF Go.RowKit Go.Shelf Go.Lib

theorem run_copy_k {P : Program} (w : World) (dT sT ty elem : TypeId) (k g o dLen dCap : Nat) (a : Addr) (sLen sCap q : Nat) (cur : Array Value) (t : TypeId) (cs : List Value)
    (hu : P.underlying dT = some (.slice elem)) (hs : (P.info? elem).map (·.size) = some k)
    (hg : w.heap[g]? = some (.cells cur t (0, 0))) (hq : Nat.min sLen dLen = q) (hn : cs.length = q * k)
    (hsrc : ∀ j v, cs[j]? = some v → w.cell? (a.add j) = some v) (hfit : o + cs.length ≤ cur.size) (h1 : ∀ v ∈ cs, v.oneCell' = true) :
    (Builtin.copy_ #[dT, sT] ty #[.slice (some ⟨g, o, none⟩) dLen dCap, .slice (some a) sLen sCap]).run P w =
      .ok (goInt q) (w.setRow g (cur.toList.take o ++ cs ++ cur.toList.drop (o + cs.length)).toArray) := by
  have hl := run_loadCells_list (P := P) w a cs hsrc
  have hst := run_storeCells_at P g o t cs 0 cur w hg (by simpa using hfit) h1
  cases hq' : P.info? elem with
  | none => simp [hq'] at hs
  | some i =>
    have hi : i.size = k := by simpa [hq'] using hs
    simp [Builtin.copy_, run_underlying hu, Builtin.lenOf, Builtin.firstCells, sizeOf, typeInfo, hq', hi, hq, ← hn, hl, hst]

theorem run_overlaps_b {P : Program} (w : World) (tS tR e : TypeId) (ht : P.underlying tS = some (.slice e)) (size : Nat) (hz : ∀ w, (Go.sizeOf e).run P w = .ok size w)
    (a b : Addr) (la ca lb cb : Nat) (hne : a.block ≠ b.block) (tA tB : TypeId) (kA kB : Nat)
    (hsa : w.shape? a.block = some (tA, kA + 1)) (hsb : w.shape? b.block = some (tB, kB + 1)) (hfb : w.frozen? b = false) (hfe : w.frozen? { block := b.block, off := kB + 1 } = false) :
    (Extern.SlicesOverlaps.overlaps #[tS, tS] #[tR] #[.slice (some a) la ca, .slice (some b) lb cb]).run P w = .ok (.bool false) w := by
  have hnb : (a.block != b.block) = true := by simpa using hne
  have hnb' : (a.block == b.block) = false := by simpa using hne
  change Sem.run P (α := Value) (do
    let some t := (#[tS, tS] : Array TypeId)[0]? | stuck "slices.overlaps: no parameter types"
    let .slice elem ← underlying t | stuck "slices.overlaps: slice type expected"
    let size ← sizeOf elem
    match (some a : Option Addr), (some b : Option Addr) with
    | some a, some b =>
      if la = 0 ∨ lb = 0 ∨ size = 0 then pure (Value.bool false)
      else if a.block != b.block && (← frozen a) && (← frozen b) then unsupported .addressObserved
      else do
        if a.block != b.block then do
          noView a; noView b
          if ← mayBeOne a b then return Value.bool ((← choose (.extern "sameAddr.stringBytes" 2)) == 1)
        pure (Value.bool (a.block == b.block && a.off < b.off + lb * size && b.off < a.off + la * size))
    | _, _ => pure (Value.bool false)) w = _
  by_cases h0 : la = 0 ∨ lb = 0 ∨ size = 0
  · simp [run_underlying ht, hz, h0]
  · cases hfa : w.frozen? a <;> cases hfa2 : w.frozen? { block := a.block, off := kA + 1 } <;>
      simp [run_underlying ht, hz, h0, hnb, hnb', frozen, noView, viewAt, mayBeOne, stringish, shape, Sem.run, hsa, hsb, hfb, hfe, hfa, hfa2]

theorem alloc_new_at (w : World) (o : Obj) : (w.alloc o).heap[w.heap.size]? = some o := heap_alloc_new w o

theorem flat_len {n k : Nat} {l : List Value} (h : n * k ≤ l.length) : (l.take (n * k)).length = n * k := by simp; omega

/-- What Insert leaves in a row: the pieces. -/
theorem room_cells {cur : List Value} {n i : Nat} {c0 c1 : Value} (hi : i < n) (hl : (n + 1) * 2 ≤ cur.length) :
    let mid := cur.take ((i + 1) * 2) ++ (cur.drop (i * 2)).take ((n - i) * 2) ++ cur.drop ((i + 1) * 2 + (n - i) * 2)
    (mid.take (i * 2) ++ [c0, c1] ++ mid.drop (i * 2 + 2)).take ((n + 1) * 2) = (cur.take (n * 2)).take (i * 2) ++ [c0, c1] ++ (cur.take (n * 2)).drop (i * 2) := by
  intro mid
  have hm : mid = cur.take ((i + 1) * 2) ++ (cur.drop (i * 2)).take ((n - i) * 2) ++ cur.drop ((i + 1) * 2 + (n - i) * 2) := rfl
  have hml : mid.length = cur.length := by rw [hm]; simp; omega
  have h1 : (cur.take ((i + 1) * 2)).length = (i + 1) * 2 := by simp; omega
  have h2 : ((cur.drop (i * 2)).take ((n - i) * 2)).length = (n - i) * 2 := by simp; omega
  have e1 : mid.take (i * 2) = cur.take (i * 2) := by
    rw [hm, List.append_assoc, List.take_append_of_le_length (by rw [h1]; omega), List.take_take, Nat.min_eq_left (by omega)]
  have e2 : mid.drop (i * 2 + 2) = (cur.drop (i * 2)).take ((n - i) * 2) ++ cur.drop ((i + 1) * 2 + (n - i) * 2) := by
    rw [hm, List.append_assoc, List.drop_append_of_le_length (by rw [h1]; omega), List.drop_eq_nil_of_le (by rw [h1]; omega), List.nil_append]
  rw [e1, e2, List.take_take, Nat.min_eq_left (show i * 2 ≤ n * 2 by omega), List.drop_take]
  have h3 : (cur.take (i * 2)).length = i * 2 := by simp; omega
  rw [List.take_append, List.take_of_length_le (by simp; omega)]
  congr 1
  rw [List.take_append_of_le_length (by simp; omega), List.take_of_length_le (by simp; omega)]
  congr 1
  omega

theorem shape_of {w : World} {ad : Addr} {c : Value} (h : w.cell? (ad.add 0) = some c) : ∃ t k, w.shape? ad.block = some (t, k + 1) := by
  rw [AX.add_zero] at h
  unfold World.cell? at h
  unfold World.shape?
  split at h
  · next cs e fr hh =>
    split at h
    · cases h
    · have := (Array.getElem?_eq_some_iff.1 h).1
      exact ⟨e, cs.size - 1, by simp; omega⟩
  · cases h

set_option maxHeartbeats 4000000 in
set_option maxRecDepth 100000 in
theorem insert_room (g n cap i : Nat) (ad : Addr) (cp : Nat) (w : World) (cur : Array Value) (c0 c1 : Value) (hg : w.heap[g]? = some (.cells cur 45 (0, 0))) (hsz : cur.size = cap * 2) (hi : i < n) (hn : n ≤ 268435456) (hc : n + 1 ≤ cap) (hcm : cap ≤ maxLen)
    (had : ad.block ≠ g) (h0 : w.cell? (ad.add 0) = some c0) (h1 : w.cell? (ad.add 1) = some c1) (hone : ∀ v ∈ cur.toList.take (n * 2), v.oneCell' = true) (hc0 : c0.oneCell' = true) (hc1 : c1.oneCell' = true) :
    Calls Try.prog 28 #[.slice (some ⟨g, 0, none⟩) n cap, .int .i64 (i : Int), .slice (some ad) 1 cp] w fun e w' =>
      e = .returned (.slice (some ⟨g, 0, none⟩) (n + 1) cap) ∧ ∃ m1 cs', w' = (w.drew.setRow g m1).setRow g cs' ∧ cs'.size = cap * 2 ∧ cs'.toList.take ((n + 1) * 2) = (cur.toList.take (n * 2)).take (i * 2) ++ [c0, c1] ++ (cur.toList.take (n * 2)).drop (i * 2) := by
  have mixed := mixed_ok
  have hz1 : ¬ ((1 : Int) = 0) := by omega
  have hz2 : ¬ ((i : Int) = (n : Int)) := by omega
  have hz3 : ¬ ((cap : Int) < (n : Int) + 1) := by omega
  have hb2 : ¬ (cap = i + 1) := by omega
  have hb4 : ¬ (cap = i) := by omega
  have hin : i ≤ n := by omega
  have hw1 : IntKind.i64.wrap ((i : Int) + 1) = (i : Int) + 1 := by rw [IntKind.wrap_i64]; omega
  have hb1 : (0 : Int) ≤ (i : Int) + 1 := by omega
  have htn : ((i : Int) + 1).toNat = i + 1 := by omega
  have hb3 : (i : Int) ≤ (n : Int) + 1 := by omega
  have hov : ∀ lb cb, (callFunc 33 #[.slice (some ad) 1 cp, .slice (some ⟨g, (i + 1) * 2, none⟩) lb cb]).run Try.prog w = .ok (.value (.bool false)) w := fun lb cb => by
    obtain ⟨tA, kA, hsa⟩ := shape_of h0
    have hsb : w.shape? g = some (45, (cap * 2 - 1) + 1) := by
      simp [World.shape?, hg, hsz]; omega
    rw [run_callFunc_extern Try.func33 (by kernel_rfl) (by kernel_rfl) (by kernel_rfl) (e := Extern.SlicesOverlaps.overlaps #[22, 22] #[4]) (by kernel_rfl),
      run_overlaps_b w 22 4 45 Try.underlying22 2 Try.sizeOf45 ad ⟨g, (i + 1) * 2, none⟩ 1 cp lb cb had tA 45 kA (cap * 2 - 1) hsa hsb (by simp [World.frozen?, hg]) (by simp [World.frozen?, hg])]
    rfl
  have hin2 : (Try.prog.info? 45).map (·.size) = some 2 := by kernel_rfl
  have hT : Try.prog.underlying 22 = some (.slice 45) := Try.underlying22
  have hcl : (n + 1) * 2 ≤ cur.size := by rw [hsz]; exact Nat.mul_le_mul_right 2 hc
  have hgd : w.drew.heap[g]? = some (.cells cur 45 (0, 0)) := hg
  have htl : ((cur.toList.drop (i * 2)).take ((n - i) * 2)).length = (n - i) * 2 := by simp; omega
  have hcp1 : ∀ ty dc sc, (Builtin.copy_ #[22, 22] ty #[.slice (some ⟨g, (i + 1) * 2, none⟩) (n - i) dc, .slice (some ⟨g, i * 2, none⟩) (n + 1 - i) sc]).run Try.prog w.drew =
      .ok (goInt (n - i : Nat)) (w.drew.setRow g (cur.toList.take ((i + 1) * 2) ++ (cur.toList.drop (i * 2)).take ((n - i) * 2) ++ cur.toList.drop ((i + 1) * 2 + (n - i) * 2)).toArray) := fun ty dc sc => by
    have h := run_copy_k (P := Try.prog) w.drew 22 22 ty 45 2 g ((i + 1) * 2) (n - i) dc ⟨g, i * 2, none⟩ (n + 1 - i) sc (n - i) cur 45 ((cur.toList.drop (i * 2)).take ((n - i) * 2)) hT hin2 hgd
      (Nat.min_eq_right (by omega)) htl (fun j v hj => by
        rw [List.getElem?_take] at hj
        split at hj
        · rw [List.getElem?_drop] at hj
          rw [Addr.add_lit]
          simp [World.cell?, hgd]
          simpa using hj
        · cases hj) (by rw [htl]; omega) (fun v hv => ?_)
    · rw [htl] at h
      exact h
    · obtain ⟨j, hj⟩ := List.getElem?_of_mem hv
      rw [List.getElem?_take] at hj
      split at hj
      · rw [List.getElem?_drop] at hj
        refine hone v (List.mem_of_getElem? (i := i * 2 + j) ?_)
        rw [List.getElem?_take, if_pos (by omega)]; exact hj
      · cases hj
  generalize hmid : cur.toList.take ((i + 1) * 2) ++ (cur.toList.drop (i * 2)).take ((n - i) * 2) ++ cur.toList.drop ((i + 1) * 2 + (n - i) * 2) = mid at hcp1
  have hml : mid.length = cur.size := by rw [← hmid]; simp; omega
  have hg1 : (w.drew.setRow g mid.toArray).heap[g]? = some (.cells mid.toArray 45 (0, 0)) := setRow_heap _ _ _ _ _ _ hgd
  have hadc : ∀ j v, [c0, c1][j]? = some v → (w.drew.setRow g mid.toArray).cell? (ad.add j) = some v := fun j v hj => by
    have hk : ∀ q, (w.drew.setRow g mid.toArray).cell? (ad.add q) = w.cell? (ad.add q) := fun q => by
      have hb : (ad.add q).block = ad.block := add_block ad q
      simp only [World.cell?, hb]
      rw [setRow_other _ _ _ _ had]
      rfl
    match j, hj with
    | 0, hj => simp at hj; subst hj; rw [hk]; exact h0
    | 1, hj => simp at hj; subst hj; rw [hk]; exact h1
  have hcp2 : ∀ ty dc, (Builtin.copy_ #[22, 22] ty #[.slice (some ⟨g, i * 2, none⟩) (n + 1 - i) dc, .slice (some ad) 1 cp]).run Try.prog (w.drew.setRow g mid.toArray) =
      .ok (goInt (1 : Nat)) ((w.drew.setRow g mid.toArray).setRow g (mid.take (i * 2) ++ [c0, c1] ++ mid.drop (i * 2 + 2)).toArray) := fun ty dc => by
    have h := run_copy_k (P := Try.prog) (w.drew.setRow g mid.toArray) 22 22 ty 45 2 g (i * 2) (n + 1 - i) dc ad 1 cp 1 mid.toArray 45 [c0, c1] hT hin2 hg1
      (Nat.min_eq_left (by omega)) rfl hadc (by simp; omega) (by simp [hc0, hc1])
    simpa using h
  go_enter Try.func28, Try.ntmps28
  go_wp2_with (simp only [hov])
  go_region_law_o (refine step_copy_runI rfl _ _ 22 22 rfl _ _ (by simp [Act.eval, Act.put]) (by simp [Act.eval, Act.put]) (hcp1 _ _ _) ?_)
  go_wp2_with (at_builtin; refine wpList_copy_runI _ rfl _ _ 22 22 rfl _ _ rfl rfl (hcp2 _ _) ?_)
  go_ret
  refine ⟨rfl, _, _, rfl, by simp; omega, ?_⟩
  have := room_cells (cur := cur.toList) (n := n) (i := i) (c0 := c0) (c1 := c1) hi (by simpa using hcl)
  rw [hmid] at this
  simpa using this

/-- What Insert leaves in a new row. -/
theorem grow_cells {xs zs : List Value} {n i : Nat} {c0 c1 : Value} (hi : i < n) (hl : xs.length = n * 2) (hz : (n + 1 - i) * 2 ≤ zs.length) :
    let row := xs.take (i * 2) ++ zs
    let mid := row.take (i * 2) ++ [c0, c1] ++ row.drop (i * 2 + 2)
    (mid.take ((i + 1) * 2) ++ xs.drop (i * 2) ++ mid.drop ((i + 1) * 2 + (n - i) * 2)).take ((n + 1) * 2) = xs.take (i * 2) ++ [c0, c1] ++ xs.drop (i * 2) := by
  intro row mid
  have h3 : (xs.take (i * 2)).length = i * 2 := by simp; omega
  have hr : row.take (i * 2) = xs.take (i * 2) := by
    show (xs.take (i * 2) ++ zs).take (i * 2) = _
    rw [List.take_append_of_le_length (by omega), List.take_of_length_le (by omega)]
  have hm : mid.take ((i + 1) * 2) = xs.take (i * 2) ++ [c0, c1] := by
    show (row.take (i * 2) ++ [c0, c1] ++ row.drop (i * 2 + 2)).take ((i + 1) * 2) = _
    rw [hr, List.take_append_of_le_length (by simp; omega), List.take_of_length_le (by simp; omega)]
  rw [hm, List.take_append_of_le_length (by simp; omega), List.take_of_length_le (by simp; omega)]

set_option maxHeartbeats 4000000 in
set_option maxRecDepth 100000 in
theorem insert_grow (g n cap i : Nat) (ad : Addr) (cp : Nat) (w : World) (cur : Array Value) (c0 c1 : Value) (hg : w.heap[g]? = some (.cells cur 45 (0, 0))) (hsz : cur.size = cap * 2) (hi : i < n) (hn : n ≤ 268435456) (hnc : n ≤ cap) (hc : cap < n + 1) (hcm : cap ≤ maxLen)
    (hadw : ad.block < w.heap.size) (h0 : w.cell? (ad.add 0) = some c0) (h1 : w.cell? (ad.add 1) = some c1) (hone : ∀ v ∈ cur.toList.take (n * 2), v.oneCell' = true) (hc0 : c0.oneCell' = true) (hc1 : c1.oneCell' = true) :
    Calls Try.prog 28 #[.slice (some ⟨g, 0, none⟩) n cap, .int .i64 (i : Int), .slice (some ad) 1 cp] w fun e w' =>
      ∃ G, e = .returned (.slice (some ⟨w.heap.size, 0, none⟩) (n + 1) G) ∧ n + 1 ≤ G ∧ G ≤ maxLen ∧ Below w.heap.size w w' ∧ ∃ cs', w'.heap[w.heap.size]? = some (.cells cs' 45 (0, 0)) ∧ cs'.size = G * 2 ∧
        cs'.toList.take ((n + 1) * 2) = (cur.toList.take (n * 2)).take (i * 2) ++ [c0, c1] ++ (cur.toList.take (n * 2)).drop (i * 2) := by
  have mixed := mixed_ok
  have hz1 : ¬ ((1 : Int) = 0) := by omega
  have hz2 : ¬ ((i : Int) = (n : Int)) := by omega
  have hz3 : (cap : Int) < (n : Int) + 1 := by omega
  have hin : i ≤ n := by omega
  have hw1 : IntKind.i64.wrap ((i : Int) + 1) = (i : Int) + 1 := by rw [IntKind.wrap_i64]; omega
  have hb1 : (0 : Int) ≤ (i : Int) + 1 := by omega
  have htn : ((i : Int) + 1).toNat = i + 1 := by omega
  have hb3 : (i : Int) ≤ (n : Int) := by omega
  have hci : ¬ (cap = i) := by omega
  have hin2 : (Try.prog.info? 45).map (·.size) = some 2 := by kernel_rfl
  have hT : Try.prog.underlying 22 = some (.slice 45) := Try.underlying22
  have hcl : n * 2 ≤ cur.size := by rw [hsz]; exact Nat.mul_le_mul_right 2 hnc
  have hgw : g < w.heap.size := by
    rcases Nat.lt_or_ge g w.heap.size with h | h
    · exact h
    · rw [Array.getElem?_eq_none h] at hg; cases hg
  generalize hxs : cur.toList.take (n * 2) = xs at hone
  have hxl : xs.length = n * 2 := by rw [← hxs]; simp; omega
  have hcell : ∀ (W : World), W.heap[g]? = w.heap[g]? → ∀ j v, xs[j]? = some v → W.cell? ⟨g, j, none⟩ = some v := fun W hW j v hj => by
    rw [← hxs, List.getElem?_take] at hj
    split at hj
    · simp [World.cell?, hW, hg]
      simpa using hj
    · cases hj
  have htb : ∃ ti, tget tbl 45 = some ti ∧ ti.n = 2 ∧ ti.bytes = 40 ∧ ti.zero = [.string ⟨#[]⟩, .slice none 0 0] := ⟨_, rfl, rfl, rfl, rfl⟩
  obtain ⟨ti, ht1, ht2, ht3, ht4⟩ := htb
  obtain ⟨i0, hi0, hzs, hzb, z, hz0, hzc⟩ := (tbl_ok _ _ ht1).info
  rw [ht2] at hzs
  rw [ht3] at hzb
  rw [ht4] at hzc
  have hzz : z.cells.size = 2 := by rw [← Array.length_toList, hzc]; rfl
  have hold : (Builtin.firstCells i0.size i (.slice (some ⟨g, 0, none⟩) i cap)).run Try.prog w.drew = .ok (xs.take (i * 2)).toArray w.drew := by
    rw [hzs]
    exact run_firstCells_some w.drew 2 i ⟨g, 0, none⟩ i cap (xs.take (i * 2)) (by rw [List.length_take]; omega) (fun j v hj => by
      rw [Addr.add_lit, Nat.zero_add]
      rw [List.getElem?_take] at hj
      split at hj
      · exact hcell w.drew rfl j v hj
      · cases hj)
  obtain ⟨G, hG⟩ : ∃ G, G = grownCap w (n + 1) cap 45 := ⟨_, rfl⟩
  have hGn : n + 1 ≤ G := by rw [hG]; exact grownCap_ge w _ _ _
  have hGm : G ≤ maxLen := by rw [hG]; exact grownCap_le_maxLen w (n + 1) cap 45 (by unfold maxLen; omega)
  have hG63 : G ≤ 9223372036854775807 := by unfold maxLen at hGm; omega
  obtain ⟨zs, hzs2⟩ : ∃ zs : Array Value, zs = Builtin.zeroCells z.cells (n + 1 - i) ++ Builtin.zeroCells z.cells (G - (n + 1)) := ⟨_, rfl⟩
  have hzl : zs.size = (G - i) * 2 := by rw [hzs2]; simp [size_zeroCells, hzz]; omega
  obtain ⟨ROW, hROW⟩ : ∃ ROW : Array Value, ROW = (xs.take (i * 2)).toArray ++ zs := ⟨_, rfl⟩
  have hRl : ROW.size = G * 2 := by rw [hROW]; simp [hzl]; omega
  have hrz : ∀ ty, (Builtin.append_ #[22, 3] ty #[.slice (some ⟨g, 0, none⟩) i cap, .int .i64 ((n : Int) + 1 - (i : Int))]).run Try.prog w =
      .ok (.slice (some ⟨w.heap.size, 0, none⟩) (n + 1) G) (w.drew.alloc (.cells ROW 45)) := fun ty => by
    have h := Lib.run_append_grow_zeros (P := Try.prog) w 22 3 ty 45 i0 z .i64 .i64 hT Try.underlying3 hi0 hz0 (some ⟨g, 0, none⟩) i cap (xs.take (i * 2)) hold (n + 1 - i) (by omega) (by omega) (by omega) (by omega) (by rw [hzb]; omega)
      (by rw [hzb, show i + (n + 1 - i) = n + 1 by omega]; exact growslice_fits hc (by omega))
    rw [show i + (n + 1 - i) = n + 1 by omega, ← hG, Array.append_assoc, ← hzs2, ← hROW] at h
    rw [show (n : Int) + 1 - (i : Int) = ((n + 1 - i : Nat) : Int) by omega]
    exact h
  have hGi : ¬ (G = i) := by omega
  have hGim : ¬ (G = i + 1) := by omega
  have hgs : ¬ w.heap.size = g := by omega
  obtain ⟨mid, hmid⟩ : ∃ mid : List Value, mid = ROW.toList.take (i * 2) ++ [c0, c1] ++ ROW.toList.drop (i * 2 + 2) := ⟨_, rfl⟩
  have hml : mid.length = G * 2 := by rw [hmid]; simp; omega
  obtain ⟨fin, hfin⟩ : ∃ fin : List Value, fin = mid.take ((i + 1) * 2) ++ xs.drop (i * 2) ++ mid.drop ((i + 1) * 2 + (n - i) * 2) := ⟨_, rfl⟩
  have hfl : fin.length = G * 2 := by rw [hfin]; simp; omega
  have hN : (w.alloc (.cells ROW 45)).heap[w.heap.size]? = some (.cells ROW 45 (0, 0)) := alloc_new_at w _
  have hadc : ∀ (W : World), W.heap = (w.alloc (.cells ROW 45)).heap → ∀ j v, [c0, c1][j]? = some v → W.cell? (ad.add j) = some v := fun W hW j v hj => by
    have hk : ∀ q, W.cell? (ad.add q) = w.cell? (ad.add q) := fun q => by
      have hb : (ad.add q).block = ad.block := add_block ad q
      simp only [World.cell?, hb, hW]
      rw [Below.heap_alloc w _ _ hadw]
    match j, hj with
    | 0, hj => simp at hj; subst hj; rw [hk]; exact h0
    | 1, hj => simp at hj; subst hj; rw [hk]; exact h1
  have hcpA : ∀ (W : World), W.heap = (w.alloc (.cells ROW 45)).heap → ∀ ty dc, (Builtin.copy_ #[22, 22] ty #[.slice (some ⟨w.heap.size, i * 2, none⟩) (n + 1 - i) dc, .slice (some ad) 1 cp]).run Try.prog W =
      .ok (goInt (1 : Nat)) (W.setRow w.heap.size mid.toArray) := fun W hW ty dc => by
    have h := run_copy_k (P := Try.prog) W 22 22 ty 45 2 w.heap.size (i * 2) (n + 1 - i) dc ad 1 cp 1 ROW 45 [c0, c1] hT hin2 (by rw [hW]; exact hN)
      (Nat.min_eq_left (by omega)) rfl (hadc W hW) (by simp; omega) (by simp [hc0, hc1])
    rw [hmid]
    simpa using h
  have hdl : (xs.drop (i * 2)).length = (n - i) * 2 := by rw [List.length_drop, hxl]; omega
  have hcpB : ∀ (W : World), W.heap[w.heap.size]? = some (.cells mid.toArray 45 (0, 0)) → W.heap[g]? = w.heap[g]? → ∀ ty dc sc, (Builtin.copy_ #[22, 22] ty #[.slice (some ⟨w.heap.size, (i + 1) * 2, none⟩) (n - i) dc, .slice (some ⟨g, i * 2, none⟩) (n - i) sc]).run Try.prog W =
      .ok (goInt (n - i : Nat)) (W.setRow w.heap.size fin.toArray) := fun W hW hWg ty dc sc => by
    have h := run_copy_k (P := Try.prog) W 22 22 ty 45 2 w.heap.size ((i + 1) * 2) (n - i) dc ⟨g, i * 2, none⟩ (n - i) sc (n - i) mid.toArray 45 (xs.drop (i * 2)) hT hin2 hW
      (Nat.min_self _) hdl (fun j v hj => by
        rw [Addr.add_lit]
        rw [List.getElem?_drop] at hj
        exact hcell W hWg _ v hj) (by rw [hdl]; simp; omega) (fun v hv => hone v (List.mem_of_mem_drop hv))
    rw [hdl] at h
    rw [hfin]
    simpa using h
  have hE : ((w.alloc (.cells ROW 45)).drew).heap = (w.alloc (.cells ROW 45)).heap := rfl
  have hB1 : ∀ (W : World), W.heap = (w.alloc (.cells ROW 45)).heap → (W.setRow w.heap.size mid.toArray).drew.heap[w.heap.size]? = some (.cells mid.toArray 45 (0, 0)) := fun W hW => setRow_heap W _ _ _ _ _ (by rw [hW]; exact hN)
  have hB2 : ∀ (W : World), W.heap = (w.alloc (.cells ROW 45)).heap → (W.setRow w.heap.size mid.toArray).drew.heap[g]? = w.heap[g]? := fun W hW => by
    show (W.setRow w.heap.size mid.toArray).heap[g]? = _
    rw [setRow_other _ _ _ _ (by omega), hW]
    exact Below.heap_alloc w _ _ hgw
  have hlast : fin.take ((n + 1) * 2) = xs.take (i * 2) ++ [c0, c1] ++ xs.drop (i * 2) := by
    have h := grow_cells (xs := xs) (zs := zs.toList) (n := n) (i := i) (c0 := c0) (c1 := c1) hi hxl (by rw [Array.length_toList, hzl]; exact Nat.mul_le_mul_right 2 (by omega))
    rw [hfin, hmid, hROW]
    simpa using h
  clear hzs2 hROW hmid hfin hG
  go_enter Try.func28, Try.ntmps28
  go_wp2_with (first
    | (at_builtin; refine Lib.wpList_append_run _ rfl _ _ _ _ rfl _ _ rfl rfl _ _ (hrz _) ?_)
    | (at_builtin; refine wpList_copy_runI _ rfl _ _ 22 22 rfl _ _ rfl rfl (hcpA _ rfl _ _) ?_))
  go_region_law_o (refine step_copy_runI rfl _ _ 22 22 rfl (.slice (some ⟨w.heap.size, (i + 1) * 2, none⟩) (n - i) (G - (i + 1))) (.slice (some ⟨g, i * 2, none⟩) (n - i) (cap - i)) (by simp [Act.eval, Act.put]) (by simp [Act.eval, Act.put]) (hcpB ((w.alloc (.cells ROW 45)).drew.setRow w.heap.size mid.toArray).drew (hB1 _ hE) (hB2 _ hE) _ _ _) ?_)
  go_wp2
  go_ret
  refine ⟨G, rfl, hGn, hGm, ⟨rfl, rfl, rfl, by simp [setRow_size], fun k hk => ?_⟩, fin.toArray, setRow_heap _ _ _ _ _ _ (hB1 _ hE), by simp [hfl], by simpa using hlast⟩
  rw [setRow_other _ _ _ _ (by omega)]
  show ((w.alloc (.cells ROW 45)).drew.setRow w.heap.size mid.toArray).heap[k]? = _
  rw [setRow_other _ _ _ _ (by omega)]
  exact Below.heap_alloc w _ _ hk

set_option maxHeartbeats 4000000 in
set_option maxRecDepth 100000 in
theorem insert_end (v : Value) (n : Nat) (xs : List Value) (ad : Addr) (cp : Nat) (w : World) (c0 c1 : Value) (hown : w.ownsRow 0 45 2 v n xs) (hn : n ≤ 268435456)
    (h0 : w.cell? (ad.add 0) = some c0) (h1 : w.cell? (ad.add 1) = some c1) (hc0 : c0.oneCell' = true) (hc1 : c1.oneCell' = true) :
    Calls Try.prog 28 #[v, .int .i64 (n : Int), .slice (some ad) 1 cp] w fun e w' =>
      ∃ v', e = .returned v' ∧ w'.ownsRow 0 45 2 v' (n + 1) (xs ++ [c0, c1]) ∧ w.grownBy w' v.ownBlock ∧ (v'.ownBlock = v.ownBlock ∨ v'.ownBlock = some w.heap.size) := by
  have mixed := mixed_ok
  have hz1 : ¬ ((1 : Int) = 0) := by omega
  have hT : Try.prog.underlying 22 = some (.slice 45) := Try.underlying22
  have htb : ∃ ti, tget tbl 45 = some ti ∧ ti.n = 2 ∧ ti.bytes = 40 ∧ ti.zero = [.string ⟨#[]⟩, .slice none 0 0] := ⟨_, rfl, rfl, rfl, rfl⟩
  obtain ⟨ti, ht1, ht2, ht3, ht4⟩ := htb
  obtain ⟨i0, hi0, hzs, hzb, z, hz0, hzc⟩ := (tbl_ok _ _ ht1).info
  rw [ht2] at hzs
  rw [ht3] at hzb
  rw [ht4] at hzc
  have hzz : z.cells.size = 2 := by rw [← Array.length_toList, hzc]; rfl
  have hnews : ∀ j u, [c0, c1][j]? = some u → w.cell? (ad.add j) = some u := fun j u hj => by
    match j, hj with
    | 0, hj => simp at hj; subst hj; exact h0
    | 1, hj => simp at hj; subst hj; exact h1
  have hone : ∀ u ∈ [c0, c1], u.oneCell' = true := by simp [hc0, hc1]
  obtain ⟨R, hR⟩ : ∃ R : Value → World → Prop, R = fun v' w' => w'.ownsRow 0 45 2 v' (n + 1) (xs ++ [c0, c1]) ∧ w.grownBy w' v.ownBlock ∧ (v'.ownBlock = v.ownBlock ∨ v'.ownBlock = some w.heap.size) := ⟨_, rfl⟩
  have hmk : ∀ v' w', w'.ownsRow 0 45 2 v' (n + 1) (xs ++ [c0, c1]) → w.grownBy w' v.ownBlock → (v'.ownBlock = v.ownBlock ∨ v'.ownBlock = some w.heap.size) → R v' w' := fun v' w' a b c => by rw [hR]; exact ⟨a, b, c⟩
  suffices h : Calls Try.prog 28 #[v, .int .i64 (n : Int), .slice (some ad) 1 cp] w fun e w' => ∃ v', e = .returned v' ∧ R v' w' by
    refine h.mono fun e w' => ?_
    rintro ⟨v', a, b⟩
    rw [hR] at b
    exact ⟨v', a, b⟩
  clear hR
  have hb : n + 1 ≤ maxLen := by unfold maxLen; omega
  have hv : (v = .slice none 0 0 ∧ n = 0) ∨ ∃ g cap, v = .slice (some ⟨g, 0, none⟩) n cap ∧ n ≤ cap := by
    rcases hown.2 with h | ⟨g, cap, cur, e, _, _, h, _⟩
    · exact .inl h
    · exact .inr ⟨g, cap, e, h⟩
  rcases hv with ⟨rfl, rfl⟩ | ⟨g, cap, rfl, hnc⟩
  · go_enter Try.func28, Try.ntmps28
    go_wp2_with (at_builtin; refine wpList_append_own_at _ rfl _ _ 22 rfl 0 45 i0 z 2 40 hT hi0 hz0 hzs hzb hzz (by decide) (.slice none 0 0) 0 xs rfl hown ad 1 cp [c0, c1] rfl rfl hnews hone hb (by omega) (Nat.zero_le _) (fun v' w' q1 q2 _ q4 => ?_))
    go_ret
    exact ⟨_, rfl, hmk _ _ q1 q2 q4⟩
  · go_enter Try.func28, Try.ntmps28
    go_wp2_with (at_builtin; refine wpList_append_own_at _ rfl _ _ 22 rfl 0 45 i0 z 2 40 hT hi0 hz0 hzs hzb hzz (by decide) (.slice (some ⟨g, 0, none⟩) n cap) n xs rfl hown ad 1 cp [c0, c1] rfl rfl hnews hone hb (by omega) (Nat.zero_le _) (fun v' w' q1 q2 _ q4 => ?_))
    all_goals
      go_ret
      exact ⟨_, rfl, hmk _ _ q1 q2 q4⟩

end Go.Proofs.Ytnhnnkljlglhbaa

/-! AxIns -/
/-
  What Insert leaves, as rows of data.
-/
namespace Go.AX
open Go.RowKit

theorem getElem?_ins {α : Type} {l : List α} {m : Nat} {x : α} (hm : m ≤ l.length) (i : Nat) :
    (l.take m ++ x :: l.drop m)[i]? = if i < m then l[i]? else if i = m then some x else l[i - 1]? := by
  have hl : (l.take m).length = m := by simp; omega
  by_cases h1 : i < m
  · rw [if_pos h1, List.getElem?_append_left (by omega), List.getElem?_take, if_pos h1]
  · rw [if_neg h1, List.getElem?_append_right (by omega), hl]
    by_cases h2 : i = m
    · subst h2; simp
    · rw [if_neg h2]
      obtain ⟨j, rfl⟩ : ∃ j, i = m + (j + 1) := ⟨i - m - 1, by omega⟩
      rw [show m + (j + 1) - m = j + 1 by omega, List.getElem?_cons_succ, List.getElem?_drop]
      congr 1
theorem getElem?_ins2 {α : Type} {l : List α} {m n : Nat} {a b : α} (hl : l.length = n * 2) (hm : m ≤ n) (i j : Nat) (hj : j < 2) :
    (l.take (m * 2) ++ [a, b] ++ l.drop (m * 2))[i * 2 + j]? = if i < m then l[i * 2 + j]? else if i = m then [a, b][j]? else l[(i - 1) * 2 + j]? := by
  have hm2 : m * 2 ≤ n * 2 := Nat.mul_le_mul_right 2 hm
  have h1 : (l.take (m * 2)).length = m * 2 := by simp; omega
  rw [List.append_assoc]
  by_cases hi : i < m
  · have : (i + 1) * 2 ≤ m * 2 := Nat.mul_le_mul_right 2 hi
    rw [if_pos hi, List.getElem?_append_left (by omega), List.getElem?_take, if_pos (by omega)]
  · rw [if_neg hi, List.getElem?_append_right (by omega), h1]
    by_cases he : i = m
    · subst he
      rw [if_pos rfl, show i * 2 + j - i * 2 = j by omega, List.getElem?_append_left (by simpa using hj)]
    · rw [if_neg he]
      have : (m + 1) * 2 ≤ i * 2 := Nat.mul_le_mul_right 2 (by omega)
      rw [List.getElem?_append_right (by simp; omega), List.getElem?_drop]
      congr 1
      simp; omega

/-- Behind an Insert. -/
theorem rows_ins {w w' : World} {own : Nat → Prop} {v v' : Value} {e m : Nat} {rows : List (List D)} {xs : List Value} {c0 c1 : Value} {d0 d1 : D}
    (hm : m ≤ rows.length) (hb : BelowBut v w w') (hp : ∀ b, blk v' = some b → blk v = some b ∨ w.heap.size ≤ b)
    (hlen : xs.length = rows.length * 2) (hone : ∀ x ∈ xs, Value.oneCell' x = true) (hrl : ∀ r ∈ rows, r.length = 2)
    (hrd : ∀ (i j : Nat) (r : List D) (d : D) (x : Value), rows[i]? = some r → r[j]? = some d → xs[i * 2 + j]? = some x → Rd w (with1 own v) x d)
    (h0 : Rd w (with1 own v) c0 d0) (h1 : Rd w (with1 own v) c1 d1) (o0 : c0.oneCell' = true) (o1 : c1.oneCell' = true)
    (hown : w'.ownsRow 0 e 2 v' (rows.length + 1) (xs.take (m * 2) ++ [c0, c1] ++ xs.drop (m * 2))) :
    RowsAt w' 0 (with1 own v') e 2 v' (rows.take m ++ [d0, d1] :: rows.drop m) := by
  have hext : Ext (with1 own v) w w' := ⟨hb.size, fun b h1 h2 => hb.block b h1 fun h => h2 (.inr h)⟩
  have ho : ∀ b, with1 own v' b → with1 own v b ∨ w.heap.size ≤ b := by
    rintro b (h | h)
    · exact .inl (.inl h)
    · rcases hp b h with h | h
      · exact .inl (.inr h)
      · exact .inr h
  refine ⟨xs.take (m * 2) ++ [c0, c1] ++ xs.drop (m * 2), ?_, fun x hx => ?_, fun r hr => ?_, fun i j r d x hi hj hx => ?_⟩
  · have : (rows.take m ++ [d0, d1] :: rows.drop m).length = rows.length + 1 := by simp; omega
    rw [this]; exact hown
  · rcases List.mem_append.1 hx with hx | hx
    · rcases List.mem_append.1 hx with hx | hx
      · exact hone x (List.mem_of_mem_take hx)
      · simp at hx; rcases hx with rfl | rfl
        · exact o0
        · exact o1
    · exact hone x (List.mem_of_mem_drop hx)
  · rcases List.mem_append.1 hr with h | h
    · exact hrl r (List.mem_of_mem_take h)
    · rcases List.mem_cons.1 h with rfl | h
      · rfl
      · exact hrl r (List.mem_of_mem_drop h)
  · refine Rd.step hext ho ?_
    rw [getElem?_ins hm] at hi
    have hj2 : j < 2 := by
      have hjl := (List.getElem?_eq_some_iff.1 hj).1
      split at hi
      · rw [hrl r (List.mem_of_getElem? hi)] at hjl; exact hjl
      · split at hi
        · cases hi; simpa using hjl
        · rw [hrl r (List.mem_of_getElem? hi)] at hjl; exact hjl
    rw [getElem?_ins2 hlen hm i j hj2] at hx
    split at hi
    · next h => rw [if_pos h] at hx; exact hrd i j r d x hi hj hx
    · next h =>
      rw [if_neg h] at hx
      split at hi
      · next h' =>
        rw [if_pos h'] at hx
        cases hi
        match j, hj2, hj, hx with
        | 0, _, hj, hx => simp at hj hx; subst hj; subst hx; exact h0
        | 1, _, hj, hx => simp at hj hx; subst hj; subst hx; exact h1
      · next h' => rw [if_neg h'] at hx; exact hrd (i - 1) j r d x hi hj hx

/-- A slice of one element of two cells, read. -/
theorem rd_pair {w : World} {own : Nat → Prop} {v : Value} {d0 d1 : D} (h : Rd w own v (.sl 2 [[d0, d1]])) :
    ∃ ad cp c0 c1, v = .slice (some ad) 1 cp ∧ ¬ own ad.block ∧ ad.block < w.heap.size ∧ w.cell? (ad.add 0) = some c0 ∧ w.cell? (ad.add 1) = some c1 ∧
      c0.oneCell' = true ∧ c1.oneCell' = true ∧ Rd w own c0 d0 ∧ Rd w own c1 d1 := by
  cases h with
  | sl ad cap k rows f hb hs hcap hk hc h1 hr =>
    exact ⟨ad, cap, f 0 0, f 0 1, rfl, hb, hs, by simpa using hc 0 0 _ d0 rfl rfl, by simpa using hc 0 1 _ d1 rfl rfl, h1 0 0 _ d0 rfl rfl, h1 0 1 _ d1 rfl rfl, hr 0 0 _ d0 rfl rfl, hr 0 1 _ d1 rfl rfl⟩

end Go.AX

/-! G12 -/
/-
  Contract of the library's Insert, put together.
-/
namespace Go.Proofs.Ytnhnnkljlglhbaa
open Go.AX Go.RF

theorem upd_insert (rows : List (List D)) (m : Nat) (d0 d1 : D) (hm : m ≤ rows.length) (hl : rows.length ≤ 268435456) :
    FnUpd Try.prog 28 45 2 rows [.d (dint m), .d (.sl 2 [[d0, d1]])] (rows.take m ++ [d0, d1] :: rows.drop m) := by
  refine ⟨⟨_, Try.func28, by kernel_rfl, by kernel_rfl⟩, fun w own v vs hown hR hsep ha => ?_⟩
  match vs, ha with
  | [v1, v2], ⟨h1, h2, _⟩ =>
    have e1 := rd_v h1
    subst e1
    obtain ⟨ad, cp, c0, c1, rfl, hnb, hadw, hc0, hc1, o0, o1, r0, r1⟩ := rd_pair h2
    obtain ⟨xs, hrow, hone, hrl, hrd⟩ := hR
    have hbv : blk v = v.ownBlock := blk_own hrow
    have hxl := hrow.1
    by_cases hmn : m = rows.length
    · subst hmn
      refine (insert_end v rows.length xs ad cp w c0 c1 hrow hl hc0 hc1 o0 o1).mono fun e w' => ?_
      rintro ⟨v', rfl, q1, q2, q3⟩
      have hp : ∀ b, blk v' = some b → blk v = some b ∨ w.heap.size ≤ b := fun b hb => by
        rw [blk_own q1] at hb
        rw [hbv]
        rcases q3 with h | h
        · rw [h] at hb; exact .inl hb
        · rw [h] at hb; cases hb; exact .inr (Nat.le_refl _)
      have hbb : BelowBut v w w' := ⟨q2.os, q2.tape, q2.output, q2.size, fun b hb hn => q2.block b hb fun h => hn (by rw [hbv, h])⟩
      refine ⟨v', rfl, hbb, hp, rows_ins (Nat.le_refl _) hbb hp hxl hone hrl hrd r0 r1 o0 o1 ?_⟩
      rw [List.take_of_length_le (by omega), List.drop_eq_nil_of_le (by omega), List.append_nil]
      exact q1
    · rcases hrow.2 with ⟨_, h0⟩ | ⟨g, cap, cur, rfl, _, hg, hnc, hcm, hsz, htk⟩
      · omega
      · have hadg : ad.block ≠ g := fun h => hnb (.inr (by rw [h]; rfl))
        by_cases hroom : rows.length + 1 ≤ cap
        · refine (insert_room g rows.length cap m ad cp w cur c0 c1 hg hsz (by omega) hl hroom hcm hadg hc0 hc1 (by rw [htk]; exact hone) o0 o1).mono fun e w' => ?_
          rintro ⟨rfl, m1, cs', rfl, q1, q2⟩
          have hp : ∀ b, blk (.slice (some ⟨g, 0, none⟩) (rows.length + 1) cap) = some b → blk (.slice (some ⟨g, 0, none⟩) rows.length cap) = some b ∨ w.heap.size ≤ b := fun b hb => .inl hb
          have hbb : BelowBut (.slice (some ⟨g, 0, none⟩) rows.length cap) w ((w.drew.setRow g m1).setRow g cs') := ⟨rfl, rfl, rfl, by simp [setRow_size], fun b hb hn => by
            have hbg : b ≠ g := fun h => hn (by rw [h]; rfl)
            rw [setRow_other _ _ _ _ hbg, setRow_other _ _ _ _ hbg]; rfl⟩
          refine ⟨_, rfl, hbb, hp, rows_ins hm hbb hp hxl hone hrl hrd r0 r1 o0 o1 ⟨by simp; omega, .inr ⟨g, cap, cs', rfl, Nat.zero_le _, setRow_heap _ _ _ _ _ _ (setRow_heap _ _ _ _ _ _ hg), hroom, hcm, q1, ?_⟩⟩⟩
          rw [q2, htk]
        · refine (insert_grow g rows.length cap m ad cp w cur c0 c1 hg hsz (by omega) hl hnc (by omega) hcm hadw hc0 hc1 (by rw [htk]; exact hone) o0 o1).mono fun e w' => ?_
          rintro ⟨G, rfl, q1, q2, hB, cs', q3, q4, q5⟩
          have hp : ∀ b, blk (.slice (some ⟨w.heap.size, 0, none⟩) (rows.length + 1) G) = some b → blk (.slice (some ⟨g, 0, none⟩) rows.length cap) = some b ∨ w.heap.size ≤ b := fun b hb => .inr (by cases hb; exact Nat.le_refl _)
          have hbb : BelowBut (.slice (some ⟨g, 0, none⟩) rows.length cap) w w' := ⟨hB.os, hB.tape, hB.output, hB.size, fun b hb _ => hB.block b hb⟩
          refine ⟨_, rfl, hbb, hp, rows_ins hm hbb hp hxl hone hrl hrd r0 r1 o0 o1 ⟨by simp; omega, .inr ⟨_, G, cs', rfl, Nat.zero_le _, q3, q1, q2, q4, ?_⟩⟩⟩
          rw [q5, htk]

end Go.Proofs.Ytnhnnkljlglhbaa

/-! G9 -/
/-
  Contract of the program's Add of chains.
-/
namespace Go.Proofs.Ytnhnnkljlglhbaa
open Go.AX Go.RF

set_option maxRecDepth 100000
set_option maxHeartbeats 8000000

theorem kept_back (l : List Chain) (m : Nat) (c : Chain) (x : Value) (hc : l[m]? = some c) : D.sl 2 ((keptRows l m c x).set m ([dstr c.key, D.v x].set 1 (.sl 4 (c.vs.map Version.enc)))) = encChains l := by
  have hlt := (List.getElem?_eq_some_iff.1 hc).1
  unfold keptRows encChains
  rw [List.set_set]
  congr 1
  apply List.ext_getElem?
  intro j
  by_cases hj : m = j
  · subst hj
    rw [List.getElem?_set_self (by simpa using hlt)]
    simp [hc]; rfl
  · rw [List.getElem?_set_ne hj]
theorem kept_at (l : List Chain) (m : Nat) (c : Chain) (x : Value) (hc : l[m]? = some c) : (keptRows l m c x)[m]? = some [dstr c.key, D.v x] := by
  have hlt := (List.getElem?_eq_some_iff.1 hc).1
  unfold keptRows
  rw [List.getElem?_set_self (by simpa using hlt)]
theorem kept_set (l : List Chain) (m : Nat) (c : Chain) (x : Value) (vs : List Version) : (keptRows l m c x).set m [dstr c.key, encVs vs] = (l.set m ⟨c.key, vs⟩).map Chain.enc := by
  unfold keptRows
  rw [List.set_set, List.map_set]
  rfl

theorem addS_found {k : Str} {b : Int} : ∀ {l : List Chain} {m : Nat} {c : Chain}, Srt Chain.key l → l[m]? = some c → c.key = k → addS k b l = l.set m ⟨c.key, c.vs ++ [newV b]⟩
  | [], m, c, _, h, _ => by simp at h
  | d :: l, 0, c, _, h, hk => by
    simp at h; subst h
    simp only [addS, if_pos hk, List.set_cons_zero]
  | d :: l, m + 1, c, hs, h, hk => by
    have h' : l[m]? = some c := by simpa using h
    obtain ⟨h1, h2⟩ := List.pairwise_cons.1 hs
    have h3 := h1 c (List.mem_of_getElem? h')
    rw [hk] at h3
    simp only [addS]
    rw [if_neg (slt_ne h3), if_pos h3, addS_found h2 h' hk, List.set_cons_succ]
theorem addS_new {k : Str} {b : Int} : ∀ {l : List Chain} {m : Nat}, AtK Chain.key l k m → isAtK Chain.key l k m = false → Srt Chain.key l → addS k b l = l.take m ++ ⟨k, [newV b]⟩ :: l.drop m
  | [], m, hm, _, _ => by
    have := hm.le
    obtain rfl : m = 0 := by simpa using this
    rfl
  | d :: l, 0, hm, hn, hs => by
    have h1 : d.key ≠ k := by simpa [isAtK] using hn
    have h2 := hm.ge 0 d rfl (Nat.le_refl _)
    simp only [addS]
    rw [if_neg h1, if_neg (by rw [h2]; simp)]
    rfl
  | d :: l, m + 1, hm, hn, hs => by
    have h2 := hm.lt 0 d rfl (by omega)
    simp only [addS]
    rw [if_neg (slt_ne h2), if_pos h2, addS_new (m := m) ⟨by have := hm.le; simpa using this, fun x c hx hlt => hm.lt (x + 1) c (by simpa using hx) (by omega), fun x c hx hge => hm.ge (x + 1) c (by simpa using hx) (by omega)⟩ (by simpa [isAtK] using hn) (List.pairwise_cons.1 hs).2]
    rfl

theorem ok_padd
    (l : List Chain) (k : Str) (b : Int) (hl : l.length ≤ 268435455) (hv : ∀ c ∈ l, c.vs.length ≤ 268435455) (hs : Srt Chain.key l) :
    FnOk Try.prog 12 [.d (encChains l), .d (dstr k), .d (dint b)] (.one (encChains (addS k b l))) := by
  refine fnOk_of tbl_ok mixed_ok Try.func12 rfl (by kernel_rfl) rfl rfl fun w0 own0 => ?_
  have hins := upd_insert
  obtain ⟨m, hm⟩ := hs.at k
  have hml := hm.le
  have hf := ok_find l k m (by omega) hm
  have hvv : ∀ c ∈ l, c.vs.length ≤ 268435456 := fun c hc => by have := hv c hc; omega
  cases hb : isAt l k m with
  | true =>
    obtain ⟨c, hc, hck⟩ := isAt_some hb
    rw [hb] at hf
    have hmlt := (List.getElem?_eq_some_iff.1 hc).1
    have hcv := hv c (List.mem_of_getElem? hc)
    rw [addS_found hs hc hck]
    have ho2 := own2_chain l m c hc (by omega) hvv
    repeat (first | (with_reducible apply stop_reg 1) | ((with_reducible apply s1); exact rfl) | (with_reducible first | apply CW.seq | apply CW.block | apply CW.region | apply CW.draw | apply CW.skip | apply CW.exit | apply CW.ret | apply q_then | apply q_then_exit | apply q_then_ret | apply q_block | apply q_block_ret | apply q_block_hit | apply q_ret | apply q_end | apply q_loop_exit | apply q_loop_ret | apply q_loopT_exit | apply q_loopT_ret | apply RW.nil) | ((with_reducible apply s3); exact rfl; exact by_k) | ((with_reducible apply s2); exact rfl; exact by_k) | ((with_reducible apply s4); exact rfl) | ((with_reducible apply s5); (first | exact by_oa); exact by_g) | ((with_reducible apply CW.cond_t); exact rfl; exact by_ks) | ((with_reducible apply CW.cond_f); exact rfl; exact by_ks) | ((with_reducible apply q_block_miss); exact rfl) | (refine And.intro (show chk [] [] _ _ = true by kernel_rfl) ?_))
    refine Stop.go (CW.seq (CW.regionS ?_))
    repeat (first | ((with_reducible apply SW.s1); exact rfl) | ((with_reducible apply SW.s5); exact by_oa; exact rfl))
    refine SW.fam rfl (fam_own2 (nx := 0) ho2 rfl rfl (.cons rfl (.d (.refl _)) trivial .nil)) fun x => ?_
    refine SW.rw ?_
    have hkl : (keptRows l m c x).length = l.length := by simp [keptRows]
    have hrow := kept_at l m c x hc
    rw [← kept_back l m c x hc] at hf
    repeat (first | (with_reducible apply stop_reg 5) | ((with_reducible apply s1); exact rfl) | (with_reducible first | apply CW.seq | apply CW.block | apply CW.region | apply CW.draw | apply CW.skip | apply CW.exit | apply CW.ret | apply q_then | apply q_then_exit | apply q_then_ret | apply q_block | apply q_block_ret | apply q_block_hit | apply q_ret | apply q_end | apply q_loop_exit | apply q_loop_ret | apply q_loopT_exit | apply q_loopT_ret | apply RW.nil) | ((with_reducible apply s3); exact rfl; exact by_k) | ((with_reducible apply s2); exact rfl; exact by_k) | ((with_reducible apply s4); exact rfl) | ((with_reducible apply s5); (first | (focus (with_reducible apply a_lend); exact hf; exact rfl; exact .pin (id2 := 1) rfl hrow rfl rfl; exact rfl; exact rfl; exact rfl; apply SubsE.cons; exact rfl; exact .d (.refl _); exact trivial; exact SubsE.nil) | exact by_oa); exact by_g) | ((with_reducible apply CW.cond_t); exact rfl; exact by_ks) | ((with_reducible apply CW.cond_f); exact rfl; exact by_ks) | ((with_reducible apply q_block_miss); exact rfl) | (refine And.intro (show chk [] [] _ _ = true by kernel_rfl) ?_))
    refine Stop.go (CW.seq (CW.regionS ?_))
    repeat (first | ((with_reducible apply SW.s1); exact rfl) | ((with_reducible apply SW.s5); exact by_oa; exact rfl))
    refine SW.stut (stut_unpin (i := 32) (id := 1) (nx := 2)) ⟨rfl, rfl, rfl, trivial⟩ ?_
    repeat (first | ((with_reducible apply SW.s1); exact rfl) | ((with_reducible apply SW.s5); exact by_oa; exact rfl))
    refine SW.stut (stut_freeze (i := 36) (id := 2) (by simp)) ⟨rfl, rfl, trivial⟩ ?_
    repeat (first | ((with_reducible apply SW.s1); exact rfl) | ((with_reducible apply SW.s5); exact by_oa; exact rfl))
    refine SW.nil ?_
    repeat (first | ((with_reducible apply s1); exact rfl) | (with_reducible first | apply CW.seq | apply CW.block | apply CW.region | apply CW.draw | apply CW.skip | apply CW.exit | apply CW.ret | apply q_then | apply q_then_exit | apply q_then_ret | apply q_block | apply q_block_ret | apply q_block_hit | apply q_ret | apply q_end | apply q_loop_exit | apply q_loop_ret | apply q_loopT_exit | apply q_loopT_ret | apply RW.nil) | ((with_reducible apply s3); exact rfl; exact by_k) | ((with_reducible apply s2); exact rfl; exact by_k) | ((with_reducible apply s4); exact rfl) | ((with_reducible apply s5); (first | exact by_oa); exact by_g) | ((with_reducible apply CW.cond_t); exact rfl; exact by_ks) | ((with_reducible apply CW.cond_f); exact rfl; exact by_ks) | ((with_reducible apply q_block_miss); exact rfl) | (refine And.intro (show chk [] [] _ _ = true by kernel_rfl) ?_))
    refine .one (.tmp rfl (.one (.own rfl (by simp) (dle_eq ?_))))
    have := kept_set l m c x (c.vs ++ [newV b])
    show D.sl 2 _ = D.sl 2 _
    rw [← this]
    congr 2
    simp [splice, encVs, Version.enc, newV]
  | false =>
    rw [hb] at hf
    have hn := new_chainOwn l (by omega) hvv
    have hi := hins (l.map Chain.enc) m (dstr k) (.v nilS) (by simp; omega) (by simp; omega)
    rw [addS_new hm hb hs]
    have hrow : ((l.map Chain.enc).take m ++ [dstr k, .v nilS] :: (l.map Chain.enc).drop m)[m]? = some [dstr k, .v nilS] := by
      rw [List.getElem?_append_right (by simp; omega)]
      simp [Nat.min_eq_left hml]
    have hlen : ((l.map Chain.enc).take m ++ [dstr k, .v nilS] :: (l.map Chain.enc).drop m).length = l.length + 1 := by simp; omega
    have hmlt : m < ((l.map Chain.enc).take m ++ [dstr k, .v nilS] :: (l.map Chain.enc).drop m).length := by omega
    repeat (first | (with_reducible apply stop_reg 5) | ((with_reducible apply s1); exact rfl) | (with_reducible first | apply CW.seq | apply CW.block | apply CW.region | apply CW.draw | apply CW.skip | apply CW.exit | apply CW.ret | apply q_then | apply q_then_exit | apply q_then_ret | apply q_block | apply q_block_ret | apply q_block_hit | apply q_ret | apply q_end | apply q_loop_exit | apply q_loop_ret | apply q_loopT_exit | apply q_loopT_ret | apply RW.nil) | ((with_reducible apply s3); exact rfl; exact by_k) | ((with_reducible apply s2); exact rfl; exact by_k) | ((with_reducible apply s4); exact rfl) | ((with_reducible apply s5); (first | (focus ((with_reducible apply a_callnew); exact hn; (iterate 2 exact rfl); (repeat (first | exact SubsE.nil | (apply SubsE.cons; exact rfl; (first | exact .d (.refl _) | exact .d (.nil _) | exact .agg rfl (.refl _) | exact .pd | exact .ptr rfl); (first | exact trivial | exact ⟨rfl, trivial⟩)))); done)) | (focus ((with_reducible apply a_lend); exact hf; exact rfl; exact .plain rfl; (focus first | exact rfl | (simp; done) | (simp; omega)); (iterate 2 exact rfl); (repeat (first | exact SubsE.nil | (apply SubsE.cons; exact rfl; (first | exact .d (.refl _) | exact .d (.nil _) | exact .agg rfl (.refl _) | exact .pd | exact .ptr rfl); (first | exact trivial | exact ⟨rfl, trivial⟩)))); done)) | (focus ((with_reducible apply a_upd); exact hi; (iterate 3 exact rfl); (focus first | exact rfl | (simp; done) | (simp; omega)); exact rfl; (repeat (first | exact SubsE.nil | (apply SubsE.cons; exact rfl; (first | exact .d (.refl _) | exact .d (.nil _) | exact .agg rfl (.refl _) | exact .pd | exact .ptr rfl); (first | exact trivial | exact ⟨rfl, trivial⟩)))); done)) | exact by_oa); exact by_g) | ((with_reducible apply CW.cond_t); exact rfl; exact by_ks) | ((with_reducible apply CW.cond_f); exact rfl; exact by_ks) | ((with_reducible apply q_block_miss); exact rfl) | (refine And.intro (show chk [] [] _ _ = true by kernel_rfl) ?_))
    refine Stop.go (CW.seq (CW.regionS ?_))
    repeat (first | ((with_reducible apply SW.s1); exact rfl) | ((with_reducible apply SW.s5); exact by_oa; exact rfl))
    refine SW.stut (stut_promote (i := 32) 26 4) ⟨rfl, rfl, trivial⟩ ?_
    repeat (first | ((with_reducible apply SW.s1); exact rfl) | ((with_reducible apply SW.s5); exact by_oa; exact rfl))
    refine SW.stut (stut_freeze (i := 36) (id := 2) (by simp)) ⟨rfl, rfl, trivial⟩ ?_
    repeat (first | ((with_reducible apply SW.s1); exact rfl) | ((with_reducible apply SW.s5); exact by_oa; exact rfl))
    refine SW.nil ?_
    repeat (first | ((with_reducible apply s1); exact rfl) | (with_reducible first | apply CW.seq | apply CW.block | apply CW.region | apply CW.draw | apply CW.skip | apply CW.exit | apply CW.ret | apply q_then | apply q_then_exit | apply q_then_ret | apply q_block | apply q_block_ret | apply q_block_hit | apply q_ret | apply q_end | apply q_loop_exit | apply q_loop_ret | apply q_loopT_exit | apply q_loopT_ret | apply RW.nil) | ((with_reducible apply s3); exact rfl; exact by_k) | ((with_reducible apply s2); exact rfl; exact by_k) | ((with_reducible apply s4); exact rfl) | ((with_reducible apply s5); (first | exact by_oa); exact by_g) | ((with_reducible apply CW.cond_t); exact rfl; exact by_ks) | ((with_reducible apply CW.cond_f); exact rfl; exact by_ks) | ((with_reducible apply q_block_miss); exact rfl) | (refine And.intro (show chk [] [] _ _ = true by kernel_rfl) ?_))
    refine .one (.tmp rfl (.one (.own rfl (by simp) (dle_eq ?_))))
    show D.sl 2 _ = D.sl 2 _
    congr 1
    rw [List.set_append_right _ _ (by simp; omega)]
    simp [splice, encVs, Version.enc, newV, Chain.enc, Nat.min_eq_left hml]

end Go.Proofs.Ytnhnnkljlglhbaa

/-! AxPin5 -/
/-
  A slice's length where its handle is known; a slice of ours within another's element, told as data there.
-/
namespace Go.AX
open Go.RowKit

variable {cx : Cx} {g : Nat → Value} {σ σ' : St} {a : Act} {w w' : World} {nx : Nat} {c : Code} {Q : Exit → St → Prop}
variable {ty : TypeId} {pos : String} {af : Array Edge} {gd : Option (Nat × Bool)} {d : Nat}

theorem ok_lenv {t tt : TypeId} {x : Operand} {p : Option Addr} {n cp k : Nat} {ti : TI} (hd : d < cx.n) (hx : EvS x (.d (.v (.slice p n cp)))) (ht : tget cx.T t = some ti) (hk : slK ti = some k) :
    OpOk cx ⟨some d, .call { callee := .builtin .len, args := #[x], argTypes := #[t] }, tt, pos, af, gd⟩ ⟨rdOf x (.d (.v (.slice p n cp))), [(.s d, .av (.d (.v (.int .i64 n))))]⟩ := by
  refine ok_val rfl hd fun σ a w g nx hs hr => ?_
  obtain ⟨_, ie, hu, _⟩ := slice_of (cx.hT t ti ht) hk
  have hv := rep_v (hs.ev hx hr).1
  exact ⟨.int .i64 n, w, by simp [execOp, resolve, invoke, builtin, hv, Builtin.len_, run_underlying hu, goInt], Below.refl _ _, Rd.v _, trivial⟩
theorem a_lenv {t tt : TypeId} {x : Operand} {p : Option Addr} {n cp k : Nat} {ti : TI} (hx : ev σ x = some (.d (.v (.slice p n cp)))) (ht : tget cx.T t = some ti) (hk : slK ti = some k) (hd : Nat.blt d cx.n = true) :
    OA cx σ ⟨some d, .call { callee := .builtin .len, args := #[x], argTypes := #[t] }, tt, pos, af, gd⟩ ⟨rdOf x (.d (.v (.slice p n cp))), [(.s d, .av (.d (.v (.int .i64 n))))]⟩ :=
  ⟨ok_lenv (lt_of_blt hd) (ev_out hx).1 ht hk, (ev_out hx).2⟩

theorem SimG.drop (hG : SimG cx σ a w g nx) (id : Nat) : SimG cx ((.o id, .none) :: σ) a w g nx := by
  have hl := Less.drop ⟨g, nx, hG⟩ id
  have hlat : Later cx g g σ ((.o id, .none) :: σ) w w nx := by
    refine ⟨Ext.refl _ _, Below.refl _ _, fun b hb => ?_, fun j o' _ h => ⟨o', hl.o _ _ h, ?_⟩⟩
    · rcases hb with hb | ⟨j, o, h5, h6⟩
      · exact .inl (.inl hb)
      · exact .inl (.inr ⟨j, o, hl.o _ _ h5, h6⟩)
    · cases o' <;> simp [ObLe]
  exact hG.next hlat ((get_cons_ne (by simp)).trans hG.hnx) (Nat.le_refl _) hG.size hG.defers (Below.refl _ _) (fun j av hj => .inl ⟨hl.s _ _ hj, rfl⟩) (fun j o hj => .inl ⟨hl.o _ _ hj, rfl, fun _ _ => rfl⟩)
    (fun j j' o o' b h1 h2 => hG.sep j j' o o' b (hl.o _ _ h1) (hl.o _ _ h2))

theorem stut_fold {id id2 i j e k e2 k2 : Nat} {rows rows2 : List (List D)} {r : List D} {x : Value} (hi : rows[i]? = some r) (hj : r[j]? = some (.v x)) :
    Stut cx ⟨[(.o id, .ob (.arr e k rows)), (.o id2, .ob (.pin e2 k2 rows2 x))], [(.o id, .ob (.arr e k (rows.set i (r.set j (.sl k2 rows2))))), (.o id2, .none)]⟩ := by
  rintro σ a w ⟨g, nx, hG⟩ hr
  have ho : get σ (.o id) = .ob (.arr e k rows) := hr.1
  have ho2 : get σ (.o id2) = .ob (.pin e2 k2 rows2 x) := hr.2.1
  have hne : id2 ≠ id := fun he => by subst he; rw [ho2] at ho; cases ho
  obtain ⟨_, ⟨hgx, hp⟩, _⟩ := hG.objs id2 _ ho2
  have hp' : RowsAt w cx.w0.heap.size (cx.own g σ) e2 k2 (g id2) rows2 := hp
  have hG3 := hG.drop id2
  have ho' : get ((.o id2, .none) :: σ) (.o id) = .ob (.arr e k rows) := (get_cons_ne (by simpa using hne)).trans ho
  have hown : ∀ b, cx.own g ((.o id2, .none) :: σ) b → cx.own g σ b ∧ blk (g id2) ≠ some b := by
    rintro b (h | ⟨q, o, h1, h2⟩)
    · refine ⟨.inl h, fun hb => ?_⟩
      have h3 := obj_ge hG ho2 hb
      have h4 := hG.own0 b h
      omega
    · have hq : q ≠ id2 := fun e => by subst e; rw [get_cons_same] at h1; cases h1
      rw [get_cons_ne (by simpa using fun e => hq e.symm)] at h1
      exact ⟨.inr ⟨q, o, h1, h2⟩, fun hb => hq (hG.sep q id2 o _ b h1 ho2 h2 hb)⟩
  have hrd : Rd w (cx.own g ((.o id2, .none) :: σ)) x (.sl k2 rows2) := by rw [← hgx]; exact hp'.rd hown
  have hR := (objRows hG3 ho').at hi hj hrd
  exact ⟨g, nx, hG3.reob ho' (o' := .arr e k (rows.set i (r.set j (.sl k2 rows2)))) ⟨rfl, rfl, by simp, fun _ => rfl⟩ hR trivial⟩

end Go.AX

/-! G10 -/
/-
  Contract of the program's Set of chains.
-/
namespace Go.Proofs.Ytnhnnkljlglhbaa
open Go.AX Go.RF

set_option maxRecDepth 100000
set_option maxHeartbeats 8000000

theorem setV_false (v w : Version) : setV false v w = w := by simp [setV]
theorem setC_ne {k : Str} {v : Version} {c : Chain} (h : c.key ≠ k) : setC k v c = c := by
  unfold setC
  rw [decide_eq_false h]
  have : c.vs.map (setV false v) = c.vs := by
    rw [show setV false v = id from funext fun w => setV_false v w]; simp
  rw [this]
theorem set_found {k : Str} {v : Version} {l : List Chain} {m : Nat} {c : Chain} (hs : Srt Chain.key l) (hc : l[m]? = some c) (hk : c.key = k) : setChains l k v = l.set m ⟨c.key, c.vs.map (setV true v)⟩ := by
  apply List.ext_getElem?
  intro j
  unfold setChains
  rw [List.getElem?_map]
  by_cases hj : m = j
  · subst hj
    rw [List.getElem?_set_self (List.getElem?_eq_some_iff.1 hc).1, hc]
    simp [setC, hk]
  · rw [List.getElem?_set_ne hj]
    cases hd : l[j]? with
    | none => rfl
    | some d =>
      have : d.key ≠ k := by rw [← hk]; exact hs.ne hd hc fun e => hj e.symm
      simp [setC_ne this]
theorem set_none {k : Str} {v : Version} {l : List Chain} {m : Nat} (hs : Srt Chain.key l) (hm : AtK Chain.key l k m) (hn : isAtK Chain.key l k m = false) : setChains l k v = l := by
  have key : ∀ c ∈ l, setC k v c = c := fun c hc => setC_ne fun e => by
    obtain ⟨j, hj⟩ := List.getElem?_of_mem hc
    rcases Nat.lt_trichotomy j m with h | h | h
    · have := hm.lt j c hj h
      rw [e, slt_irrefl] at this; cases this
    · subst h
      rw [isAtK, hj] at hn
      simp [e] at hn
    · have hml : m < l.length := by have := (List.getElem?_eq_some_iff.1 hj).1; omega
      have hme : l[m]? = some l[m] := List.getElem?_eq_getElem hml
      have h1 := hm.ge m l[m] hme (Nat.le_refl _)
      have h2 := hs.lt hme hj h
      rw [e, h1] at h2; cases h2
  unfold setChains
  conv => rhs; rw [← List.map_id l]
  exact List.map_congr_left key

def midV (v : Version) (vs : List Version) (i : Nat) : List Version := (vs.take i).map (setV true v) ++ vs.drop i
theorem midV_at {v : Version} {vs : List Version} {i : Nat} {x : Version} (h : vs[i]? = some x) : ((midV v vs i).map Version.enc)[i]? = some x.enc ∧ ((midV v vs i).map Version.enc).set i (setV true v x).enc = (midV v vs (i + 1)).map Version.enc := by
  have hlt := (List.getElem?_eq_some_iff.1 h).1
  have h1 : vs.drop i = x :: vs.drop (i + 1) := by
    have := List.drop_eq_getElem_cons hlt
    rw [(List.getElem?_eq_some_iff.1 h).2] at this
    exact this
  have h2 : vs.take (i + 1) = vs.take i ++ [x] := by rw [List.take_add_one, h]; rfl
  have hl : ((vs.take i).map (setV true v)).length = i := by simp; omega
  unfold midV
  constructor
  · rw [List.map_append, List.getElem?_append_right (by simp; omega), h1]
    simp [Nat.min_eq_left (Nat.le_of_lt hlt)]
  · rw [h1, h2, List.map_append, List.set_append_right _ _ (by simp; omega)]
    simp [Nat.min_eq_left (Nat.le_of_lt hlt)]

theorem ok_pset (l : List Chain) (k : Str) (v : Version) (hl : l.length ≤ 268435455) (hv : ∀ c ∈ l, c.vs.length ≤ 268435455) (hs : Srt Chain.key l) :
    FnOk Try.prog 14 [.d (encChains l), .d (dstr k), .d (.agg v.enc)] (.one (encChains (setChains l k v))) := by
  refine fnOk_of tbl_ok mixed_ok Try.func14 rfl (by kernel_rfl) rfl rfl fun w0 own0 => ?_
  obtain ⟨m, hm⟩ := hs.at k
  have hml := hm.le
  have hf := ok_find l k m (by omega) hm
  have hvv : ∀ c ∈ l, c.vs.length ≤ 268435456 := fun c hc => by have := hv c hc; omega
  cases hb : isAt l k m with
  | true =>
    obtain ⟨c, hc, hck⟩ := isAt_some hb
    rw [hb] at hf
    have hmlt := (List.getElem?_eq_some_iff.1 hc).1
    have hcv := hv c (List.mem_of_getElem? hc)
    rw [set_found hs hc hck]
    have ho2 := own2_chain l m c hc (by omega) hvv
    repeat (first | (with_reducible apply stop_reg 1) | ((with_reducible apply s1); exact rfl) | (with_reducible first | apply CW.seq | apply CW.block | apply CW.region | apply CW.draw | apply CW.skip | apply CW.exit | apply CW.ret | apply q_then | apply q_then_exit | apply q_then_ret | apply q_block | apply q_block_ret | apply q_block_hit | apply q_ret | apply q_end | apply q_loop_exit | apply q_loop_ret | apply q_loopT_exit | apply q_loopT_ret | apply RW.nil) | ((with_reducible apply s3); exact rfl; exact by_k) | ((with_reducible apply s2); exact rfl; exact by_k) | ((with_reducible apply s4); exact rfl) | ((with_reducible apply s5); (first | exact by_oa); exact by_g) | ((with_reducible apply CW.cond_t); exact rfl; exact by_ks) | ((with_reducible apply CW.cond_f); exact rfl; exact by_ks) | ((with_reducible apply q_block_miss); exact rfl) | (refine And.intro (show chk [] [] _ _ = true by kernel_rfl) ?_))
    refine Stop.go (CW.seq (CW.regionS ?_))
    repeat (first | ((with_reducible apply SW.s1); exact rfl) | ((with_reducible apply SW.s5); exact by_oa; exact rfl))
    refine SW.fam rfl (fam_own2 (nx := 1) ho2 rfl rfl (.cons rfl (.d (.refl _)) trivial .nil)) fun x => ?_
    refine SW.rw ?_
    have hkl : (keptRows l m c x).length = l.length := by simp [keptRows]
    have hrow := kept_at l m c x hc
    rw [← kept_back l m c x hc] at hf
    repeat (first | (with_reducible apply stop_reg 4) | ((with_reducible apply s1); exact rfl) | (with_reducible first | apply CW.seq | apply CW.block | apply CW.region | apply CW.draw | apply CW.skip | apply CW.exit | apply CW.ret | apply q_then | apply q_then_exit | apply q_then_ret | apply q_block | apply q_block_ret | apply q_block_hit | apply q_ret | apply q_end | apply q_loop_exit | apply q_loop_ret | apply q_loopT_exit | apply q_loopT_ret | apply RW.nil) | ((with_reducible apply s3); exact rfl; exact by_k) | ((with_reducible apply s2); exact rfl; exact by_k) | ((with_reducible apply s4); exact rfl) | ((with_reducible apply s5); (first | (focus (with_reducible apply a_lend); exact hf; exact rfl; exact .pin (id2 := 2) rfl hrow rfl rfl; exact rfl; exact rfl; exact rfl; apply SubsE.cons; exact rfl; exact .d (.refl _); exact trivial; exact SubsE.nil) | exact by_oa); exact by_g) | ((with_reducible apply CW.cond_t); exact rfl; exact by_ks) | ((with_reducible apply CW.cond_f); exact rfl; exact by_ks) | ((with_reducible apply q_block_miss); exact rfl) | (refine And.intro (show chk [] [] _ _ = true by kernel_rfl) ?_))
    refine Stop.go (CW.fact (pin_slice (id := 2) rfl) ?_)
    rintro ⟨p, cp, rfl⟩
    have hmk : m < (keptRows l m c (.slice p (c.vs.map Version.enc).length cp)).length := by omega
    repeat (first | ((with_reducible apply s1); exact rfl) | (with_reducible first | apply CW.seq | apply CW.block | apply CW.region | apply CW.draw | apply CW.skip | apply CW.exit | apply CW.ret | apply q_then | apply q_then_exit | apply q_then_ret | apply q_block | apply q_block_ret | apply q_block_hit | apply q_ret | apply q_end | apply q_loop_exit | apply q_loop_ret | apply q_loopT_exit | apply q_loopT_ret | apply RW.nil) | ((with_reducible apply s3); exact rfl; exact by_k) | ((with_reducible apply s2); exact rfl; exact by_k) | ((with_reducible apply s4); exact rfl) | ((with_reducible apply s5); (first | ((with_reducible apply a_lenv); (iterate 4 exact rfl)) | exact by_oa); exact by_g) | ((with_reducible apply CW.cond_t); exact rfl; exact by_ks) | ((with_reducible apply CW.cond_f); exact rfl; exact by_ks) | ((with_reducible apply q_block_miss); exact rfl) | (refine And.intro (show chk [] [] _ _ = true by kernel_rfl) ?_))
    have hvl : (c.vs.map Version.enc).length = c.vs.length := by simp
    rw [hvl] at hrow hmk hkl ⊢
    generalize hx : Value.slice p c.vs.length cp = x at hrow hmk hkl ⊢
    refine CW.loopT (fun t : Nat => [sp 5 0, ob 0 v.enc, so 7 1 (keptRows l m c x).length, oa 1 45 2 (keptRows l m c x), (.o 2, .ob (.pin 26 4 ((midV v c.vs t).map Version.enc) x)), sd 8 (dint m), sd 25 (dint c.vs.length), sd 26 (dint t), nxt 3])
      (fun t => t ≤ c.vs.length) (fun t => c.vs.length - t) 0 (Nat.zero_le _) ?_ ?_
    ·
      exact by_less
    · rintro t ht
      rcases drop_case ht with ⟨h1, h2⟩ | ⟨y, h1, h2, h3⟩
      · subst h2
        have hmid : midV v c.vs c.vs.length = c.vs.map (setV true v) := by simp [midV]
        rw [hmid]
        repeat (first | (with_reducible apply stop_reg 10) | ((with_reducible apply s1); exact rfl) | (with_reducible first | apply CW.seq | apply CW.block | apply CW.region | apply CW.draw | apply CW.skip | apply CW.exit | apply CW.ret | apply q_then | apply q_then_exit | apply q_then_ret | apply q_block | apply q_block_ret | apply q_block_hit | apply q_ret | apply q_end | apply q_loop_exit | apply q_loop_ret | apply q_loopT_exit | apply q_loopT_ret | apply RW.nil) | ((with_reducible apply s3); exact rfl; exact by_k) | ((with_reducible apply s2); exact rfl; exact by_k) | ((with_reducible apply s4); exact rfl) | ((with_reducible apply s5); (first | exact by_oa); exact by_g) | ((with_reducible apply CW.cond_t); exact rfl; exact by_ks) | ((with_reducible apply CW.cond_f); exact rfl; exact by_ks) | ((with_reducible apply q_block_miss); exact rfl) | (refine And.intro (show chk [] [] _ _ = true by kernel_rfl) ?_))
        refine Stop.go (CW.stut (stut_fold (id := 1) (id2 := 2) (j := 1) hrow rfl) ⟨rfl, rfl, trivial⟩ ?_)
        repeat (first | ((with_reducible apply s1); exact rfl) | (with_reducible first | apply CW.seq | apply CW.block | apply CW.region | apply CW.draw | apply CW.skip | apply CW.exit | apply CW.ret | apply q_then | apply q_then_exit | apply q_then_ret | apply q_block | apply q_block_ret | apply q_block_hit | apply q_ret | apply q_end | apply q_loop_exit | apply q_loop_ret | apply q_loopT_exit | apply q_loopT_ret | apply RW.nil) | ((with_reducible apply s3); exact rfl; exact by_k) | ((with_reducible apply s2); exact rfl; exact by_k) | ((with_reducible apply s4); exact rfl) | ((with_reducible apply s5); (first | exact by_oa); exact by_g) | ((with_reducible apply CW.cond_t); exact rfl; exact by_ks) | ((with_reducible apply CW.cond_f); exact rfl; exact by_ks) | ((with_reducible apply q_block_miss); exact rfl) | (refine And.intro (show chk [] [] _ _ = true by kernel_rfl) ?_))
        refine .one (.tmp rfl (.one (.own rfl (by simp) (dle_eq ?_))))
        exact congrArg _ (kept_set l m c x (c.vs.map (setV true v)))
      · obtain ⟨hat, hset⟩ := midV_at (v := v) h2
        have hne : (midV v c.vs t).map Version.enc ≠ [] := by
          intro e
          have := congrArg List.length e
          simp [midV] at this
          omega
        refine CW.fact (pin_shape (id := 2) rfl hne) ?_
        rintro ⟨b, cp', hxe⟩
        have hml2 : ((midV v c.vs t).map Version.enc).length = c.vs.length := by simp [midV]; omega
        rw [hml2] at hxe
        subst hxe
        by_cases h4 : y.by_ = v.by_
        · have hsv : setV true v y = v := by simp [setV, h4]
          rw [hsv] at hset
          repeat (first | ((with_reducible apply s1); exact rfl) | (with_reducible first | apply CW.seq | apply CW.block | apply CW.region | apply CW.draw | apply CW.skip | apply CW.exit | apply CW.ret | apply q_then | apply q_then_exit | apply q_then_ret | apply q_block | apply q_block_ret | apply q_block_hit | apply q_ret | apply q_end | apply q_loop_exit | apply q_loop_ret | apply q_loopT_exit | apply q_loopT_ret | apply RW.nil) | ((with_reducible apply s3); exact rfl; exact by_k) | ((with_reducible apply s2); exact rfl; exact by_k) | ((with_reducible apply s4); exact rfl) | ((with_reducible apply s5); (first | ((with_reducible apply a_iav); (iterate 5 exact rfl); omega) | ((with_reducible apply a_fav); (iterate 4 exact rfl)) | ((with_reducible apply (a_lpin 2 t 0)); (iterate 4 exact rfl); exact hat; exact rfl; (first | rfl | omega)) | ((with_reducible apply (a_spin 2 t 0)); (iterate 6 exact rfl); exact hat; exact rfl; (first | rfl | omega)) | exact by_oa); exact by_g) | ((with_reducible apply CW.cond_t); exact rfl; exact by_ks) | ((with_reducible apply CW.cond_f); exact rfl; exact by_ks) | ((with_reducible apply q_block_miss); exact rfl) | (refine And.intro (show chk [] [] _ _ = true by kernel_rfl) ?_))
          refine q_loopT (t + 1) (by omega) (by omega) ?_
          dsimp only
          rw [← hset]
          exact by_less
        · have hsv : setV true v y = y := by unfold setV; rw [if_neg (by simpa using h4)]
          rw [hsv] at hset
          have hset2 : (midV v c.vs t).map Version.enc = (midV v c.vs (t + 1)).map Version.enc := by
            rw [← hset]
            refine (List.ext_getElem? fun j => ?_)
            by_cases hj : t = j
            · subst hj
              rw [List.getElem?_set_self (by rw [hml2]; exact (List.getElem?_eq_some_iff.1 h2).1), hat]
            · rw [List.getElem?_set_ne hj]
          repeat (first | ((with_reducible apply s1); exact rfl) | (with_reducible first | apply CW.seq | apply CW.block | apply CW.region | apply CW.draw | apply CW.skip | apply CW.exit | apply CW.ret | apply q_then | apply q_then_exit | apply q_then_ret | apply q_block | apply q_block_ret | apply q_block_hit | apply q_ret | apply q_end | apply q_loop_exit | apply q_loop_ret | apply q_loopT_exit | apply q_loopT_ret | apply RW.nil) | ((with_reducible apply s3); exact rfl; exact by_k) | ((with_reducible apply s2); exact rfl; exact by_k) | ((with_reducible apply s4); exact rfl) | ((with_reducible apply s5); (first | ((with_reducible apply a_iav); (iterate 5 exact rfl); omega) | ((with_reducible apply a_fav); (iterate 4 exact rfl)) | ((with_reducible apply (a_lpin 2 t 0)); (iterate 4 exact rfl); exact hat; exact rfl; (first | rfl | omega)) | exact by_oa); exact by_g) | ((with_reducible apply CW.cond_t); exact rfl; exact by_ks) | ((with_reducible apply CW.cond_f); exact rfl; exact by_ks) | ((with_reducible apply q_block_miss); exact rfl) | (refine And.intro (show chk [] [] _ _ = true by kernel_rfl) ?_))
          refine q_loopT (t + 1) (by omega) (by omega) ?_
          rw [hset2]
          exact by_less
  | false =>
    rw [hb] at hf
    have hn := new_chainOwn l (by omega) hvv
    rw [set_none hs hm hb]
    repeat (first | ((with_reducible apply s1); exact rfl) | (with_reducible first | apply CW.seq | apply CW.block | apply CW.region | apply CW.draw | apply CW.skip | apply CW.exit | apply CW.ret | apply q_then | apply q_then_exit | apply q_then_ret | apply q_block | apply q_block_ret | apply q_block_hit | apply q_ret | apply q_end | apply q_loop_exit | apply q_loop_ret | apply q_loopT_exit | apply q_loopT_ret | apply RW.nil) | ((with_reducible apply s3); exact rfl; exact by_k) | ((with_reducible apply s2); exact rfl; exact by_k) | ((with_reducible apply s4); exact rfl) | ((with_reducible apply s5); (first | (focus ((with_reducible apply a_callnew); exact hn; (iterate 2 exact rfl); (repeat (first | exact SubsE.nil | (apply SubsE.cons; exact rfl; (first | exact .d (.refl _) | exact .d (.nil _) | exact .agg rfl (.refl _) | exact .pd | exact .ptr rfl); (first | exact trivial | exact ⟨rfl, trivial⟩)))); done)) | (focus ((with_reducible apply a_lend); exact hf; exact rfl; exact .plain rfl; (focus first | exact rfl | (simp; done) | (simp; omega)); (iterate 2 exact rfl); (repeat (first | exact SubsE.nil | (apply SubsE.cons; exact rfl; (first | exact .d (.refl _) | exact .d (.nil _) | exact .agg rfl (.refl _) | exact .pd | exact .ptr rfl); (first | exact trivial | exact ⟨rfl, trivial⟩)))); done)) | exact by_oa); exact by_g) | ((with_reducible apply CW.cond_t); exact rfl; exact by_ks) | ((with_reducible apply CW.cond_f); exact rfl; exact by_ks) | ((with_reducible apply q_block_miss); exact rfl) | (refine And.intro (show chk [] [] _ _ = true by kernel_rfl) ?_))
    exact .one (.tmp rfl (.one (.own rfl (by simp) (.refl _))))

end Go.Proofs.Ytnhnnkljlglhbaa

/-! F4 -/
/-
  Contract of the references' WrongRows.
-/
namespace Go.Proofs.Ytnhnnkljlglhbaa
open Go.AX Go.RF

set_option maxRecDepth 100000
set_option maxHeartbeats 4000000

theorem ok_wrongRows (l : List Pair) (hl : l.length ≤ 268435456) (hk : ∀ p ∈ l, p.key.length ≤ 1073741824) : FnOk Try.prog 21 [.d (encRows l)] (.one (dint (wrongRows l))) := by
  refine fnOk_of tbl_ok mixed_ok Try.func21 rfl (by kernel_rfl) rfl rfl fun w0 own0 => ?_
  repeat (first | ((with_reducible apply s1); exact rfl) | (with_reducible first | apply CW.seq | apply CW.block | apply CW.region | apply CW.draw | apply CW.skip | apply CW.exit | apply CW.ret | apply q_then | apply q_then_exit | apply q_then_ret | apply q_block | apply q_block_ret | apply q_block_hit | apply q_ret | apply q_end | apply q_loop_exit | apply q_loop_ret | apply q_loopT_exit | apply q_loopT_ret | apply RW.nil) | ((with_reducible apply s3); exact rfl; exact by_k) | ((with_reducible apply s2); exact rfl; exact by_k) | ((with_reducible apply s4); exact rfl) | ((with_reducible apply s5); (first | exact by_oa); exact by_g) | ((with_reducible apply CW.cond_t); exact rfl; exact by_ks) | ((with_reducible apply CW.cond_f); exact rfl; exact by_ks) | ((with_reducible apply q_block_miss); exact rfl) | (refine And.intro (show chk [] [] _ _ = true by kernel_rfl) ?_))
  refine CW.loopT (fun t : Nat × Str => [(.s 3, .av (.d (dstr t.2))), (.s 6, .av (.d (encRows l))), (.s 7, .av (.d (dint l.length))), (.s 8, .av (.d (dint t.1))), (.nx, .num 0)])
    (fun t => t.1 ≤ l.length ∧ wrongRowsGo t.1 t.2 (l.drop t.1) = wrongRows l) (fun t => l.length - t.1) (0, []) ⟨by omega, rfl⟩ ?_ ?_
  ·
    exact by_less
  · rintro ⟨i, last⟩ ⟨hi, hI⟩
    dsimp only at hi hI ⊢
    rcases drop_case hi with ⟨h1, h2⟩ | ⟨p, h1, h2, h3⟩
    · rw [h1] at hI
      simp only [wrongRowsGo] at hI
      repeat (first | ((with_reducible apply s1); exact rfl) | (with_reducible first | apply CW.seq | apply CW.block | apply CW.region | apply CW.draw | apply CW.skip | apply CW.exit | apply CW.ret | apply q_then | apply q_then_exit | apply q_then_ret | apply q_block | apply q_block_ret | apply q_block_hit | apply q_ret | apply q_end | apply q_loop_exit | apply q_loop_ret | apply q_loopT_exit | apply q_loopT_ret | apply RW.nil) | ((with_reducible apply s3); exact rfl; exact by_k) | ((with_reducible apply s2); exact rfl; exact by_k) | ((with_reducible apply s4); exact rfl) | ((with_reducible apply s5); (first | exact by_oa); exact by_g) | ((with_reducible apply CW.cond_t); exact rfl; exact by_ks) | ((with_reducible apply CW.cond_f); exact rfl; exact by_ks) | ((with_reducible apply q_block_miss); exact rfl) | (refine And.intro (show chk [] [] _ _ = true by kernel_rfl) ?_))
      exact .one (.tmp rfl (.one (.d (dle_int hI))))
    · rw [h1] at hI
      simp only [wrongRowsGo] at hI
      have hc := ok_key p.key (hk p (List.mem_of_getElem? h2))
      cases h4 : key p.key
      · rw [if_pos h4] at hI
        repeat (first | ((with_reducible apply s1); exact rfl) | (with_reducible first | apply CW.seq | apply CW.block | apply CW.region | apply CW.draw | apply CW.skip | apply CW.exit | apply CW.ret | apply q_then | apply q_then_exit | apply q_then_ret | apply q_block | apply q_block_ret | apply q_block_hit | apply q_ret | apply q_end | apply q_loop_exit | apply q_loop_ret | apply q_loopT_exit | apply q_loopT_ret | apply RW.nil) | ((with_reducible apply s3); exact rfl; exact by_k) | ((with_reducible apply s2); exact rfl; exact by_k) | ((with_reducible apply s4); exact rfl) | ((with_reducible apply s5); (first | (focus ((with_reducible apply a_call); exact hc; exact rfl; (repeat (first | exact SubsE.nil | (apply SubsE.cons; exact rfl; (first | exact .d (.refl _) | exact .d (.nil _) | exact .agg rfl (.refl _) | exact .pd | exact .ptr rfl); (first | exact trivial | exact ⟨rfl, trivial⟩)))); done)) | exact by_oa); exact by_g) | ((with_reducible apply CW.cond_t); exact rfl; exact by_ks) | ((with_reducible apply CW.cond_f); exact rfl; exact by_ks) | ((with_reducible apply q_block_miss); exact rfl) | (refine And.intro (show chk [] [] _ _ = true by kernel_rfl) ?_))
        exact .one (.tmp rfl (.one (.d (dle_int hI))))
      · rw [if_neg (by simp [h4])] at hI
        by_cases h5 : 0 < i
        · cases h6 : sle p.key last
          · rw [if_neg (by simp [h6])] at hI
            have h6' : (Go.Op.bytesLess p.key last || decide (p.key = last)) = false := h6
            by_cases h7 : 1073741824 < p.n
            · rw [if_pos (.inl h7)] at hI
              repeat (first | ((with_reducible apply s1); exact rfl) | (with_reducible first | apply CW.seq | apply CW.block | apply CW.region | apply CW.draw | apply CW.skip | apply CW.exit | apply CW.ret | apply q_then | apply q_then_exit | apply q_then_ret | apply q_block | apply q_block_ret | apply q_block_hit | apply q_ret | apply q_end | apply q_loop_exit | apply q_loop_ret | apply q_loopT_exit | apply q_loopT_ret | apply RW.nil) | ((with_reducible apply s3); exact rfl; exact by_k) | ((with_reducible apply s2); exact rfl; exact by_k) | ((with_reducible apply s4); exact rfl) | ((with_reducible apply s5); (first | (focus ((with_reducible apply a_call); exact hc; exact rfl; (repeat (first | exact SubsE.nil | (apply SubsE.cons; exact rfl; (first | exact .d (.refl _) | exact .d (.nil _) | exact .agg rfl (.refl _) | exact .pd | exact .ptr rfl); (first | exact trivial | exact ⟨rfl, trivial⟩)))); done)) | exact by_oa); exact by_g) | ((with_reducible apply CW.cond_t); exact rfl; exact by_ks) | ((with_reducible apply CW.cond_f); exact rfl; exact by_ks) | ((with_reducible apply q_block_miss); exact rfl) | (refine And.intro (show chk [] [] _ _ = true by kernel_rfl) ?_))
              exact .one (.tmp rfl (.one (.d (dle_int hI))))
            · by_cases h8 : p.n < -1073741824
              · rw [if_pos (.inr h8)] at hI
                repeat (first | ((with_reducible apply s1); exact rfl) | (with_reducible first | apply CW.seq | apply CW.block | apply CW.region | apply CW.draw | apply CW.skip | apply CW.exit | apply CW.ret | apply q_then | apply q_then_exit | apply q_then_ret | apply q_block | apply q_block_ret | apply q_block_hit | apply q_ret | apply q_end | apply q_loop_exit | apply q_loop_ret | apply q_loopT_exit | apply q_loopT_ret | apply RW.nil) | ((with_reducible apply s3); exact rfl; exact by_k) | ((with_reducible apply s2); exact rfl; exact by_k) | ((with_reducible apply s4); exact rfl) | ((with_reducible apply s5); (first | (focus ((with_reducible apply a_call); exact hc; exact rfl; (repeat (first | exact SubsE.nil | (apply SubsE.cons; exact rfl; (first | exact .d (.refl _) | exact .d (.nil _) | exact .agg rfl (.refl _) | exact .pd | exact .ptr rfl); (first | exact trivial | exact ⟨rfl, trivial⟩)))); done)) | exact by_oa); exact by_g) | ((with_reducible apply CW.cond_t); exact rfl; exact by_ks) | ((with_reducible apply CW.cond_f); exact rfl; exact by_ks) | ((with_reducible apply q_block_miss); exact rfl) | (refine And.intro (show chk [] [] _ _ = true by kernel_rfl) ?_))
                exact .one (.tmp rfl (.one (.d (dle_int hI))))
              · rw [if_neg (by omega)] at hI
                repeat (first | ((with_reducible apply s1); exact rfl) | (with_reducible first | apply CW.seq | apply CW.block | apply CW.region | apply CW.draw | apply CW.skip | apply CW.exit | apply CW.ret | apply q_then | apply q_then_exit | apply q_then_ret | apply q_block | apply q_block_ret | apply q_block_hit | apply q_ret | apply q_end | apply q_loop_exit | apply q_loop_ret | apply q_loopT_exit | apply q_loopT_ret | apply RW.nil) | ((with_reducible apply s3); exact rfl; exact by_k) | ((with_reducible apply s2); exact rfl; exact by_k) | ((with_reducible apply s4); exact rfl) | ((with_reducible apply s5); (first | (focus ((with_reducible apply a_call); exact hc; exact rfl; (repeat (first | exact SubsE.nil | (apply SubsE.cons; exact rfl; (first | exact .d (.refl _) | exact .d (.nil _) | exact .agg rfl (.refl _) | exact .pd | exact .ptr rfl); (first | exact trivial | exact ⟨rfl, trivial⟩)))); done)) | exact by_oa); exact by_g) | ((with_reducible apply CW.cond_t); exact rfl; exact by_ks) | ((with_reducible apply CW.cond_f); exact rfl; exact by_ks) | ((with_reducible apply q_block_miss); exact rfl) | (refine And.intro (show chk [] [] _ _ = true by kernel_rfl) ?_))
                refine q_loopT (i + 1, _) ⟨by omega, hI⟩ (by dsimp only; omega) ?_
                exact by_less
          · rw [if_pos ⟨h5, h6⟩] at hI
            have h6' : (Go.Op.bytesLess p.key last || decide (p.key = last)) = true := h6
            repeat (first | ((with_reducible apply s1); exact rfl) | (with_reducible first | apply CW.seq | apply CW.block | apply CW.region | apply CW.draw | apply CW.skip | apply CW.exit | apply CW.ret | apply q_then | apply q_then_exit | apply q_then_ret | apply q_block | apply q_block_ret | apply q_block_hit | apply q_ret | apply q_end | apply q_loop_exit | apply q_loop_ret | apply q_loopT_exit | apply q_loopT_ret | apply RW.nil) | ((with_reducible apply s3); exact rfl; exact by_k) | ((with_reducible apply s2); exact rfl; exact by_k) | ((with_reducible apply s4); exact rfl) | ((with_reducible apply s5); (first | (focus ((with_reducible apply a_call); exact hc; exact rfl; (repeat (first | exact SubsE.nil | (apply SubsE.cons; exact rfl; (first | exact .d (.refl _) | exact .d (.nil _) | exact .agg rfl (.refl _) | exact .pd | exact .ptr rfl); (first | exact trivial | exact ⟨rfl, trivial⟩)))); done)) | exact by_oa); exact by_g) | ((with_reducible apply CW.cond_t); exact rfl; exact by_ks) | ((with_reducible apply CW.cond_f); exact rfl; exact by_ks) | ((with_reducible apply q_block_miss); exact rfl) | (refine And.intro (show chk [] [] _ _ = true by kernel_rfl) ?_))
            exact .one (.tmp rfl (.one (.d (dle_int hI))))
        · rw [if_neg (by simp; omega)] at hI
          by_cases h7 : 1073741824 < p.n
          · rw [if_pos (.inl h7)] at hI
            repeat (first | ((with_reducible apply s1); exact rfl) | (with_reducible first | apply CW.seq | apply CW.block | apply CW.region | apply CW.draw | apply CW.skip | apply CW.exit | apply CW.ret | apply q_then | apply q_then_exit | apply q_then_ret | apply q_block | apply q_block_ret | apply q_block_hit | apply q_ret | apply q_end | apply q_loop_exit | apply q_loop_ret | apply q_loopT_exit | apply q_loopT_ret | apply RW.nil) | ((with_reducible apply s3); exact rfl; exact by_k) | ((with_reducible apply s2); exact rfl; exact by_k) | ((with_reducible apply s4); exact rfl) | ((with_reducible apply s5); (first | (focus ((with_reducible apply a_call); exact hc; exact rfl; (repeat (first | exact SubsE.nil | (apply SubsE.cons; exact rfl; (first | exact .d (.refl _) | exact .d (.nil _) | exact .agg rfl (.refl _) | exact .pd | exact .ptr rfl); (first | exact trivial | exact ⟨rfl, trivial⟩)))); done)) | exact by_oa); exact by_g) | ((with_reducible apply CW.cond_t); exact rfl; exact by_ks) | ((with_reducible apply CW.cond_f); exact rfl; exact by_ks) | ((with_reducible apply q_block_miss); exact rfl) | (refine And.intro (show chk [] [] _ _ = true by kernel_rfl) ?_))
            exact .one (.tmp rfl (.one (.d (dle_int hI))))
          · by_cases h8 : p.n < -1073741824
            · rw [if_pos (.inr h8)] at hI
              repeat (first | ((with_reducible apply s1); exact rfl) | (with_reducible first | apply CW.seq | apply CW.block | apply CW.region | apply CW.draw | apply CW.skip | apply CW.exit | apply CW.ret | apply q_then | apply q_then_exit | apply q_then_ret | apply q_block | apply q_block_ret | apply q_block_hit | apply q_ret | apply q_end | apply q_loop_exit | apply q_loop_ret | apply q_loopT_exit | apply q_loopT_ret | apply RW.nil) | ((with_reducible apply s3); exact rfl; exact by_k) | ((with_reducible apply s2); exact rfl; exact by_k) | ((with_reducible apply s4); exact rfl) | ((with_reducible apply s5); (first | (focus ((with_reducible apply a_call); exact hc; exact rfl; (repeat (first | exact SubsE.nil | (apply SubsE.cons; exact rfl; (first | exact .d (.refl _) | exact .d (.nil _) | exact .agg rfl (.refl _) | exact .pd | exact .ptr rfl); (first | exact trivial | exact ⟨rfl, trivial⟩)))); done)) | exact by_oa); exact by_g) | ((with_reducible apply CW.cond_t); exact rfl; exact by_ks) | ((with_reducible apply CW.cond_f); exact rfl; exact by_ks) | ((with_reducible apply q_block_miss); exact rfl) | (refine And.intro (show chk [] [] _ _ = true by kernel_rfl) ?_))
              exact .one (.tmp rfl (.one (.d (dle_int hI))))
            · rw [if_neg (by omega)] at hI
              repeat (first | ((with_reducible apply s1); exact rfl) | (with_reducible first | apply CW.seq | apply CW.block | apply CW.region | apply CW.draw | apply CW.skip | apply CW.exit | apply CW.ret | apply q_then | apply q_then_exit | apply q_then_ret | apply q_block | apply q_block_ret | apply q_block_hit | apply q_ret | apply q_end | apply q_loop_exit | apply q_loop_ret | apply q_loopT_exit | apply q_loopT_ret | apply RW.nil) | ((with_reducible apply s3); exact rfl; exact by_k) | ((with_reducible apply s2); exact rfl; exact by_k) | ((with_reducible apply s4); exact rfl) | ((with_reducible apply s5); (first | (focus ((with_reducible apply a_call); exact hc; exact rfl; (repeat (first | exact SubsE.nil | (apply SubsE.cons; exact rfl; (first | exact .d (.refl _) | exact .d (.nil _) | exact .agg rfl (.refl _) | exact .pd | exact .ptr rfl); (first | exact trivial | exact ⟨rfl, trivial⟩)))); done)) | exact by_oa); exact by_g) | ((with_reducible apply CW.cond_t); exact rfl; exact by_ks) | ((with_reducible apply CW.cond_f); exact rfl; exact by_ks) | ((with_reducible apply q_block_miss); exact rfl) | (refine And.intro (show chk [] [] _ _ = true by kernel_rfl) ?_))
              refine q_loopT (i + 1, _) ⟨by omega, hI⟩ (by dsimp only; omega) ?_
              exact by_less

end Go.Proofs.Ytnhnnkljlglhbaa

/-! F11 -/
/-
  Contract of the references' RightChains.
-/
namespace Go.Proofs.Ytnhnnkljlglhbaa
open Go.AX Go.RF

set_option maxRecDepth 100000
set_option maxHeartbeats 4000000

def prevOf (l : List Version) : Nat → Option Int
  | 0 => none
  | j + 1 => (l[j]?).map (·.by_)
def prevKey (l : List Chain) : Nat → Option Str
  | 0 => none
  | j + 1 => (l[j]?).map (·.key)

theorem ok_rightChains (l : List Chain) (hl : l.length ≤ 268435456) (hs : ∀ c ∈ l, c.Sm) : FnOk Try.prog 6 [.d (encChains l)] (.one (dbool (rightChains l))) := by
  refine fnOk_of tbl_ok mixed_ok Try.func6 rfl (by kernel_rfl) rfl rfl fun w0 own0 => ?_
  repeat (first | ((with_reducible apply s1); exact rfl) | (with_reducible first | apply CW.seq | apply CW.block | apply CW.region | apply CW.draw | apply CW.skip | apply CW.exit | apply CW.ret | apply q_then | apply q_then_exit | apply q_then_ret | apply q_block | apply q_block_ret | apply q_block_hit | apply q_ret | apply q_end | apply q_loop_exit | apply q_loop_ret | apply q_loopT_exit | apply q_loopT_ret | apply RW.nil) | ((with_reducible apply s3); exact rfl; exact by_k) | ((with_reducible apply s2); exact rfl; exact by_k) | ((with_reducible apply s4); exact rfl) | ((with_reducible apply s5); (first | exact by_oa); exact by_g) | ((with_reducible apply CW.cond_t); exact rfl; exact by_ks) | ((with_reducible apply CW.cond_f); exact rfl; exact by_ks) | ((with_reducible apply q_block_miss); exact rfl) | (refine And.intro (show chk [] [] _ _ = true by kernel_rfl) ?_))
  refine CW.loopT (fun i : Nat => [(.s 0, .av (.d (encChains l))), (.s 7, .av (.d (encChains l))), (.s 8, .av (.d (dint l.length))), (.s 9, .av (.d (dint i))), (.nx, .num 0)])
    (fun i => i ≤ l.length ∧ rightCs (prevKey l i) (l.drop i) = rightChains l) (fun i => l.length - i) 0 ⟨by omega, rfl⟩ ?_ ?_
  ·
    exact by_less
  · rintro i ⟨hi, hI⟩
    rcases drop_case hi with ⟨h1, h2⟩ | ⟨c, h1, h2, h3⟩
    · rw [h1] at hI
      simp only [rightCs] at hI
      repeat (first | ((with_reducible apply s1); exact rfl) | (with_reducible first | apply CW.seq | apply CW.block | apply CW.region | apply CW.draw | apply CW.skip | apply CW.exit | apply CW.ret | apply q_then | apply q_then_exit | apply q_then_ret | apply q_block | apply q_block_ret | apply q_block_hit | apply q_ret | apply q_end | apply q_loop_exit | apply q_loop_ret | apply q_loopT_exit | apply q_loopT_ret | apply RW.nil) | ((with_reducible apply s3); exact rfl; exact by_k) | ((with_reducible apply s2); exact rfl; exact by_k) | ((with_reducible apply s4); exact rfl) | ((with_reducible apply s5); (first | exact by_oa); exact by_g) | ((with_reducible apply CW.cond_t); exact rfl; exact by_ks) | ((with_reducible apply CW.cond_f); exact rfl; exact by_ks) | ((with_reducible apply q_block_miss); exact rfl) | (refine And.intro (show chk [] [] _ _ = true by kernel_rfl) ?_))
      rw [← hI]
      exact .one (.tmp rfl (.one (.d (.refl _))))
    · rw [h1] at hI
      simp only [rightCs] at hI
      have hc := ok_key c.key (hs c (List.mem_of_getElem? h2)).k
      have hcv := (hs c (List.mem_of_getElem? h2)).v
      repeat (first | (with_reducible apply stop_reg 4) | ((with_reducible apply s1); exact rfl) | (with_reducible first | apply CW.seq | apply CW.block | apply CW.region | apply CW.draw | apply CW.skip | apply CW.exit | apply CW.ret | apply q_then | apply q_then_exit | apply q_then_ret | apply q_block | apply q_block_ret | apply q_block_hit | apply q_ret | apply q_end | apply q_loop_exit | apply q_loop_ret | apply q_loopT_exit | apply q_loopT_ret | apply RW.nil) | ((with_reducible apply s3); exact rfl; exact by_k) | ((with_reducible apply s2); exact rfl; exact by_k) | ((with_reducible apply s4); exact rfl) | ((with_reducible apply s5); (first | exact by_oa); exact by_g) | ((with_reducible apply CW.cond_t); exact rfl; exact by_ks) | ((with_reducible apply CW.cond_f); exact rfl; exact by_ks) | ((with_reducible apply q_block_miss); exact rfl) | (refine And.intro (show chk [] [] _ _ = true by kernel_rfl) ?_))
      refine Stop.cutk [(.s 38, .av (.d (dbool (cBad (prevKey l i) c))))] [.s 0, .s 7, .s 8, .s 9, .s 3, .s 4, .o 0, .nx] ?_ ?_
      · cases hk : key c.key
        · rw [show cBad (prevKey l i) c = true by simp [cBad, hk]]
          repeat (first | ((with_reducible apply s1); exact rfl) | (with_reducible first | apply CW.seq | apply CW.block | apply CW.region | apply CW.draw | apply CW.skip | apply CW.exit | apply CW.ret | apply q_then | apply q_then_exit | apply q_then_ret | apply q_block | apply q_block_ret | apply q_block_hit | apply q_ret | apply q_end | apply q_loop_exit | apply q_loop_ret | apply q_loopT_exit | apply q_loopT_ret | apply RW.nil) | ((with_reducible apply s3); exact rfl; exact by_k) | ((with_reducible apply s2); exact rfl; exact by_k) | ((with_reducible apply s4); exact rfl) | ((with_reducible apply s5); (first | (focus ((with_reducible apply a_call); exact hc; exact rfl; (repeat (first | exact SubsE.nil | (apply SubsE.cons; exact rfl; (first | exact .d (.refl _) | exact .d (.nil _) | exact .agg rfl (.refl _) | exact .pd | exact .ptr rfl); (first | exact trivial | exact ⟨rfl, trivial⟩)))); done)) | exact by_oa); exact by_g) | ((with_reducible apply CW.cond_t); exact rfl; exact by_ks) | ((with_reducible apply CW.cond_f); exact rfl; exact by_ks) | ((with_reducible apply q_block_miss); exact rfl) | (refine And.intro (show chk [] [] _ _ = true by kernel_rfl) ?_))
          refine q_cut ?_
          exact by_less
        · cases i with
          | zero =>
            by_cases hv : c.vs = []
            · rw [show cBad (prevKey l 0) c = true by simp [cBad, hv]]
              have hv' : c.vs.length = 0 := by rw [hv]; rfl
              repeat (first | ((with_reducible apply s1); exact rfl) | (with_reducible first | apply CW.seq | apply CW.block | apply CW.region | apply CW.draw | apply CW.skip | apply CW.exit | apply CW.ret | apply q_then | apply q_then_exit | apply q_then_ret | apply q_block | apply q_block_ret | apply q_block_hit | apply q_ret | apply q_end | apply q_loop_exit | apply q_loop_ret | apply q_loopT_exit | apply q_loopT_ret | apply RW.nil) | ((with_reducible apply s3); exact rfl; exact by_k) | ((with_reducible apply s2); exact rfl; exact by_k) | ((with_reducible apply s4); exact rfl) | ((with_reducible apply s5); (first | (focus ((with_reducible apply a_call); exact hc; exact rfl; (repeat (first | exact SubsE.nil | (apply SubsE.cons; exact rfl; (first | exact .d (.refl _) | exact .d (.nil _) | exact .agg rfl (.refl _) | exact .pd | exact .ptr rfl); (first | exact trivial | exact ⟨rfl, trivial⟩)))); done)) | exact by_oa); exact by_g) | ((with_reducible apply CW.cond_t); exact rfl; exact by_ks) | ((with_reducible apply CW.cond_f); exact rfl; exact by_ks) | ((with_reducible apply q_block_miss); exact rfl) | (refine And.intro (show chk [] [] _ _ = true by kernel_rfl) ?_))
              refine q_cut ?_
              exact by_less
            · rw [show cBad (prevKey l 0) c = false by simp [cBad, hv, hk, prevKey, prevSBad]]
              have hv' : ¬ c.vs.length = 0 := by simpa using hv
              repeat (first | ((with_reducible apply s1); exact rfl) | (with_reducible first | apply CW.seq | apply CW.block | apply CW.region | apply CW.draw | apply CW.skip | apply CW.exit | apply CW.ret | apply q_then | apply q_then_exit | apply q_then_ret | apply q_block | apply q_block_ret | apply q_block_hit | apply q_ret | apply q_end | apply q_loop_exit | apply q_loop_ret | apply q_loopT_exit | apply q_loopT_ret | apply RW.nil) | ((with_reducible apply s3); exact rfl; exact by_k) | ((with_reducible apply s2); exact rfl; exact by_k) | ((with_reducible apply s4); exact rfl) | ((with_reducible apply s5); (first | (focus ((with_reducible apply a_call); exact hc; exact rfl; (repeat (first | exact SubsE.nil | (apply SubsE.cons; exact rfl; (first | exact .d (.refl _) | exact .d (.nil _) | exact .agg rfl (.refl _) | exact .pd | exact .ptr rfl); (first | exact trivial | exact ⟨rfl, trivial⟩)))); done)) | exact by_oa); exact by_g) | ((with_reducible apply CW.cond_t); exact rfl; exact by_ks) | ((with_reducible apply CW.cond_f); exact rfl; exact by_ks) | ((with_reducible apply q_block_miss); exact rfl) | (refine And.intro (show chk [] [] _ _ = true by kernel_rfl) ?_))
              refine q_cut ?_
              exact by_less
          | succ i =>
            obtain ⟨p, hp⟩ : ∃ p, l[i]? = some p := ⟨l[i], List.getElem?_eq_getElem (by omega)⟩
            have hp' : l[((i + 1 : Nat) : Int).toNat - 1]? = some p := by simpa using hp
            have hsub : (((i + 1 : Nat) : Int) - 1) = ((i : Nat) : Int) := by omega
            cases hlt : slt p.key c.key
            · rw [show cBad (prevKey l (i + 1)) c = true by simp [cBad, prevKey, hp, prevSBad, hlt]]
              repeat (first | ((with_reducible apply s1); exact rfl) | (with_reducible first | apply CW.seq | apply CW.block | apply CW.region | apply CW.draw | apply CW.skip | apply CW.exit | apply CW.ret | apply q_then | apply q_then_exit | apply q_then_ret | apply q_block | apply q_block_ret | apply q_block_hit | apply q_ret | apply q_end | apply q_loop_exit | apply q_loop_ret | apply q_loopT_exit | apply q_loopT_ret | apply RW.nil) | ((with_reducible apply s3); exact rfl; exact by_k) | ((with_reducible apply s2); exact rfl; exact by_k) | ((with_reducible apply s4); exact rfl) | ((with_reducible apply s5); (first | ((with_reducible apply a_ia); (iterate 5 exact rfl); rw [hsub]; apply idx_map; assumption) | (focus ((with_reducible apply a_call); exact hc; exact rfl; (repeat (first | exact SubsE.nil | (apply SubsE.cons; exact rfl; (first | exact .d (.refl _) | exact .d (.nil _) | exact .agg rfl (.refl _) | exact .pd | exact .ptr rfl); (first | exact trivial | exact ⟨rfl, trivial⟩)))); done)) | exact by_oa); exact by_g) | ((with_reducible apply CW.cond_t); exact rfl; exact by_ks) | ((with_reducible apply CW.cond_f); exact rfl; exact by_ks) | ((with_reducible apply q_block_miss); exact rfl) | (refine And.intro (show chk [] [] _ _ = true by kernel_rfl) ?_))
              refine q_cut ?_
              exact by_less
            · by_cases hv : c.vs = []
              · rw [show cBad (prevKey l (i + 1)) c = true by simp [cBad, hv]]
                have hv' : c.vs.length = 0 := by rw [hv]; rfl
                repeat (first | ((with_reducible apply s1); exact rfl) | (with_reducible first | apply CW.seq | apply CW.block | apply CW.region | apply CW.draw | apply CW.skip | apply CW.exit | apply CW.ret | apply q_then | apply q_then_exit | apply q_then_ret | apply q_block | apply q_block_ret | apply q_block_hit | apply q_ret | apply q_end | apply q_loop_exit | apply q_loop_ret | apply q_loopT_exit | apply q_loopT_ret | apply RW.nil) | ((with_reducible apply s3); exact rfl; exact by_k) | ((with_reducible apply s2); exact rfl; exact by_k) | ((with_reducible apply s4); exact rfl) | ((with_reducible apply s5); (first | ((with_reducible apply a_ia); (iterate 5 exact rfl); rw [hsub]; apply idx_map; assumption) | (focus ((with_reducible apply a_call); exact hc; exact rfl; (repeat (first | exact SubsE.nil | (apply SubsE.cons; exact rfl; (first | exact .d (.refl _) | exact .d (.nil _) | exact .agg rfl (.refl _) | exact .pd | exact .ptr rfl); (first | exact trivial | exact ⟨rfl, trivial⟩)))); done)) | exact by_oa); exact by_g) | ((with_reducible apply CW.cond_t); exact rfl; exact by_ks) | ((with_reducible apply CW.cond_f); exact rfl; exact by_ks) | ((with_reducible apply q_block_miss); exact rfl) | (refine And.intro (show chk [] [] _ _ = true by kernel_rfl) ?_))
                refine q_cut ?_
                exact by_less
              · rw [show cBad (prevKey l (i + 1)) c = false by simp [cBad, hv, hk, prevKey, hp, prevSBad, hlt]]
                have hv' : ¬ c.vs.length = 0 := by simpa using hv
                repeat (first | ((with_reducible apply s1); exact rfl) | (with_reducible first | apply CW.seq | apply CW.block | apply CW.region | apply CW.draw | apply CW.skip | apply CW.exit | apply CW.ret | apply q_then | apply q_then_exit | apply q_then_ret | apply q_block | apply q_block_ret | apply q_block_hit | apply q_ret | apply q_end | apply q_loop_exit | apply q_loop_ret | apply q_loopT_exit | apply q_loopT_ret | apply RW.nil) | ((with_reducible apply s3); exact rfl; exact by_k) | ((with_reducible apply s2); exact rfl; exact by_k) | ((with_reducible apply s4); exact rfl) | ((with_reducible apply s5); (first | ((with_reducible apply a_ia); (iterate 5 exact rfl); rw [hsub]; apply idx_map; assumption) | (focus ((with_reducible apply a_call); exact hc; exact rfl; (repeat (first | exact SubsE.nil | (apply SubsE.cons; exact rfl; (first | exact .d (.refl _) | exact .d (.nil _) | exact .agg rfl (.refl _) | exact .pd | exact .ptr rfl); (first | exact trivial | exact ⟨rfl, trivial⟩)))); done)) | exact by_oa); exact by_g) | ((with_reducible apply CW.cond_t); exact rfl; exact by_ks) | ((with_reducible apply CW.cond_f); exact rfl; exact by_ks) | ((with_reducible apply q_block_miss); exact rfl) | (refine And.intro (show chk [] [] _ _ = true by kernel_rfl) ?_))
                refine q_cut ?_
                exact by_less
      cases hb : cBad (prevKey l i) c
      · rw [if_neg (by rw [hb]; simp)] at hI
        repeat (first | ((with_reducible apply s1); exact rfl) | (with_reducible first | apply CW.seq | apply CW.block | apply CW.region | apply CW.draw | apply CW.skip | apply CW.exit | apply CW.ret | apply q_then | apply q_then_exit | apply q_then_ret | apply q_block | apply q_block_ret | apply q_block_hit | apply q_ret | apply q_end | apply q_loop_exit | apply q_loop_ret | apply q_loopT_exit | apply q_loopT_ret | apply RW.nil) | ((with_reducible apply s3); exact rfl; exact by_k) | ((with_reducible apply s2); exact rfl; exact by_k) | ((with_reducible apply s4); exact rfl) | ((with_reducible apply s5); (first | exact by_oa); exact by_g) | ((with_reducible apply CW.cond_t); exact rfl; exact by_ks) | ((with_reducible apply CW.cond_f); exact rfl; exact by_ks) | ((with_reducible apply q_block_miss); exact rfl) | (refine And.intro (show chk [] [] _ _ = true by kernel_rfl) ?_))
        refine CW.loopT (fun j : Nat => [(.s 0, .av (.d (encChains l))), (.s 7, .av (.d (encChains l))), (.s 8, .av (.d (dint l.length))), (.s 9, .av (.d (dint i))), (.s 3, .av (.d (dint i))), (.s 4, .av (.ptr 0 0)), (.o 0, .ob (.box (c.enc.map AV.d))),
            (.s 40, .av (.d (encVs c.vs))), (.s 41, .av (.d (dint c.vs.length))), (.s 42, .av (.d (dint j))), (.nx, .num 1)])
          (fun j => j ≤ c.vs.length ∧ rightVs (prevOf c.vs j) (c.vs.drop j) = rightVs none c.vs) (fun j => c.vs.length - j) 0 ⟨by omega, rfl⟩ ?_ ?_
        ·
          exact by_less
        · rintro j ⟨hj, hJ⟩
          rcases drop_case hj with ⟨h5, h6⟩ | ⟨v, h5, h6, h7⟩
          · rw [h5] at hJ
            simp only [rightVs] at hJ
            rw [if_pos hJ.symm] at hI
            repeat (first | ((with_reducible apply s1); exact rfl) | (with_reducible first | apply CW.seq | apply CW.block | apply CW.region | apply CW.draw | apply CW.skip | apply CW.exit | apply CW.ret | apply q_then | apply q_then_exit | apply q_then_ret | apply q_block | apply q_block_ret | apply q_block_hit | apply q_ret | apply q_end | apply q_loop_exit | apply q_loop_ret | apply q_loopT_exit | apply q_loopT_ret | apply RW.nil) | ((with_reducible apply s3); exact rfl; exact by_k) | ((with_reducible apply s2); exact rfl; exact by_k) | ((with_reducible apply s4); exact rfl) | ((with_reducible apply s5); (first | exact by_oa); exact by_g) | ((with_reducible apply CW.cond_t); exact rfl; exact by_ks) | ((with_reducible apply CW.cond_f); exact rfl; exact by_ks) | ((with_reducible apply q_block_miss); exact rfl) | (refine And.intro (show chk [] [] _ _ = true by kernel_rfl) ?_))
            refine q_loopT (i + 1) ⟨by omega, by rw [← hI, prevKey, h2]; rfl⟩ (by omega) ?_
            exact by_less
          · rw [h5] at hJ
            simp only [rightVs] at hJ
            obtain ⟨vb, vm, vh, vn⟩ := v
            repeat (first | (with_reducible apply stop_reg 9) | ((with_reducible apply s1); exact rfl) | (with_reducible first | apply CW.seq | apply CW.block | apply CW.region | apply CW.draw | apply CW.skip | apply CW.exit | apply CW.ret | apply q_then | apply q_then_exit | apply q_then_ret | apply q_block | apply q_block_ret | apply q_block_hit | apply q_ret | apply q_end | apply q_loop_exit | apply q_loop_ret | apply q_loopT_exit | apply q_loopT_ret | apply RW.nil) | ((with_reducible apply s3); exact rfl; exact by_k) | ((with_reducible apply s2); exact rfl; exact by_k) | ((with_reducible apply s4); exact rfl) | ((with_reducible apply s5); (first | exact by_oa); exact by_g) | ((with_reducible apply CW.cond_t); exact rfl; exact by_ks) | ((with_reducible apply CW.cond_f); exact rfl; exact by_ks) | ((with_reducible apply q_block_miss); exact rfl) | (refine And.intro (show chk [] [] _ _ = true by kernel_rfl) ?_))
            refine Stop.cutk [(.s 99, .av (.d (dbool (vBad (prevOf c.vs j) ⟨vb, vm, vh, vn⟩))))] [.s 0, .s 7, .s 8, .s 9, .s 3, .s 4, .o 0, .s 40, .s 41, .s 42, .nx] ?_ ?_
            · by_cases e1 : vb < -1
              · rw [show vBad (prevOf c.vs j) ⟨vb, vm, vh, vn⟩ = true by simp [vBad, e1]]
                repeat (first | ((with_reducible apply s1); exact rfl) | (with_reducible first | apply CW.seq | apply CW.block | apply CW.region | apply CW.draw | apply CW.skip | apply CW.exit | apply CW.ret | apply q_then | apply q_then_exit | apply q_then_ret | apply q_block | apply q_block_ret | apply q_block_hit | apply q_ret | apply q_end | apply q_loop_exit | apply q_loop_ret | apply q_loopT_exit | apply q_loopT_ret | apply RW.nil) | ((with_reducible apply s3); exact rfl; exact by_k) | ((with_reducible apply s2); exact rfl; exact by_k) | ((with_reducible apply s4); exact rfl) | ((with_reducible apply s5); (first | exact by_oa); exact by_g) | ((with_reducible apply CW.cond_t); exact rfl; exact by_ks) | ((with_reducible apply CW.cond_f); exact rfl; exact by_ks) | ((with_reducible apply q_block_miss); exact rfl) | (refine And.intro (show chk [] [] _ _ = true by kernel_rfl) ?_))
                refine q_cut ?_
                exact by_less
              by_cases e2 : (1000000 : Int) < vb
              · rw [show vBad (prevOf c.vs j) ⟨vb, vm, vh, vn⟩ = true by simp [vBad, e2]]
                repeat (first | ((with_reducible apply s1); exact rfl) | (with_reducible first | apply CW.seq | apply CW.block | apply CW.region | apply CW.draw | apply CW.skip | apply CW.exit | apply CW.ret | apply q_then | apply q_then_exit | apply q_then_ret | apply q_block | apply q_block_ret | apply q_block_hit | apply q_ret | apply q_end | apply q_loop_exit | apply q_loop_ret | apply q_loopT_exit | apply q_loopT_ret | apply RW.nil) | ((with_reducible apply s3); exact rfl; exact by_k) | ((with_reducible apply s2); exact rfl; exact by_k) | ((with_reducible apply s4); exact rfl) | ((with_reducible apply s5); (first | exact by_oa); exact by_g) | ((with_reducible apply CW.cond_t); exact rfl; exact by_ks) | ((with_reducible apply CW.cond_f); exact rfl; exact by_ks) | ((with_reducible apply q_block_miss); exact rfl) | (refine And.intro (show chk [] [] _ _ = true by kernel_rfl) ?_))
                refine q_cut ?_
                exact by_less
              cases j with
              | zero =>
                have e3 : prevBad (prevOf c.vs 0) vb = false := rfl
                by_cases e4 : vn < -1073741824
                · rw [show vBad (prevOf c.vs 0) ⟨vb, vm, vh, vn⟩ = true by simp [vBad, e4]]
                  repeat (first | ((with_reducible apply s1); exact rfl) | (with_reducible first | apply CW.seq | apply CW.block | apply CW.region | apply CW.draw | apply CW.skip | apply CW.exit | apply CW.ret | apply q_then | apply q_then_exit | apply q_then_ret | apply q_block | apply q_block_ret | apply q_block_hit | apply q_ret | apply q_end | apply q_loop_exit | apply q_loop_ret | apply q_loopT_exit | apply q_loopT_ret | apply RW.nil) | ((with_reducible apply s3); exact rfl; exact by_k) | ((with_reducible apply s2); exact rfl; exact by_k) | ((with_reducible apply s4); exact rfl) | ((with_reducible apply s5); (first | exact by_oa); exact by_g) | ((with_reducible apply CW.cond_t); exact rfl; exact by_ks) | ((with_reducible apply CW.cond_f); exact rfl; exact by_ks) | ((with_reducible apply q_block_miss); exact rfl) | (refine And.intro (show chk [] [] _ _ = true by kernel_rfl) ?_))
                  refine q_cut ?_
                  exact by_less
                by_cases e5 : (1073741824 : Int) < vn
                · rw [show vBad (prevOf c.vs 0) ⟨vb, vm, vh, vn⟩ = true by simp [vBad, e5]]
                  repeat (first | ((with_reducible apply s1); exact rfl) | (with_reducible first | apply CW.seq | apply CW.block | apply CW.region | apply CW.draw | apply CW.skip | apply CW.exit | apply CW.ret | apply q_then | apply q_then_exit | apply q_then_ret | apply q_block | apply q_block_ret | apply q_block_hit | apply q_ret | apply q_end | apply q_loop_exit | apply q_loop_ret | apply q_loopT_exit | apply q_loopT_ret | apply RW.nil) | ((with_reducible apply s3); exact rfl; exact by_k) | ((with_reducible apply s2); exact rfl; exact by_k) | ((with_reducible apply s4); exact rfl) | ((with_reducible apply s5); (first | exact by_oa); exact by_g) | ((with_reducible apply CW.cond_t); exact rfl; exact by_ks) | ((with_reducible apply CW.cond_f); exact rfl; exact by_ks) | ((with_reducible apply q_block_miss); exact rfl) | (refine And.intro (show chk [] [] _ _ = true by kernel_rfl) ?_))
                  refine q_cut ?_
                  exact by_less
                cases vh
                · by_cases e6 : vn = 0
                  · cases vm
                    · rw [show vBad (prevOf c.vs 0) ⟨vb, false, false, vn⟩ = false by simp [vBad, e1, e2, e3, e4, e5, e6]]
                      repeat (first | ((with_reducible apply s1); exact rfl) | (with_reducible first | apply CW.seq | apply CW.block | apply CW.region | apply CW.draw | apply CW.skip | apply CW.exit | apply CW.ret | apply q_then | apply q_then_exit | apply q_then_ret | apply q_block | apply q_block_ret | apply q_block_hit | apply q_ret | apply q_end | apply q_loop_exit | apply q_loop_ret | apply q_loopT_exit | apply q_loopT_ret | apply RW.nil) | ((with_reducible apply s3); exact rfl; exact by_k) | ((with_reducible apply s2); exact rfl; exact by_k) | ((with_reducible apply s4); exact rfl) | ((with_reducible apply s5); (first | exact by_oa); exact by_g) | ((with_reducible apply CW.cond_t); exact rfl; exact by_ks) | ((with_reducible apply CW.cond_f); exact rfl; exact by_ks) | ((with_reducible apply q_block_miss); exact rfl) | (refine And.intro (show chk [] [] _ _ = true by kernel_rfl) ?_))
                      refine q_cut ?_
                      exact by_less
                    · rw [show vBad (prevOf c.vs 0) ⟨vb, true, false, vn⟩ = false by simp [vBad, e1, e2, e3, e4, e5, e6]]
                      repeat (first | ((with_reducible apply s1); exact rfl) | (with_reducible first | apply CW.seq | apply CW.block | apply CW.region | apply CW.draw | apply CW.skip | apply CW.exit | apply CW.ret | apply q_then | apply q_then_exit | apply q_then_ret | apply q_block | apply q_block_ret | apply q_block_hit | apply q_ret | apply q_end | apply q_loop_exit | apply q_loop_ret | apply q_loopT_exit | apply q_loopT_ret | apply RW.nil) | ((with_reducible apply s3); exact rfl; exact by_k) | ((with_reducible apply s2); exact rfl; exact by_k) | ((with_reducible apply s4); exact rfl) | ((with_reducible apply s5); (first | exact by_oa); exact by_g) | ((with_reducible apply CW.cond_t); exact rfl; exact by_ks) | ((with_reducible apply CW.cond_f); exact rfl; exact by_ks) | ((with_reducible apply q_block_miss); exact rfl) | (refine And.intro (show chk [] [] _ _ = true by kernel_rfl) ?_))
                      refine q_cut ?_
                      exact by_less
                  · rw [show vBad (prevOf c.vs 0) ⟨vb, vm, false, vn⟩ = true by simp [vBad, e6]]
                    repeat (first | ((with_reducible apply s1); exact rfl) | (with_reducible first | apply CW.seq | apply CW.block | apply CW.region | apply CW.draw | apply CW.skip | apply CW.exit | apply CW.ret | apply q_then | apply q_then_exit | apply q_then_ret | apply q_block | apply q_block_ret | apply q_block_hit | apply q_ret | apply q_end | apply q_loop_exit | apply q_loop_ret | apply q_loopT_exit | apply q_loopT_ret | apply RW.nil) | ((with_reducible apply s3); exact rfl; exact by_k) | ((with_reducible apply s2); exact rfl; exact by_k) | ((with_reducible apply s4); exact rfl) | ((with_reducible apply s5); (first | exact by_oa); exact by_g) | ((with_reducible apply CW.cond_t); exact rfl; exact by_ks) | ((with_reducible apply CW.cond_f); exact rfl; exact by_ks) | ((with_reducible apply q_block_miss); exact rfl) | (refine And.intro (show chk [] [] _ _ = true by kernel_rfl) ?_))
                    refine q_cut ?_
                    exact by_less
                · cases vm
                  · rw [show vBad (prevOf c.vs 0) ⟨vb, false, true, vn⟩ = true by simp [vBad]]
                    repeat (first | ((with_reducible apply s1); exact rfl) | (with_reducible first | apply CW.seq | apply CW.block | apply CW.region | apply CW.draw | apply CW.skip | apply CW.exit | apply CW.ret | apply q_then | apply q_then_exit | apply q_then_ret | apply q_block | apply q_block_ret | apply q_block_hit | apply q_ret | apply q_end | apply q_loop_exit | apply q_loop_ret | apply q_loopT_exit | apply q_loopT_ret | apply RW.nil) | ((with_reducible apply s3); exact rfl; exact by_k) | ((with_reducible apply s2); exact rfl; exact by_k) | ((with_reducible apply s4); exact rfl) | ((with_reducible apply s5); (first | exact by_oa); exact by_g) | ((with_reducible apply CW.cond_t); exact rfl; exact by_ks) | ((with_reducible apply CW.cond_f); exact rfl; exact by_ks) | ((with_reducible apply q_block_miss); exact rfl) | (refine And.intro (show chk [] [] _ _ = true by kernel_rfl) ?_))
                    refine q_cut ?_
                    exact by_less
                  · rw [show vBad (prevOf c.vs 0) ⟨vb, true, true, vn⟩ = false by simp [vBad, e1, e2, e3, e4, e5]]
                    repeat (first | ((with_reducible apply s1); exact rfl) | (with_reducible first | apply CW.seq | apply CW.block | apply CW.region | apply CW.draw | apply CW.skip | apply CW.exit | apply CW.ret | apply q_then | apply q_then_exit | apply q_then_ret | apply q_block | apply q_block_ret | apply q_block_hit | apply q_ret | apply q_end | apply q_loop_exit | apply q_loop_ret | apply q_loopT_exit | apply q_loopT_ret | apply RW.nil) | ((with_reducible apply s3); exact rfl; exact by_k) | ((with_reducible apply s2); exact rfl; exact by_k) | ((with_reducible apply s4); exact rfl) | ((with_reducible apply s5); (first | exact by_oa); exact by_g) | ((with_reducible apply CW.cond_t); exact rfl; exact by_ks) | ((with_reducible apply CW.cond_f); exact rfl; exact by_ks) | ((with_reducible apply q_block_miss); exact rfl) | (refine And.intro (show chk [] [] _ _ = true by kernel_rfl) ?_))
                    refine q_cut ?_
                    exact by_less
              | succ j =>
                obtain ⟨p, hp⟩ : ∃ p, c.vs[j]? = some p := ⟨c.vs[j], List.getElem?_eq_getElem (by omega)⟩
                have hsub : (((j + 1 : Nat) : Int) - 1) = ((j : Nat) : Int) := by omega
                by_cases e3 : vb ≤ p.by_
                · rw [show vBad (prevOf c.vs (j + 1)) ⟨vb, vm, vh, vn⟩ = true by simp [vBad, prevOf, hp, prevBad, e3]]
                  repeat (first | ((with_reducible apply s1); exact rfl) | (with_reducible first | apply CW.seq | apply CW.block | apply CW.region | apply CW.draw | apply CW.skip | apply CW.exit | apply CW.ret | apply q_then | apply q_then_exit | apply q_then_ret | apply q_block | apply q_block_ret | apply q_block_hit | apply q_ret | apply q_end | apply q_loop_exit | apply q_loop_ret | apply q_loopT_exit | apply q_loopT_ret | apply RW.nil) | ((with_reducible apply s3); exact rfl; exact by_k) | ((with_reducible apply s2); exact rfl; exact by_k) | ((with_reducible apply s4); exact rfl) | ((with_reducible apply s5); (first | ((with_reducible apply a_ia); (iterate 5 exact rfl); rw [hsub]; apply idx_map; assumption) | exact by_oa); exact by_g) | ((with_reducible apply CW.cond_t); exact rfl; exact by_ks) | ((with_reducible apply CW.cond_f); exact rfl; exact by_ks) | ((with_reducible apply q_block_miss); exact rfl) | (refine And.intro (show chk [] [] _ _ = true by kernel_rfl) ?_))
                  refine q_cut ?_
                  exact by_less
                have e3' : prevBad (prevOf c.vs (j + 1)) vb = false := by simp [prevOf, hp, prevBad]; omega
                by_cases e4 : vn < -1073741824
                · rw [show vBad (prevOf c.vs (j + 1)) ⟨vb, vm, vh, vn⟩ = true by simp [vBad, e4]]
                  repeat (first | ((with_reducible apply s1); exact rfl) | (with_reducible first | apply CW.seq | apply CW.block | apply CW.region | apply CW.draw | apply CW.skip | apply CW.exit | apply CW.ret | apply q_then | apply q_then_exit | apply q_then_ret | apply q_block | apply q_block_ret | apply q_block_hit | apply q_ret | apply q_end | apply q_loop_exit | apply q_loop_ret | apply q_loopT_exit | apply q_loopT_ret | apply RW.nil) | ((with_reducible apply s3); exact rfl; exact by_k) | ((with_reducible apply s2); exact rfl; exact by_k) | ((with_reducible apply s4); exact rfl) | ((with_reducible apply s5); (first | ((with_reducible apply a_ia); (iterate 5 exact rfl); rw [hsub]; apply idx_map; assumption) | exact by_oa); exact by_g) | ((with_reducible apply CW.cond_t); exact rfl; exact by_ks) | ((with_reducible apply CW.cond_f); exact rfl; exact by_ks) | ((with_reducible apply q_block_miss); exact rfl) | (refine And.intro (show chk [] [] _ _ = true by kernel_rfl) ?_))
                  refine q_cut ?_
                  exact by_less
                by_cases e5 : (1073741824 : Int) < vn
                · rw [show vBad (prevOf c.vs (j + 1)) ⟨vb, vm, vh, vn⟩ = true by simp [vBad, e5]]
                  repeat (first | ((with_reducible apply s1); exact rfl) | (with_reducible first | apply CW.seq | apply CW.block | apply CW.region | apply CW.draw | apply CW.skip | apply CW.exit | apply CW.ret | apply q_then | apply q_then_exit | apply q_then_ret | apply q_block | apply q_block_ret | apply q_block_hit | apply q_ret | apply q_end | apply q_loop_exit | apply q_loop_ret | apply q_loopT_exit | apply q_loopT_ret | apply RW.nil) | ((with_reducible apply s3); exact rfl; exact by_k) | ((with_reducible apply s2); exact rfl; exact by_k) | ((with_reducible apply s4); exact rfl) | ((with_reducible apply s5); (first | ((with_reducible apply a_ia); (iterate 5 exact rfl); rw [hsub]; apply idx_map; assumption) | exact by_oa); exact by_g) | ((with_reducible apply CW.cond_t); exact rfl; exact by_ks) | ((with_reducible apply CW.cond_f); exact rfl; exact by_ks) | ((with_reducible apply q_block_miss); exact rfl) | (refine And.intro (show chk [] [] _ _ = true by kernel_rfl) ?_))
                  refine q_cut ?_
                  exact by_less
                cases vh
                · by_cases e6 : vn = 0
                  · cases vm
                    · rw [show vBad (prevOf c.vs (j + 1)) ⟨vb, false, false, vn⟩ = false by simp [vBad, e1, e2, e3', e4, e5, e6]]
                      repeat (first | ((with_reducible apply s1); exact rfl) | (with_reducible first | apply CW.seq | apply CW.block | apply CW.region | apply CW.draw | apply CW.skip | apply CW.exit | apply CW.ret | apply q_then | apply q_then_exit | apply q_then_ret | apply q_block | apply q_block_ret | apply q_block_hit | apply q_ret | apply q_end | apply q_loop_exit | apply q_loop_ret | apply q_loopT_exit | apply q_loopT_ret | apply RW.nil) | ((with_reducible apply s3); exact rfl; exact by_k) | ((with_reducible apply s2); exact rfl; exact by_k) | ((with_reducible apply s4); exact rfl) | ((with_reducible apply s5); (first | ((with_reducible apply a_ia); (iterate 5 exact rfl); rw [hsub]; apply idx_map; assumption) | exact by_oa); exact by_g) | ((with_reducible apply CW.cond_t); exact rfl; exact by_ks) | ((with_reducible apply CW.cond_f); exact rfl; exact by_ks) | ((with_reducible apply q_block_miss); exact rfl) | (refine And.intro (show chk [] [] _ _ = true by kernel_rfl) ?_))
                      refine q_cut ?_
                      exact by_less
                    · rw [show vBad (prevOf c.vs (j + 1)) ⟨vb, true, false, vn⟩ = false by simp [vBad, e1, e2, e3', e4, e5, e6]]
                      repeat (first | ((with_reducible apply s1); exact rfl) | (with_reducible first | apply CW.seq | apply CW.block | apply CW.region | apply CW.draw | apply CW.skip | apply CW.exit | apply CW.ret | apply q_then | apply q_then_exit | apply q_then_ret | apply q_block | apply q_block_ret | apply q_block_hit | apply q_ret | apply q_end | apply q_loop_exit | apply q_loop_ret | apply q_loopT_exit | apply q_loopT_ret | apply RW.nil) | ((with_reducible apply s3); exact rfl; exact by_k) | ((with_reducible apply s2); exact rfl; exact by_k) | ((with_reducible apply s4); exact rfl) | ((with_reducible apply s5); (first | ((with_reducible apply a_ia); (iterate 5 exact rfl); rw [hsub]; apply idx_map; assumption) | exact by_oa); exact by_g) | ((with_reducible apply CW.cond_t); exact rfl; exact by_ks) | ((with_reducible apply CW.cond_f); exact rfl; exact by_ks) | ((with_reducible apply q_block_miss); exact rfl) | (refine And.intro (show chk [] [] _ _ = true by kernel_rfl) ?_))
                      refine q_cut ?_
                      exact by_less
                  · rw [show vBad (prevOf c.vs (j + 1)) ⟨vb, vm, false, vn⟩ = true by simp [vBad, e6]]
                    repeat (first | ((with_reducible apply s1); exact rfl) | (with_reducible first | apply CW.seq | apply CW.block | apply CW.region | apply CW.draw | apply CW.skip | apply CW.exit | apply CW.ret | apply q_then | apply q_then_exit | apply q_then_ret | apply q_block | apply q_block_ret | apply q_block_hit | apply q_ret | apply q_end | apply q_loop_exit | apply q_loop_ret | apply q_loopT_exit | apply q_loopT_ret | apply RW.nil) | ((with_reducible apply s3); exact rfl; exact by_k) | ((with_reducible apply s2); exact rfl; exact by_k) | ((with_reducible apply s4); exact rfl) | ((with_reducible apply s5); (first | ((with_reducible apply a_ia); (iterate 5 exact rfl); rw [hsub]; apply idx_map; assumption) | exact by_oa); exact by_g) | ((with_reducible apply CW.cond_t); exact rfl; exact by_ks) | ((with_reducible apply CW.cond_f); exact rfl; exact by_ks) | ((with_reducible apply q_block_miss); exact rfl) | (refine And.intro (show chk [] [] _ _ = true by kernel_rfl) ?_))
                    refine q_cut ?_
                    exact by_less
                · cases vm
                  · rw [show vBad (prevOf c.vs (j + 1)) ⟨vb, false, true, vn⟩ = true by simp [vBad]]
                    repeat (first | ((with_reducible apply s1); exact rfl) | (with_reducible first | apply CW.seq | apply CW.block | apply CW.region | apply CW.draw | apply CW.skip | apply CW.exit | apply CW.ret | apply q_then | apply q_then_exit | apply q_then_ret | apply q_block | apply q_block_ret | apply q_block_hit | apply q_ret | apply q_end | apply q_loop_exit | apply q_loop_ret | apply q_loopT_exit | apply q_loopT_ret | apply RW.nil) | ((with_reducible apply s3); exact rfl; exact by_k) | ((with_reducible apply s2); exact rfl; exact by_k) | ((with_reducible apply s4); exact rfl) | ((with_reducible apply s5); (first | ((with_reducible apply a_ia); (iterate 5 exact rfl); rw [hsub]; apply idx_map; assumption) | exact by_oa); exact by_g) | ((with_reducible apply CW.cond_t); exact rfl; exact by_ks) | ((with_reducible apply CW.cond_f); exact rfl; exact by_ks) | ((with_reducible apply q_block_miss); exact rfl) | (refine And.intro (show chk [] [] _ _ = true by kernel_rfl) ?_))
                    refine q_cut ?_
                    exact by_less
                  · rw [show vBad (prevOf c.vs (j + 1)) ⟨vb, true, true, vn⟩ = false by simp [vBad, e1, e2, e3', e4, e5]]
                    repeat (first | ((with_reducible apply s1); exact rfl) | (with_reducible first | apply CW.seq | apply CW.block | apply CW.region | apply CW.draw | apply CW.skip | apply CW.exit | apply CW.ret | apply q_then | apply q_then_exit | apply q_then_ret | apply q_block | apply q_block_ret | apply q_block_hit | apply q_ret | apply q_end | apply q_loop_exit | apply q_loop_ret | apply q_loopT_exit | apply q_loopT_ret | apply RW.nil) | ((with_reducible apply s3); exact rfl; exact by_k) | ((with_reducible apply s2); exact rfl; exact by_k) | ((with_reducible apply s4); exact rfl) | ((with_reducible apply s5); (first | ((with_reducible apply a_ia); (iterate 5 exact rfl); rw [hsub]; apply idx_map; assumption) | exact by_oa); exact by_g) | ((with_reducible apply CW.cond_t); exact rfl; exact by_ks) | ((with_reducible apply CW.cond_f); exact rfl; exact by_ks) | ((with_reducible apply q_block_miss); exact rfl) | (refine And.intro (show chk [] [] _ _ = true by kernel_rfl) ?_))
                    refine q_cut ?_
                    exact by_less
            cases hvb : vBad (prevOf c.vs j) ⟨vb, vm, vh, vn⟩
            · rw [if_neg (by rw [hvb]; simp)] at hJ
              repeat (first | ((with_reducible apply s1); exact rfl) | (with_reducible first | apply CW.seq | apply CW.block | apply CW.region | apply CW.draw | apply CW.skip | apply CW.exit | apply CW.ret | apply q_then | apply q_then_exit | apply q_then_ret | apply q_block | apply q_block_ret | apply q_block_hit | apply q_ret | apply q_end | apply q_loop_exit | apply q_loop_ret | apply q_loopT_exit | apply q_loopT_ret | apply RW.nil) | ((with_reducible apply s3); exact rfl; exact by_k) | ((with_reducible apply s2); exact rfl; exact by_k) | ((with_reducible apply s4); exact rfl) | ((with_reducible apply s5); (first | exact by_oa); exact by_g) | ((with_reducible apply CW.cond_t); exact rfl; exact by_ks) | ((with_reducible apply CW.cond_f); exact rfl; exact by_ks) | ((with_reducible apply q_block_miss); exact rfl) | (refine And.intro (show chk [] [] _ _ = true by kernel_rfl) ?_))
              refine q_loopT (j + 1) ⟨by omega, by rw [← hJ, prevOf, h6]; rfl⟩ (by omega) ?_
              exact by_less
            · rw [if_pos hvb] at hJ
              rw [if_neg (by rw [← hJ]; simp)] at hI
              repeat (first | ((with_reducible apply s1); exact rfl) | (with_reducible first | apply CW.seq | apply CW.block | apply CW.region | apply CW.draw | apply CW.skip | apply CW.exit | apply CW.ret | apply q_then | apply q_then_exit | apply q_then_ret | apply q_block | apply q_block_ret | apply q_block_hit | apply q_ret | apply q_end | apply q_loop_exit | apply q_loop_ret | apply q_loopT_exit | apply q_loopT_ret | apply RW.nil) | ((with_reducible apply s3); exact rfl; exact by_k) | ((with_reducible apply s2); exact rfl; exact by_k) | ((with_reducible apply s4); exact rfl) | ((with_reducible apply s5); (first | exact by_oa); exact by_g) | ((with_reducible apply CW.cond_t); exact rfl; exact by_ks) | ((with_reducible apply CW.cond_f); exact rfl; exact by_ks) | ((with_reducible apply q_block_miss); exact rfl) | (refine And.intro (show chk [] [] _ _ = true by kernel_rfl) ?_))
              rw [← hI]
              exact .one (.tmp rfl (.one (.d (.refl _))))
      · rw [if_pos hb] at hI
        repeat (first | ((with_reducible apply s1); exact rfl) | (with_reducible first | apply CW.seq | apply CW.block | apply CW.region | apply CW.draw | apply CW.skip | apply CW.exit | apply CW.ret | apply q_then | apply q_then_exit | apply q_then_ret | apply q_block | apply q_block_ret | apply q_block_hit | apply q_ret | apply q_end | apply q_loop_exit | apply q_loop_ret | apply q_loopT_exit | apply q_loopT_ret | apply RW.nil) | ((with_reducible apply s3); exact rfl; exact by_k) | ((with_reducible apply s2); exact rfl; exact by_k) | ((with_reducible apply s4); exact rfl) | ((with_reducible apply s5); (first | exact by_oa); exact by_g) | ((with_reducible apply CW.cond_t); exact rfl; exact by_ks) | ((with_reducible apply CW.cond_f); exact rfl; exact by_ks) | ((with_reducible apply q_block_miss); exact rfl) | (refine And.intro (show chk [] [] _ _ = true by kernel_rfl) ?_))
        rw [← hI]
        exact .one (.tmp rfl (.one (.d (.refl _))))

end Go.Proofs.Ytnhnnkljlglhbaa

/-! L2 -/
/-
  The law ChainTells answers true of whatever data.
-/
namespace Go.Proofs.Ytnhnnkljlglhbaa
open Go.AX Go.RF

set_option maxRecDepth 100000
set_option maxHeartbeats 8000000

theorem ok_ChainTells (l : List Chain) (r : List Pair) (k : Str) (b : Int) (v : Version) (hl : l.length ≤ 1048576) (hlk : ∀ c ∈ l, c.key.length ≤ 1048576 ∧ c.vs.length ≤ 1048576) (hrl : r.length ≤ 1048576) (hrk : ∀ q ∈ r, q.key.length ≤ 1048576) (hk : k.length ≤ 1048576) :
    FnOk Try.prog 3 [.d (encChains l), .d (encRows r), .d (dstr k), .d (dint b), .d (.agg v.enc)] (.one (dbool true)) := by
  refine fnOk_of tbl_ok mixed_ok Try.func3 rfl (by kernel_rfl) rfl rfl fun w0 own0 => ?_
  have hv : ∀ c ∈ l, c.vs.length ≤ 1048576 := fun c hc => (hlk c hc).2
  have c1 := ok_rightChains l (by omega) (fun c hc => ⟨by have := (hlk c hc).1; omega, by have := (hlk c hc).2; omega⟩)
  have c2 := ok_key k (by omega)
  cases h1 : rightChains l with
  | false =>
    rw [h1] at c1
    repeat (first | ((with_reducible apply s1); exact rfl) | (with_reducible first | apply CW.seq | apply CW.block | apply CW.region | apply CW.draw | apply CW.skip | apply CW.exit | apply CW.ret | apply q_then | apply q_then_exit | apply q_then_ret | apply q_block | apply q_block_ret | apply q_block_hit | apply q_ret | apply q_end | apply q_loop_exit | apply q_loop_ret | apply q_loopT_exit | apply q_loopT_ret | apply RW.nil) | ((with_reducible apply s3); exact rfl; exact by_k) | ((with_reducible apply s2); exact rfl; exact by_k) | ((with_reducible apply s4); exact rfl) | ((with_reducible apply s5); (first | (focus ((with_reducible apply a_call); exact c1; exact rfl; (repeat (first | exact SubsE.nil | (apply SubsE.cons; exact rfl; (first | exact .d (.refl _) | exact .d (.nil _) | exact .agg rfl (.refl _) | exact .pd | exact .ptr rfl); (first | exact trivial | exact ⟨rfl, trivial⟩)))); done)) | exact by_oa); exact by_g) | ((with_reducible apply CW.cond_t); exact rfl; exact by_ks) | ((with_reducible apply CW.cond_f); exact rfl; exact by_ks) | ((with_reducible apply q_block_miss); exact rfl) | (refine And.intro (show chk [] [] _ _ = true by kernel_rfl) ?_))
    exact .one (.tmp rfl (.one (.d (.refl _))))
  | true =>
  rw [h1] at c1
  cases h2 : key k with
  | false =>
    rw [h2] at c2
    repeat (first | ((with_reducible apply s1); exact rfl) | (with_reducible first | apply CW.seq | apply CW.block | apply CW.region | apply CW.draw | apply CW.skip | apply CW.exit | apply CW.ret | apply q_then | apply q_then_exit | apply q_then_ret | apply q_block | apply q_block_ret | apply q_block_hit | apply q_ret | apply q_end | apply q_loop_exit | apply q_loop_ret | apply q_loopT_exit | apply q_loopT_ret | apply RW.nil) | ((with_reducible apply s3); exact rfl; exact by_k) | ((with_reducible apply s2); exact rfl; exact by_k) | ((with_reducible apply s4); exact rfl) | ((with_reducible apply s5); (first | (focus ((with_reducible apply a_call); exact c1; exact rfl; (repeat (first | exact SubsE.nil | (apply SubsE.cons; exact rfl; (first | exact .d (.refl _) | exact .d (.nil _) | exact .agg rfl (.refl _) | exact .pd | exact .ptr rfl); (first | exact trivial | exact ⟨rfl, trivial⟩)))); done)) | (focus ((with_reducible apply a_call); exact c2; exact rfl; (repeat (first | exact SubsE.nil | (apply SubsE.cons; exact rfl; (first | exact .d (.refl _) | exact .d (.nil _) | exact .agg rfl (.refl _) | exact .pd | exact .ptr rfl); (first | exact trivial | exact ⟨rfl, trivial⟩)))); done)) | exact by_oa); exact by_g) | ((with_reducible apply CW.cond_t); exact rfl; exact by_ks) | ((with_reducible apply CW.cond_f); exact rfl; exact by_ks) | ((with_reducible apply q_block_miss); exact rfl) | (refine And.intro (show chk [] [] _ _ = true by kernel_rfl) ?_))
    exact .one (.tmp rfl (.one (.d (.refl _))))
  | true =>
  rw [h2] at c2
  by_cases h3 : b < -10
  ·
    repeat (first | ((with_reducible apply s1); exact rfl) | (with_reducible first | apply CW.seq | apply CW.block | apply CW.region | apply CW.draw | apply CW.skip | apply CW.exit | apply CW.ret | apply q_then | apply q_then_exit | apply q_then_ret | apply q_block | apply q_block_ret | apply q_block_hit | apply q_ret | apply q_end | apply q_loop_exit | apply q_loop_ret | apply q_loopT_exit | apply q_loopT_ret | apply RW.nil) | ((with_reducible apply s3); exact rfl; exact by_k) | ((with_reducible apply s2); exact rfl; exact by_k) | ((with_reducible apply s4); exact rfl) | ((with_reducible apply s5); (first | (focus ((with_reducible apply a_call); exact c1; exact rfl; (repeat (first | exact SubsE.nil | (apply SubsE.cons; exact rfl; (first | exact .d (.refl _) | exact .d (.nil _) | exact .agg rfl (.refl _) | exact .pd | exact .ptr rfl); (first | exact trivial | exact ⟨rfl, trivial⟩)))); done)) | (focus ((with_reducible apply a_call); exact c2; exact rfl; (repeat (first | exact SubsE.nil | (apply SubsE.cons; exact rfl; (first | exact .d (.refl _) | exact .d (.nil _) | exact .agg rfl (.refl _) | exact .pd | exact .ptr rfl); (first | exact trivial | exact ⟨rfl, trivial⟩)))); done)) | exact by_oa); exact by_g) | ((with_reducible apply CW.cond_t); exact rfl; exact by_ks) | ((with_reducible apply CW.cond_f); exact rfl; exact by_ks) | ((with_reducible apply q_block_miss); exact rfl) | (refine And.intro (show chk [] [] _ _ = true by kernel_rfl) ?_))
    exact .one (.tmp rfl (.one (.d (.refl _))))
  by_cases h4 : 2000000 < b
  ·
    repeat (first | ((with_reducible apply s1); exact rfl) | (with_reducible first | apply CW.seq | apply CW.block | apply CW.region | apply CW.draw | apply CW.skip | apply CW.exit | apply CW.ret | apply q_then | apply q_then_exit | apply q_then_ret | apply q_block | apply q_block_ret | apply q_block_hit | apply q_ret | apply q_end | apply q_loop_exit | apply q_loop_ret | apply q_loopT_exit | apply q_loopT_ret | apply RW.nil) | ((with_reducible apply s3); exact rfl; exact by_k) | ((with_reducible apply s2); exact rfl; exact by_k) | ((with_reducible apply s4); exact rfl) | ((with_reducible apply s5); (first | (focus ((with_reducible apply a_call); exact c1; exact rfl; (repeat (first | exact SubsE.nil | (apply SubsE.cons; exact rfl; (first | exact .d (.refl _) | exact .d (.nil _) | exact .agg rfl (.refl _) | exact .pd | exact .ptr rfl); (first | exact trivial | exact ⟨rfl, trivial⟩)))); done)) | (focus ((with_reducible apply a_call); exact c2; exact rfl; (repeat (first | exact SubsE.nil | (apply SubsE.cons; exact rfl; (first | exact .d (.refl _) | exact .d (.nil _) | exact .agg rfl (.refl _) | exact .pd | exact .ptr rfl); (first | exact trivial | exact ⟨rfl, trivial⟩)))); done)) | exact by_oa); exact by_g) | ((with_reducible apply CW.cond_t); exact rfl; exact by_ks) | ((with_reducible apply CW.cond_f); exact rfl; exact by_ks) | ((with_reducible apply q_block_miss); exact rfl) | (refine And.intro (show chk [] [] _ _ = true by kernel_rfl) ?_))
    exact .one (.tmp rfl (.one (.d (.refl _))))
  have hR := rightChains_srt h1
  have v2 : ∀ c ∈ l, c.vs.length ≤ 268435455 := fun c hc => by have := hv c hc; omega
  have v3 : ∀ c ∈ l, c.vs.length ≤ 268435456 := fun c hc => by have := hv c hc; omega
  have c3 := ok_chainOwn l (by omega) v3
  have c4 := ok_sameChains l l (by omega) v3
  have c5 := ok_pbefore l k b (by omega) v3 hR.s
  have c6 := ok_before l k b (by omega) v3
  have c7 := ok_padd l k b (by omega) v2 hR.s
  have c8 := ok_add l k b (by omega) v3
  have c9 := ok_sameChains (addS k b l) (addS k b l) (by have := addS_len (k := k) (b := b) l; omega) (fun c hc => by have := addS_vs hv c hc; omega)
  have c10 := ok_pset l k v (by omega) v2 hR.s
  have c11 := ok_set l k v (by omega) v3
  have c12 := ok_sameChains (setChains l k v) (setChains l k v) (by rw [set_len]; omega) (fun c hc => by have := set_vs hv c hc; omega)
  have c13 := ok_pclear l b (by omega) v3
  have c14 := ok_clear l b (by omega) v3
  have c15 := ok_sameChains (clear b l) (clear b l) (by have := clear_len (b := b) l; omega) (fun c hc => by have := clear_vs hv c hc; omega)
  have c16 := ok_prows l b (by omega) v3 hR.s
  have c17 := ok_rowsAt l b (by omega) v3
  have c18 := ok_SameRows (rowsAt l b).1 (rowsAt l b).1 (by have := rowsAt_len l b; omega)
  have c19 := ok_wrongRows r (by omega) (fun q hq => by have := hrk q hq; omega)
  rw [same_refl] at c4 c9 c12 c15
  rw [allB_refl (by simp)] at c18
  rw [addC_srt hR.s] at c8
  rw [pclear_eq hR.v] at c13
  by_cases h5 : wrongRows r = 0
  · have hrs := (wrongRows_srt h5).1
    have c20 := ok_of r (by omega)
    have c21 := ok_prows (r.map rowChain) 0 (by simp; omega) (fun c hc => by obtain ⟨p, _, rfl⟩ := List.mem_map.1 hc; simp [rowChain]) (chains_srt hrs)
    rw [rowsAt_rows hrs (by omega)] at c21
    have c22 := ok_SameRows r r (by omega)
    rw [allB_refl (by simp)] at c22
    repeat (first | ((with_reducible apply s1); exact rfl) | (with_reducible first | apply CW.seq | apply CW.block | apply CW.region | apply CW.draw | apply CW.skip | apply CW.exit | apply CW.ret | apply q_then | apply q_then_exit | apply q_then_ret | apply q_block | apply q_block_ret | apply q_block_hit | apply q_ret | apply q_end | apply q_loop_exit | apply q_loop_ret | apply q_loopT_exit | apply q_loopT_ret | apply RW.nil) | ((with_reducible apply s3); exact rfl; exact by_k) | ((with_reducible apply s2); exact rfl; exact by_k) | ((with_reducible apply s4); exact rfl) | ((with_reducible apply s5); (first | (focus ((with_reducible apply a_call); exact c1; exact rfl; (repeat (first | exact SubsE.nil | (apply SubsE.cons; exact rfl; (first | exact .d (.refl _) | exact .d (.nil _) | exact .agg rfl (.refl _) | exact .pd | exact .ptr rfl); (first | exact trivial | exact ⟨rfl, trivial⟩)))); done)) | (focus ((with_reducible apply a_call); exact c2; exact rfl; (repeat (first | exact SubsE.nil | (apply SubsE.cons; exact rfl; (first | exact .d (.refl _) | exact .d (.nil _) | exact .agg rfl (.refl _) | exact .pd | exact .ptr rfl); (first | exact trivial | exact ⟨rfl, trivial⟩)))); done)) | (focus ((with_reducible apply a_call); exact c3; exact rfl; (repeat (first | exact SubsE.nil | (apply SubsE.cons; exact rfl; (first | exact .d (.refl _) | exact .d (.nil _) | exact .agg rfl (.refl _) | exact .pd | exact .ptr rfl); (first | exact trivial | exact ⟨rfl, trivial⟩)))); done)) | (focus ((with_reducible apply a_call); exact c4; exact rfl; (repeat (first | exact SubsE.nil | (apply SubsE.cons; exact rfl; (first | exact .d (.refl _) | exact .d (.nil _) | exact .agg rfl (.refl _) | exact .pd | exact .ptr rfl); (first | exact trivial | exact ⟨rfl, trivial⟩)))); done)) | (focus ((with_reducible apply a_call); exact c5; exact rfl; (repeat (first | exact SubsE.nil | (apply SubsE.cons; exact rfl; (first | exact .d (.refl _) | exact .d (.nil _) | exact .agg rfl (.refl _) | exact .pd | exact .ptr rfl); (first | exact trivial | exact ⟨rfl, trivial⟩)))); done)) | (focus ((with_reducible apply a_call); exact c6; exact rfl; (repeat (first | exact SubsE.nil | (apply SubsE.cons; exact rfl; (first | exact .d (.refl _) | exact .d (.nil _) | exact .agg rfl (.refl _) | exact .pd | exact .ptr rfl); (first | exact trivial | exact ⟨rfl, trivial⟩)))); done)) | (focus ((with_reducible apply a_call); exact c7; exact rfl; (repeat (first | exact SubsE.nil | (apply SubsE.cons; exact rfl; (first | exact .d (.refl _) | exact .d (.nil _) | exact .agg rfl (.refl _) | exact .pd | exact .ptr rfl); (first | exact trivial | exact ⟨rfl, trivial⟩)))); done)) | (focus ((with_reducible apply a_call); exact c8; exact rfl; (repeat (first | exact SubsE.nil | (apply SubsE.cons; exact rfl; (first | exact .d (.refl _) | exact .d (.nil _) | exact .agg rfl (.refl _) | exact .pd | exact .ptr rfl); (first | exact trivial | exact ⟨rfl, trivial⟩)))); done)) | (focus ((with_reducible apply a_call); exact c9; exact rfl; (repeat (first | exact SubsE.nil | (apply SubsE.cons; exact rfl; (first | exact .d (.refl _) | exact .d (.nil _) | exact .agg rfl (.refl _) | exact .pd | exact .ptr rfl); (first | exact trivial | exact ⟨rfl, trivial⟩)))); done)) | (focus ((with_reducible apply a_call); exact c10; exact rfl; (repeat (first | exact SubsE.nil | (apply SubsE.cons; exact rfl; (first | exact .d (.refl _) | exact .d (.nil _) | exact .agg rfl (.refl _) | exact .pd | exact .ptr rfl); (first | exact trivial | exact ⟨rfl, trivial⟩)))); done)) | (focus ((with_reducible apply a_call); exact c11; exact rfl; (repeat (first | exact SubsE.nil | (apply SubsE.cons; exact rfl; (first | exact .d (.refl _) | exact .d (.nil _) | exact .agg rfl (.refl _) | exact .pd | exact .ptr rfl); (first | exact trivial | exact ⟨rfl, trivial⟩)))); done)) | (focus ((with_reducible apply a_call); exact c12; exact rfl; (repeat (first | exact SubsE.nil | (apply SubsE.cons; exact rfl; (first | exact .d (.refl _) | exact .d (.nil _) | exact .agg rfl (.refl _) | exact .pd | exact .ptr rfl); (first | exact trivial | exact ⟨rfl, trivial⟩)))); done)) | (focus ((with_reducible apply a_call); exact c13; exact rfl; (repeat (first | exact SubsE.nil | (apply SubsE.cons; exact rfl; (first | exact .d (.refl _) | exact .d (.nil _) | exact .agg rfl (.refl _) | exact .pd | exact .ptr rfl); (first | exact trivial | exact ⟨rfl, trivial⟩)))); done)) | (focus ((with_reducible apply a_call); exact c14; exact rfl; (repeat (first | exact SubsE.nil | (apply SubsE.cons; exact rfl; (first | exact .d (.refl _) | exact .d (.nil _) | exact .agg rfl (.refl _) | exact .pd | exact .ptr rfl); (first | exact trivial | exact ⟨rfl, trivial⟩)))); done)) | (focus ((with_reducible apply a_call); exact c15; exact rfl; (repeat (first | exact SubsE.nil | (apply SubsE.cons; exact rfl; (first | exact .d (.refl _) | exact .d (.nil _) | exact .agg rfl (.refl _) | exact .pd | exact .ptr rfl); (first | exact trivial | exact ⟨rfl, trivial⟩)))); done)) | (focus ((with_reducible apply a_call); exact c16; exact rfl; (repeat (first | exact SubsE.nil | (apply SubsE.cons; exact rfl; (first | exact .d (.refl _) | exact .d (.nil _) | exact .agg rfl (.refl _) | exact .pd | exact .ptr rfl); (first | exact trivial | exact ⟨rfl, trivial⟩)))); done)) | (focus ((with_reducible apply a_call); exact c17; exact rfl; (repeat (first | exact SubsE.nil | (apply SubsE.cons; exact rfl; (first | exact .d (.refl _) | exact .d (.nil _) | exact .agg rfl (.refl _) | exact .pd | exact .ptr rfl); (first | exact trivial | exact ⟨rfl, trivial⟩)))); done)) | (focus ((with_reducible apply a_call); exact c18; exact rfl; (repeat (first | exact SubsE.nil | (apply SubsE.cons; exact rfl; (first | exact .d (.refl _) | exact .d (.nil _) | exact .agg rfl (.refl _) | exact .pd | exact .ptr rfl); (first | exact trivial | exact ⟨rfl, trivial⟩)))); done)) | (focus ((with_reducible apply a_call); exact c19; exact rfl; (repeat (first | exact SubsE.nil | (apply SubsE.cons; exact rfl; (first | exact .d (.refl _) | exact .d (.nil _) | exact .agg rfl (.refl _) | exact .pd | exact .ptr rfl); (first | exact trivial | exact ⟨rfl, trivial⟩)))); done)) | (focus ((with_reducible apply a_call); exact c20; exact rfl; (repeat (first | exact SubsE.nil | (apply SubsE.cons; exact rfl; (first | exact .d (.refl _) | exact .d (.nil _) | exact .agg rfl (.refl _) | exact .pd | exact .ptr rfl); (first | exact trivial | exact ⟨rfl, trivial⟩)))); done)) | (focus ((with_reducible apply a_call); exact c21; exact rfl; (repeat (first | exact SubsE.nil | (apply SubsE.cons; exact rfl; (first | exact .d (.refl _) | exact .d (.nil _) | exact .agg rfl (.refl _) | exact .pd | exact .ptr rfl); (first | exact trivial | exact ⟨rfl, trivial⟩)))); done)) | (focus ((with_reducible apply a_call); exact c22; exact rfl; (repeat (first | exact SubsE.nil | (apply SubsE.cons; exact rfl; (first | exact .d (.refl _) | exact .d (.nil _) | exact .agg rfl (.refl _) | exact .pd | exact .ptr rfl); (first | exact trivial | exact ⟨rfl, trivial⟩)))); done)) | ((with_reducible apply a_agg); exact neq_version (before l k b) (before l k b); (iterate 5 exact rfl)) | ((with_reducible apply a_bin); (iterate 2 exact rfl); (first | exact bin_bneq (by kernel_rfl) | exact bin_beql (by kernel_rfl)); exact rfl) | exact by_oa); exact by_g) | ((with_reducible apply CW.cond_t); exact rfl; exact by_ks) | ((with_reducible apply CW.cond_f); exact rfl; exact by_ks) | ((with_reducible apply q_block_miss); exact rfl) | (refine And.intro (show chk [] [] _ _ = true by kernel_rfl) ?_))
    exact .one (.tmp rfl (.one (.d (.refl _))))
  ·
    repeat (first | ((with_reducible apply s1); exact rfl) | (with_reducible first | apply CW.seq | apply CW.block | apply CW.region | apply CW.draw | apply CW.skip | apply CW.exit | apply CW.ret | apply q_then | apply q_then_exit | apply q_then_ret | apply q_block | apply q_block_ret | apply q_block_hit | apply q_ret | apply q_end | apply q_loop_exit | apply q_loop_ret | apply q_loopT_exit | apply q_loopT_ret | apply RW.nil) | ((with_reducible apply s3); exact rfl; exact by_k) | ((with_reducible apply s2); exact rfl; exact by_k) | ((with_reducible apply s4); exact rfl) | ((with_reducible apply s5); (first | (focus ((with_reducible apply a_call); exact c1; exact rfl; (repeat (first | exact SubsE.nil | (apply SubsE.cons; exact rfl; (first | exact .d (.refl _) | exact .d (.nil _) | exact .agg rfl (.refl _) | exact .pd | exact .ptr rfl); (first | exact trivial | exact ⟨rfl, trivial⟩)))); done)) | (focus ((with_reducible apply a_call); exact c2; exact rfl; (repeat (first | exact SubsE.nil | (apply SubsE.cons; exact rfl; (first | exact .d (.refl _) | exact .d (.nil _) | exact .agg rfl (.refl _) | exact .pd | exact .ptr rfl); (first | exact trivial | exact ⟨rfl, trivial⟩)))); done)) | (focus ((with_reducible apply a_call); exact c3; exact rfl; (repeat (first | exact SubsE.nil | (apply SubsE.cons; exact rfl; (first | exact .d (.refl _) | exact .d (.nil _) | exact .agg rfl (.refl _) | exact .pd | exact .ptr rfl); (first | exact trivial | exact ⟨rfl, trivial⟩)))); done)) | (focus ((with_reducible apply a_call); exact c4; exact rfl; (repeat (first | exact SubsE.nil | (apply SubsE.cons; exact rfl; (first | exact .d (.refl _) | exact .d (.nil _) | exact .agg rfl (.refl _) | exact .pd | exact .ptr rfl); (first | exact trivial | exact ⟨rfl, trivial⟩)))); done)) | (focus ((with_reducible apply a_call); exact c5; exact rfl; (repeat (first | exact SubsE.nil | (apply SubsE.cons; exact rfl; (first | exact .d (.refl _) | exact .d (.nil _) | exact .agg rfl (.refl _) | exact .pd | exact .ptr rfl); (first | exact trivial | exact ⟨rfl, trivial⟩)))); done)) | (focus ((with_reducible apply a_call); exact c6; exact rfl; (repeat (first | exact SubsE.nil | (apply SubsE.cons; exact rfl; (first | exact .d (.refl _) | exact .d (.nil _) | exact .agg rfl (.refl _) | exact .pd | exact .ptr rfl); (first | exact trivial | exact ⟨rfl, trivial⟩)))); done)) | (focus ((with_reducible apply a_call); exact c7; exact rfl; (repeat (first | exact SubsE.nil | (apply SubsE.cons; exact rfl; (first | exact .d (.refl _) | exact .d (.nil _) | exact .agg rfl (.refl _) | exact .pd | exact .ptr rfl); (first | exact trivial | exact ⟨rfl, trivial⟩)))); done)) | (focus ((with_reducible apply a_call); exact c8; exact rfl; (repeat (first | exact SubsE.nil | (apply SubsE.cons; exact rfl; (first | exact .d (.refl _) | exact .d (.nil _) | exact .agg rfl (.refl _) | exact .pd | exact .ptr rfl); (first | exact trivial | exact ⟨rfl, trivial⟩)))); done)) | (focus ((with_reducible apply a_call); exact c9; exact rfl; (repeat (first | exact SubsE.nil | (apply SubsE.cons; exact rfl; (first | exact .d (.refl _) | exact .d (.nil _) | exact .agg rfl (.refl _) | exact .pd | exact .ptr rfl); (first | exact trivial | exact ⟨rfl, trivial⟩)))); done)) | (focus ((with_reducible apply a_call); exact c10; exact rfl; (repeat (first | exact SubsE.nil | (apply SubsE.cons; exact rfl; (first | exact .d (.refl _) | exact .d (.nil _) | exact .agg rfl (.refl _) | exact .pd | exact .ptr rfl); (first | exact trivial | exact ⟨rfl, trivial⟩)))); done)) | (focus ((with_reducible apply a_call); exact c11; exact rfl; (repeat (first | exact SubsE.nil | (apply SubsE.cons; exact rfl; (first | exact .d (.refl _) | exact .d (.nil _) | exact .agg rfl (.refl _) | exact .pd | exact .ptr rfl); (first | exact trivial | exact ⟨rfl, trivial⟩)))); done)) | (focus ((with_reducible apply a_call); exact c12; exact rfl; (repeat (first | exact SubsE.nil | (apply SubsE.cons; exact rfl; (first | exact .d (.refl _) | exact .d (.nil _) | exact .agg rfl (.refl _) | exact .pd | exact .ptr rfl); (first | exact trivial | exact ⟨rfl, trivial⟩)))); done)) | (focus ((with_reducible apply a_call); exact c13; exact rfl; (repeat (first | exact SubsE.nil | (apply SubsE.cons; exact rfl; (first | exact .d (.refl _) | exact .d (.nil _) | exact .agg rfl (.refl _) | exact .pd | exact .ptr rfl); (first | exact trivial | exact ⟨rfl, trivial⟩)))); done)) | (focus ((with_reducible apply a_call); exact c14; exact rfl; (repeat (first | exact SubsE.nil | (apply SubsE.cons; exact rfl; (first | exact .d (.refl _) | exact .d (.nil _) | exact .agg rfl (.refl _) | exact .pd | exact .ptr rfl); (first | exact trivial | exact ⟨rfl, trivial⟩)))); done)) | (focus ((with_reducible apply a_call); exact c15; exact rfl; (repeat (first | exact SubsE.nil | (apply SubsE.cons; exact rfl; (first | exact .d (.refl _) | exact .d (.nil _) | exact .agg rfl (.refl _) | exact .pd | exact .ptr rfl); (first | exact trivial | exact ⟨rfl, trivial⟩)))); done)) | (focus ((with_reducible apply a_call); exact c16; exact rfl; (repeat (first | exact SubsE.nil | (apply SubsE.cons; exact rfl; (first | exact .d (.refl _) | exact .d (.nil _) | exact .agg rfl (.refl _) | exact .pd | exact .ptr rfl); (first | exact trivial | exact ⟨rfl, trivial⟩)))); done)) | (focus ((with_reducible apply a_call); exact c17; exact rfl; (repeat (first | exact SubsE.nil | (apply SubsE.cons; exact rfl; (first | exact .d (.refl _) | exact .d (.nil _) | exact .agg rfl (.refl _) | exact .pd | exact .ptr rfl); (first | exact trivial | exact ⟨rfl, trivial⟩)))); done)) | (focus ((with_reducible apply a_call); exact c18; exact rfl; (repeat (first | exact SubsE.nil | (apply SubsE.cons; exact rfl; (first | exact .d (.refl _) | exact .d (.nil _) | exact .agg rfl (.refl _) | exact .pd | exact .ptr rfl); (first | exact trivial | exact ⟨rfl, trivial⟩)))); done)) | (focus ((with_reducible apply a_call); exact c19; exact rfl; (repeat (first | exact SubsE.nil | (apply SubsE.cons; exact rfl; (first | exact .d (.refl _) | exact .d (.nil _) | exact .agg rfl (.refl _) | exact .pd | exact .ptr rfl); (first | exact trivial | exact ⟨rfl, trivial⟩)))); done)) | ((with_reducible apply a_agg); exact neq_version (before l k b) (before l k b); (iterate 5 exact rfl)) | ((with_reducible apply a_bin); (iterate 2 exact rfl); (first | exact bin_bneq (by kernel_rfl) | exact bin_beql (by kernel_rfl)); exact rfl) | exact by_oa); exact by_g) | ((with_reducible apply CW.cond_t); exact rfl; exact by_ks) | ((with_reducible apply CW.cond_f); exact rfl; exact by_ks) | ((with_reducible apply q_block_miss); exact rfl) | (refine And.intro (show chk [] [] _ _ = true by kernel_rfl) ?_))
    exact .one (.tmp rfl (.one (.d (.refl _))))

end Go.Proofs.Ytnhnnkljlglhbaa
