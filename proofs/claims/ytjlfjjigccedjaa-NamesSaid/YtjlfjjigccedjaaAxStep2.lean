/-
  More steps of a walk.
-/
import Derived.Test.YtjlfjjigccedjaaAxStep
import Derived.Test.YtjlfjjigccedjaaAxOps7
namespace Go.AX
open Go.RowKit

variable {cx : Cx} {σ : St} {ops : Array Oper} {K : List Tr → St → Prop} {acc : List Tr} {rest : List Oper} {pre : List (Key × Val)}
variable {ty : TypeId} {pos : String} {af : Array Edge} {gd : Option (Nat × Bool)} {d : Nat}

inductive PartsE (σ : St) : List (Nat × Operand) → List (Nat × List D) → List (Key × Val) → Prop
  | nil : PartsE σ [] [] []
  | cons {i : Nat} {x : Operand} {r : List (Nat × Operand)} {av : AV} {ds : List D} {q : List (Nat × List D)} {l : List (Key × Val)} (hx : ev σ x = some av) (hc : dcells av = some ds) (hr : PartsE σ r q l) :
      PartsE σ ((i, x) :: r) ((i, ds) :: q) (rdOf x av ++ l)
theorem PartsE.out {ps : List (Nat × Operand)} {qs : List (Nat × List D)} {l : List (Key × Val)} (h : PartsE σ ps qs l) : Parts ps qs l ∧ App σ l := by
  induction h with
  | nil => exact ⟨.nil, trivial⟩
  | cons hx hc hr ih => exact ⟨.cons (ev_out hx).1 hc ih.1, (ev_out hx).2.append ih.2⟩

inductive SubsE (σ : St) : List Operand → List AV → List Arg → List (Key × Val) → Prop
  | nil : SubsE σ [] [] [] []
  | cons {x : Operand} {xs : List Operand} {av : AV} {avs : List AV} {y : Arg} {ys : List Arg} {l l' : List (Key × Val)} (hx : ev σ x = some av) (h : Sub av y l) (ha : App σ l) (hr : SubsE σ xs avs ys l') :
      SubsE σ (x :: xs) (av :: avs) (y :: ys) (rdOf x av ++ (l ++ l'))
theorem SubsE.out {xs : List Operand} {avs : List AV} {ys : List Arg} {l : List (Key × Val)} (h : SubsE σ xs avs ys l) : Subs xs avs ys l ∧ App σ l := by
  induction h with
  | nil => exact ⟨.nil, trivial⟩
  | cons hx h ha hr ih => exact ⟨.cons (ev_out hx).1 h ih.1, (ev_out hx).2.append (ha.append ih.2)⟩

theorem st_build {t : TypeId} {ps : List (Nat × Operand)} {qs : List (Nat × List D)} {l : List (Key × Val)} {ti : TI} {place : Nat → Option (Nat × Nat)} {out : List D} (ht : tget cx.T t = some ti)
    (hk : stPlace ti = some place) (h1 : (ti.zero.all Value.oneCell') = true) (hp : PartsE σ ps qs l) (hf : fillD place (ti.zero.map D.v) qs = some out)
    (hg : GOk ops σ ⟨some d, .build t ⟨ps⟩, ty, pos, af, gd⟩ pre) (hd : Nat.blt d cx.n = true)
    (h : RW cx ops K (acc ++ [⟨pre ++ l, [(.s d, .av (.d (.agg out)))]⟩]) rest ((.s d, .av (.d (.agg out))) :: σ)) : RW cx ops K acc (⟨some d, .build t ⟨ps⟩, ty, pos, af, gd⟩ :: rest) σ :=
  RW.step hg (ok_build (lt_of_blt hd) ht hk (fun c hc => List.all_eq_true.1 h1 c hc) hp.out.1 hf) hp.out.2 h

theorem st_buildSlice {t e n k : Nat} {ps : List (Nat × Operand)} {rs : List (List D)} {l : List (Key × Val)} {ti te : TI} (ht : tget cx.T t = some ti) (hk : ti.kind = .sl e k)
    (hte : tget cx.T e = some te) (h1 : (te.zero.all Value.oneCell') = true) (hp : PartsE σ ps (numb 0 rs) l) (hrs : (rs.all fun r => Nat.beq r.length k) = true) (hnl : n = rs.length) (hsm : Nat.ble (n * k) 65536 = true) (hpos : Nat.blt 0 (n * k) = true)
    (hg : GOk ops σ ⟨some d, .buildSlice t n ⟨ps⟩, ty, pos, af, gd⟩ pre) (hd : Nat.blt d cx.n = true)
    (h : RW cx ops K (acc ++ [⟨pre ++ l, [(.s d, .av (.d (.sl k rs)))]⟩]) rest ((.s d, .av (.d (.sl k rs))) :: σ)) : RW cx ops K acc (⟨some d, .buildSlice t n ⟨ps⟩, ty, pos, af, gd⟩ :: rest) σ :=
  RW.step hg (ok_buildSlice (lt_of_blt hd) ht hk hte (fun c hc => List.all_eq_true.1 h1 c hc) hp.out.1 (fun r hr => by simpa using List.all_eq_true.1 hrs r hr) hnl (by simpa using hsm) (by have := lt_of_blt hpos; omega)) hp.out.2 h

/-- One element. -/
theorem st_buildSlice1 {t e k : Nat} {x : Operand} {av : AV} {r : List D} {ti te : TI} (hx : ev σ x = some av) (hc : dcells av = some r) (ht : tget cx.T t = some ti) (hk : ti.kind = .sl e k)
    (hte : tget cx.T e = some te) (h1 : (te.zero.all Value.oneCell') = true) (hrs : Nat.beq r.length k = true) (hsm : Nat.ble (1 * k) 65536 = true) (hpos : Nat.blt 0 (1 * k) = true)
    (hg : GOk ops σ ⟨some d, .buildSlice t 1 #[(0, x)], ty, pos, af, gd⟩ pre) (hd : Nat.blt d cx.n = true)
    (h : RW cx ops K (acc ++ [⟨pre ++ (rdOf x av ++ []), [(.s d, .av (.d (.sl k [r])))]⟩]) rest ((.s d, .av (.d (.sl k [r]))) :: σ)) : RW cx ops K acc (⟨some d, .buildSlice t 1 #[(0, x)], ty, pos, af, gd⟩ :: rest) σ :=
  st_buildSlice (rs := [r]) ht hk hte h1 (.cons hx hc .nil) (by simpa using hrs) rfl hsm hpos hg hd h

theorem st_buildSlice0 {t e k nx : Nat} {ti : TI} (hnx : get σ .nx = .num nx) (ht : tget cx.T t = some ti) (hk : ti.kind = .sl e k)
    (hg : GOk ops σ ⟨some d, .buildSlice t 0 #[], ty, pos, af, gd⟩ pre) (hd : Nat.blt d cx.n = true)
    (h : RW cx ops K (acc ++ [⟨pre ++ [(.nx, .num nx)], [(.s d, .av (.own nx 0)), (.o nx, .ob (.arr e k [])), (.nx, .num (nx + 1))]⟩]) rest ((.s d, .av (.own nx 0)) :: (.o nx, .ob (.arr e k [])) :: (.nx, .num (nx + 1)) :: σ)) :
    RW cx ops K acc (⟨some d, .buildSlice t 0 #[], ty, pos, af, gd⟩ :: rest) σ :=
  RW.step hg (ok_buildSlice0 (lt_of_blt hd) ht hk) ⟨hnx, trivial⟩ h

theorem st_append {t e k id n : Nat} {x y : Operand} {rows rows2 : List (List D)} {ti te : TI} (hx : ev σ x = some (.own id n)) (ho : get σ (.o id) = .ob (.arr e k rows)) (hy : ev σ y = some (.d (.sl k rows2))) (ht : tget cx.T t = some ti) (hk : ti.kind = .sl e k)
    (hte : tget cx.T e = some te) (hby : Nat.ble te.bytes 65536 = true) (hnn : n = rows.length) (hlen : rows.length + rows2.length ≤ 1073741824)
    (hg : GOk ops σ ⟨some d, .call { callee := .builtin .append, args := #[x, y], argTypes := #[t, t] }, ty, pos, af, gd⟩ pre) (hd : Nat.blt d cx.n = true)
    (h : RW cx ops K (acc ++ [⟨pre ++ (rdOf x (.own id n) ++ (rdOf y (.d (.sl k rows2)) ++ [(.o id, .ob (.arr e k rows))])), [(.s d, .av (.own id (n + rows2.length))), (.o id, .ob (.arr e k (rows ++ rows2)))]⟩]) rest
      ((.s d, .av (.own id (n + rows2.length))) :: (.o id, .ob (.arr e k (rows ++ rows2))) :: σ)) :
    RW cx ops K acc (⟨some d, .call { callee := .builtin .append, args := #[x, y], argTypes := #[t, t] }, ty, pos, af, gd⟩ :: rest) σ :=
  RW.step hg (ok_append (lt_of_blt hd) (ev_out hx).1 (ev_out hy).1 ht hk hte (by simpa using hby) hnn hlen) ((ev_out hx).2.append ((ev_out hy).2.append ⟨ho, trivial⟩)) h

theorem cut_from {rows : List (List D)} {n : Nat} (h : n ≤ rows.length) : cutI rows (some (n : Int)) none = some (rows.drop n) := by
  unfold cutI
  dsimp only [Option.getD]
  rw [if_pos (by omega)]
  simp
theorem cut_to {rows : List (List D)} {n : Nat} (h : n ≤ rows.length) : cutI rows none (some (n : Int)) = some (rows.take n) := by
  unfold cutI
  dsimp only [Option.getD]
  rw [if_pos (by omega)]
  simp

theorem st_slice_from {t : TypeId} {x lo : Operand} {kd : IntKind} {m : Int} {k : Nat} {rows out : List (List D)} {ti : TI} (hx : ev σ x = some (.d (.sl k rows)))
    (hlo : ev σ lo = some (.d (.v (.int kd m)))) (ht : tget cx.T t = some ti) (hk : slK ti = some k) (hc : cutI rows (some m) none = some out)
    (hg : GOk ops σ ⟨some d, .slice t x (some lo) none none, ty, pos, af, gd⟩ pre) (hd : Nat.blt d cx.n = true)
    (h : RW cx ops K (acc ++ [⟨pre ++ (rdOf x (.d (.sl k rows)) ++ (rdOf lo (.d (.v (.int kd m))) ++ [])), [(.s d, .av (.d (.sl k out)))]⟩]) rest ((.s d, .av (.d (.sl k out))) :: σ)) :
    RW cx ops K acc (⟨some d, .slice t x (some lo) none none, ty, pos, af, gd⟩ :: rest) σ :=
  RW.step hg (ok_slice (lt_of_blt hd) (ev_out hx).1 (.at_ (ev_out hlo).1) .no ht hk hc) ((ev_out hx).2.append ((ev_out hlo).2.append trivial)) h
theorem st_slice_to {t : TypeId} {x hi : Operand} {kd : IntKind} {m : Int} {k : Nat} {rows out : List (List D)} {ti : TI} (hx : ev σ x = some (.d (.sl k rows)))
    (hhi : ev σ hi = some (.d (.v (.int kd m)))) (ht : tget cx.T t = some ti) (hk : slK ti = some k) (hc : cutI rows none (some m) = some out)
    (hg : GOk ops σ ⟨some d, .slice t x none (some hi) none, ty, pos, af, gd⟩ pre) (hd : Nat.blt d cx.n = true)
    (h : RW cx ops K (acc ++ [⟨pre ++ (rdOf x (.d (.sl k rows)) ++ ([] ++ rdOf hi (.d (.v (.int kd m))))), [(.s d, .av (.d (.sl k out)))]⟩]) rest ((.s d, .av (.d (.sl k out))) :: σ)) :
    RW cx ops K acc (⟨some d, .slice t x none (some hi) none, ty, pos, af, gd⟩ :: rest) σ :=
  RW.step hg (ok_slice (lt_of_blt hd) (ev_out hx).1 .no (.at_ (ev_out hhi).1) ht hk hc) ((ev_out hx).2.append (App.append (l := []) trivial (ev_out hhi).2)) h

theorem st_field {t : TypeId} {x : Operand} {f : Nat} {cells : List D} {ti : TI} {fs : List (Nat × Nat)} {off : Nat} {y : D} (hx : ev σ x = some (.d (.agg cells))) (ht : tget cx.T t = some ti)
    (hk : ti.kind = .st fs) (hf : fs[f]? = some (off, 1)) (hy : cells[off]? = some y)
    (hg : GOk ops σ ⟨some d, .field t x f, ty, pos, af, gd⟩ pre) (hd : Nat.blt d cx.n = true)
    (h : RW cx ops K (acc ++ [⟨pre ++ rdOf x (.d (.agg cells)), [(.s d, .av (.d y))]⟩]) rest ((.s d, .av (.d y)) :: σ)) : RW cx ops K acc (⟨some d, .field t x f, ty, pos, af, gd⟩ :: rest) σ :=
  RW.step hg (ok_field (lt_of_blt hd) (ev_out hx).1 ht hk hf hy) (ev_out hx).2 h

theorem st_callE {f : FuncId} {xs : List Operand} {avs : List AV} {ys : List Arg} {l : List (Key × Val)} {r : Res} {ats : Array TypeId} (hc : FnOk cx.P f ys r) (hsub : SubsE σ xs avs ys l)
    (hg : GOk ops σ ⟨some d, .call { callee := .value (.func f), args := ⟨xs⟩, argTypes := ats }, ty, pos, af, gd⟩ pre) (hd : Nat.blt d cx.n = true)
    (h : RW cx ops K (acc ++ [⟨pre ++ l, [(.s d, .av r.av)]⟩]) rest ((.s d, .av r.av) :: σ)) :
    RW cx ops K acc (⟨some d, .call { callee := .value (.func f), args := ⟨xs⟩, argTypes := ats }, ty, pos, af, gd⟩ :: rest) σ :=
  st_call hc hsub.out.1 hsub.out.2 hg hd h

/-- Two structs without memory, held against each other. -/
theorem rd_agg_v {own : Nat → Prop} {w : World} {v : Value} {vs : List Value} (h : Rd w own v (.agg (vs.map D.v))) : v = .agg vs.toArray := by
  generalize hD : D.agg (vs.map D.v) = D0 at h
  cases h with
  | v => cases hD
  | sl => cases hD
  | nil => cases hD
  | agg cs ds hl h1 hr =>
    cases hD
    congr 1
    apply Array.ext_getElem?
    intro j
    rcases Nat.lt_or_ge j cs.size with hj | hj
    · have hv : j < vs.length := by simp at hl; omega
      have h2 := hr j (.v vs[j]) cs[j] (by simp [hv]) (Array.getElem?_eq_getElem hj)
      have h3 := rd_v h2
      simp [hj, hv, h3]
    · have hv : vs.length ≤ j := by simp at hl; omega
      simp [hj, hv]

theorem ok_binagg {op : BinOp} {t t' : TypeId} {x y : Operand} {us vs : List Value} {r : Value} (hn : d < cx.n) (hx : EvS x (.d (.agg (us.map D.v)))) (hy : EvS y (.d (.agg (vs.map D.v)))) (hb : BinR cx.P op t (.agg us.toArray) (.agg vs.toArray) r) :
    OpOk cx ⟨some d, .binOp op t x y t', ty, pos, af, gd⟩ ⟨rdOf x (.d (.agg (us.map D.v))) ++ rdOf y (.d (.agg (vs.map D.v))), [(.s d, .av (.d (.v r)))]⟩ := by
  refine ok_val rfl hn fun _ a w _ _ hs hr => ⟨r, w, ?_, Below.refl _ _, Rd.v _, trivial⟩
  have h1 := rd_agg_v (hs.ev hx hr.left).1
  have h2 := rd_agg_v (hs.ev hy hr.right).1
  have := hb w x y
  simp only [execOp, h1, h2, Sem.run_bind, Sem.run_pure] at this ⊢
  rw [this]
  rfl

theorem st_binagg {op : BinOp} {t t' : TypeId} {x y : Operand} {cs es : List D} {us vs : List Value} {r : Value} (hx : ev σ x = some (.d (.agg cs))) (hy : ev σ y = some (.d (.agg es))) (hb : BinR cx.P op t (.agg us.toArray) (.agg vs.toArray) r)
    (hu : cs = us.map D.v) (hv : es = vs.map D.v) (hg : GOk ops σ ⟨some d, .binOp op t x y t', ty, pos, af, gd⟩ pre) (hd : Nat.blt d cx.n = true)
    (h : RW cx ops K (acc ++ [⟨pre ++ (rdOf x (.d (.agg cs)) ++ rdOf y (.d (.agg es))), [(.s d, .av (.d (.v r)))]⟩]) rest ((.s d, .av (.d (.v r))) :: σ)) :
    RW cx ops K acc (⟨some d, .binOp op t x y t', ty, pos, af, gd⟩ :: rest) σ := by
  subst hu hv
  exact RW.step hg (ok_binagg (lt_of_blt hd) (ev_out hx).1 (ev_out hy).1 hb) ((ev_out hx).2.append (ev_out hy).2) h

theorem gt {q : Key} {b b' : Bool} (h : get σ q = bv b) (hb : b = b') : get σ q = bv b' := by rw [h, hb]

theorem st_skip {o : Oper} {j q : Nat} {want b : Bool} (hg : o.guard = some (j, want)) (hj : (ops[j]?).bind (·.dst) = some q) (hq : get σ (.s q) = bv b) (hb : b = !want)
    (hx : (match o.dst with | some x => Nat.blt x cx.n | none => true) = true)
    (h : RW cx ops K (acc ++ [⟨[(.s q, bv (!want))], skipWr o⟩]) rest (skipWr o ++ σ)) : RW cx ops K acc (o :: rest) σ :=
  RW.skip hg hj (gt hq hb) (fun x hxx => by rw [hxx] at hx; exact lt_of_blt hx) h

theorem st_pick_t {c x y : Operand} {b : Bool} {av : AV} (hc : ev σ c = some (.d (.v (.bool b)))) (hb : b = true) (hx : ev σ x = some av)
    (hg : GOk ops σ ⟨some d, .pick c x y, ty, pos, af, gd⟩ pre) (hd : Nat.blt d cx.n = true)
    (h : RW cx ops K (acc ++ [⟨pre ++ (rdOf c (.d (.v (.bool b))) ++ rdOf x av), [(.s d, .av av)]⟩]) rest ((.s d, .av av) :: σ)) :
    RW cx ops K acc (⟨some d, .pick c x y, ty, pos, af, gd⟩ :: rest) σ := by
  have hs : sel b x y = x := by rw [hb]; rfl
  exact st_pick hc (by rw [hs]; exact hx) hg hd (by rw [hs]; exact h)
theorem st_pick_f {c x y : Operand} {b : Bool} {av : AV} (hc : ev σ c = some (.d (.v (.bool b)))) (hb : b = false) (hx : ev σ y = some av)
    (hg : GOk ops σ ⟨some d, .pick c x y, ty, pos, af, gd⟩ pre) (hd : Nat.blt d cx.n = true)
    (h : RW cx ops K (acc ++ [⟨pre ++ (rdOf c (.d (.v (.bool b))) ++ rdOf y av), [(.s d, .av av)]⟩]) rest ((.s d, .av av) :: σ)) :
    RW cx ops K acc (⟨some d, .pick c x y, ty, pos, af, gd⟩ :: rest) σ := by
  have hs : sel b x y = y := by rw [hb]; rfl
  exact st_pick hc (by rw [hs]; exact hx) hg hd (by rw [hs]; exact h)

end Go.AX
