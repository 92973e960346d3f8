/-
  Part 4 of what the claim leans on: J10 H2 H3 H4 H7 H10 H11 J9 J2 J4 Cl J6 H5 L20 AxLaid.
-/
import Derived.Test.YtmnociojijpdmaaGreatDoorK3
import Derived.Shelf.Vars
import Derived.FnData
set_option linter.all false

namespace Go.Proofs.YtmnociojijpdmaaGreatDoor
open Go.AX Go.RF
set_option maxRecDepth 100000
set_option maxHeartbeats 8000000
theorem linesD_take {l : List Deed} {j : Nat} {d : Deed} (h : l[j]? = some d) : linesD (l.take (j + 1)) = linesD (l.take j) ++ (printD d ++ [10]) := by
 unfold linesD
 rw [List.take_add_one,h]
 simp
theorem linesD_len {l : List Deed} (hw : ∀ d ∈ l,wrongDeed d = 0) (hl : l.length ≤ 6) (j : Nat) : (linesD (l.take j)).length ≤ 2406 := by
 have : ∀ m : List Deed,(∀ d ∈ m,wrongDeed d = 0) → (linesD m).length ≤ 401 * m.length := by
  intro m
  induction m with
  | nil => intro _;simp [linesD]
  | cons d m ih =>
   intro h
   have h1 := printD_len (h d (List.mem_cons_self ..))
   have h2 := ih fun x hx => h x (List.mem_cons_of_mem _ hx)
   have h3 : linesD (d :: m) = printD d ++ [10] ++ linesD m := by simp [linesD]
   rw [h3,List.length_append,List.length_append,List.length_cons,List.length_cons,List.length_nil]
   omega
 have h3 := this (l.take j) fun d hd => hw d (List.mem_of_mem_take hd)
 have h4 : (l.take j).length ≤ 6 := by rw [List.length_take];omega
 omega
theorem bytes_len {e : Entry} (he : wrongEntry e = 0) : (bytesE e).length ≤ 2409 := by
 obtain ⟨_,h3,_,h4⟩ := wrongEntry_out he
 have hlen := linesD_len h4 h3 e.deeds.length
 rw [List.take_length] at hlen
 have : bytesE e = UInt8.ofNat e.number.toNat :: linesD e.deeds ++ sum2 (sumN 1 (headE e)) := rfl
 rw [this]
 simp [sum2]
 omega
theorem ok_lbytes (e : Entry) (he : wrongEntry e = 0) : FnOk Tryz.prog 31 [.d (.agg e.enc)] (.one (encBytes (bytesE e))) := by
 obtain ⟨⟨h1,h2⟩,h3,_,h4⟩ := wrongEntry_out he
 have hB : bytesE e = headE e ++ sum2 (sumN 1 (headE e)) := rfl
 have hH : headE e = UInt8.ofNat e.number.toNat :: linesD e.deeds := rfl
 have hlen := linesD_len h4 h3 e.deeds.length
 rw [List.take_length] at hlen
 have hs := sumN_lt (l := headE e) (s := 1) (by omega)
 have c1 := ok_lsum (headE e) (by rw [hH];simp;omega)
 rw [hB]
 have hr0' : [[D.v (.int .u8 e.number)]] = [UInt8.ofNat e.number.toNat].map byteD := by
  have := byte_row (s := e.number.toNat) (by omega)
  rw [show ((e.number.toNat : Nat) : Int) = e.number by omega] at this
  rw [this];rfl
 generalize sumN 1 (headE e) = S at *
 generalize UInt8.ofNat e.number.toNat = c0 at *
 rw [hH] at c1 ⊢
 refine fnOk_of tbl_ok mixed_ok Tryz.func31 rfl (by kernel_rfl) rfl rfl fun w0 own0 => ?_
 have hr0 : [[D.v (.int .u8 e.number)]] = (c0 :: linesD (e.deeds.take 0)).map byteD := by
  rw [hr0'];simp [linesD]
 repeat (first|((with_reducible apply s5);(with_reducible apply (a_bsO [[D.v (.int .u8 e.number)]]));(iterate 10 exact rfl);(repeat (first | exact PartsE.nil | (apply PartsE.cons;exact rfl;exact rfl)));exact by_g)|refine wa1 ?_|((with_reducible apply s5);(first|((with_reducible apply a_conv);(iterate 6 exact rfl);(apply wrap_u8_in;omega))|exact by_oa|exact by_ca);exact by_g)|refine wb ?_)
 refine CW.loopT (fun j : Nat => [sp 1 0,ob 0 e.enc,so 3 1 ((linesD (e.deeds.take j)).length + 1),oa 1 5 1 ((c0 :: linesD (e.deeds.take j)).map byteD),sd 12 (encDeeds e.deeds),sd 13 (dint e.deeds.length),sd 14 (dint j),nxt 2]) (fun j => j ≤ e.deeds.length) (fun j => e.deeds.length - j) 0 (by omega) ?_ ?_
 ·
  exact by_less
 ·
  rintro j hj
  rcases drop_case hj with ⟨g1,g2⟩ | ⟨d,g1,g2,g3⟩
  ·
   subst g2
   rw [List.take_length]
   have hr1 : [[D.v (.int .u8 ((S / 256 : Nat) : Int))],[.v (.int .u8 ((S % 256 : Nat) : Int))]] = (sum2 S).map byteD := by
    unfold sum2
    rw [byte_row (show S / 256 < 256 by omega),byte_row (show S % 256 < 256 by omega)];rfl
   repeat (first|((with_reducible apply s5);((with_reducible apply a_bs [[D.v (.int .u8 ((S / 256 : Nat) : Int))],[.v (.int .u8 ((S % 256 : Nat) : Int))]]);(iterate 9 exact rfl);(repeat (first | exact PartsE.nil | (apply PartsE.cons;exact rfl;exact rfl))));exact by_g)|refine wa1 ?_|((with_reducible apply s5);(first|(focus ((with_reducible apply a_lend);exact c1;exact rfl;exact .plain rfl;(focus first | exact rfl | (simp;done) | (simp;omega));(iterate 2 exact rfl);exact by_sub))|((with_reducible apply a_bin);exact rfl;exact rfl;(with_reducible apply bin_shrJ);exact rfl;exact div_256;exact rfl)|((with_reducible apply a_conv);(iterate 6 exact rfl);(apply wrap_u8_in;omega))|((with_reducible apply a_convW);(iterate 6 exact rfl);exact wrap_u8_n)|exact by_oa|exact by_ca);exact by_g)|refine wb ?_)
   rw [hr1]
   exact .one (.tmp rfl (.one (.own rfl (by simp;omega) (dle_eq (by simp [encBytes])))))
  ·
   have hds := wrong_sm (h4 d (List.mem_of_getElem? g2))
   have hp := printD_len (h4 d (List.mem_of_getElem? g2))
   have c2 := ok_tprint d (h4 d (List.mem_of_getElem? g2)) hds (by omega)
   have hlj := linesD_len h4 h3 j
   have hstep : ((c0 :: linesD (e.deeds.take j)).map byteD ++ (printD d).map byteD) ++ [[D.v (.int .u8 10)]] = (c0 :: linesD (e.deeds.take (j + 1))).map byteD := by
    rw [linesD_take g2]
    simp [byteD]
   have hlen2 : (linesD (e.deeds.take (j + 1))).length = (linesD (e.deeds.take j)).length + (printD d).length + 1 := by
    rw [linesD_take g2];simp;omega
   repeat (first|((with_reducible apply s5);((with_reducible apply a_bs [[D.v (.int .u8 10)]]);(iterate 9 exact rfl);(repeat (first | exact PartsE.nil | (apply PartsE.cons;exact rfl;exact rfl))));exact by_g)|refine wa1 ?_|((with_reducible apply s5);(first|(focus (with_reducible apply a_appstr);exact rfl;exact rfl;exact rfl;exact rfl;exact rfl;exact rfl;exact Tryz.zeroValue5;exact rfl;exact rfl;exact rfl;exact rfl;exact rfl;(all_goals first | (simp;done) | (simp;omega)))|exact by_oa|exact by_ca);exact by_g)|refine wb ?_)
   refine q_loopT (j + 1) (by omega) (by omega) ?_
   exact by_less
end Go.Proofs.YtmnociojijpdmaaGreatDoor
namespace Go.Proofs.YtmnociojijpdmaaGreatDoor
open Go.AX Go.RF Go.RowKit
set_option maxRecDepth 100000
set_option maxHeartbeats 4000000
theorem numV_ok {s : Str} {v : Int} (h : numV s = some v) : Lib.atoiAll s = .ok v ∧ Lib.itoa v = s := by
 unfold numV at h
 split at h
 ·
  next x hx =>
  split at h
  ·
   next hy => cases h;exact ⟨hx,hy⟩
  ·
   cases h
 ·
  cases h
theorem ok_atoi (s : Str) (v : Int) (hs : s.length ≤ 1073741824) (h : Lib.atoiAll s = .ok v) : FnOk Tryz.prog 133 [.d (dstr s)] (.tup [dint v,.v .nilIface]) := by
 refine ⟨⟨_,Tryz.func133,by kernel_rfl,by kernel_rfl⟩,fun w own vs hown ha => ?_⟩
 match vs,ha with
 | [x],⟨h1,_⟩ =>
  obtain rfl : x = str s := rd_v h1
  refine (Any.strconv_Atoi_ok Tryz.laysC172 ⟨s.toArray⟩ (by show s.toArray.size ≤ _;simp;omega) v (by simpa using h) w).mono fun e w' he => ?_
  obtain ⟨rfl,hw⟩ := he
  refine ⟨_,rfl,?_,_,rfl,rfl,fun j c x hj hc => ?_⟩
  ·
   rcases hw with rfl | ⟨t,rfl⟩
   ·
    exact Below.refl _ _
   ·
    exact Lib.bytesWorld_below _ _ _
  ·
   match j,hj,hc with
   | 0,hj,hc => simp at hj hc;subst hj hc;exact Rd.v _
   | 1,hj,hc => simp at hj hc;subst hj hc;exact Rd.v _
   | j + 2,hj,hc => simp at hj
theorem ok_itoaS (i : Nat) (hi : i < 100) : FnOk Tryz.prog 99 [.d (dint i)] (.one (dstr (Lib.itoa i))) := by
 refine ⟨⟨_,Tryz.func99,by kernel_rfl,by kernel_rfl⟩,fun w own vs hown ha => ?_⟩
 match vs,ha with
 | [x],⟨h1,_⟩ =>
  obtain rfl : x = i64 i := rd_v h1
  refine (Any.strconv_Itoa_small Tryz.lays171 i hi w).mono fun e w' he => ?_
  obtain ⟨rfl,rfl⟩ := he
  refine ⟨_,rfl,Below.refl _ _,?_⟩
  have hx : Lib.itoa i = Lib.decDigits i := by rw [Lib.itoa,if_neg (by omega)];rfl
  rw [hx]
  exact Rd.v _
theorem ok_numS (s : Str) (v : Int) (hs : s.length ≤ 1073741824) (h : numV s = some v) (h0 : 0 ≤ v) (h1 : v < 100) : FnOk Tryz.prog 109 [.d (dstr s)] (.tup [dint v,dbool true]) := by
 refine fnOk_of tbl_ok mixed_ok Tryz.func109 rfl (by kernel_rfl) rfl rfl fun w0 own0 => ?_
 obtain ⟨ha,hb⟩ := numV_ok h
 obtain ⟨i,rfl⟩ := Int.eq_ofNat_of_zero_le h0
 have c1 := ok_atoi s i hs ha
 have c2 := ok_itoaS i (by omega)
 rw [hb] at c2
 repeat (first|refine wa ?_|((with_reducible apply s5);(first|((with_reducible apply a_noerr);exact rfl;exact Tryz.underlying163;exact rfl)|exact by_oa|exact by_ca);exact by_g)|refine wb ?_)
 exact .two (.tmp rfl (.one (.d (.refl _)))) (.tmp rfl (.one (.d (dle_bool (by simp)))))
set_option maxHeartbeats 16000000
theorem splitF_part (sep : Str) : ∀ (n : Nat) (cur r : Str),∀ p ∈ splitF sep n cur r,p.length ≤ cur.length + r.length
 | 0,cur,r => by simp [splitF]
 | n + 1,cur,r => by
  rw [splitF_succ]
  split
  ·
   simp
  split
  ·
   intro p hp
   rcases List.mem_cons.1 hp with rfl | hp
   ·
    omega
   ·
    have := splitF_part sep n [] _ p hp
    rw [List.length_nil,List.length_drop] at this
    omega
  cases r with
  | nil => simp
  | cons c t =>
   intro p hp
   have := splitF_part sep n _ _ p hp
   simp at this ⊢
   omega
theorem split_part {s sep : Str} {p : Str} (h : p ∈ split s sep) : p.length ≤ s.length := by
 have := splitF_part sep _ _ _ p h
 simpa using this
theorem split_len (s sep : Str) : (split s sep).length ≤ s.length + 1 := splitF_len sep _ _ _
def smallN (o : Option Int) : Bool := match o with
 | none => true
 | some v => decide (0 ≤ v ∧ v < 100)
def smallS (s : Str) : Bool := (split s [59,32]).all fun p => (split p [32]).all fun w => smallN (numV w) && smallN (regV w)
theorem smallN_of {o : Option Int} {v : Int} (h : smallN o = true) (hv : o = some v) : 0 ≤ v ∧ v < 100 := by
 subst hv;simpa [smallN] using h
theorem insAll_cons {p : Str} {r : List Str} {l : List Ins} (h : insAll (p :: r) = some l) : ∃ i l',insP (split p [32]) = some i ∧ insAll r = some l' ∧ l = i :: l' := by
 simp only [insAll] at h
 split at h
 ·
  next i l' h1 h2 => cases h;exact ⟨i,l',h1,h2,rfl⟩
 ·
  cases h
theorem insP_some {l : List Str} {i : Ins} (h : insP l = some i) : ∃ w ws,l = w :: ws ∧ kindOf w ≠ 0 ∧ ws.length = (form (kindOf w).toNat).length ∧ fillI ⟨kindOf w,0,0,0,[]⟩ (form (kindOf w).toNat) ws = some i := by
 match l,h with
 | [],h => simp [insP] at h
 | w :: ws,h =>
  simp only [insP] at h
  split at h
  ·
   cases h
  ·
   next h1 =>
   split at h
   ·
    next h2 => exact ⟨w,ws,rfl,h1,h2,h⟩
   ·
    cases h
theorem fillI_cons {i i' : Ins} {c : UInt8} {f : Str} {w : Str} {ws : List Str} (h : fillI i (c :: f) (w :: ws) = some i') :
  (c.toNat = 107 ∧ fillI { i with key := w } f ws = some i') ∨ (c.toNat = 110 ∧ ∃ n,numV w = some n ∧ fillI { i with n := n } f ws = some i') ∨
  (c.toNat ≠ 107 ∧ c.toNat ≠ 110 ∧ ∃ r x,w = 114 :: r ∧ numV r = some x ∧ ((c.toNat = 114 ∧ fillI { i with a := x } f ws = some i') ∨ (c.toNat ≠ 114 ∧ fillI { i with b := x } f ws = some i'))) := by
 have hc : ∀ k : UInt8,c = k ↔ c.toNat = k.toNat := fun k => by rw [UInt8.toNat_inj]
 simp only [fillI] at h
 split at h
 ·
  next h1 => exact .inl ⟨(hc _).1 h1,h⟩
 ·
  next h1 =>
  have h1' : c.toNat ≠ 107 := fun e => h1 ((hc 107).2 e)
  split at h
  ·
   next h2 =>
   split at h
   ·
    next n hn => exact .inr (.inl ⟨(hc _).1 h2,n,hn,h⟩)
   ·
    cases h
  ·
   next h2 =>
   have h2' : c.toNat ≠ 110 := fun e => h2 ((hc 110).2 e)
   refine .inr (.inr ⟨h1',h2',?_⟩)
   split at h
   ·
    next x hx =>
    have : ∃ r,w = 114 :: r ∧ numV r = some x := by
     match w,hx with
     | [],hx => simp [regV] at hx
     | b :: r,hx =>
      by_cases hb : b = 114
      ·
       subst hb;exact ⟨r,rfl,hx⟩
      ·
       unfold regV at hx
       split at hx
       ·
        next r' he => cases he;exact absurd rfl hb
       ·
        cases hx
    obtain ⟨r,h3,h4⟩ := this
    refine ⟨r,x,h3,h4,?_⟩
    split at h
    ·
     next h5 => exact .inl ⟨(hc _).1 h5,h⟩
    ·
     next h5 => exact .inr ⟨fun e => h5 ((hc 114).2 e),h⟩
   ·
    cases h
theorem parseD_some {s : Str} {d : Deed} (h : parseD s = some d) : s.length ≤ 400 ∧ ∃ p0 p1 ps,split s [59,32] = p0 :: p1 :: ps ∧ split p0 [32] = [114,101,97,100,115] :: d.reads ∧ split p1 [32] = [119,114,105,116,101,115] :: d.writes ∧ insAll ps = some d.code ∧ wrongDeed d = 0 := by
 unfold parseD at h
 split at h
 ·
  cases h
 ·
  next h0 =>
  refine ⟨by omega,?_⟩
  split at h
  ·
   next p0 p1 ps h1 =>
   split at h
   ·
    next w0 rs w1 ws code h2 h3 h4 =>
    split at h
    ·
     next h5 =>
     obtain ⟨rfl,rfl,h6⟩ := h5
     cases h
     exact ⟨p0,p1,ps,h1,h2,h3,h4,h6⟩
    ·
     cases h
   ·
    cases h
  ·
   cases h
theorem ok_parseS (s : Str) (d : Deed) (h : parseD s = some d) (hm : smallS s = true) : FnOk Tryz.prog 69 [.d (dstr s)] (.tup [.agg d.enc,dint 0]) := by
 refine fnOk_of tbl_ok mixed_ok Tryz.func69 rfl (by kernel_rfl) rfl rfl fun w0 own0 => ?_
 obtain ⟨hs,p0,p1,ps,e0,e1,e2,e3,e4⟩ := parseD_some h
 obtain ⟨rs,ws,cd⟩ := d
 dsimp only at e1 e2 e3
 have c1 := ok_split s [59,32] (by omega) (by simp) (by simp)
 have hsl := split_len s [59,32]
 have hsp : ∀ p ∈ split s [59,32],p.length ≤ 400 := fun p hp => Nat.le_trans (split_part hp) hs
 have hsm : ∀ p ∈ split s [59,32],∀ w ∈ split p [32],smallN (numV w) = true ∧ smallN (regV w) = true := fun p hp w hw => by
  have := List.all_eq_true.1 (List.all_eq_true.1 hm p hp) w hw
  simpa using this
 generalize hl : split s [59,32] = l at *
 have h2l : 2 ≤ l.length := by rw [e0];simp
 have hst0 : StopA 8 := ⟨rfl⟩
 try refine wkS ?_
 clear hst0
 refine Stop.go (CW.stut (stut_promote_cell (id := 1) (j := 2) 118 5 rfl) ⟨rfl,rfl,trivial⟩ ?_)
 try refine wk ?_
 refine CW.loopT (fun t : Nat × D × D × List Ins => [sp 2 0,ob 0 [.v nilS,.v nilS,.v nilS],sp 6 1,(.o 1,.ob (.box [.d t.2.1,.d t.2.2.1,.own 2 t.2.2.2.length])),oa 2 118 5 (t.2.2.2.map Ins.enc),sd 36 (encStrs l),sd 37 (dint l.length),sd 38 (dint t.1),nxt 3])
  (fun t => t.1 ≤ l.length ∧ (1 ≤ t.1 → t.2.1 = encStrs rs) ∧ (2 ≤ t.1 → t.2.2.1 = encStrs ws) ∧ t.2.2.2.length ≤ t.1 ∧ ∃ rest,insAll (l.drop (max t.1 2)) = some rest ∧ t.2.2.2 ++ rest = cd) (fun t => l.length - t.1) (0,.v nilS,.v nilS,[])
  ⟨by dsimp only;omega,fun h => by dsimp only at h;omega,fun h => by dsimp only at h;omega,by simp,cd,by rw [e0];exact e3,rfl⟩ ?_ ?_
 ·
  exact by_less
 ·
  rintro ⟨x,R,W,code⟩ ⟨hx,hR,hW,hc,rest,hr,hcd⟩
  dsimp only at hx hR hW hc hr hcd ⊢
  rcases drop_case hx with ⟨h1,h2⟩ | ⟨p,h1,h2,h3⟩
  ·
   rw [show max x 2 = x by omega,h1] at hr
   cases hr
   rw [List.append_nil] at hcd
   obtain rfl := hR (by omega)
   obtain rfl := hW (by omega)
   subst hcd
   have hrs : ∀ k ∈ rs,k.length ≤ 400 := fun k hk => Nat.le_trans (split_part (s := p0) (sep := [32]) (by rw [e1];exact List.mem_cons_of_mem _ hk)) (hsp p0 (by rw [e0];simp))
   have hws : ∀ k ∈ ws,k.length ≤ 400 := fun k hk => Nat.le_trans (split_part (s := p1) (sep := [32]) (by rw [e2];exact List.mem_cons_of_mem _ hk)) (hsp p1 (by rw [e0];simp))
   have hrl : rs.length ≤ 400 := by have := split_len p0 [32];rw [e1] at this;have := hsp p0 (by rw [e0];simp);simp at *;omega
   have hwl : ws.length ≤ 400 := by have := split_len p1 [32];rw [e2] at this;have := hsp p1 (by rw [e0];simp);simp at *;omega
   have cw := ok_wrongDeed ⟨rs,ws,code⟩ (by dsimp only;omega) (by dsimp only;omega) (by dsimp only;omega) (fun k hk => by have := hrs k hk;omega) (fun k hk => by have := hws k hk;omega)
   rw [e4] at cw
   have hst0 : StopA 52 := ⟨rfl⟩
   try refine wkS ?_
   clear hst0
   refine Stop.go (CW.stut (stut_freeze_cell (id := 1) (j := 2) (i := 2) rfl (by simp)) ⟨rfl,rfl,trivial⟩ ?_)
   try refine wk ?_
   exact .two (.cell rfl rfl rfl rfl (.aggd rfl (.refl _))) (.tmp rfl (.one (.d (.refl _))))
  ·
   have hp : p ∈ l := List.mem_of_getElem? h2
   have hpl := hsp p hp
   have c2 := ok_split p [32] (by omega) (by simp) (by simp)
   by_cases hx0 : x = 0
   ·
    subst hx0
    have h2' := h2
    rw [e0] at h2
    obtain rfl : p0 = p := by simpa using h2
    rw [e1] at c2
    have hrl : rs.length ≤ 400 := by have := split_len p0 [32];rw [e1] at this;simp at *;omega
    have hw0 : (([114,101,97,100,115] : Str) :: rs)[0]? = some [114,101,97,100,115] := rfl
    have hn0 : ([[114,101,97,100,115],[119,114,105,116,101,115]] : List Str)[0]? = some [114,101,97,100,115] := rfl
    repeat (first|((with_reducible apply s5);((with_reducible apply a_bs (([[114,101,97,100,115],[119,114,105,116,101,115]] : List Str).map encStr1));(iterate 9 exact rfl);(repeat (first | exact PartsE.nil | (apply PartsE.cons;exact rfl;exact rfl))));exact by_g)|refine wa1 ?_|((with_reducible apply s5);(first|exact a_call c2 rfl by_sub|exact by_oa|exact by_ca);exact by_g)|refine wb ?_)
    refine q_loopT (1,encStrs rs,W,code) ⟨by dsimp only;omega,fun _ => rfl,fun h => by dsimp only at h;omega,by dsimp only;omega,rest,hr,hcd⟩ (by dsimp only;omega) ?_
    exact by_less
   by_cases hx1 : x = 1
   ·
    subst hx1
    have h2' := h2
    rw [e0] at h2
    obtain rfl : p1 = p := by simpa using h2
    rw [e2] at c2
    have hwl : ws.length ≤ 400 := by have := split_len p1 [32];rw [e2] at this;simp at *;omega
    have hw0 : (([119,114,105,116,101,115] : Str) :: ws)[0]? = some [119,114,105,116,101,115] := rfl
    have hn0 : ([[114,101,97,100,115],[119,114,105,116,101,115]] : List Str)[1]? = some [119,114,105,116,101,115] := rfl
    repeat (first|((with_reducible apply s5);((with_reducible apply a_bs (([[114,101,97,100,115],[119,114,105,116,101,115]] : List Str).map encStr1));(iterate 9 exact rfl);(repeat (first | exact PartsE.nil | (apply PartsE.cons;exact rfl;exact rfl))));exact by_g)|refine wa1 ?_|((with_reducible apply s5);(first|exact a_call c2 rfl by_sub|exact by_oa|exact by_ca);exact by_g)|refine wb ?_)
    refine q_loopT (2,R,encStrs ws,code) ⟨by dsimp only;omega,fun _ => hR (by omega),fun _ => rfl,by dsimp only;omega,rest,hr,hcd⟩ (by dsimp only;omega) ?_
    exact by_less
   rw [show max x 2 = x by omega,h1] at hr
   obtain ⟨i1,rest',hi,hr',rfl⟩ := insAll_cons hr
   have hsw := hsm p hp
   generalize hwds : split p [32] = wds at *
   obtain ⟨w,wz,rfl,hk0,hlen,hfi⟩ := insP_some hi
   have hwl : wz.length ≤ 400 := by have := split_len p [32];rw [hwds] at this;simp at *;omega
   have cw := ok_words
   have hw0 : (w :: wz)[0]? = some w := rfl
   repeat (first|refine wa ?_|((with_reducible apply s5);(first|exact a_call c2 rfl by_sub|exact a_call cw rfl by_sub|exact by_oa|exact by_ca);exact by_g)|refine wb ?_)
   refine CW.loopT (fun t : Nat × Int => [sp 2 0,ob 0 [.v nilS,.v nilS,.v nilS],sp 6 1,(.o 1,.ob (.box [.d R,.d W,.own 2 code.length])),oa 2 118 5 (code.map Ins.enc),sd 36 (encStrs l),sd 37 (dint l.length),sd 38 (dint x),
     sd 9 (encStrs (w :: wz)),sp 10 3,ob 3 [dint t.2,dint 0,dint 0,dint 0,dstr []],sd 68 (encStrs words),sd 69 (dint words.length),sd 70 (dint t.1),nxt 4])
    (fun t => t.1 ≤ words.length ∧ 0 ≤ t.2 ∧ t.2 < 10 ∧ kindGo w t.1 t.2 (words.drop t.1) = kindOf w) (fun t => words.length - t.1) (0,0) ⟨by dsimp only;omega,by dsimp only;omega,by dsimp only;omega,rfl⟩ ?_ ?_
   ·
    exact by_less
   ·
    rintro ⟨y,k⟩ ⟨hy,hk1,hk2,hK⟩
    dsimp only at hy hk1 hk2 hK ⊢
    have hwn : words.length = 10 := rfl
    rcases drop_case hy with ⟨g1,g2⟩ | ⟨u,g1,g2,g3⟩
    ·
     rw [g1,kindGo] at hK
     subst hK
     obtain ⟨K,hKe⟩ := Int.eq_ofNat_of_zero_le hk1
     rw [hKe] at hlen hfi hk0 hk2 ⊢
     rw [Int.toNat_natCast] at hlen hfi
     have cf := ok_form K (by omega)
     have hfl := form_len K
     generalize form K = f at *
     try refine wk ?_
     refine CW.loopT (fun t : Nat × Ins => [sp 2 0,ob 0 [.v nilS,.v nilS,.v nilS],sp 6 1,(.o 1,.ob (.box [.d R,.d W,.own 2 code.length])),oa 2 118 5 (code.map Ins.enc),sd 36 (encStrs l),sd 37 (dint l.length),sd 38 (dint x),
       sd 9 (encStrs (w :: wz)),sp 10 3,ob 3 t.2.enc,sd 13 (dstr f),sd 107 (dstr f),sd 108 (dint f.length),sd 109 (dint t.1),nxt 4])
      (fun t => t.1 ≤ f.length ∧ fillI t.2 (f.drop t.1) (wz.drop t.1) = some i1) (fun t => f.length - t.1) (0,⟨K,0,0,0,[]⟩) ⟨by dsimp only;omega,hfi⟩ ?_ ?_
     ·
      exact by_less
     ·
      rintro ⟨j,i⟩ ⟨hj,hI⟩
      dsimp only at hj hI ⊢
      rcases drop_case hj with ⟨b1,b2⟩ | ⟨c,b1,b2,b3⟩
      ·
       rw [b1,fillI] at hI
       cases hI
       try refine wk ?_
       refine q_loopT (x + 1,R,W,code ++ [i1]) ⟨by dsimp only;omega,fun _ => hR (by omega),fun _ => hW (by omega),by dsimp only;simp;omega,rest',by dsimp only;rw [show max (x + 1) 2 = x + 1 by omega];exact hr',by dsimp only;rw [← hcd];simp⟩ (by dsimp only;omega) ?_
       exact by_less
      ·
       have hwj : j < wz.length := by omega
       have hwa : (w :: wz)[j + 1]? = some wz[j] := by simp [List.getElem?_eq_getElem hwj]
       rw [b1,List.drop_eq_getElem_cons hwj] at hI
       have hsj := hsw wz[j] (List.mem_cons_of_mem _ (List.getElem_mem hwj))
       have hwjl : wz[j].length ≤ 400 := Nat.le_trans (split_part (s := p) (sep := [32]) (by rw [hwds];exact List.mem_cons_of_mem _ (List.getElem_mem hwj))) hpl
       generalize wz[j] = u at hwa hI hsj hwjl
       rcases fillI_cons hI with ⟨q1,q2⟩ | ⟨q1,n,q2,q3⟩ | ⟨q1,q2,r,n,rfl,q3,q4⟩
       ·
        try refine wk ?_
        refine q_loopT (j + 1,{ i with key := u }) ⟨by dsimp only;omega,q2⟩ (by dsimp only;omega) ?_
        exact by_less
       ·
        have hn := smallN_of hsj.1 q2
        have cn := ok_numS u n (by omega) q2 hn.1 hn.2
        try refine wk ?_
        refine q_loopT (j + 1,{ i with n := n }) ⟨by dsimp only;omega,q3⟩ (by dsimp only;omega) ?_
        exact by_less
       ·
        have hn := smallN_of hsj.2 (show regV (114 :: r) = some n from q3)
        have cn := ok_numS r n (by simp at hwjl;omega) q3 hn.1 hn.2
        have hu0 : (114 :: r : Str)[0]? = some 114 := rfl
        rcases q4 with ⟨q4,q5⟩ | ⟨q4,q5⟩
        ·
         repeat (first|refine wa ?_|((with_reducible apply s5);(first|((with_reducible apply (a_is (k := 0)));(iterate 5 exact rfl);exact rfl)|((with_reducible apply (a_subF (l := 1)));(iterate 5 exact rfl);exact Nat.succ_le_succ (Nat.zero_le _))|exact by_oa|exact by_ca);exact by_g)|refine wb ?_)
         refine q_loopT (j + 1,{ i with a := n }) ⟨by dsimp only;omega,q5⟩ (by dsimp only;omega) ?_
         exact by_less
        ·
         repeat (first|refine wa ?_|((with_reducible apply s5);(first|((with_reducible apply (a_is (k := 0)));(iterate 5 exact rfl);exact rfl)|((with_reducible apply (a_subF (l := 1)));(iterate 5 exact rfl);exact Nat.succ_le_succ (Nat.zero_le _))|exact by_oa|exact by_ca);exact by_g)|refine wb ?_)
         refine q_loopT (j + 1,{ i with b := n }) ⟨by dsimp only;omega,q5⟩ (by dsimp only;omega) ?_
         exact by_less
    ·
     rw [g1,kindGo] at hK
     by_cases hy0 : 0 < y
     ·
      by_cases hu : u = w
      ·
       rw [if_pos ⟨hy0,hu⟩] at hK
       try refine wk ?_
       refine q_loopT (y + 1,(y : Int)) ⟨by dsimp only;omega,by dsimp only;omega,by dsimp only;omega,hK⟩ (by dsimp only;omega) ?_
       exact by_less
      ·
       rw [if_neg (fun h => hu h.2)] at hK
       try refine wk ?_
       refine q_loopT (y + 1,k) ⟨by dsimp only;omega,by dsimp only;omega,by dsimp only;omega,hK⟩ (by dsimp only;omega) ?_
       exact by_less
     ·
      rw [if_neg (fun h => hy0 h.1)] at hK
      try refine wk ?_
      refine q_loopT (y + 1,k) ⟨by dsimp only;omega,by dsimp only;omega,by dsimp only;omega,hK⟩ (by dsimp only;omega) ?_
      exact by_less
def noEnc : List D := [.v nilS,.v nilS,.v nilS]
theorem no_le {s : Str} {e : Int} (h : parseE s = .error e) : DLe (.agg noEnc) (.agg (parseR s).1.enc) := by
 unfold parseR;rw [h]
 exact (DLes.cons (dle_nil 1) (.cons (dle_nil 1) (.cons (dle_nil 5) .nil))).agg
theorem er_le {s : Str} {e : Int} (h : parseE s = .error e) : DLe (dint e) (dint (parseR s).2) := by
 unfold parseR;rw [h]
 exact .refl _
theorem numV_atoi {u : Str} {n : Int} (h : numV u = some n) : atoiV u = n := by
 unfold atoiV;rw [(numV_ok h).1]
theorem split_cons (s sep : Str) : ∃ w r,split s sep = w :: r := by
 cases h : split s sep with
 | nil => exact absurd h (splitF_ne sep _ _ _)
 | cons w r => exact ⟨w,r,rfl⟩
theorem regV_none {u : Str} (h : regV u = none) : u = [] ∨ (∃ c r,u = c :: r ∧ c.toNat ≠ 114) ∨ ∃ r,u = 114 :: r ∧ numV r = none := by
 match u,h with
 | [],_ => exact .inl rfl
 | c :: r,h =>
  by_cases hc : c = 114
  ·
   subst hc;exact .inr (.inr ⟨r,rfl,h⟩)
  ·
   exact .inr (.inl ⟨c,r,rfl,fun e => hc (UInt8.toNat_inj.1 e)⟩)
theorem regV_some {u : Str} {x : Int} (h : regV u = some x) : ∃ r,u = 114 :: r ∧ numV r = some x := by
 match u,h with
 | [],h => simp [regV] at h
 | c :: r,h =>
  by_cases hc : c = 114
  ·
   subst hc;exact ⟨r,rfl,h⟩
  ·
   unfold regV at h
   split at h
   ·
    next r' he => cases he;exact absurd rfl hc
   ·
    cases h
theorem kind_idx (w : Str) : idxS 0 words.tail w = kindOf w - 1 ∧ 0 ≤ kindOf w ∧ kindOf w < 10 := by
 by_cases h1 : w = [108,111,97,100]
 ·
  subst h1;decide
 by_cases h2 : w = [99,111,110,115,116]
 ·
  subst h2;decide
 by_cases h3 : w = [97,100,100]
 ·
  subst h3;decide
 by_cases h4 : w = [115,117,98]
 ·
  subst h4;decide
 by_cases h5 : w = [109,117,108]
 ·
  subst h5;decide
 by_cases h6 : w = [115,116,111,114,101]
 ·
  subst h6;decide
 by_cases h7 : w = [100,114,111,112]
 ·
  subst h7;decide
 by_cases h8 : w = [115,107,105,112]
 ·
  subst h8;decide
 by_cases h9 : w = [102,97,105,108]
 ·
  subst h9;decide
 have hk : kindOf w = 0 := by
  unfold kindOf
  simp [words,kindGo,Ne.symm h1,Ne.symm h2,Ne.symm h3,Ne.symm h4,Ne.symm h5,Ne.symm h6,Ne.symm h7,Ne.symm h8,Ne.symm h9]
 have hi : idxS 0 words.tail w = -1 := by
  simp [words,idxS,Ne.symm h1,Ne.symm h2,Ne.symm h3,Ne.symm h4,Ne.symm h5,Ne.symm h6,Ne.symm h7,Ne.symm h8,Ne.symm h9]
 rw [hk,hi]
 decide
def noIns : Ins := ⟨0,0,0,0,[]⟩
def resI : Except Int Ins → Ins × Int
 | .ok i => (i,0)
 | .error e => (noIns,e)
theorem bin_kind {P : Program} {t : TypeId} {k : Int} (h : 0 ≤ k ∧ k < 10) : BinR P .add t (.int .i64 (k - 1)) (.int .i64 1) (.int .i64 k) := by
 have := bin_add (P := P) (t := t) (a := k - 1) (b := 1) (by omega)
 rwa [show k - 1 + 1 = k by omega] at this
theorem cutp_yes (r : Str) : Lib.trimPrefix (114 :: r) [114] = r ∧ Lib.hasPrefix (114 :: r) [114] = true := by
 have h : Lib.hasPrefix (114 :: r) [114] = true := by simp [Lib.hasPrefix,List.isPrefixOf]
 exact ⟨by unfold Lib.trimPrefix;rw [if_pos h];rfl,h⟩
theorem cutp_no {u : Str} (h : ∀ r,u ≠ 114 :: r) : Lib.hasPrefix u [114] = false ∧ (Lib.trimPrefix u [114]) = u := by
 have h1 : Lib.hasPrefix u [114] = false := by
  cases u with
  | nil => rfl
  | cons c r =>
   have : c ≠ 114 := fun e => h r (by rw [e])
   simp [Lib.hasPrefix,List.isPrefixOf,this.symm]
 exact ⟨h1,by unfold Lib.trimPrefix;rw [h1];rfl⟩
theorem ok_tinstr (w : Str) (ws : List Str) (hl : ws.length ≤ 1000000) (hu : ∀ u ∈ ws,u.length ≤ 1000000) :
  FnOk Tryz.prog 106 [.d (encStrs (w :: ws))] (.tup [.agg (resI (insE (w :: ws))).1.enc,dint (resI (insE (w :: ws))).2]) := by
 refine fnOk_of tbl_ok mixed_ok Tryz.func106 rfl (by kernel_rfl) rfl rfl fun w0 own0 => ?_
 have cw := ok_twords
 obtain ⟨hki,hk0,hk9⟩ := kind_idx w
 have ci := ok_indexS words.tail w (by decide)
 rw [hki] at ci
 have hbk := fun {t : TypeId} => bin_kind (P := Tryz.prog) (t := t) ⟨hk0,hk9⟩
 have hw0 : (w :: ws)[0]? = some w := rfl
 obtain ⟨K,hKe⟩ := Int.eq_ofNat_of_zero_le hk0
 by_cases hkz : kindOf w = 0
 ·
  have hE : insE (w :: ws) = .error 1 := by simp only [insE];rw [if_pos hkz]
  rw [hE]
  rw [hkz] at ci hbk
  repeat (first|refine wa ?_|((with_reducible apply s5);(first|((with_reducible apply a_bin);exact rfl;exact rfl;exact hbk;exact rfl)|exact by_oa|exact by_ca);exact by_g)|refine wb ?_)
  exact .two (.cell rfl rfl rfl rfl (.aggd (ds := noIns.enc) rfl (.refl _))) (.tmp rfl (.one (.d (.refl _))))
 have hins := insE_fill (w := w) (ws := ws) hkz
 have hins2 : ¬ ws.length = (form (kindOf w).toNat).length → insE (w :: ws) = .error 2 := fun h => by simp only [insE];rw [if_neg hkz,if_neg h]
 rw [hKe] at hins hins2 hkz hk9 ci hbk
 rw [Int.toNat_natCast] at hins hins2
 have cf := ok_fields K (by omega) (by omega)
 have hlet : ∀ c ∈ form K,c = 114 ∨ c = 115 ∨ c = 110 ∨ c = 107 := fun c hc => form_let hc
 have hfl := form_len K
 generalize form K = f at *
 by_cases hlen : ws.length = f.length
 ·
  have hins := hins hlen
  obtain ⟨tg,htg⟩ : ∃ tg,fillI ⟨K,0,0,0,[]⟩ f ws = tg := ⟨_,rfl⟩
  rw [htg] at hins
  repeat (first|refine wa ?_|((with_reducible apply s5);(first|((with_reducible apply a_bin);exact rfl;exact rfl;exact hbk;exact rfl)|((with_reducible apply a_range);exact rfl;exact rfl;exact Tryz.underlying9;exact rfl)|exact by_oa|exact by_ca);exact by_g)|refine wb ?_)
  refine CW.loopT (fun t : Nat × Ins => [sd 0 (encStrs (w :: ws)),sp 2 0,ob 0 noIns.enc,sp 4 1,ob 1 t.2.enc,(.s 34,.av (.h 2)),(.o 2,.ob (.gen (ItP f t.1))),nxt 3])
   (fun t => t.1 ≤ f.length ∧ fillI t.2 (f.drop t.1) (ws.drop t.1) = tg) (fun t => f.length - t.1) (0,⟨K,0,0,0,[]⟩) ⟨by dsimp only;omega,htg⟩ ?_ ?_
  ·
   exact by_less
  ·
   rintro ⟨j,i⟩ ⟨hj,hI⟩
   dsimp only at hj hI ⊢
   rcases drop_case hj with ⟨b1,b2⟩ | ⟨c,b1,b2,b3⟩
   ·
    rw [b1,fillI] at hI
    subst hI
    dsimp only at hins
    rw [hins]
    repeat (first|refine wa ?_|((with_reducible apply s5);(first|((with_reducible apply (a_nextE (k := j) 2));exact rfl;exact rfl;exact Nat.le_of_eq b2.symm;exact rfl)|exact by_oa|exact by_ca);exact by_g)|refine wb ?_)
    exact .two (.cell rfl rfl rfl rfl (.aggd (ds := i.enc) rfl (.refl _))) (.tmp rfl (.one (.d (.refl _))))
   ·
    have hc := hlet c (List.mem_of_getElem? b2)
    have hc1 : c.toNat < 128 := by rcases hc with rfl | rfl | rfl | rfl <;> decide
    have hwj : j < ws.length := by omega
    have hwa : (w :: ws)[j + 1]? = some ws[j] := by simp [List.getElem?_eq_getElem hwj]
    rw [show j + 1 = 1 + j by omega] at hwa
    rw [b1,List.drop_eq_getElem_cons hwj] at hI
    have hul := hu ws[j] (List.getElem_mem hwj)
    generalize ws[j] = u at hwa hI hul
    simp only [fillI] at hI
    have hix : idx ((w :: ws).map encStr1) (1 + (j : Int)) = some (encStr1 u) := by
     have := idx_map (f := encStr1) hwa
     rwa [show ((1 + j : Nat) : Int) = 1 + (j : Int) by omega] at this
    by_cases q1 : c = 107
    ·
     rw [if_pos q1] at hI
     subst q1
     repeat (first|refine wa ?_|((with_reducible apply s5);(first|((with_reducible apply (a_next (k := j) 2));exact rfl;exact rfl;exact b2;exact hc1;exact rfl)|((with_reducible apply a_ia);(iterate 5 exact rfl);exact hix)|exact by_oa|exact by_ca);exact by_g)|refine wb ?_)
     refine q_loopT (j + 1,{ i with key := u }) ⟨by dsimp only;omega,hI⟩ (by dsimp only;omega) ?_
     exact by_less
    rw [if_neg q1] at hI
    by_cases q2 : c = 110
    ·
     rw [if_pos q2] at hI
     subst q2
     have cm := ok_number u (by omega)
     cases hn : numV u with
     | some n =>
      rw [hn] at hI cm
      rw [numV_atoi hn] at cm
      repeat (first|refine wa ?_|((with_reducible apply s5);(first|((with_reducible apply (a_next (k := j) 2));exact rfl;exact rfl;exact b2;exact hc1;exact rfl)|((with_reducible apply a_ia);(iterate 5 exact rfl);exact hix)|exact by_oa|exact by_ca);exact by_g)|refine wb ?_)
      refine q_loopT (j + 1,{ i with n := n }) ⟨by dsimp only;omega,hI⟩ (by dsimp only;omega) ?_
      exact by_less
     | none =>
      rw [hn] at hI cm
      dsimp only at hI
      subst hI
      dsimp only at hins
      rw [hins]
      generalize atoiV u = na at cm
      repeat (first|refine wa ?_|((with_reducible apply s5);(first|((with_reducible apply (a_next (k := j) 2));exact rfl;exact rfl;exact b2;exact hc1;exact rfl)|((with_reducible apply a_ia);(iterate 5 exact rfl);exact hix)|exact by_oa|exact by_ca);exact by_g)|refine wb ?_)
      exact .two (.cell rfl rfl rfl rfl (.aggd (ds := noIns.enc) rfl (.refl _))) (.tmp rfl (.one (.d (.refl _))))
    rw [if_neg q2] at hI
    have cc := ok_cutp u [114]
    cases hrv : regV u with
    | some n =>
     rw [hrv] at hI
     dsimp only at hI
     obtain ⟨r,rfl,q3⟩ := regV_some hrv
     have cm := ok_number r (by simp at hul;omega)
     rw [q3,numV_atoi q3] at cm
     rw [(cutp_yes r).1,(cutp_yes r).2] at cc
     by_cases q4 : c = 114
     ·
      rw [if_pos q4] at hI
      subst q4
      repeat (first|refine wa ?_|((with_reducible apply s5);(first|((with_reducible apply (a_next (k := j) 2));exact rfl;exact rfl;exact b2;exact hc1;exact rfl)|((with_reducible apply a_ia);(iterate 5 exact rfl);exact hix)|exact by_oa|exact by_ca);exact by_g)|refine wb ?_)
      refine q_loopT (j + 1,{ i with a := n }) ⟨by dsimp only;omega,hI⟩ (by dsimp only;omega) ?_
      exact by_less
     ·
      rw [if_neg q4] at hI
      obtain rfl : c = 115 := by rcases hc with h | h | h | h <;> first | exact h | exact absurd h ‹_›
      repeat (first|refine wa ?_|((with_reducible apply s5);(first|((with_reducible apply (a_next (k := j) 2));exact rfl;exact rfl;exact b2;exact hc1;exact rfl)|((with_reducible apply a_ia);(iterate 5 exact rfl);exact hix)|exact by_oa|exact by_ca);exact by_g)|refine wb ?_)
      refine q_loopT (j + 1,{ i with b := n }) ⟨by dsimp only;omega,hI⟩ (by dsimp only;omega) ?_
      exact by_less
    | none =>
     rw [hrv] at hI
     dsimp only at hI
     subst hI
     dsimp only at hins
     rw [hins]
     have hall : ∃ u' b,FnOk Tryz.prog 131 [.d (dstr u),.d (dstr [114])] (.tup [dstr u',dbool b]) ∧ u'.length ≤ u.length ∧ (b && (numV u').isSome) = false := by
      rcases regV_none hrv with rfl | ⟨c0,r,rfl,q3⟩ | ⟨r,rfl,q3⟩
      ·
       refine ⟨_,_,cc,?_,?_⟩
       ·
        rw [(cutp_no (u := []) (by simp)).2];exact Nat.le_refl _
       ·
        rw [(cutp_no (u := []) (by simp)).1];rfl
      ·
       have hne : ∀ r',(c0 :: r : Str) ≠ 114 :: r' := fun r' e => by cases e;exact q3 rfl
       refine ⟨_,_,cc,?_,?_⟩
       ·
        rw [(cutp_no hne).2];exact Nat.le_refl _
       ·
        rw [(cutp_no hne).1];rfl
      ·
       refine ⟨_,_,cc,?_,?_⟩
       ·
        rw [(cutp_yes r).1];simp
       ·
        rw [(cutp_yes r).1,(cutp_yes r).2,q3];rfl
     obtain ⟨u',b,cc,hul',hb⟩ := hall
     have cm := ok_number u' (by omega)
     generalize atoiV u' = na at cm
     generalize (numV u').isSome = is at cm hb
     have hcs : c = 114 ∨ c = 115 := by rcases hc with h | h | h | h <;> first | exact .inl h | exact .inr h | exact absurd h ‹_›
     rcases hcs with rfl | rfl
     ·
      cases b with
      | true =>
       obtain rfl : is = false := by simpa using hb
       repeat (first|refine wa ?_|((with_reducible apply s5);(first|((with_reducible apply (a_next (k := j) 2));exact rfl;exact rfl;exact b2;exact hc1;exact rfl)|((with_reducible apply a_ia);(iterate 5 exact rfl);exact hix)|exact by_oa|exact by_ca);exact by_g)|refine wb ?_)
       exact .two (.cell rfl rfl rfl rfl (.aggd (ds := noIns.enc) rfl (.refl _))) (.tmp rfl (.one (.d (.refl _))))
      | false =>
       repeat (first|refine wa ?_|((with_reducible apply s5);(first|((with_reducible apply (a_next (k := j) 2));exact rfl;exact rfl;exact b2;exact hc1;exact rfl)|((with_reducible apply a_ia);(iterate 5 exact rfl);exact hix)|exact by_oa|exact by_ca);exact by_g)|refine wb ?_)
       exact .two (.cell rfl rfl rfl rfl (.aggd (ds := noIns.enc) rfl (.refl _))) (.tmp rfl (.one (.d (.refl _))))
     ·
      cases b with
      | true =>
       obtain rfl : is = false := by simpa using hb
       repeat (first|refine wa ?_|((with_reducible apply s5);(first|((with_reducible apply (a_next (k := j) 2));exact rfl;exact rfl;exact b2;exact hc1;exact rfl)|((with_reducible apply a_ia);(iterate 5 exact rfl);exact hix)|exact by_oa|exact by_ca);exact by_g)|refine wb ?_)
       exact .two (.cell rfl rfl rfl rfl (.aggd (ds := noIns.enc) rfl (.refl _))) (.tmp rfl (.one (.d (.refl _))))
      | false =>
       repeat (first|refine wa ?_|((with_reducible apply s5);(first|((with_reducible apply (a_next (k := j) 2));exact rfl;exact rfl;exact b2;exact hc1;exact rfl)|((with_reducible apply a_ia);(iterate 5 exact rfl);exact hix)|exact by_oa|exact by_ca);exact by_g)|refine wb ?_)
       exact .two (.cell rfl rfl rfl rfl (.aggd (ds := noIns.enc) rfl (.refl _))) (.tmp rfl (.one (.d (.refl _))))
 ·
  rw [hins2 hlen]
  repeat (first|refine wa ?_|((with_reducible apply s5);(first|((with_reducible apply a_bin);exact rfl;exact rfl;exact hbk;exact rfl)|exact by_oa|exact by_ca);exact by_g)|refine wb ?_)
  exact .two (.cell rfl rfl rfl rfl (.aggd (ds := noIns.enc) rfl (.refl _))) (.tmp rfl (.one (.d (.refl _))))
theorem ok_tparse (s : Str) (hbig : s.length ≤ 1000000000) : FnOk Tryz.prog 68 [.d (dstr s)] (.tup [.agg (parseR s).1.enc,dint (parseR s).2]) := by
 refine fnOk_of tbl_ok mixed_ok Tryz.func68 rfl (by kernel_rfl) rfl rfl fun w0 own0 => ?_
 by_cases hs : 400 < s.length
 ·
  have hP : parseE s = .error 4 := by unfold parseE;rw [if_pos hs]
  try refine wk ?_
  exact .two (.cell rfl rfl rfl rfl (.aggd rfl (no_le hP))) (.tmp rfl (.one (.d (er_le hP))))
 have c1 := ok_lsplit s [59,32] (by omega) (by simp)
 have hsl := split_len s [59,32]
 have hsp : ∀ p ∈ split s [59,32],p.length ≤ 400 := fun p hp => Nat.le_trans (split_part hp) (by omega)
 by_cases h2 : (split s [59,32]).length < 2
 ·
  have hP : parseE s = .error 8 := by
   unfold parseE
   rw [if_neg hs]
   match split s [59,32],h2 with
   | [],_ => rfl
   | [_],_ => rfl
   | _ :: _ :: _,h => simp at h;omega
  generalize split s [59,32] = l at *
  try refine wk ?_
  exact .two (.cell rfl rfl rfl rfl (.aggd rfl (no_le hP))) (.tmp rfl (.one (.d (er_le hP))))
 obtain ⟨p0,p1,ps,e0⟩ : ∃ p0 p1 ps,split s [59,32] = p0 :: p1 :: ps := by
  match split s [59,32],h2 with
  | [],h => simp at h
  | [_],h => simp at h
  | a :: b :: r,_ => exact ⟨a,b,r,rfl⟩
 obtain ⟨v0,rs,e1⟩ := split_cons p0 [32]
 obtain ⟨v1,ws,e2⟩ := split_cons p1 [32]
 have hPF := parseE_fin (by omega) e0 e1 e2
 generalize hl : split s [59,32] = l at *
 have h2l : 2 ≤ l.length := by omega
 have hst0 : StopA 7 := ⟨rfl⟩
 try refine wkS ?_
 clear hst0
 refine Stop.go (CW.stut (stut_promote_cell (id := 1) (j := 2) 118 5 rfl) ⟨rfl,rfl,trivial⟩ ?_)
 try refine wk ?_
 refine CW.loopT (fun t : Nat × D × D × List Ins => [sp 2 0,ob 0 noEnc,sp 5 1,(.o 1,.ob (.box [.d t.2.1,.d t.2.2.1,.own 2 t.2.2.2.length])),oa 2 118 5 (t.2.2.2.map Ins.enc),sd 22 (encStrs l),sd 23 (dint l.length),sd 24 (dint t.1),nxt 3])
  (fun t => t.1 ≤ l.length ∧ (t.1 < 2 → t.2.2.2 = []) ∧ (1 ≤ t.1 → v0 = wReads ∧ t.2.1 = encStrs rs) ∧ (2 ≤ t.1 → v1 = wWrites ∧ t.2.2.1 = encStrs ws) ∧ t.2.2.2.length ≤ t.1 ∧ (2 ≤ t.1 → parseE s = finE rs ws t.2.2.2 (l.drop t.1))) (fun t => l.length - t.1) (0,.v nilS,.v nilS,[])
  ⟨by dsimp only;omega,fun _ => rfl,fun h => by dsimp only at h;omega,fun h => by dsimp only at h;omega,by simp,fun h => by dsimp only at h;omega⟩ ?_ ?_
 ·
  exact by_less
 ·
  rintro ⟨x,R,W,code⟩ ⟨hx,hc0,hR,hW,hc,hF⟩
  dsimp only at hx hc0 hR hW hc hF ⊢
  rcases drop_case hx with ⟨h1,h2⟩ | ⟨p,h1,h2,h3⟩
  ·
   obtain ⟨_,rfl⟩ := hR (by omega)
   obtain ⟨_,rfl⟩ := hW (by omega)
   have hF := hF (by omega)
   rw [h1] at hF
   unfold finE at hF
   simp only [codeE,List.append_nil] at hF
   have hrs : ∀ k ∈ rs,k.length ≤ 400 := fun k hk => Nat.le_trans (split_part (s := p0) (sep := [32]) (by rw [e1];exact List.mem_cons_of_mem _ hk)) (hsp p0 (by rw [e0];simp))
   have hws : ∀ k ∈ ws,k.length ≤ 400 := fun k hk => Nat.le_trans (split_part (s := p1) (sep := [32]) (by rw [e2];exact List.mem_cons_of_mem _ hk)) (hsp p1 (by rw [e0];simp))
   have hrl : rs.length ≤ 400 := by have := split_len p0 [32];rw [e1] at this;have := hsp p0 (by rw [e0];simp);simp at *;omega
   have hwl : ws.length ≤ 400 := by have := split_len p1 [32];rw [e2] at this;have := hsp p1 (by rw [e0];simp);simp at *;omega
   have hsm : Deed.Sm ⟨rs,ws,code⟩ := ⟨by dsimp only;omega,by dsimp only;omega,by dsimp only;omega,fun k hk => by have := hrs k hk;omega,fun k hk => by have := hws k hk;omega⟩
   have cw := ok_pwrongDeed ⟨rs,ws,code⟩ hsm
   have co := ok_deedOwn ⟨rs,ws,code⟩ hsm
   by_cases hw : wrongDeed ⟨rs,ws,code⟩ = 0
   ·
    rw [if_pos hw] at hF
    rw [hw] at cw
    have hr : parseR s = (⟨rs,ws,code⟩,0) := by unfold parseR;rw [hF];rfl
    rw [hr]
    have hst0 : StopA 22 := ⟨rfl⟩
    try refine wkS ?_
    clear hst0
    refine Stop.go (CW.stut (stut_freeze_cell (id := 1) (j := 2) (i := 2) rfl (by simp)) ⟨rfl,rfl,trivial⟩ ?_)
    try refine wk ?_
    exact .two (.cell rfl rfl rfl rfl (.aggd rfl (.refl _))) (.tmp rfl (.one (.d (.refl _))))
   ·
    rw [if_neg hw] at hF
    generalize wrongDeed ⟨rs,ws,code⟩ = we at *
    have hst0 : StopA 22 := ⟨rfl⟩
    try refine wkS ?_
    clear hst0
    refine Stop.go (CW.stut (stut_freeze_cell (id := 1) (j := 2) (i := 2) rfl (by simp)) ⟨rfl,rfl,trivial⟩ ?_)
    try refine wk ?_
    exact .two (.cell rfl rfl rfl rfl (.aggd rfl (no_le hF))) (.tmp rfl (.one (.d (er_le hF))))
  ·
   have hp : p ∈ l := List.mem_of_getElem? h2
   have hpl := hsp p hp
   have c2 := ok_lsplit p [32] (by omega) (by simp)
   by_cases hx0 : x = 0
   ·
    subst hx0
    obtain rfl := hc0 (by omega)
    have h2' := h2
    rw [e0] at h2
    obtain rfl : p0 = p := by simpa using h2
    rw [e1] at c2
    have hrl : rs.length ≤ 400 := by have := split_len p0 [32];rw [e1] at this;simp at *;omega
    have hw0 : (v0 :: rs)[0]? = some v0 := rfl
    have hWd : wReads = [114,101,97,100,115] := rfl
    by_cases hv : v0 = wReads
    ·
     rw [hWd] at hv
     repeat (first|refine wa ?_|((with_reducible apply s5);(first|exact a_call c2 rfl by_sub|exact by_oa|exact by_ca);exact by_g)|refine wb ?_)
     refine q_loopT (1,encStrs rs,W,[]) ⟨by dsimp only;omega,fun _ => rfl,fun _ => ⟨hv,rfl⟩,fun h => by dsimp only at h;omega,by simp,fun h => by dsimp only at h;omega⟩ (by dsimp only;omega) ?_
     exact by_less
    ·
     have hP : parseE s = .error 2 := by rw [hPF,if_neg hv]
     rw [hWd] at hv
     repeat (first|refine wa ?_|((with_reducible apply s5);(first|exact a_call c2 rfl by_sub|exact by_oa|exact by_ca);exact by_g)|refine wb ?_)
     exact .two (.cell rfl rfl rfl rfl (.aggd rfl (no_le hP))) (.tmp rfl (.one (.d (er_le hP))))
   by_cases hx1 : x = 1
   ·
    subst hx1
    obtain rfl := hc0 (by omega)
    obtain ⟨hv0,hR⟩ := hR (by omega)
    have h2' := h2
    rw [e0] at h2
    obtain rfl : p1 = p := by simpa using h2
    rw [e2] at c2
    have hwl : ws.length ≤ 400 := by have := split_len p1 [32];rw [e2] at this;simp at *;omega
    have hw0 : (v1 :: ws)[0]? = some v1 := rfl
    have hWd : wWrites = [119,114,105,116,101,115] := rfl
    by_cases hv : v1 = wWrites
    ·
     have hv' := hv
     rw [hWd] at hv
     repeat (first|refine wa ?_|((with_reducible apply s5);(first|exact a_call c2 rfl by_sub|exact by_oa|exact by_ca);exact by_g)|refine wb ?_)
     refine q_loopT (2,R,encStrs ws,[]) ⟨by dsimp only;omega,fun h => by dsimp only at h;omega,fun _ => ⟨hv0,hR⟩,fun _ => ⟨hv,rfl⟩,by simp,fun _ => by rw [hPF,if_pos hv0,if_pos hv',e0];rfl⟩ (by dsimp only;omega) ?_
     exact by_less
    ·
     have hP : parseE s = .error 2 := by rw [hPF,if_pos hv0,if_neg hv]
     rw [hWd] at hv
     repeat (first|refine wa ?_|((with_reducible apply s5);(first|exact a_call c2 rfl by_sub|exact by_oa|exact by_ca);exact by_g)|refine wb ?_)
     exact .two (.cell rfl rfl rfl rfl (.aggd rfl (no_le hP))) (.tmp rfl (.one (.d (er_le hP))))
   have hF := hF (by omega)
   rw [h1,finE_cons] at hF
   obtain ⟨w,wz,hwds⟩ := split_cons p [32]
   rw [hwds] at hF c2
   have hwl : wz.length ≤ 400 := by have := split_len p [32];rw [hwds] at this;simp at *;omega
   have ci := ok_tinstr w wz (by omega) (fun u hu => Nat.le_trans (split_part (s := p) (sep := [32]) (by rw [hwds];exact List.mem_cons_of_mem _ hu)) (by omega))
   have hw0 : (w :: wz)[0]? = some w := rfl
   cases hI : insE (w :: wz) with
   | error e =>
    rw [hI] at hF ci
    dsimp only at hF
    have he0 : e ≠ 0 := by
     intro e0'
     subst e0'
     simp only [insE] at hI
     split at hI
     ·
      cases hI
     ·
      split at hI
      ·
       split at hI <;> cases hI
      ·
       cases hI
    repeat (first|refine wa ?_|((with_reducible apply s5);(first|exact a_call c2 rfl by_sub|exact by_oa|exact by_ca);exact by_g)|refine wb ?_)
    exact .two (.cell rfl rfl rfl rfl (.aggd rfl (no_le hF))) (.tmp rfl (.one (.d (er_le hF))))
   | ok i =>
    rw [hI] at hF ci
    dsimp only at hF
    repeat (first|refine wa ?_|((with_reducible apply s5);(first|exact a_call c2 rfl by_sub|exact by_oa|exact by_ca);exact by_g)|refine wb ?_)
    refine q_loopT (x + 1,R,W,code ++ [i]) ⟨by dsimp only;omega,fun h => by dsimp only at h;omega,fun _ => hR (by omega),fun _ => hW (by omega),by dsimp only;simp;omega,fun _ => hF⟩ (by dsimp only;omega) ?_
    exact by_less
end Go.Proofs.YtmnociojijpdmaaGreatDoor
namespace Go.Proofs.YtmnociojijpdmaaGreatDoor
open Go.AX Go.RF
set_option maxRecDepth 100000
set_option maxHeartbeats 16000000
theorem noEntry_le : DLes [dint 0,.v nilS] noEntry.enc := .cons (.refl _) (.cons (dle_nil 3) .nil)
structure BForm (b : Str) (K : Nat) (h0 u v : UInt8) (L : Str) : Prop where
 len : b.length = K + 2
 k : 1 ≤ K
 l : L.length + 1 = K
 ph : b[0]? = some h0
 pu : b[K]? = some u
 pv : b[K + 1]? = some v
 t : b.take K = h0 :: L
 pb : (b.take K).drop 1 = L
 p : parseB b = if sumN 1 (b.take K) = u.toNat * 256 + v.toNat then
   (if (split L [10]).getLast? = some [] then match parseL (split L [10]).dropLast with
    | .error e => .error e
    | .ok ds => if wrongEntry ⟨h0.toNat,ds⟩ = 0 then .ok ⟨h0.toNat,ds⟩ else .error (wrongEntry ⟨h0.toNat,ds⟩)
   else .error 2)
  else .error 2
theorem bform {b : Str} (h : 3 ≤ b.length) : ∃ K h0 u v L,BForm b K h0 u v L := by
 obtain ⟨h0,L,u,v,rfl⟩ := bytes_form h
 refine ⟨L.length + 1,h0,u,v,L,⟨by simp,by omega,rfl,rfl,by simp,by simp,by simp,by simp,?_⟩⟩
 rw [parseB_app]
 simp
 all_goals rfl
theorem idx_i {α : Type} {l : List α} {f : α → List D} {k : Nat} {m : Int} {x : α} (h : l[k]? = some x) (hm : m = (k : Int)) : idx (l.map f) m = some (f x) := by
 subst hm;exact idx_map h
theorem cut_toI {l : Str} {k : Nat} {m : Int} (h : k ≤ l.length) (hm : m = (k : Int)) : cutI (l.map byteD) none (some m) = some ((l.take k).map byteD) := by
 subst hm
 rw [cut_to (by simpa using h),List.map_take]
theorem cut_ftI {l : Str} {j k : Nat} {m q : Int} (hj : j ≤ k) (h : k ≤ l.length) (hm : m = (j : Int)) (hq : q = (k : Int)) : cutI (l.map byteD) (some m) (some q) = some (((l.take k).drop j).map byteD) := by
 subst hm hq
 rw [cut_ft hj (by simpa using h),List.map_drop,List.map_take]
theorem ok_lparse (b : Str) (hb : b.length ≤ 100000000) : FnOk Tryz.prog 33 [.d (encBytes b)] (.tup [.agg (resB (parseB b)).1.enc,dint (resB (parseB b)).2]) := by
 refine fnOk_of tbl_ok mixed_ok Tryz.func33 rfl (by kernel_rfl) rfl rfl fun w0 own0 => ?_
 by_cases h3 : b.length < 3
 ·
  have hp : parseB b = .error 8 := by unfold parseB;rw [if_pos h3]
  rw [hp]
  try refine wk ?_
  exact .two (.cell rfl rfl rfl rfl (.aggd (ds := [dint 0,.v nilS]) rfl noEntry_le.agg)) (.tmp rfl (.one (.d (.refl _))))
 obtain ⟨K,h0,u,v,L,⟨f1,f2,f3,f4,f5,f6,f7,f8,f9⟩⟩ := bform (b := b) (by omega)
 have hu := u.toNat_lt
 have hv := v.toNat_lt
 have hh := h0.toNat_lt
 have c1 := ok_lsum (b.take K) (by rw [List.length_take];omega)
 rw [f9]
 by_cases g1 : sumN 1 (b.take K) = u.toNat * 256 + v.toNat
 rotate_left
 ·
  rw [if_neg g1]
  generalize sumN 1 (b.take K) = S at *
  repeat (first|refine wa ?_|((with_reducible apply s5);(first|((with_reducible apply a_ia);(iterate 5 exact rfl);first | exact idx_i f5 (by simp;omega) | exact idx_i f6 (by simp;omega) | exact idx_i f4 rfl)|((with_reducible apply a_to);(iterate 5 exact rfl);exact cut_toI (k := K) (by omega) (by simp;omega))|((with_reducible apply a_bin);exact rfl;exact rfl;(first | ((with_reducible apply bin_shlJ);exact rfl;exact hu) | ((with_reducible apply bin_or8);exact hu;exact hv));exact rfl)|exact by_oa|exact by_ca);exact by_g)|refine wb ?_)
  exact .two (.cell rfl rfl rfl rfl (.aggd (ds := [dint 0,.v nilS]) rfl noEntry_le.agg)) (.tmp rfl (.one (.d (.refl _))))
 rw [if_pos g1]
 rw [g1] at c1
 have c2 := ok_lsplit L [10] (by omega) (by simp)
 have hsl := split_len L [10]
 have hsp : ∀ p ∈ split L [10],p.length ≤ L.length := fun p hp => split_part hp
 have hne : split L [10] ≠ [] := splitF_ne [10] L.length [] L
 generalize split L [10] = ls at *
 obtain ⟨x,hx⟩ : ∃ x,ls.getLast? = some x := ⟨_,List.getLast?_eq_some_getLast hne⟩
 have hxi : ls[ls.length - 1]? = some x := by rw [← List.getLast?_eq_getElem?];exact hx
 have hlp := List.length_pos_iff.2 hne
 have hdl : ls.dropLast = ls.take (ls.length - 1) := List.dropLast_eq_take
 have hcutd : ∀ m : Int,m = (ls.length : Int) - 1 → cutI (ls.map encStr1) none (some m) = some (ls.dropLast.map encStr1) := fun m hm => by
  rw [hm,show (ls.length : Int) - 1 = ((ls.length - 1 : Nat) : Int) by omega,cut_to (by simp),hdl,List.map_take]
 have hcut : ∀ m : Int,m = (K : Int) → cutI (b.map byteD) (some 1) (some m) = some (L.map byteD) := fun m hm => by
  have := cut_ftI (l := b) (j := 1) (k := K) (m := 1) (q := m) (by omega) (by omega) rfl hm
  rwa [f8] at this
 rw [hx]
 by_cases g2 : x = []
 rotate_left
 ·
  rw [if_neg (by simpa using g2)]
  repeat (first|refine wa ?_|((with_reducible apply s5);(first|((with_reducible apply a_ia);(iterate 5 exact rfl);first | exact idx_i f5 (by simp;omega) | exact idx_i f6 (by simp;omega) | exact idx_i f4 rfl)|((with_reducible apply a_to);(iterate 5 exact rfl);exact cut_toI (k := K) (by omega) (by simp;omega))|((with_reducible apply a_bin);exact rfl;exact rfl;(first | ((with_reducible apply bin_shlJ);exact rfl;exact hu) | ((with_reducible apply bin_or8);exact hu;exact hv));exact rfl)|((with_reducible apply a_ft);(iterate 6 exact rfl);exact hcut _ (by first | (simp;done) | (simp;omega)))|((with_reducible apply a_b2s);(iterate 8 exact rfl))|((with_reducible apply a_ia);(iterate 5 exact rfl);exact idx_i hxi (by first | (simp;omega) | omega))|exact by_oa|exact by_ca);exact by_g)|refine wb ?_)
  exact .two (.cell rfl rfl rfl rfl (.aggd (ds := [dint 0,.v nilS]) rfl noEntry_le.agg)) (.tmp rfl (.one (.d (.refl _))))
 subst g2
 rw [if_pos rfl]
 have hml : ls.dropLast.length ≤ L.length + 1 := by rw [List.length_dropLast];omega
 have hmp : ∀ p ∈ ls.dropLast,p.length ≤ L.length := fun p hp => hsp p (by rw [hdl] at hp;exact List.mem_of_mem_take hp)
 repeat (first|refine wa ?_|((with_reducible apply s5);(first|((with_reducible apply a_ia);(iterate 5 exact rfl);first | exact idx_i f5 (by simp;omega) | exact idx_i f6 (by simp;omega) | exact idx_i f4 rfl)|((with_reducible apply a_to);(iterate 5 exact rfl);exact cut_toI (k := K) (by omega) (by simp;omega))|((with_reducible apply a_bin);exact rfl;exact rfl;(first | ((with_reducible apply bin_shlJ);exact rfl;exact hu) | ((with_reducible apply bin_or8);exact hu;exact hv));exact rfl)|((with_reducible apply a_ft);(iterate 6 exact rfl);exact hcut _ (by first | (simp;done) | (simp;omega)))|((with_reducible apply a_b2s);(iterate 8 exact rfl))|((with_reducible apply a_ia);(iterate 5 exact rfl);exact idx_i hxi (by first | (simp;omega) | omega))|((with_reducible apply a_to);(iterate 5 exact rfl);exact hcutd _ (by simp))|exact by_oa|exact by_ca);exact by_g)|refine wb ?_)
 refine CW.stut (stut_promote_cell (id := 1) (j := 1) 72 3 rfl) ⟨rfl,rfl,trivial⟩ ?_
 generalize ls.dropLast = ms at *
 refine CW.loopT (fun t : Nat × List Deed => [sp 2 0,ob 0 [dint 0,.v nilS],sd 3 (dint 0),sp 5 1,(.o 1,.ob (.box [.d (dint h0.toNat),.own 2 t.1])),oa 2 72 3 (t.2.map Deed.enc),sd 60 (encStrs ms),sd 61 (dint ms.length),sd 62 (dint t.1),nxt 3])
  (fun t => t.1 ≤ ms.length ∧ t.2.length = t.1 ∧ (∀ d ∈ t.2,wrongDeed d = 0) ∧ accL t.2 (parseL (ms.drop t.1)) = parseL ms) (fun t => ms.length - t.1) (0,[]) ⟨by dsimp only;omega,rfl,by simp,by dsimp only;rw [List.drop_zero];cases parseL ms <;> rfl⟩ ?_ ?_
 ·
  exact by_less
 ·
  rintro ⟨j,ds⟩ ⟨hj,hl,hw,hI⟩
  dsimp only at hj hl hw hI ⊢
  rcases drop_case hj with ⟨k1,k2⟩ | ⟨s,k1,k2,k3⟩
  ·
   rw [k1,parseL] at hI
   simp only [accL,List.append_nil] at hI
   rw [← hI]
   dsimp only
   have c3 := ok_lwrong ⟨h0.toNat,ds⟩ (fun d hd => wrong_sm (hw d hd)) (by dsimp only;omega)
   have hst0 : StopA 18 := ⟨rfl⟩
   try refine wkS ?_
   clear hst0
   refine Stop.go (CW.stut (stut_freeze_cell (id := 1) (j := 1) (i := 2) rfl (by simp;omega)) ⟨rfl,rfl,trivial⟩ ?_)
   by_cases g3 : wrongEntry ⟨h0.toNat,ds⟩ = 0
   ·
    rw [if_pos g3]
    rw [g3] at c3
    try refine wk ?_
    exact .two (.cell rfl rfl rfl rfl (.aggd (ds := Entry.enc ⟨h0.toNat,ds⟩) rfl (.refl _))) (.tmp rfl (.one (.d (.refl _))))
   ·
    rw [if_neg g3]
    generalize wrongEntry ⟨h0.toNat,ds⟩ = W at *
    try refine wk ?_
    exact .two (.cell rfl rfl rfl rfl (.aggd (ds := [dint 0,.v nilS]) rfl noEntry_le.agg)) (.tmp rfl (.one (.d (.refl _))))
  ·
   rw [k1] at hI
   simp only [parseL] at hI
   have hsl := hmp s (List.mem_of_getElem? k2)
   have c3 := ok_tparse s (by omega)
   cases hp : parseE s with
   | error e =>
    rw [hp] at hI
    rw [parseR_err hp] at c3
    have he := parseE_err hp
    simp only [accL] at hI
    rw [← hI]
    repeat (first|refine wa ?_|((with_reducible apply s5);(first|exact a_call c3 rfl by_sub|exact by_oa|exact by_ca);exact by_g)|refine wb ?_)
    exact .two (.cell rfl rfl rfl rfl (.aggd (ds := [dint 0,.v nilS]) rfl noEntry_le.agg)) (.tmp rfl (.one (.d (.refl _))))
   | ok d =>
    rw [hp] at hI
    rw [parseR_ok hp] at c3
    have hd := parseE_right hp
    dsimp only at hI c3
    have hI2 : accL (ds ++ [d]) (parseL (ms.drop (j + 1))) = parseL ms := by
     rw [← hI]
     cases parseL (ms.drop (j + 1)) with
     | error e => rfl
     | ok l => simp [accL]
    repeat (first|((with_reducible apply s5);((with_reducible apply a_bs [d.enc]);(iterate 9 exact rfl);(repeat (first | exact PartsE.nil | (apply PartsE.cons;exact rfl;exact rfl))));exact by_g)|refine wa1 ?_|((with_reducible apply s5);(first|exact a_call c3 rfl by_sub|exact by_oa|exact by_ca);exact by_g)|refine wb ?_)
    refine q_loopT (j + 1,ds ++ [d]) ⟨by dsimp only;omega,by simp;omega,fun y hy => ?_,hI2⟩ (by dsimp only;omega) ?_
    ·
     rcases List.mem_append.1 hy with hy | hy
     ·
      exact hw y hy
     ·
      rw [List.mem_singleton.1 hy];exact hd
    exact by_less
set_option maxHeartbeats 8000000
theorem new_logOwn (l : List Entry) (hl : l.length ≤ 134217728) (hd : ∀ e ∈ l,e.deeds.length ≤ 134217728 ∧ ∀ d ∈ e.deeds,d.Sm) : FnNew Tryz.prog 30 [.d (encEntries l)] 26 2 (l.map Entry.enc) := by
 refine fnNew_of tbl_ok mixed_ok Tryz.func30 rfl (by kernel_rfl) rfl rfl fun w0 own0 => ?_
 try refine wk ?_
 refine CW.stut (stut_promote (i := 3) 26 2) ⟨rfl,rfl,trivial⟩ ?_
 refine CW.loopT (fun i : Nat => [sd 9 (encEntries l),sd 10 (dint l.length),sd 11 (dint i),so 3 0 i,oa 0 26 2 ((l.take i).map Entry.enc),nxt 1]) (fun i => i ≤ l.length) (fun i => l.length - i) 0 (by omega) ?_ ?_
 ·
  exact by_less
 ·
  rintro i hi
  rcases drop_case hi with ⟨h1,h2⟩ | ⟨e,h1,h2,h3⟩
  ·
   subst h2
   rw [List.take_length]
   try refine wk ?_
   exact RetNew.own rfl rfl (by simp)
  ·
   have h4 : (l.take i).map Entry.enc ++ [e.enc] = (l.take (i + 1)).map Entry.enc := by rw [List.take_add_one,h2];simp
   obtain ⟨hel,hed⟩ := hd e (List.mem_of_getElem? h2)
   try refine wk ?_
   refine CW.stut (stut_promote_cell (id := 2) (j := 1) 72 3 rfl) ⟨rfl,rfl,trivial⟩ ?_
   refine CW.loopT (fun j : Nat => [sd 9 (encEntries l),sd 10 (dint l.length),sd 11 (dint i),so 3 0 i,oa 0 26 2 ((l.take i).map Entry.enc),sp 6 2,(.o 2,.ob (.box [.d (dint e.number),.own 3 j])),oa 3 72 3 ((e.deeds.take j).map Deed.enc),sd 19 (encDeeds e.deeds),sd 20 (dint e.deeds.length),sd 21 (dint j),nxt 4])
    (fun j => j ≤ e.deeds.length) (fun j => e.deeds.length - j) 0 (by omega) ?_ ?_
   ·
    exact by_less
   ·
    rintro j hj
    rcases drop_case hj with ⟨h5,h6⟩ | ⟨d,h5,h6,h7⟩
    ·
     subst h6
     rw [List.take_length]
     have hst0 : StopX 11 := ⟨rfl⟩
     try refine wkS ?_
     clear hst0
     refine Stop.go (CW.stut (stut_freeze_cell (id := 2) (j := 1) (i := 3) rfl (by simp)) ⟨rfl,rfl,trivial⟩ ?_)
     have h8 : (l.take i).map Entry.enc ++ [[dint e.number,.sl 3 (e.deeds.map Deed.enc)]] = (l.take (i + 1)).map Entry.enc := h4
     try refine wk ?_
     refine q_loopT (i + 1) (by omega) (by omega) ?_
     exact by_less
    ·
     have h8 : (e.deeds.take j).map Deed.enc ++ [d.enc] = (e.deeds.take (j + 1)).map Deed.enc := by rw [List.take_add_one,h6];simp
     have hd := ok_deedOwn d (hed d (List.mem_of_getElem? h6))
     try refine wk ?_
     refine q_loopT (j + 1) (by omega) (by omega) ?_
     exact by_less
theorem ok_logOwn (l : List Entry) (hl : l.length ≤ 134217728) (hd : ∀ e ∈ l,e.deeds.length ≤ 134217728 ∧ ∀ d ∈ e.deeds,d.Sm) : FnOk Tryz.prog 30 [.d (encEntries l)] (.one (encEntries l)) := (new_logOwn l hl hd).ok
theorem RInv.sm {r : Replica} (h : RInv r) : Replica.Sm r := by
 have hn := h.n
 refine ⟨h.e.z.sm (by omega),by have := h.l;omega,fun e he => ?_⟩
 obtain ⟨_,h2,_,h4⟩ := wrongEntry_out (h.w e he)
 exact ⟨by omega,fun d hd => wrong_sm (h4 d hd)⟩
structure Packet where
 dst : Int
 data : Str
 deriving DecidableEq
structure Cluster where
 log : List Entry
 reps : List Replica
 net : List Packet
 deriving DecidableEq
structure Step where
 kind : Int
 n : Int
 m : Int
 deeds : List Deed
 deriving DecidableEq
def Packet.enc (p : Packet) : List D := [dint p.dst,encBytes p.data]
def encNet (l : List Packet) : D := .sl 2 (l.map Packet.enc)
def encReps (l : List Replica) : D := .sl 7 (l.map Replica.enc)
def Cluster.enc (c : Cluster) : List D := [encEntries c.log,encReps c.reps,encNet c.net]
def Step.enc (s : Step) : List D := [dint s.kind,dint s.n,dint s.m,encDeeds s.deeds]
def goR (r : Replica) (n : Int) : Replica × Int := if n < 0 then (r,6) else match (ready r.engine)[n.toNat]? with
 | some x => (⟨(goE r.engine x).1,r.next,r.early⟩,0)
 | none => (r,6)
theorem RInv.go {r : Replica} (h : RInv r) (n : Int) : RInv (goR r n).1 := by
 unfold goR
 split
 ·
  exact h
 split
 ·
  next x hx =>
  obtain ⟨q,hb⟩ := h.b
  exact ⟨h.e.goE x,⟨q,hb.goE x⟩,h.n,h.l,h.w,h.g,h.d⟩
 ·
  exact h
theorem RInv.clear {r : Replica} (h : RInv r) : RInv (clearR r) := by
 obtain ⟨q,hb⟩ := h.b
 exact ⟨h.e.clearE,⟨_,hb.clearE⟩,h.n,h.l,h.w,h.g,h.d⟩
inductive ArgsLe : List Arg → List Arg → Prop
 | nil : ArgsLe [] []
 | d {x y : D} {xs ys : List Arg} (h : DLe x y) (hr : ArgsLe xs ys) : ArgsLe (.d x :: xs) (.d y :: ys)
theorem ArgsLe.ok {w : World} {own : Nat → Prop} {xs ys : List Arg} (h : ArgsLe xs ys) : ∀ {vs : List Value},ArgsOk w own vs xs → ArgsOk w own vs ys := by
 induction h with
 | nil => exact fun ha => ha
 | d h hr ih =>
  intro vs ha
  cases vs with
  | nil => exact ha.elim
  | cons v vs => exact ⟨Rd.le h ha.1,ih ha.2⟩
theorem fnOk_le {P : Program} {f : FuncId} {xs ys : List Arg} {r : Res} (h : FnOk P f ys r) (hle : ArgsLe xs ys) : FnOk P f xs r := ⟨h.run,fun w own vs ho ha => h.calls w own vs ho (hle.ok ha)⟩
def tA : Str := [114,101,97,100,115,59,32,119,114,105,116,101,115,32,97,59,32,99,111,110,115,116,32,114,48,32,52,59,32,115,116,111,114,101,32,114,48,32,97]
def dA : Deed := ⟨[],[[97]],[⟨2,0,0,4,[]⟩,⟨6,0,0,0,[97]⟩]⟩
theorem pA : parseD tA = some dA := by decide +kernel
theorem sA : smallS tA = true := by decide +kernel
theorem ok_read9 (s : Str) (d : Deed) (h : parseD s = some d) (hm : smallS s = true) : FnOk Tryz.prog 70 [.d (dstr s)] (.one (.agg d.enc)) := by
 refine fnOk_of tbl_ok mixed_ok Tryz.func70 rfl (by kernel_rfl) rfl rfl fun w0 own0 => ?_
 have c1 := ok_parseS s d h hm
 try refine wk ?_
 exact .one (.cell rfl rfl rfl rfl (.aggd rfl (.refl _)))
def e9 : Entry := ⟨3,[dA]⟩
theorem e9_right : wrongEntry e9 = 0 := by decide +kernel
theorem e9_len : (bytesE e9).length = 43 := by decide +kernel
theorem e9_neg : wrongEntry ⟨-1,[]⟩ = 3 := by decide +kernel
theorem ok_alive9 : FnOk Tryz.prog 35 [] (.one (dbool true)) := by
 refine fnOk_of tbl_ok mixed_ok Tryz.func35 rfl (by kernel_rfl) rfl rfl fun w0 own0 => ?_
 have c1 := ok_read9 tA dA pA sA
 have hd : ∀ d ∈ e9.deeds,d.Sm := fun d hd => wrong_sm ((wrongEntry_out e9_right).2.2.2 d hd)
 have c2 := ok_lbytes e9 e9_right
 have c3 := ok_lparse (bytesE e9) (by rw [e9_len];omega)
 rw [parse_bytes e9_right] at c3
 have c4 := ok_lwrong e9 hd (by decide)
 rw [e9_right] at c4
 have c5 : FnOk Tryz.prog 26 [.d (.agg [dint (-1),.v nilS])] (.one (dint 3)) := by
  have := fnOk_le (ok_lwrong ⟨-1,[]⟩ (by simp) (by simp)) (.d (DLes.agg (.cons (.refl _) (.cons (dle_nil 3) .nil))) .nil)
  rw [e9_neg] at this
  exact this
 have c6 := ok_lsum [] (by simp)
 have c7 := ok_logOwn [e9] (by simp) fun e he => by
  rw [List.mem_singleton.1 he]
  exact ⟨by decide,hd⟩
 have hlen := e9_len
 generalize bytesE e9 = B at *
 have he : e9.number = 3 ∧ e9.deeds.length = 1 := ⟨rfl,rfl⟩
 change FnOk _ _ [.d (.agg [dint 3,.sl 3 [dA.enc]])] _ at c2
 change FnOk _ _ [.d (.agg [dint 3,.sl 3 [dA.enc]])] _ at c4
 change FnOk _ _ [.d (.sl 2 [[dint 3,.sl 3 [dA.enc]]])] (.one (.sl 2 [[dint 3,.sl 3 [dA.enc]]])) at c7
 change FnOk _ _ _ (.tup [.agg [dint 3,.sl 3 [dA.enc]],dint 0]) at c3
 change FnOk _ _ _ (.one (dint 1)) at c6
 repeat (first|((with_reducible apply s5);((with_reducible apply a_bs [dA.enc]);(iterate 9 exact rfl);(repeat (first | exact PartsE.nil | (apply PartsE.cons;exact rfl;exact rfl))));exact by_g)|((with_reducible apply s5);((with_reducible apply a_bs [[dint 3,.sl 3 [dA.enc]]]);(iterate 9 exact rfl);(repeat (first | exact PartsE.nil | (apply PartsE.cons;exact rfl;exact rfl))));exact by_g)|refine wa1 ?_|((with_reducible apply s5);(first|((with_reducible apply a_buildA);(iterate 4 exact rfl);(repeat (first | exact PartsV.nil | (apply PartsV.cons;exact rfl;exact rfl;(first | exact ⟨rfl,trivial⟩ | (apply nw_own;exact rfl;(focus first | exact rfl | (simp;done) | (simp;omega)))))));exact rfl)|exact a_call c5 rfl by_sub|exact by_oa|exact by_ca);exact by_g)|refine wb ?_)
 exact .one (.tmp rfl (.one (.d (dle_bool (by simp [hlen])))))
theorem ok_LogByte (e : Entry) (at_ : Int) (c : UInt8) (he : e.deeds.length ≤ 10000000 ∧ ∀ d ∈ e.deeds,d.Sm) :
  FnOk Tryz.prog 6 [.d (.agg e.enc),.d (dint at_),.d (.v (.int .u8 c.toNat))] (.one (dbool true)) := by
 refine fnOk_of tbl_ok mixed_ok Tryz.func6 rfl (by kernel_rfl) rfl rfl fun w0 own0 => ?_
 have c0 := ok_alive9
 have c1 := ok_rwrongEntry e he.2 (by omega)
 by_cases hw : wrongEntry e = 0
 rotate_left
 ·
  generalize wrongEntry e = W at *
  try refine wk ?_
  exact .one (.tmp rfl (.one (.d (.refl _))))
 rw [hw] at c1
 have c2 := ok_lbytes e hw
 have hl := bytes_len hw
 have htn := fun k hk hc => byte_turned (e := e) (k := k) (c := c) hk hc
 generalize bytesE e = B at *
 by_cases h0 : at_ < 0
 ·
  try refine wk ?_
  exact .one (.tmp rfl (.one (.d (.refl _))))
 obtain ⟨k,rfl⟩ := Int.eq_ofNat_of_zero_le (show 0 ≤ at_ by omega)
 by_cases h1 : B.length ≤ k
 ·
  try refine wk ?_
  exact .one (.tmp rfl (.one (.d (.refl _))))
 obtain ⟨x,hx⟩ : ∃ x,B[k]? = some x := ⟨B[k]'(by omega),List.getElem?_eq_getElem (by omega)⟩
 have hix : idx (B.map byteD) (k : Int) = some (byteD x) := idx_map hx
 by_cases h2 : x = c
 ·
  subst h2
  repeat (first|refine wa ?_|((with_reducible apply s5);(first|((with_reducible apply a_ia);(iterate 5 exact rfl);exact hix)|exact by_oa|exact by_ca);exact by_g)|refine wb ?_)
  exact .one (.tmp rfl (.one (.d (.refl _))))
 have h3 : x.toNat ≠ c.toNat := fun h => h2 (UInt8.toNat_inj.1 h)
 have hT := htn k (by omega) (fun h => h2 (Option.some.inj (hx.symm.trans h)))
 have c3 := ok_lparse (B.set k c) (by rw [List.length_set];omega)
 rw [hT] at c3
 dsimp only [resB] at c3
 have hst0 : StopA 10 := ⟨rfl⟩
 repeat (first|refine waS ?_|((with_reducible apply s5);(first|((with_reducible apply a_ia);(iterate 5 exact rfl);exact hix)|exact by_oa|exact by_ca);exact by_g)|refine wb ?_)
 clear hst0
 have hrows : ([] ++ B.map byteD).set k (splice (byteD x) 0 [D.v (.int .u8 c.toNat)]) = (B.set k c).map byteD := by
  rw [List.nil_append,List.map_set];rfl
 refine Stop.go ?_
 rw [hrows]
 refine CW.stut (stut_freeze (i := 8) (id := 1) (n := 0 + (B.map byteD).length) (e := 5) (k := 1) (rows := (B.set k c).map byteD) (by simp)) ⟨rfl,rfl,trivial⟩ ?_
 try refine wk ?_
 exact .one (.tmp rfl (.one (.d (dle_bool (by simp)))))
end Go.Proofs.YtmnociojijpdmaaGreatDoor
namespace Go.AX
open Go.RowKit
theorem laid_drop {P : Program} {w : World} : ∀ {laid : List (String × DataW Unit)} (i : Nat),laidMet P laid w → laidMet P (laid.drop i) w
 | _,0,h => h
 | [],_ + 1,h => h
 | (n,d) :: r,i + 1,h => by
  obtain ⟨ps,hv,hnd,hrows⟩ := h
  obtain ⟨g,t,cs,fuel,p,q,_,_,_,_,hq,rfl⟩ := hv
  exact laid_drop i ⟨q,hq,List.Nodup.sublist (List.sublist_append_right _ _) hnd,fun b off hm => hrows b off (List.mem_append_right _ hm)⟩
theorem trod_iface {P : Program} {w : World} {ti : TypeId} {ms : Array (String × TypeId)} {sp : Nat → Bool} {fuel : Nat} {cs : List Value} {nm : String} {d : DataW Unit} {p : List MemPlace} (hi : P.underlying ti = some (.interface ms))
  (h : DataW.trod (fun _ => ()) P w 0 sp false fuel ti cs = some (.iface nm d,p)) : ∃ u v,cs = [.iface u v] := by
 cases fuel with
 | zero => simp [DataW.trod] at h
 | succ n =>
  rcases cs with _ | ⟨c,_ | ⟨c2,r⟩⟩
  ·
   simp [DataW.trod,hi] at h
  ·
   cases c <;> simp [DataW.trod,hi] at h ⊢
  ·
   cases c <;> simp [DataW.trod,hi] at h
theorem gl_iface {P : Program} {w : World} {laid rest : List (String × DataW Unit)} {n nm : String} {d : DataW Unit} {g : Nat} {ti : TypeId} {ms : Array (String × TypeId)} (i : Nat) (hi : laid.drop i = (n,.iface nm d) :: rest)
  (hg : P.globalNamed n = some g) (ht : (P.globals[g]?).map (·.type) = some ti) (hu : P.underlying ti = some (.interface ms)) (h : laidMet P laid w) : GlAt P w n fun cs => ∃ tp p,cs = #[.iface tp p] := by
 intro g' hg'
 have h1 := laid_drop i h
 rw [hi] at h1
 obtain ⟨ps,⟨g0,t0,cs0,f0,p0,q0,hg0,ht0,hv0,hd0,_,_⟩,_⟩ := h1
 obtain rfl := Option.some.inj (hg.symm.trans hg0)
 obtain rfl := Option.some.inj (ht.symm.trans ht0)
 obtain ⟨u,v,hc⟩ := trod_iface hu hd0
 refine ⟨cs0,hv0,u,v,?_⟩
 rw [← Array.toArray_toList (xs := cs0),hc]
theorem gl_tab {P : Program} {w : World} {laid rest : List (String × DataW Unit)} {n : String} {k : IntKind} {zs : List Int} {g : Nat} {t e : TypeId} {m : Nat} (i : Nat) (hi : laid.drop i = (n,Lib.tabData k zs) :: rest)
  (hg : P.globalNamed n = some g) (hty : (P.globals[g]?).map (·.type) = some t) (ht : P.underlying t = some (.array m e)) (he : P.underlying e = some (.int k)) (hce : P.cellsOf e = 1) (hct : P.cellsOf t = m) (h : laidMet P laid w) :
  GlAt P w n fun cs => cs = (zs.map fun z => Value.int k z).toArray := by
 intro g' hg'
 have h1 := laid_drop i h
 rw [hi] at h1
 exact ⟨_,Lib.tabIs_of_head hg hty ht he hce hct h1,rfl⟩
theorem gl_int {P : Program} {w : World} {n : String} {g : Nat} {m : Int} (hg : P.globalNamed n = some g) (h : w.cell? ⟨g,0,none⟩ = some (.int .i64 m)) : GlAt P w n fun cs => ∃ m,cs[0]? = some (.int .i64 m) := by
 intro g' hg'
 have hx : ∃ cs,w.var? P n = some cs ∧ cs[0]? = some (.int .i64 m) := by
  unfold World.var?
  rw [hg]
  simp only [Option.bind_some]
  unfold World.cell? at h
  simp only at h
  split at h
  ·
   next cs _ _ hh => rw [hh];exact ⟨cs,rfl,h⟩
  ·
   cases h
 obtain ⟨cs,h1,h2⟩ := hx
 exact ⟨cs,h1,m,h2⟩
end Go.AX
