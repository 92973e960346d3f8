/-
  Part 4 of what the claim leans on: G21 J8 J10 J11 H2 H3 H7 H10 H11 J9 J12 J2 L19 AxLaid.
-/
import Derived.Test.YtmnociojijpdmaaGreatDoorK3
import Derived.Shelf.Vars
import Derived.FnData

namespace Go.Proofs.YtmnociojijpdmaaGreatDoor
open Go.AX Go.RF
set_option maxRecDepth 100000
set_option maxHeartbeats 8000000
theorem ok_pwrongDeed (d : Deed) (hs : d.Sm) : FnOk Tryz.prog 62 [.d (.agg d.enc)] (.one (dint (wrongDeed d))) := by
 refine fnOk_of tbl_ok mixed_ok Tryz.func62 rfl (by kernel_rfl) rfl rfl fun w0 own0 => ?_
 have hc := hs.c
 repeat (first|((with_reducible apply s5);((with_reducible apply a_bs ([d.reads,d.writes].map fun l => [encStrs l]));(iterate 9 exact rfl);(repeat (first | exact PartsE.nil | (apply PartsE.cons;exact rfl;exact rfl))));exact by_g)|refine wa1 ?_|((with_reducible apply s5);(first|exact by_oa|exact by_ca);exact by_g)|refine wb ?_)
 refine CW.loopT (fun j : Nat => [sp 1 0,ob 0 d.enc,sd 2 (dint 0),sd 13 (.sl 1 ([d.reads,d.writes].map fun l => [encStrs l])),sd 14 (dint 2),sd 15 (dint j),nxt 1])
  (fun j => j ≤ [d.reads,d.writes].length ∧ lsGo ([d.reads,d.writes].drop j) = lsGo [d.reads,d.writes]) (fun j => 2 - j) 0 ⟨by simp,rfl⟩ ?_ ?_
 ·
  exact by_less
 ·
  rintro j ⟨hj,hI⟩
  have hj2 : j ≤ 2 := hj
  rcases drop_case hj with ⟨h1,h2⟩ | ⟨l,h1,h2,h3⟩
  ·
   have h2' : j = 2 := h2
   rw [h1] at hI
   have hI' : lsGo [d.reads,d.writes] = 0 := hI.symm
   unfold wrongDeed
   rw [if_pos hI']
   by_cases h4 : 12 < d.code.length
   ·
    rw [if_pos h4]
    try refine wk ?_
    exact .one (.tmp rfl (.one (.d (.refl _))))
   ·
    rw [if_neg h4]
    try refine wk ?_
    refine CW.loopT (fun k : Nat => [sp 1 0,ob 0 d.enc,sd 2 (dint 0),sd 30 (encCode d.code),sd 31 (dint d.code.length),sd 32 (dint k),nxt 1])
     (fun k => k ≤ d.code.length ∧ codeGo d k (d.code.drop k) = codeGo d 0 d.code) (fun k => d.code.length - k) 0 ⟨by omega,rfl⟩ ?_ ?_
    ·
     exact by_less
    ·
     rintro k ⟨hk,hJ⟩
     rcases drop_case hk with ⟨h5,h6⟩ | ⟨i,h5,h6,h7⟩
     ·
      rw [h5,codeGo] at hJ
      try refine wk ?_
      rw [← hJ]
      exact .one (.tmp rfl (.one (.d (.refl _))))
     ·
      rw [h5,codeGo] at hJ
      have ci : FnOk Tryz.prog 95 [.pd d.enc,.d (.agg i.enc),.d (dint (((d.code.map Ins.enc).length : Int) - 1 - k))] (.one (dint (wrongIns d ((d.code.length : Int) - 1 - k) i))) := by
       rw [List.length_map];exact ok_instr d i ((d.code.length : Int) - 1 - k) hs.r hs.w
      by_cases h8 : wrongIns d ((d.code.length : Int) - 1 - k) i = 0
      ·
       rw [if_pos h8] at hJ
       rw [h8] at ci
       repeat (first|refine wa ?_|((with_reducible apply s5);(first|exact a_call ci rfl by_sub|exact by_oa|exact by_ca);exact by_g)|refine wb ?_)
       refine q_loopT (k + 1) ⟨by omega,hJ⟩ (by omega) ?_
       exact by_less
      ·
       rw [if_neg h8] at hJ
       repeat (first|refine wa ?_|((with_reducible apply s5);(first|exact a_call ci rfl by_sub|exact by_oa|exact by_ca);exact by_g)|refine wb ?_)
       rw [← hJ]
       exact .one (.tmp rfl (.one (.d (.refl _))))
  ·
   rw [h1,lsGo] at hI
   have h3' : j < 2 := h3
   have hl : l.length ≤ 268435456 ∧ ∀ s ∈ l,s.length ≤ 1073741824 := by
    have := List.mem_of_getElem? h2
    simp at this
    rcases this with rfl | rfl
    ·
     exact ⟨hs.r,hs.rk⟩
    ·
     exact ⟨hs.w,hs.wk⟩
   have ck := ok_dkeys l hl.1 hl.2
   by_cases h8 : keysWrong l = 0
   ·
    rw [if_pos h8] at hI
    rw [h8] at ck
    try refine wk ?_
    refine q_loopT (j + 1) ⟨by simp;omega,hI⟩ (by omega) ?_
    exact by_less
   ·
    rw [if_neg h8] at hI
    unfold wrongDeed
    rw [if_neg (by rw [← hI];exact h8)]
    try refine wk ?_
    rw [← hI]
    exact .one (.tmp rfl (.one (.d (.refl _))))
theorem ok_lsum (b : Str) (hl : b.length ≤ 1000000000) : FnOk Tryz.prog 27 [.d (encBytes b)] (.one (dint (sumN 1 b))) := by
 refine fnOk_of tbl_ok mixed_ok Tryz.func27 rfl (by kernel_rfl) rfl rfl fun w0 own0 => ?_
 try refine wk ?_
 refine CW.loopT (fun t : Nat × Nat => [sd 3 (dint t.2),sd 6 (encBytes b),sd 7 (dint b.length),sd 8 (dint t.1),nxt 0])
  (fun t => t.1 ≤ b.length ∧ t.2 < 65521 ∧ sumN t.2 (b.drop t.1) = sumN 1 b) (fun t => b.length - t.1) (0,1) ⟨by dsimp only;omega,by dsimp only;omega,rfl⟩ ?_ ?_
 ·
  exact by_less
 ·
  rintro ⟨i,s⟩ ⟨hi,hs,hI⟩
  dsimp only at hi hs hI ⊢
  rcases drop_case hi with ⟨h1,h2⟩ | ⟨c,h1,h2,h3⟩
  ·
   rw [h1,sumN] at hI
   subst hI
   try refine wk ?_
   exact .one (.tmp rfl (.one (.d (.refl _))))
  ·
   rw [h1,sumN] at hI
   have hc := c.toNat_lt
   have hb := tmod_sum (s := s) (c := c.toNat)
   have hs2 : (s * 257 + c.toNat + 1) % 65521 < 65521 := Nat.mod_lt _ (by omega)
   generalize (s * 257 + c.toNat + 1) % 65521 = s2 at *
   repeat (first|refine wa ?_|((with_reducible apply s5);(first|((with_reducible apply a_bin);exact rfl;exact rfl;(with_reducible apply bin_mul);omega;exact rfl)|((with_reducible apply a_bin);exact rfl;exact rfl;(with_reducible apply bin_remI);(exact by decide);exact hb;exact rfl)|exact by_oa|exact by_ca);exact by_g)|refine wb ?_)
   refine q_loopT (i + 1,s2) ⟨by dsimp only;omega,hs2,hI⟩ (by dsimp only;omega) ?_
   exact by_less
theorem ok_rsum (b : Str) (hl : b.length ≤ 1000000000) : FnOk Tryz.prog 28 [.d (encBytes b)] (.one (dint (sumN 1 b))) := by
 refine fnOk_of tbl_ok mixed_ok Tryz.func28 rfl (by kernel_rfl) rfl rfl fun w0 own0 => ?_
 try refine wk ?_
 refine CW.loopT (fun t : Nat × Nat => [sd 3 (dint t.2),sd 6 (encBytes b),sd 7 (dint b.length),sd 8 (dint t.1),nxt 0])
  (fun t => t.1 ≤ b.length ∧ t.2 < 65521 ∧ sumN t.2 (b.drop t.1) = sumN 1 b) (fun t => b.length - t.1) (0,1) ⟨by dsimp only;omega,by dsimp only;omega,rfl⟩ ?_ ?_
 ·
  exact by_less
 ·
  rintro ⟨i,s⟩ ⟨hi,hs,hI⟩
  dsimp only at hi hs hI ⊢
  rcases drop_case hi with ⟨h1,h2⟩ | ⟨c,h1,h2,h3⟩
  ·
   rw [h1,sumN] at hI
   subst hI
   try refine wk ?_
   exact .one (.tmp rfl (.one (.d (.refl _))))
  ·
   rw [h1,sumN] at hI
   have hc := c.toNat_lt
   have hb := tmod_sum' (s := s) (c := c.toNat)
   have hs2 : (s * 257 + c.toNat + 1) % 65521 < 65521 := Nat.mod_lt _ (by omega)
   generalize (s * 257 + c.toNat + 1) % 65521 = s2 at *
   repeat (first|refine wa ?_|((with_reducible apply s5);(first|((with_reducible apply a_bin);exact rfl;exact rfl;(with_reducible apply bin_mul);omega;exact rfl)|((with_reducible apply a_bin);exact rfl;exact rfl;(with_reducible apply bin_remI);(exact by decide);exact hb;exact rfl)|exact by_oa|exact by_ca);exact by_g)|refine wb ?_)
   refine q_loopT (i + 1,s2) ⟨by dsimp only;omega,hs2,hI⟩ (by dsimp only;omega) ?_
   exact by_less
theorem ok_lwrong (e : Entry) (hd : ∀ d ∈ e.deeds,d.Sm) (hl : e.deeds.length ≤ 1000000000) : FnOk Tryz.prog 26 [.d (.agg e.enc)] (.one (dint (wrongEntry e))) := by
 refine fnOk_of tbl_ok mixed_ok Tryz.func26 rfl (by kernel_rfl) rfl rfl fun w0 own0 => ?_
 unfold wrongEntry
 by_cases h0 : e.number < 0
 ·
  rw [if_pos (.inl h0)]
  try refine wk ?_
  exact .one (.tmp rfl (.one (.d (.refl _))))
 by_cases h1 : 11 < e.number
 ·
  rw [if_pos (.inr h1)]
  try refine wk ?_
  exact .one (.tmp rfl (.one (.d (.refl _))))
 rw [if_neg (by omega)]
 by_cases h2 : 6 < e.deeds.length
 ·
  rw [if_pos h2]
  try refine wk ?_
  exact .one (.tmp rfl (.one (.d (.refl _))))
 rw [if_neg h2]
 try refine wk ?_
 refine CW.loopT (fun t : Nat => [sp 1 0,ob 0 e.enc,sd 19 (encDeeds e.deeds),sd 20 (dint e.deeds.length),sd 21 (dint t),nxt 1])
  (fun t => t ≤ e.deeds.length ∧ wrongs (e.deeds.drop t) = wrongs e.deeds) (fun t => e.deeds.length - t) 0 ⟨by omega,rfl⟩ ?_ ?_
 ·
  exact by_less
 ·
  rintro i ⟨hi,hI⟩
  rcases drop_case hi with ⟨h3,h4⟩ | ⟨d,h3,h4,h5⟩
  ·
   rw [h3,wrongs] at hI
   try refine wk ?_
   exact .one (.tmp rfl (.one (.d (dle_int hI))))
  ·
   rw [h3] at hI
   simp only [wrongs] at hI
   have hds := hd d (List.mem_of_getElem? h4)
   have hc := ok_pwrongDeed d hds
   by_cases h6 : wrongDeed d = 0
   ·
    rw [if_pos h6] at hI
    have hp := printD_len h6
    have hc2 := ok_tprint d h6 hds (by omega)
    rw [h6] at hc
    try refine wk ?_
    refine q_loopT (i + 1) ⟨by omega,hI⟩ (by omega) ?_
    exact by_less
   ·
    rw [if_neg h6] at hI
    try refine wk ?_
    exact .one (.tmp rfl (.one (.d (dle_int hI))))
theorem linesD_take {l : List Deed} {j : Nat} {d : Deed} (h : l[j]? = some d) : linesD (l.take (j + 1)) = linesD (l.take j) ++ (printD d ++ [10]) := by
 unfold linesD
 rw [List.take_add_one,h]
 simp
theorem linesD_len {l : List Deed} (hw : ∀ d ∈ l,wrongDeed d = 0) (hl : l.length ≤ 6) (j : Nat) : (linesD (l.take j)).length ≤ 2406 := by
 have : ∀ m : List Deed,(∀ d ∈ m,wrongDeed d = 0) → (linesD m).length ≤ 401 * m.length := by
  intro m
  induction m with
  | nil => intro _;simp [linesD]
  | cons d m ih =>
   intro h
   have h1 := printD_len (h d (List.mem_cons_self ..))
   have h2 := ih fun x hx => h x (List.mem_cons_of_mem _ hx)
   have h3 : linesD (d :: m) = printD d ++ [10] ++ linesD m := by simp [linesD]
   rw [h3,List.length_append,List.length_append,List.length_cons,List.length_cons,List.length_nil]
   omega
 have h3 := this (l.take j) fun d hd => hw d (List.mem_of_mem_take hd)
 have h4 : (l.take j).length ≤ 6 := by rw [List.length_take];omega
 omega
theorem ok_lbytes (e : Entry) (he : wrongEntry e = 0) : FnOk Tryz.prog 31 [.d (.agg e.enc)] (.one (encBytes (bytesE e))) := by
 obtain ⟨⟨h1,h2⟩,h3,_,h4⟩ := wrongEntry_out he
 have hB : bytesE e = headE e ++ sum2 (sumN 1 (headE e)) := rfl
 have hH : headE e = UInt8.ofNat e.number.toNat :: linesD e.deeds := rfl
 have hlen := linesD_len h4 h3 e.deeds.length
 rw [List.take_length] at hlen
 have hs := sumN_lt (l := headE e) (s := 1) (by omega)
 have c1 := ok_lsum (headE e) (by rw [hH];simp;omega)
 rw [hB]
 have hr0' : [[D.v (.int .u8 e.number)]] = [UInt8.ofNat e.number.toNat].map byteD := by
  have := byte_row (s := e.number.toNat) (by omega)
  rw [show ((e.number.toNat : Nat) : Int) = e.number by omega] at this
  rw [this];rfl
 generalize sumN 1 (headE e) = S at *
 generalize UInt8.ofNat e.number.toNat = c0 at *
 rw [hH] at c1 ⊢
 refine fnOk_of tbl_ok mixed_ok Tryz.func31 rfl (by kernel_rfl) rfl rfl fun w0 own0 => ?_
 have hr0 : [[D.v (.int .u8 e.number)]] = (c0 :: linesD (e.deeds.take 0)).map byteD := by
  rw [hr0'];simp [linesD]
 repeat (first|((with_reducible apply s5);(with_reducible apply (a_bsO [[D.v (.int .u8 e.number)]]));(iterate 10 exact rfl);(repeat (first | exact PartsE.nil | (apply PartsE.cons;exact rfl;exact rfl)));exact by_g)|refine wa1 ?_|((with_reducible apply s5);(first|((with_reducible apply a_conv);(iterate 6 exact rfl);(apply wrap_u8_in;omega))|exact by_oa|exact by_ca);exact by_g)|refine wb ?_)
 refine CW.loopT (fun j : Nat => [sp 1 0,ob 0 e.enc,so 3 1 ((linesD (e.deeds.take j)).length + 1),oa 1 5 1 ((c0 :: linesD (e.deeds.take j)).map byteD),sd 12 (encDeeds e.deeds),sd 13 (dint e.deeds.length),sd 14 (dint j),nxt 2]) (fun j => j ≤ e.deeds.length) (fun j => e.deeds.length - j) 0 (by omega) ?_ ?_
 ·
  exact by_less
 ·
  rintro j hj
  rcases drop_case hj with ⟨g1,g2⟩ | ⟨d,g1,g2,g3⟩
  ·
   subst g2
   rw [List.take_length]
   have hr1 : [[D.v (.int .u8 ((S / 256 : Nat) : Int))],[.v (.int .u8 ((S % 256 : Nat) : Int))]] = (sum2 S).map byteD := by
    unfold sum2
    rw [byte_row (show S / 256 < 256 by omega),byte_row (show S % 256 < 256 by omega)];rfl
   repeat (first|((with_reducible apply s5);((with_reducible apply a_bs [[D.v (.int .u8 ((S / 256 : Nat) : Int))],[.v (.int .u8 ((S % 256 : Nat) : Int))]]);(iterate 9 exact rfl);(repeat (first | exact PartsE.nil | (apply PartsE.cons;exact rfl;exact rfl))));exact by_g)|refine wa1 ?_|((with_reducible apply s5);(first|(focus ((with_reducible apply a_lend);exact c1;exact rfl;exact .plain rfl;(focus first | exact rfl | (simp;done) | (simp;omega));(iterate 2 exact rfl);exact by_sub))|((with_reducible apply a_bin);exact rfl;exact rfl;(with_reducible apply bin_shrJ);exact rfl;exact div_256;exact rfl)|((with_reducible apply a_conv);(iterate 6 exact rfl);(apply wrap_u8_in;omega))|((with_reducible apply a_convW);(iterate 6 exact rfl);exact wrap_u8_n)|exact by_oa|exact by_ca);exact by_g)|refine wb ?_)
   rw [hr1]
   exact .one (.tmp rfl (.one (.own rfl (by simp;omega) (dle_eq (by simp [encBytes])))))
  ·
   have hds := wrong_sm (h4 d (List.mem_of_getElem? g2))
   have hp := printD_len (h4 d (List.mem_of_getElem? g2))
   have c2 := ok_tprint d (h4 d (List.mem_of_getElem? g2)) hds (by omega)
   have hlj := linesD_len h4 h3 j
   have hstep : ((c0 :: linesD (e.deeds.take j)).map byteD ++ (printD d).map byteD) ++ [[D.v (.int .u8 10)]] = (c0 :: linesD (e.deeds.take (j + 1))).map byteD := by
    rw [linesD_take g2]
    simp [byteD]
   have hlen2 : (linesD (e.deeds.take (j + 1))).length = (linesD (e.deeds.take j)).length + (printD d).length + 1 := by
    rw [linesD_take g2];simp;omega
   repeat (first|((with_reducible apply s5);((with_reducible apply a_bs [[D.v (.int .u8 10)]]);(iterate 9 exact rfl);(repeat (first | exact PartsE.nil | (apply PartsE.cons;exact rfl;exact rfl))));exact by_g)|refine wa1 ?_|((with_reducible apply s5);(first|(focus (with_reducible apply a_appstr);exact rfl;exact rfl;exact rfl;exact rfl;exact rfl;exact rfl;exact Tryz.zeroValue5;exact rfl;exact rfl;exact rfl;exact rfl;exact rfl;(all_goals first | (simp;done) | (simp;omega)))|exact by_oa|exact by_ca);exact by_g)|refine wb ?_)
   refine q_loopT (j + 1) (by omega) (by omega) ?_
   exact by_less
theorem ok_rbytes (e : Entry) (he : wrongEntry e = 0) : FnOk Tryz.prog 32 [.d (.agg e.enc)] (.one (encBytes (bytesE e))) := by
 obtain ⟨⟨h1,h2⟩,h3,_,h4⟩ := wrongEntry_out he
 have hB : bytesE e = headE e ++ sum2 (sumN 1 (headE e)) := rfl
 have hH : headE e = UInt8.ofNat e.number.toNat :: linesD e.deeds := rfl
 have hlen := linesD_len h4 h3 e.deeds.length
 rw [List.take_length] at hlen
 have hs := sumN_lt (l := headE e) (s := 1) (by omega)
 have c1 := ok_rsum (headE e) (by rw [hH];simp;omega)
 rw [hB]
 have hr0' : [[D.v (.int .u8 e.number)]] = [UInt8.ofNat e.number.toNat].map byteD := by
  have := byte_row (s := e.number.toNat) (by omega)
  rw [show ((e.number.toNat : Nat) : Int) = e.number by omega] at this
  rw [this];rfl
 generalize sumN 1 (headE e) = S at *
 generalize UInt8.ofNat e.number.toNat = c0 at *
 rw [hH] at c1 ⊢
 refine fnOk_of tbl_ok mixed_ok Tryz.func32 rfl (by kernel_rfl) rfl rfl fun w0 own0 => ?_
 have hr0 : [[D.v (.int .u8 e.number)]] = [c0].map byteD := by
  exact hr0'
 have hl0 : c0 :: linesD (e.deeds.take 0) = [c0] := rfl
 repeat (first|((with_reducible apply s5);((with_reducible apply a_bs [[D.v (.int .u8 e.number)]]);(iterate 9 exact rfl);(repeat (first | exact PartsE.nil | (apply PartsE.cons;exact rfl;exact rfl))));exact by_g)|refine wa1 ?_|((with_reducible apply s5);(first|((with_reducible apply a_conv);(iterate 6 exact rfl);(apply wrap_u8_in;omega))|(focus (with_reducible apply (a_b2s (s := [c0])));exact congrArg (fun r => some (AV.d (D.sl 1 r))) hr0;(iterate 7 exact rfl))|exact by_oa|exact by_ca);exact by_g)|refine wb ?_)
 refine CW.loopT (fun j : Nat => [sp 1 0,ob 0 e.enc,sd 3 (dstr (c0 :: linesD (e.deeds.take j))),sd 13 (encDeeds e.deeds),sd 14 (dint e.deeds.length),sd 15 (dint j),nxt 1]) (fun j => j ≤ e.deeds.length) (fun j => e.deeds.length - j) 0 (by omega) ?_ ?_
 ·
  exact by_less
 ·
  rintro j hj
  rcases drop_case hj with ⟨g1,g2⟩ | ⟨d,g1,g2,g3⟩
  ·
   subst g2
   rw [List.take_length]
   have hr1 : [[D.v (.int .u8 ((S / 256 : Nat) : Int))],[.v (.int .u8 ((S % 256 : Nat) : Int))]] = (sum2 S).map byteD := by
    unfold sum2
    rw [byte_row (show S / 256 < 256 by omega),byte_row (show S % 256 < 256 by omega)];rfl
   have hlS : (c0 :: linesD e.deeds).length + (sum2 S).length ≤ 1073741824 := by simp [sum2];omega
   have hst0 : StopA 8 := ⟨rfl⟩
   repeat (first|((with_reducible apply s5);((with_reducible apply a_bs [[D.v (.int .u8 ((S / 256 : Nat) : Int))],[.v (.int .u8 ((S % 256 : Nat) : Int))]]);(iterate 9 exact rfl);(repeat (first | exact PartsE.nil | (apply PartsE.cons;exact rfl;exact rfl))));exact by_g)|refine wa1S ?_|((with_reducible apply s5);(first|((with_reducible apply a_bin);exact rfl;exact rfl;(with_reducible apply bin_quoI);(exact by decide);exact tdiv_256;(exact by omega);exact rfl)|((with_reducible apply a_bin);exact rfl;exact rfl;(with_reducible apply bin_remI);(exact by decide);exact tmod_256;exact rfl)|((with_reducible apply a_conv);(iterate 6 exact rfl);apply wrap_u8_in;omega)|(focus (with_reducible apply (a_appb (r := sum2 S)));exact rfl;exact rfl;exact congrArg (fun r => some (AV.d (D.sl 1 r))) hr1;(iterate 6 exact rfl);exact Nat.zero_lt_succ _;exact hlS)|((with_reducible apply a_s2b);(iterate 8 exact rfl))|exact by_oa|exact by_ca);exact by_g)|refine wb ?_)
   clear hst0
   refine Stop.go ?_
   repeat (first|((with_reducible apply s5);((with_reducible apply a_bs [[D.v (.int .u8 ((S / 256 : Nat) : Int))],[.v (.int .u8 ((S % 256 : Nat) : Int))]]);(iterate 9 exact rfl);(repeat (first | exact PartsE.nil | (apply PartsE.cons;exact rfl;exact rfl))));exact by_g)|refine wa1 ?_|((with_reducible apply s5);(first|((with_reducible apply a_bin);exact rfl;exact rfl;(with_reducible apply bin_quoI);(exact by decide);exact tdiv_256;(exact by omega);exact rfl)|((with_reducible apply a_bin);exact rfl;exact rfl;(with_reducible apply bin_remI);(exact by decide);exact tmod_256;exact rfl)|((with_reducible apply a_conv);(iterate 6 exact rfl);apply wrap_u8_in;omega)|(focus (with_reducible apply (a_appb (r := sum2 S)));exact rfl;exact rfl;exact congrArg (fun r => some (AV.d (D.sl 1 r))) hr1;(iterate 6 exact rfl);exact Nat.zero_lt_succ _;exact hlS)|((with_reducible apply a_s2bO);(iterate 9 exact rfl))|exact by_oa|exact by_ca);exact by_g)|refine wb ?_)
   exact .one (.tmp rfl (.one (.d (dle_eq (by simp [encBytes])))))
  ·
   have hds := wrong_sm (h4 d (List.mem_of_getElem? g2))
   have hp := printD_len (h4 d (List.mem_of_getElem? g2))
   have c2 := ok_rprint d (h4 d (List.mem_of_getElem? g2)) hds (by omega)
   have hlj := linesD_len h4 h3 j
   have hstep : (c0 :: linesD (e.deeds.take j)) ++ printD d ++ [10] = c0 :: linesD (e.deeds.take (j + 1)) := by
    rw [linesD_take g2]
    simp
   repeat (first|refine wa ?_|((with_reducible apply s5);(first|(focus (with_reducible apply a_bin);exact rfl;exact rfl;(with_reducible apply bin_sadd);(all_goals first | exact rfl | (simp;omega)))|(focus (with_reducible apply a_bin);exact rfl;exact rfl;refine (bin_sadd (b := [10]) ?_);(all_goals first | exact rfl | (simp;omega)))|exact by_oa|exact by_ca);exact by_g)|refine wb ?_)
   refine q_loopT (j + 1) (by omega) (by omega) ?_
   rw [← hstep]
   exact by_less
end Go.Proofs.YtmnociojijpdmaaGreatDoor
namespace Go.Proofs.YtmnociojijpdmaaGreatDoor
open Go.AX Go.RF Go.RowKit
set_option maxRecDepth 100000
set_option maxHeartbeats 4000000
theorem numV_ok {s : Str} {v : Int} (h : numV s = some v) : Lib.atoiAll s = .ok v ∧ Lib.itoa v = s := by
 unfold numV at h
 split at h
 ·
  next x hx =>
  split at h
  ·
   next hy => cases h;exact ⟨hx,hy⟩
  ·
   cases h
 ·
  cases h
set_option maxHeartbeats 16000000
theorem splitF_part (sep : Str) : ∀ (n : Nat) (cur r : Str),∀ p ∈ splitF sep n cur r,p.length ≤ cur.length + r.length
 | 0,cur,r => by simp [splitF]
 | n + 1,cur,r => by
  rw [splitF_succ]
  split
  ·
   simp
  split
  ·
   intro p hp
   rcases List.mem_cons.1 hp with rfl | hp
   ·
    omega
   ·
    have := splitF_part sep n [] _ p hp
    rw [List.length_nil,List.length_drop] at this
    omega
  cases r with
  | nil => simp
  | cons c t =>
   intro p hp
   have := splitF_part sep n _ _ p hp
   simp at this ⊢
   omega
theorem split_part {s sep : Str} {p : Str} (h : p ∈ split s sep) : p.length ≤ s.length := by
 have := splitF_part sep _ _ _ p h
 simpa using this
theorem split_len (s sep : Str) : (split s sep).length ≤ s.length + 1 := splitF_len sep _ _ _
def noEnc : List D := [.v nilS,.v nilS,.v nilS]
theorem ok_no (e : Int) : FnOk Tryz.prog 107 [.d (dint e)] (.tup [.agg noEnc,dint e]) := by
 refine fnOk_of tbl_ok mixed_ok Tryz.func107 rfl (by kernel_rfl) rfl rfl fun w0 own0 => ?_
 try refine wk ?_
 exact .two (.cell rfl rfl rfl rfl (.aggd (ds := noEnc) rfl (.refl _))) (.tmp rfl (.one (.d (.refl _))))
theorem no_le {s : Str} {e : Int} (h : parseE s = .error e) : DLe (.agg noEnc) (.agg (parseR s).1.enc) := by
 unfold parseR;rw [h]
 exact (DLes.cons (dle_nil 1) (.cons (dle_nil 1) (.cons (dle_nil 5) .nil))).agg
theorem er_le {s : Str} {e : Int} (h : parseE s = .error e) : DLe (dint e) (dint (parseR s).2) := by
 unfold parseR;rw [h]
 exact .refl _
theorem numV_atoi {u : Str} {n : Int} (h : numV u = some n) : atoiV u = n := by
 unfold atoiV;rw [(numV_ok h).1]
theorem split_cons (s sep : Str) : ∃ w r,split s sep = w :: r := by
 cases h : split s sep with
 | nil => exact absurd h (splitF_ne sep _ _ _)
 | cons w r => exact ⟨w,r,rfl⟩
theorem regV_none {u : Str} (h : regV u = none) : u = [] ∨ (∃ c r,u = c :: r ∧ c.toNat ≠ 114) ∨ ∃ r,u = 114 :: r ∧ numV r = none := by
 match u,h with
 | [],_ => exact .inl rfl
 | c :: r,h =>
  by_cases hc : c = 114
  ·
   subst hc;exact .inr (.inr ⟨r,rfl,h⟩)
  ·
   exact .inr (.inl ⟨c,r,rfl,fun e => hc (UInt8.toNat_inj.1 e)⟩)
theorem regV_some {u : Str} {x : Int} (h : regV u = some x) : ∃ r,u = 114 :: r ∧ numV r = some x := by
 match u,h with
 | [],h => simp [regV] at h
 | c :: r,h =>
  by_cases hc : c = 114
  ·
   subst hc;exact ⟨r,rfl,h⟩
  ·
   unfold regV at h
   split at h
   ·
    next r' he => cases he;exact absurd rfl hc
   ·
    cases h
theorem ok_parse (s : Str) (hbig : s.length ≤ 1073741000) : FnOk Tryz.prog 69 [.d (dstr s)] (.tup [.agg (parseR s).1.enc,dint (parseR s).2]) := by
 refine fnOk_of tbl_ok mixed_ok Tryz.func69 rfl (by kernel_rfl) rfl rfl fun w0 own0 => ?_
 by_cases hs : 400 < s.length
 ·
  have hP : parseE s = .error 4 := by unfold parseE;rw [if_pos hs]
  have cn := ok_no 4
  repeat (first|refine wa ?_|((with_reducible apply s5);(first|exact a_callc cn rfl rfl by_sub|exact by_oa|exact by_ca);exact by_g)|refine wb ?_)
  exact .two (.cell rfl rfl rfl rfl (.aggd rfl (no_le hP))) (.tmp rfl (.one (.d (er_le hP))))
 have c1 := ok_split s [59,32] (by omega) (by simp) (by simp)
 have hsl := split_len s [59,32]
 have hsp : ∀ p ∈ split s [59,32],p.length ≤ 400 := fun p hp => Nat.le_trans (split_part hp) (by omega)
 by_cases h2 : (split s [59,32]).length < 2
 ·
  have hP : parseE s = .error 8 := by
   unfold parseE
   rw [if_neg hs]
   match split s [59,32],h2 with
   | [],_ => rfl
   | [_],_ => rfl
   | _ :: _ :: _,h => simp at h;omega
  have cn := ok_no 8
  generalize split s [59,32] = l at *
  repeat (first|refine wa ?_|((with_reducible apply s5);(first|exact a_callc cn rfl rfl by_sub|exact by_oa|exact by_ca);exact by_g)|refine wb ?_)
  exact .two (.cell rfl rfl rfl rfl (.aggd rfl (no_le hP))) (.tmp rfl (.one (.d (er_le hP))))
 obtain ⟨p0,p1,ps,e0⟩ : ∃ p0 p1 ps,split s [59,32] = p0 :: p1 :: ps := by
  match split s [59,32],h2 with
  | [],h => simp at h
  | [_],h => simp at h
  | a :: b :: r,_ => exact ⟨a,b,r,rfl⟩
 obtain ⟨v0,rs,e1⟩ := split_cons p0 [32]
 obtain ⟨v1,ws,e2⟩ := split_cons p1 [32]
 have hPF := parseE_fin (by omega) e0 e1 e2
 have cn2 := ok_no 2
 generalize hl : split s [59,32] = l at *
 have h2l : 2 ≤ l.length := by omega
 have hst0 : StopA 8 := ⟨rfl⟩
 try refine wkS ?_
 clear hst0
 refine Stop.go (CW.stut (stut_promote_cell (id := 1) (j := 2) 118 5 rfl) ⟨rfl,rfl,trivial⟩ ?_)
 try refine wk ?_
 refine CW.loopT (fun t : Nat × D × D × List Ins => [sp 2 0,ob 0 [.v nilS,.v nilS,.v nilS],sd 4 (.v (.func (.func 107) #[] #[])),sp 6 1,(.o 1,.ob (.box [.d t.2.1,.d t.2.2.1,.own 2 t.2.2.2.length])),oa 2 118 5 (t.2.2.2.map Ins.enc),sd 36 (encStrs l),sd 37 (dint l.length),sd 38 (dint t.1),nxt 3])
  (fun t => t.1 ≤ l.length ∧ (t.1 < 2 → t.2.2.2 = []) ∧ (1 ≤ t.1 → v0 = wReads ∧ t.2.1 = encStrs rs) ∧ (2 ≤ t.1 → v1 = wWrites ∧ t.2.2.1 = encStrs ws) ∧ t.2.2.2.length ≤ t.1 ∧ (2 ≤ t.1 → parseE s = finE rs ws t.2.2.2 (l.drop t.1))) (fun t => l.length - t.1) (0,.v nilS,.v nilS,[])
  ⟨by dsimp only;omega,fun _ => rfl,fun h => by dsimp only at h;omega,fun h => by dsimp only at h;omega,by simp,fun h => by dsimp only at h;omega⟩ ?_ ?_
 ·
  exact by_less
 ·
  rintro ⟨x,R,W,code⟩ ⟨hx,hc0,hR,hW,hc,hF⟩
  dsimp only at hx hc0 hR hW hc hF ⊢
  rcases drop_case hx with ⟨h1,h2⟩ | ⟨p,h1,h2,h3⟩
  ·
   obtain ⟨_,rfl⟩ := hR (by omega)
   obtain ⟨_,rfl⟩ := hW (by omega)
   have hF := hF (by omega)
   rw [h1] at hF
   unfold finE at hF
   simp only [codeE,List.append_nil] at hF
   have hrs : ∀ k ∈ rs,k.length ≤ 400 := fun k hk => Nat.le_trans (split_part (s := p0) (sep := [32]) (by rw [e1];exact List.mem_cons_of_mem _ hk)) (hsp p0 (by rw [e0];simp))
   have hws : ∀ k ∈ ws,k.length ≤ 400 := fun k hk => Nat.le_trans (split_part (s := p1) (sep := [32]) (by rw [e2];exact List.mem_cons_of_mem _ hk)) (hsp p1 (by rw [e0];simp))
   have hrl : rs.length ≤ 400 := by have := split_len p0 [32];rw [e1] at this;have := hsp p0 (by rw [e0];simp);simp at *;omega
   have hwl : ws.length ≤ 400 := by have := split_len p1 [32];rw [e2] at this;have := hsp p1 (by rw [e0];simp);simp at *;omega
   have cw := ok_wrongDeed ⟨rs,ws,code⟩ (by dsimp only;omega) (by dsimp only;omega) (by dsimp only;omega) (fun k hk => by have := hrs k hk;omega) (fun k hk => by have := hws k hk;omega)
   by_cases hw : wrongDeed ⟨rs,ws,code⟩ = 0
   ·
    rw [if_pos hw] at hF
    rw [hw] at cw
    have hr : parseR s = (⟨rs,ws,code⟩,0) := by unfold parseR;rw [hF];rfl
    rw [hr]
    have hst0 : StopA 52 := ⟨rfl⟩
    try refine wkS ?_
    clear hst0
    refine Stop.go (CW.stut (stut_freeze_cell (id := 1) (j := 2) (i := 2) rfl (by simp)) ⟨rfl,rfl,trivial⟩ ?_)
    try refine wk ?_
    exact .two (.cell rfl rfl rfl rfl (.aggd rfl (.refl _))) (.tmp rfl (.one (.d (.refl _))))
   ·
    rw [if_neg hw] at hF
    have cn := ok_no (wrongDeed ⟨rs,ws,code⟩)
    generalize wrongDeed ⟨rs,ws,code⟩ = we at *
    have hst0 : StopA 52 := ⟨rfl⟩
    try refine wkS ?_
    clear hst0
    refine Stop.go (CW.stut (stut_freeze_cell (id := 1) (j := 2) (i := 2) rfl (by simp)) ⟨rfl,rfl,trivial⟩ ?_)
    repeat (first|refine wa ?_|((with_reducible apply s5);(first|exact a_callc cn rfl rfl by_sub|exact by_oa|exact by_ca);exact by_g)|refine wb ?_)
    exact .two (.cell rfl rfl rfl rfl (.aggd rfl (no_le hF))) (.tmp rfl (.one (.d (er_le hF))))
  ·
   have hp : p ∈ l := List.mem_of_getElem? h2
   have hpl := hsp p hp
   have c2 := ok_split p [32] (by omega) (by simp) (by simp)
   by_cases hx0 : x = 0
   ·
    subst hx0
    obtain rfl := hc0 (by omega)
    have h2' := h2
    rw [e0] at h2
    obtain rfl : p0 = p := by simpa using h2
    rw [e1] at c2
    have hrl : rs.length ≤ 400 := by have := split_len p0 [32];rw [e1] at this;simp at *;omega
    have hw0 : (v0 :: rs)[0]? = some v0 := rfl
    have hn0 : ([wReads,wWrites] : List Str)[0]? = some wReads := rfl
    by_cases hv : v0 = wReads
    ·
     repeat (first|((with_reducible apply s5);((with_reducible apply a_bs (([wReads,wWrites] : List Str).map encStr1));(iterate 9 exact rfl);(repeat (first | exact PartsE.nil | (apply PartsE.cons;exact rfl;exact rfl))));exact by_g)|refine wa1 ?_|((with_reducible apply s5);(first|exact a_call c2 rfl by_sub|exact by_oa|exact by_ca);exact by_g)|refine wb ?_)
     refine q_loopT (1,encStrs rs,W,[]) ⟨by dsimp only;omega,fun _ => rfl,fun _ => ⟨hv,rfl⟩,fun h => by dsimp only at h;omega,by simp,fun h => by dsimp only at h;omega⟩ (by dsimp only;omega) ?_
     exact by_less
    ·
     have hP : parseE s = .error 2 := by rw [hPF,if_neg hv]
     repeat (first|((with_reducible apply s5);((with_reducible apply a_bs (([wReads,wWrites] : List Str).map encStr1));(iterate 9 exact rfl);(repeat (first | exact PartsE.nil | (apply PartsE.cons;exact rfl;exact rfl))));exact by_g)|refine wa1 ?_|((with_reducible apply s5);(first|exact a_call c2 rfl by_sub|exact a_callc cn2 rfl rfl by_sub|exact by_oa|exact by_ca);exact by_g)|refine wb ?_)
     exact .two (.cell rfl rfl rfl rfl (.aggd rfl (no_le hP))) (.tmp rfl (.one (.d (er_le hP))))
   by_cases hx1 : x = 1
   ·
    subst hx1
    obtain rfl := hc0 (by omega)
    obtain ⟨hv0,hR⟩ := hR (by omega)
    have h2' := h2
    rw [e0] at h2
    obtain rfl : p1 = p := by simpa using h2
    rw [e2] at c2
    have hwl : ws.length ≤ 400 := by have := split_len p1 [32];rw [e2] at this;simp at *;omega
    have hw0 : (v1 :: ws)[0]? = some v1 := rfl
    have hn0 : ([wReads,wWrites] : List Str)[1]? = some wWrites := rfl
    by_cases hv : v1 = wWrites
    ·
     repeat (first|((with_reducible apply s5);((with_reducible apply a_bs (([wReads,wWrites] : List Str).map encStr1));(iterate 9 exact rfl);(repeat (first | exact PartsE.nil | (apply PartsE.cons;exact rfl;exact rfl))));exact by_g)|refine wa1 ?_|((with_reducible apply s5);(first|exact a_call c2 rfl by_sub|exact by_oa|exact by_ca);exact by_g)|refine wb ?_)
     refine q_loopT (2,R,encStrs ws,[]) ⟨by dsimp only;omega,fun h => by dsimp only at h;omega,fun _ => ⟨hv0,hR⟩,fun _ => ⟨hv,rfl⟩,by simp,fun _ => by rw [hPF,if_pos hv0,if_pos hv,e0];rfl⟩ (by dsimp only;omega) ?_
     exact by_less
    ·
     have hP : parseE s = .error 2 := by rw [hPF,if_pos hv0,if_neg hv]
     repeat (first|((with_reducible apply s5);((with_reducible apply a_bs (([wReads,wWrites] : List Str).map encStr1));(iterate 9 exact rfl);(repeat (first | exact PartsE.nil | (apply PartsE.cons;exact rfl;exact rfl))));exact by_g)|refine wa1 ?_|((with_reducible apply s5);(first|exact a_call c2 rfl by_sub|exact a_callc cn2 rfl rfl by_sub|exact by_oa|exact by_ca);exact by_g)|refine wb ?_)
     exact .two (.cell rfl rfl rfl rfl (.aggd rfl (no_le hP))) (.tmp rfl (.one (.d (er_le hP))))
   have hF := hF (by omega)
   rw [h1,finE_cons] at hF
   generalize hwds : split p [32] = wds at *
   obtain ⟨w,wz,rfl⟩ : ∃ w wz,wds = w :: wz := by
    obtain ⟨w,wz,h⟩ := split_cons p [32]
    exact ⟨w,wz,hwds.symm.trans h⟩
   have hwl : wz.length ≤ 400 := by have := split_len p [32];rw [hwds] at this;simp at *;omega
   have cw := ok_words
   have hw0 : (w :: wz)[0]? = some w := rfl
   repeat (first|refine wa ?_|((with_reducible apply s5);(first|exact a_call c2 rfl by_sub|exact a_call cw rfl by_sub|exact by_oa|exact by_ca);exact by_g)|refine wb ?_)
   refine CW.loopT (fun t : Nat × Int => [sp 2 0,ob 0 [.v nilS,.v nilS,.v nilS],sd 4 (.v (.func (.func 107) #[] #[])),sp 6 1,(.o 1,.ob (.box [.d R,.d W,.own 2 code.length])),oa 2 118 5 (code.map Ins.enc),sd 36 (encStrs l),sd 37 (dint l.length),sd 38 (dint x),
     sd 9 (encStrs (w :: wz)),sp 10 3,ob 3 [dint t.2,dint 0,dint 0,dint 0,dstr []],sd 68 (encStrs words),sd 69 (dint words.length),sd 70 (dint t.1),nxt 4])
    (fun t => t.1 ≤ words.length ∧ 0 ≤ t.2 ∧ t.2 < 10 ∧ kindGo w t.1 t.2 (words.drop t.1) = kindOf w) (fun t => words.length - t.1) (0,0) ⟨by dsimp only;omega,by dsimp only;omega,by dsimp only;omega,rfl⟩ ?_ ?_
   ·
    exact by_less
   ·
    rintro ⟨y,k⟩ ⟨hy,hk1,hk2,hK⟩
    dsimp only at hy hk1 hk2 hK ⊢
    have hwn : words.length = 10 := rfl
    rcases drop_case hy with ⟨g1,g2⟩ | ⟨u,g1,g2,g3⟩
    ·
     rw [g1,kindGo] at hK
     subst hK
     obtain ⟨K,hKe⟩ := Int.eq_ofNat_of_zero_le hk1
     by_cases hk0 : kindOf w = 0
     ·
      have hP : parseE s = .error 1 := by rw [hF];simp only [insE];rw [if_pos hk0]
      have cn1 := ok_no 1
      rw [hk0]
      repeat (first|refine wa ?_|((with_reducible apply s5);(first|exact a_callc cn1 rfl rfl by_sub|exact by_oa|exact by_ca);exact by_g)|refine wb ?_)
      exact .two (.cell rfl rfl rfl rfl (.aggd rfl (no_le hP))) (.tmp rfl (.one (.d (er_le hP))))
     have hins := insE_fill (w := w) (ws := wz) hk0
     have hins2 : ¬ wz.length = (form (kindOf w).toNat).length → insE (w :: wz) = .error 2 := fun h => by simp only [insE];rw [if_neg hk0,if_neg h]
     rw [hKe] at hins hins2 hk0 hk2 ⊢
     rw [Int.toNat_natCast] at hins hins2
     have cf := ok_form K (by omega)
     have hfl := form_len K
     generalize form K = f at *
     by_cases hlen : wz.length = f.length
     ·
      have hins := hins hlen
      rw [hins] at hF
      obtain ⟨tg,htg⟩ : ∃ tg,fillI ⟨K,0,0,0,[]⟩ f wz = tg := ⟨_,rfl⟩
      rw [htg] at hF
      try refine wk ?_
      refine CW.loopT (fun t : Nat × Ins => [sp 2 0,ob 0 [.v nilS,.v nilS,.v nilS],sd 4 (.v (.func (.func 107) #[] #[])),sp 6 1,(.o 1,.ob (.box [.d R,.d W,.own 2 code.length])),oa 2 118 5 (code.map Ins.enc),sd 36 (encStrs l),sd 37 (dint l.length),sd 38 (dint x),
        sd 9 (encStrs (w :: wz)),sp 10 3,ob 3 t.2.enc,sd 13 (dstr f),sd 108 (dint f.length),sd 109 (dint t.1),nxt 4])
       (fun t => t.1 ≤ f.length ∧ fillI t.2 (f.drop t.1) (wz.drop t.1) = tg) (fun t => f.length - t.1) (0,⟨K,0,0,0,[]⟩) ⟨by dsimp only;omega,htg⟩ ?_ ?_
      ·
       exact by_less
      ·
       rintro ⟨j,i⟩ ⟨hj,hI⟩
       dsimp only at hj hI ⊢
       rcases drop_case hj with ⟨b1,b2⟩ | ⟨c,b1,b2,b3⟩
       ·
        rw [b1,fillI] at hI
        subst hI
        dsimp only at hF
        try refine wk ?_
        refine q_loopT (x + 1,R,W,code ++ [i]) ⟨by dsimp only;omega,fun h => by dsimp only at h;omega,fun _ => hR (by omega),fun _ => hW (by omega),by dsimp only;simp;omega,fun _ => hF⟩ (by dsimp only;omega) ?_
        exact by_less
       ·
        have hwj : j < wz.length := by omega
        have hwa : (w :: wz)[j + 1]? = some wz[j] := by simp [List.getElem?_eq_getElem hwj]
        rw [b1,List.drop_eq_getElem_cons hwj] at hI
        have hwjl : wz[j].length ≤ 400 := Nat.le_trans (split_part (s := p) (sep := [32]) (by rw [hwds];exact List.mem_cons_of_mem _ (List.getElem_mem hwj))) hpl
        generalize wz[j] = u at hwa hI hwjl
        simp only [fillI] at hI
        have hcn : ∀ k : UInt8,c = k ↔ c.toNat = k.toNat := fun k => by rw [UInt8.toNat_inj]
        by_cases q1 : c = 107
        ·
         rw [if_pos q1] at hI
         have q1' : c.toNat = 107 := (hcn 107).1 q1
         try refine wk ?_
         refine q_loopT (j + 1,{ i with key := u }) ⟨by dsimp only;omega,hI⟩ (by dsimp only;omega) ?_
         exact by_less
        rw [if_neg q1] at hI
        have q1' : c.toNat ≠ 107 := fun e => q1 ((hcn 107).2 e)
        by_cases q2 : c = 110
        ·
         rw [if_pos q2] at hI
         have q2' : c.toNat = 110 := (hcn 110).1 q2
         have cm := ok_num u (by omega)
         cases hn : numV u with
         | some n =>
          rw [hn] at hI cm
          rw [numV_atoi hn] at cm
          try refine wk ?_
          refine q_loopT (j + 1,{ i with n := n }) ⟨by dsimp only;omega,hI⟩ (by dsimp only;omega) ?_
          exact by_less
         | none =>
          rw [hn] at hI cm
          dsimp only at hI
          subst hI
          generalize atoiV u = na at cm
          repeat (first|refine wa ?_|((with_reducible apply s5);(first|exact a_callc cn2 rfl rfl by_sub|exact by_oa|exact by_ca);exact by_g)|refine wb ?_)
          exact .two (.cell rfl rfl rfl rfl (.aggd rfl (no_le hF))) (.tmp rfl (.one (.d (er_le hF))))
        rw [if_neg q2] at hI
        have q2' : c.toNat ≠ 110 := fun e => q2 ((hcn 110).2 e)
        cases hrv : regV u with
        | some n =>
         rw [hrv] at hI
         dsimp only at hI
         obtain ⟨r,rfl,q3⟩ := regV_some hrv
         have cm := ok_num r (by simp at hwjl;omega)
         rw [q3,numV_atoi q3] at cm
         have hu0 : (114 :: r : Str)[0]? = some 114 := rfl
         by_cases q4 : c = 114
         ·
          rw [if_pos q4] at hI
          have q4' : c.toNat = 114 := (hcn 114).1 q4
          repeat (first|refine wa ?_|((with_reducible apply s5);(first|((with_reducible apply (a_is (k := 0)));(iterate 5 exact rfl);exact rfl)|((with_reducible apply (a_subF (l := 1)));(iterate 5 exact rfl);exact Nat.succ_le_succ (Nat.zero_le _))|exact by_oa|exact by_ca);exact by_g)|refine wb ?_)
          refine q_loopT (j + 1,{ i with a := n }) ⟨by dsimp only;omega,hI⟩ (by dsimp only;omega) ?_
          exact by_less
         ·
          rw [if_neg q4] at hI
          have q4' : c.toNat ≠ 114 := fun e => q4 ((hcn 114).2 e)
          repeat (first|refine wa ?_|((with_reducible apply s5);(first|((with_reducible apply (a_is (k := 0)));(iterate 5 exact rfl);exact rfl)|((with_reducible apply (a_subF (l := 1)));(iterate 5 exact rfl);exact Nat.succ_le_succ (Nat.zero_le _))|exact by_oa|exact by_ca);exact by_g)|refine wb ?_)
          refine q_loopT (j + 1,{ i with b := n }) ⟨by dsimp only;omega,hI⟩ (by dsimp only;omega) ?_
          exact by_less
        | none =>
         rw [hrv] at hI
         dsimp only at hI
         subst hI
         rcases regV_none hrv with rfl | ⟨c0,r,rfl,q3⟩ | ⟨r,rfl,q3⟩
         ·
          repeat (first|refine wa ?_|((with_reducible apply s5);(first|exact a_callc cn2 rfl rfl by_sub|exact by_oa|exact by_ca);exact by_g)|refine wb ?_)
          exact .two (.cell rfl rfl rfl rfl (.aggd rfl (no_le hF))) (.tmp rfl (.one (.d (er_le hF))))
         ·
          have hu0 : (c0 :: r : Str)[0]? = some c0 := rfl
          repeat (first|refine wa ?_|((with_reducible apply s5);(first|exact a_callc cn2 rfl rfl by_sub|((with_reducible apply (a_is (k := 0)));(iterate 5 exact rfl);exact rfl)|exact by_oa|exact by_ca);exact by_g)|refine wb ?_)
          exact .two (.cell rfl rfl rfl rfl (.aggd rfl (no_le hF))) (.tmp rfl (.one (.d (er_le hF))))
         ·
          have cm := ok_num r (by simp at hwjl;omega)
          rw [q3] at cm
          have hu0 : (114 :: r : Str)[0]? = some 114 := rfl
          generalize atoiV r = na at cm
          by_cases q4 : c = 114
          ·
           have q4' : c.toNat = 114 := (hcn 114).1 q4
           repeat (first|refine wa ?_|((with_reducible apply s5);(first|exact a_callc cn2 rfl rfl by_sub|((with_reducible apply (a_is (k := 0)));(iterate 5 exact rfl);exact rfl)|((with_reducible apply (a_subF (l := 1)));(iterate 5 exact rfl);exact Nat.succ_le_succ (Nat.zero_le _))|exact by_oa|exact by_ca);exact by_g)|refine wb ?_)
           exact .two (.cell rfl rfl rfl rfl (.aggd rfl (no_le hF))) (.tmp rfl (.one (.d (er_le hF))))
          ·
           have q4' : c.toNat ≠ 114 := fun e => q4 ((hcn 114).2 e)
           repeat (first|refine wa ?_|((with_reducible apply s5);(first|exact a_callc cn2 rfl rfl by_sub|((with_reducible apply (a_is (k := 0)));(iterate 5 exact rfl);exact rfl)|((with_reducible apply (a_subF (l := 1)));(iterate 5 exact rfl);exact Nat.succ_le_succ (Nat.zero_le _))|exact by_oa|exact by_ca);exact by_g)|refine wb ?_)
           exact .two (.cell rfl rfl rfl rfl (.aggd rfl (no_le hF))) (.tmp rfl (.one (.d (er_le hF))))
     ·
      rw [hins2 hlen] at hF
      repeat (first|refine wa ?_|((with_reducible apply s5);(first|exact a_callc cn2 rfl rfl by_sub|exact by_oa|exact by_ca);exact by_g)|refine wb ?_)
      exact .two (.cell rfl rfl rfl rfl (.aggd rfl (no_le hF))) (.tmp rfl (.one (.d (er_le hF))))
    ·
     rw [g1,kindGo] at hK
     by_cases hy0 : 0 < y
     ·
      by_cases hu : u = w
      ·
       rw [if_pos ⟨hy0,hu⟩] at hK
       try refine wk ?_
       refine q_loopT (y + 1,(y : Int)) ⟨by dsimp only;omega,by dsimp only;omega,by dsimp only;omega,hK⟩ (by dsimp only;omega) ?_
       exact by_less
      ·
       rw [if_neg (fun h => hu h.2)] at hK
       try refine wk ?_
       refine q_loopT (y + 1,k) ⟨by dsimp only;omega,by dsimp only;omega,by dsimp only;omega,hK⟩ (by dsimp only;omega) ?_
       exact by_less
     ·
      rw [if_neg (fun h => hy0 h.1)] at hK
      try refine wk ?_
      refine q_loopT (y + 1,k) ⟨by dsimp only;omega,by dsimp only;omega,by dsimp only;omega,hK⟩ (by dsimp only;omega) ?_
      exact by_less
theorem kind_idx (w : Str) : idxS 0 words.tail w = kindOf w - 1 ∧ 0 ≤ kindOf w ∧ kindOf w < 10 := by
 by_cases h1 : w = [108,111,97,100]
 ·
  subst h1;decide
 by_cases h2 : w = [99,111,110,115,116]
 ·
  subst h2;decide
 by_cases h3 : w = [97,100,100]
 ·
  subst h3;decide
 by_cases h4 : w = [115,117,98]
 ·
  subst h4;decide
 by_cases h5 : w = [109,117,108]
 ·
  subst h5;decide
 by_cases h6 : w = [115,116,111,114,101]
 ·
  subst h6;decide
 by_cases h7 : w = [100,114,111,112]
 ·
  subst h7;decide
 by_cases h8 : w = [115,107,105,112]
 ·
  subst h8;decide
 by_cases h9 : w = [102,97,105,108]
 ·
  subst h9;decide
 have hk : kindOf w = 0 := by
  unfold kindOf
  simp [words,kindGo,Ne.symm h1,Ne.symm h2,Ne.symm h3,Ne.symm h4,Ne.symm h5,Ne.symm h6,Ne.symm h7,Ne.symm h8,Ne.symm h9]
 have hi : idxS 0 words.tail w = -1 := by
  simp [words,idxS,Ne.symm h1,Ne.symm h2,Ne.symm h3,Ne.symm h4,Ne.symm h5,Ne.symm h6,Ne.symm h7,Ne.symm h8,Ne.symm h9]
 rw [hk,hi]
 decide
def noIns : Ins := ⟨0,0,0,0,[]⟩
def resI : Except Int Ins → Ins × Int
 | .ok i => (i,0)
 | .error e => (noIns,e)
theorem bin_kind {P : Program} {t : TypeId} {k : Int} (h : 0 ≤ k ∧ k < 10) : BinR P .add t (.int .i64 (k - 1)) (.int .i64 1) (.int .i64 k) := by
 have := bin_add (P := P) (t := t) (a := k - 1) (b := 1) (by omega)
 rwa [show k - 1 + 1 = k by omega] at this
theorem cutp_yes (r : Str) : Lib.trimPrefix (114 :: r) [114] = r ∧ Lib.hasPrefix (114 :: r) [114] = true := by
 have h : Lib.hasPrefix (114 :: r) [114] = true := by simp [Lib.hasPrefix,List.isPrefixOf]
 exact ⟨by unfold Lib.trimPrefix;rw [if_pos h];rfl,h⟩
theorem cutp_no {u : Str} (h : ∀ r,u ≠ 114 :: r) : Lib.hasPrefix u [114] = false ∧ (Lib.trimPrefix u [114]) = u := by
 have h1 : Lib.hasPrefix u [114] = false := by
  cases u with
  | nil => rfl
  | cons c r =>
   have : c ≠ 114 := fun e => h r (by rw [e])
   simp [Lib.hasPrefix,List.isPrefixOf,this.symm]
 exact ⟨h1,by unfold Lib.trimPrefix;rw [h1];rfl⟩
theorem ok_tinstr (w : Str) (ws : List Str) (hl : ws.length ≤ 1000000) (hu : ∀ u ∈ ws,u.length ≤ 1000000) :
  FnOk Tryz.prog 106 [.d (encStrs (w :: ws))] (.tup [.agg (resI (insE (w :: ws))).1.enc,dint (resI (insE (w :: ws))).2]) := by
 refine fnOk_of tbl_ok mixed_ok Tryz.func106 rfl (by kernel_rfl) rfl rfl fun w0 own0 => ?_
 have cw := ok_twords
 obtain ⟨hki,hk0,hk9⟩ := kind_idx w
 have ci := ok_indexS words.tail w (by decide)
 rw [hki] at ci
 have hbk := fun {t : TypeId} => bin_kind (P := Tryz.prog) (t := t) ⟨hk0,hk9⟩
 have hw0 : (w :: ws)[0]? = some w := rfl
 obtain ⟨K,hKe⟩ := Int.eq_ofNat_of_zero_le hk0
 by_cases hkz : kindOf w = 0
 ·
  have hE : insE (w :: ws) = .error 1 := by simp only [insE];rw [if_pos hkz]
  rw [hE]
  rw [hkz] at ci hbk
  repeat (first|refine wa ?_|((with_reducible apply s5);(first|((with_reducible apply a_bin);exact rfl;exact rfl;exact hbk;exact rfl)|exact by_oa|exact by_ca);exact by_g)|refine wb ?_)
  exact .two (.cell rfl rfl rfl rfl (.aggd (ds := noIns.enc) rfl (.refl _))) (.tmp rfl (.one (.d (.refl _))))
 have hins := insE_fill (w := w) (ws := ws) hkz
 have hins2 : ¬ ws.length = (form (kindOf w).toNat).length → insE (w :: ws) = .error 2 := fun h => by simp only [insE];rw [if_neg hkz,if_neg h]
 rw [hKe] at hins hins2 hkz hk9 ci hbk
 rw [Int.toNat_natCast] at hins hins2
 have cf := ok_fields K (by omega) (by omega)
 have hlet : ∀ c ∈ form K,c = 114 ∨ c = 115 ∨ c = 110 ∨ c = 107 := fun c hc => form_let hc
 have hfl := form_len K
 generalize form K = f at *
 by_cases hlen : ws.length = f.length
 ·
  have hins := hins hlen
  obtain ⟨tg,htg⟩ : ∃ tg,fillI ⟨K,0,0,0,[]⟩ f ws = tg := ⟨_,rfl⟩
  rw [htg] at hins
  repeat (first|refine wa ?_|((with_reducible apply s5);(first|((with_reducible apply a_bin);exact rfl;exact rfl;exact hbk;exact rfl)|((with_reducible apply a_range);exact rfl;exact rfl;exact Tryz.underlying9;exact rfl)|exact by_oa|exact by_ca);exact by_g)|refine wb ?_)
  refine CW.loopT (fun t : Nat × Ins => [sd 0 (encStrs (w :: ws)),sp 2 0,ob 0 noIns.enc,sp 4 1,ob 1 t.2.enc,(.s 34,.av (.h 2)),(.o 2,.ob (.gen (ItP f t.1))),nxt 3])
   (fun t => t.1 ≤ f.length ∧ fillI t.2 (f.drop t.1) (ws.drop t.1) = tg) (fun t => f.length - t.1) (0,⟨K,0,0,0,[]⟩) ⟨by dsimp only;omega,htg⟩ ?_ ?_
  ·
   exact by_less
  ·
   rintro ⟨j,i⟩ ⟨hj,hI⟩
   dsimp only at hj hI ⊢
   rcases drop_case hj with ⟨b1,b2⟩ | ⟨c,b1,b2,b3⟩
   ·
    rw [b1,fillI] at hI
    subst hI
    dsimp only at hins
    rw [hins]
    repeat (first|refine wa ?_|((with_reducible apply s5);(first|((with_reducible apply (a_nextE (k := j) 2));exact rfl;exact rfl;exact Nat.le_of_eq b2.symm;exact rfl)|exact by_oa|exact by_ca);exact by_g)|refine wb ?_)
    exact .two (.cell rfl rfl rfl rfl (.aggd (ds := i.enc) rfl (.refl _))) (.tmp rfl (.one (.d (.refl _))))
   ·
    have hc := hlet c (List.mem_of_getElem? b2)
    have hc1 : c.toNat < 128 := by rcases hc with rfl | rfl | rfl | rfl <;> decide
    have hwj : j < ws.length := by omega
    have hwa : (w :: ws)[j + 1]? = some ws[j] := by simp [List.getElem?_eq_getElem hwj]
    rw [show j + 1 = 1 + j by omega] at hwa
    rw [b1,List.drop_eq_getElem_cons hwj] at hI
    have hul := hu ws[j] (List.getElem_mem hwj)
    generalize ws[j] = u at hwa hI hul
    simp only [fillI] at hI
    have hix : idx ((w :: ws).map encStr1) (1 + (j : Int)) = some (encStr1 u) := by
     have := idx_map (f := encStr1) hwa
     rwa [show ((1 + j : Nat) : Int) = 1 + (j : Int) by omega] at this
    by_cases q1 : c = 107
    ·
     rw [if_pos q1] at hI
     subst q1
     repeat (first|refine wa ?_|((with_reducible apply s5);(first|((with_reducible apply (a_next (k := j) 2));exact rfl;exact rfl;exact b2;exact hc1;exact rfl)|((with_reducible apply a_ia);(iterate 5 exact rfl);exact hix)|exact by_oa|exact by_ca);exact by_g)|refine wb ?_)
     refine q_loopT (j + 1,{ i with key := u }) ⟨by dsimp only;omega,hI⟩ (by dsimp only;omega) ?_
     exact by_less
    rw [if_neg q1] at hI
    by_cases q2 : c = 110
    ·
     rw [if_pos q2] at hI
     subst q2
     have cm := ok_number u (by omega)
     cases hn : numV u with
     | some n =>
      rw [hn] at hI cm
      rw [numV_atoi hn] at cm
      repeat (first|refine wa ?_|((with_reducible apply s5);(first|((with_reducible apply (a_next (k := j) 2));exact rfl;exact rfl;exact b2;exact hc1;exact rfl)|((with_reducible apply a_ia);(iterate 5 exact rfl);exact hix)|exact by_oa|exact by_ca);exact by_g)|refine wb ?_)
      refine q_loopT (j + 1,{ i with n := n }) ⟨by dsimp only;omega,hI⟩ (by dsimp only;omega) ?_
      exact by_less
     | none =>
      rw [hn] at hI cm
      dsimp only at hI
      subst hI
      dsimp only at hins
      rw [hins]
      generalize atoiV u = na at cm
      repeat (first|refine wa ?_|((with_reducible apply s5);(first|((with_reducible apply (a_next (k := j) 2));exact rfl;exact rfl;exact b2;exact hc1;exact rfl)|((with_reducible apply a_ia);(iterate 5 exact rfl);exact hix)|exact by_oa|exact by_ca);exact by_g)|refine wb ?_)
      exact .two (.cell rfl rfl rfl rfl (.aggd (ds := noIns.enc) rfl (.refl _))) (.tmp rfl (.one (.d (.refl _))))
    rw [if_neg q2] at hI
    have cc := ok_cutp u [114]
    cases hrv : regV u with
    | some n =>
     rw [hrv] at hI
     dsimp only at hI
     obtain ⟨r,rfl,q3⟩ := regV_some hrv
     have cm := ok_number r (by simp at hul;omega)
     rw [q3,numV_atoi q3] at cm
     rw [(cutp_yes r).1,(cutp_yes r).2] at cc
     by_cases q4 : c = 114
     ·
      rw [if_pos q4] at hI
      subst q4
      repeat (first|refine wa ?_|((with_reducible apply s5);(first|((with_reducible apply (a_next (k := j) 2));exact rfl;exact rfl;exact b2;exact hc1;exact rfl)|((with_reducible apply a_ia);(iterate 5 exact rfl);exact hix)|exact by_oa|exact by_ca);exact by_g)|refine wb ?_)
      refine q_loopT (j + 1,{ i with a := n }) ⟨by dsimp only;omega,hI⟩ (by dsimp only;omega) ?_
      exact by_less
     ·
      rw [if_neg q4] at hI
      obtain rfl : c = 115 := by rcases hc with h | h | h | h <;> first | exact h | exact absurd h ‹_›
      repeat (first|refine wa ?_|((with_reducible apply s5);(first|((with_reducible apply (a_next (k := j) 2));exact rfl;exact rfl;exact b2;exact hc1;exact rfl)|((with_reducible apply a_ia);(iterate 5 exact rfl);exact hix)|exact by_oa|exact by_ca);exact by_g)|refine wb ?_)
      refine q_loopT (j + 1,{ i with b := n }) ⟨by dsimp only;omega,hI⟩ (by dsimp only;omega) ?_
      exact by_less
    | none =>
     rw [hrv] at hI
     dsimp only at hI
     subst hI
     dsimp only at hins
     rw [hins]
     have hall : ∃ u' b,FnOk Tryz.prog 131 [.d (dstr u),.d (dstr [114])] (.tup [dstr u',dbool b]) ∧ u'.length ≤ u.length ∧ (b && (numV u').isSome) = false := by
      rcases regV_none hrv with rfl | ⟨c0,r,rfl,q3⟩ | ⟨r,rfl,q3⟩
      ·
       refine ⟨_,_,cc,?_,?_⟩
       ·
        rw [(cutp_no (u := []) (by simp)).2];exact Nat.le_refl _
       ·
        rw [(cutp_no (u := []) (by simp)).1];rfl
      ·
       have hne : ∀ r',(c0 :: r : Str) ≠ 114 :: r' := fun r' e => by cases e;exact q3 rfl
       refine ⟨_,_,cc,?_,?_⟩
       ·
        rw [(cutp_no hne).2];exact Nat.le_refl _
       ·
        rw [(cutp_no hne).1];rfl
      ·
       refine ⟨_,_,cc,?_,?_⟩
       ·
        rw [(cutp_yes r).1];simp
       ·
        rw [(cutp_yes r).1,(cutp_yes r).2,q3];rfl
     obtain ⟨u',b,cc,hul',hb⟩ := hall
     have cm := ok_number u' (by omega)
     generalize atoiV u' = na at cm
     generalize (numV u').isSome = is at cm hb
     have hcs : c = 114 ∨ c = 115 := by rcases hc with h | h | h | h <;> first | exact .inl h | exact .inr h | exact absurd h ‹_›
     rcases hcs with rfl | rfl
     ·
      cases b with
      | true =>
       obtain rfl : is = false := by simpa using hb
       repeat (first|refine wa ?_|((with_reducible apply s5);(first|((with_reducible apply (a_next (k := j) 2));exact rfl;exact rfl;exact b2;exact hc1;exact rfl)|((with_reducible apply a_ia);(iterate 5 exact rfl);exact hix)|exact by_oa|exact by_ca);exact by_g)|refine wb ?_)
       exact .two (.cell rfl rfl rfl rfl (.aggd (ds := noIns.enc) rfl (.refl _))) (.tmp rfl (.one (.d (.refl _))))
      | false =>
       repeat (first|refine wa ?_|((with_reducible apply s5);(first|((with_reducible apply (a_next (k := j) 2));exact rfl;exact rfl;exact b2;exact hc1;exact rfl)|((with_reducible apply a_ia);(iterate 5 exact rfl);exact hix)|exact by_oa|exact by_ca);exact by_g)|refine wb ?_)
       exact .two (.cell rfl rfl rfl rfl (.aggd (ds := noIns.enc) rfl (.refl _))) (.tmp rfl (.one (.d (.refl _))))
     ·
      cases b with
      | true =>
       obtain rfl : is = false := by simpa using hb
       repeat (first|refine wa ?_|((with_reducible apply s5);(first|((with_reducible apply (a_next (k := j) 2));exact rfl;exact rfl;exact b2;exact hc1;exact rfl)|((with_reducible apply a_ia);(iterate 5 exact rfl);exact hix)|exact by_oa|exact by_ca);exact by_g)|refine wb ?_)
       exact .two (.cell rfl rfl rfl rfl (.aggd (ds := noIns.enc) rfl (.refl _))) (.tmp rfl (.one (.d (.refl _))))
      | false =>
       repeat (first|refine wa ?_|((with_reducible apply s5);(first|((with_reducible apply (a_next (k := j) 2));exact rfl;exact rfl;exact b2;exact hc1;exact rfl)|((with_reducible apply a_ia);(iterate 5 exact rfl);exact hix)|exact by_oa|exact by_ca);exact by_g)|refine wb ?_)
       exact .two (.cell rfl rfl rfl rfl (.aggd (ds := noIns.enc) rfl (.refl _))) (.tmp rfl (.one (.d (.refl _))))
 ·
  rw [hins2 hlen]
  repeat (first|refine wa ?_|((with_reducible apply s5);(first|((with_reducible apply a_bin);exact rfl;exact rfl;exact hbk;exact rfl)|exact by_oa|exact by_ca);exact by_g)|refine wb ?_)
  exact .two (.cell rfl rfl rfl rfl (.aggd (ds := noIns.enc) rfl (.refl _))) (.tmp rfl (.one (.d (.refl _))))
theorem ok_tparse (s : Str) (hbig : s.length ≤ 1000000000) : FnOk Tryz.prog 68 [.d (dstr s)] (.tup [.agg (parseR s).1.enc,dint (parseR s).2]) := by
 refine fnOk_of tbl_ok mixed_ok Tryz.func68 rfl (by kernel_rfl) rfl rfl fun w0 own0 => ?_
 by_cases hs : 400 < s.length
 ·
  have hP : parseE s = .error 4 := by unfold parseE;rw [if_pos hs]
  try refine wk ?_
  exact .two (.cell rfl rfl rfl rfl (.aggd rfl (no_le hP))) (.tmp rfl (.one (.d (er_le hP))))
 have c1 := ok_lsplit s [59,32] (by omega) (by simp)
 have hsl := split_len s [59,32]
 have hsp : ∀ p ∈ split s [59,32],p.length ≤ 400 := fun p hp => Nat.le_trans (split_part hp) (by omega)
 by_cases h2 : (split s [59,32]).length < 2
 ·
  have hP : parseE s = .error 8 := by
   unfold parseE
   rw [if_neg hs]
   match split s [59,32],h2 with
   | [],_ => rfl
   | [_],_ => rfl
   | _ :: _ :: _,h => simp at h;omega
  generalize split s [59,32] = l at *
  try refine wk ?_
  exact .two (.cell rfl rfl rfl rfl (.aggd rfl (no_le hP))) (.tmp rfl (.one (.d (er_le hP))))
 obtain ⟨p0,p1,ps,e0⟩ : ∃ p0 p1 ps,split s [59,32] = p0 :: p1 :: ps := by
  match split s [59,32],h2 with
  | [],h => simp at h
  | [_],h => simp at h
  | a :: b :: r,_ => exact ⟨a,b,r,rfl⟩
 obtain ⟨v0,rs,e1⟩ := split_cons p0 [32]
 obtain ⟨v1,ws,e2⟩ := split_cons p1 [32]
 have hPF := parseE_fin (by omega) e0 e1 e2
 generalize hl : split s [59,32] = l at *
 have h2l : 2 ≤ l.length := by omega
 have hst0 : StopA 7 := ⟨rfl⟩
 try refine wkS ?_
 clear hst0
 refine Stop.go (CW.stut (stut_promote_cell (id := 1) (j := 2) 118 5 rfl) ⟨rfl,rfl,trivial⟩ ?_)
 try refine wk ?_
 refine CW.loopT (fun t : Nat × D × D × List Ins => [sp 2 0,ob 0 noEnc,sp 5 1,(.o 1,.ob (.box [.d t.2.1,.d t.2.2.1,.own 2 t.2.2.2.length])),oa 2 118 5 (t.2.2.2.map Ins.enc),sd 22 (encStrs l),sd 23 (dint l.length),sd 24 (dint t.1),nxt 3])
  (fun t => t.1 ≤ l.length ∧ (t.1 < 2 → t.2.2.2 = []) ∧ (1 ≤ t.1 → v0 = wReads ∧ t.2.1 = encStrs rs) ∧ (2 ≤ t.1 → v1 = wWrites ∧ t.2.2.1 = encStrs ws) ∧ t.2.2.2.length ≤ t.1 ∧ (2 ≤ t.1 → parseE s = finE rs ws t.2.2.2 (l.drop t.1))) (fun t => l.length - t.1) (0,.v nilS,.v nilS,[])
  ⟨by dsimp only;omega,fun _ => rfl,fun h => by dsimp only at h;omega,fun h => by dsimp only at h;omega,by simp,fun h => by dsimp only at h;omega⟩ ?_ ?_
 ·
  exact by_less
 ·
  rintro ⟨x,R,W,code⟩ ⟨hx,hc0,hR,hW,hc,hF⟩
  dsimp only at hx hc0 hR hW hc hF ⊢
  rcases drop_case hx with ⟨h1,h2⟩ | ⟨p,h1,h2,h3⟩
  ·
   obtain ⟨_,rfl⟩ := hR (by omega)
   obtain ⟨_,rfl⟩ := hW (by omega)
   have hF := hF (by omega)
   rw [h1] at hF
   unfold finE at hF
   simp only [codeE,List.append_nil] at hF
   have hrs : ∀ k ∈ rs,k.length ≤ 400 := fun k hk => Nat.le_trans (split_part (s := p0) (sep := [32]) (by rw [e1];exact List.mem_cons_of_mem _ hk)) (hsp p0 (by rw [e0];simp))
   have hws : ∀ k ∈ ws,k.length ≤ 400 := fun k hk => Nat.le_trans (split_part (s := p1) (sep := [32]) (by rw [e2];exact List.mem_cons_of_mem _ hk)) (hsp p1 (by rw [e0];simp))
   have hrl : rs.length ≤ 400 := by have := split_len p0 [32];rw [e1] at this;have := hsp p0 (by rw [e0];simp);simp at *;omega
   have hwl : ws.length ≤ 400 := by have := split_len p1 [32];rw [e2] at this;have := hsp p1 (by rw [e0];simp);simp at *;omega
   have hsm : Deed.Sm ⟨rs,ws,code⟩ := ⟨by dsimp only;omega,by dsimp only;omega,by dsimp only;omega,fun k hk => by have := hrs k hk;omega,fun k hk => by have := hws k hk;omega⟩
   have cw := ok_pwrongDeed ⟨rs,ws,code⟩ hsm
   have co := ok_deedOwn ⟨rs,ws,code⟩ hsm
   by_cases hw : wrongDeed ⟨rs,ws,code⟩ = 0
   ·
    rw [if_pos hw] at hF
    rw [hw] at cw
    have hr : parseR s = (⟨rs,ws,code⟩,0) := by unfold parseR;rw [hF];rfl
    rw [hr]
    have hst0 : StopA 22 := ⟨rfl⟩
    try refine wkS ?_
    clear hst0
    refine Stop.go (CW.stut (stut_freeze_cell (id := 1) (j := 2) (i := 2) rfl (by simp)) ⟨rfl,rfl,trivial⟩ ?_)
    try refine wk ?_
    exact .two (.cell rfl rfl rfl rfl (.aggd rfl (.refl _))) (.tmp rfl (.one (.d (.refl _))))
   ·
    rw [if_neg hw] at hF
    generalize wrongDeed ⟨rs,ws,code⟩ = we at *
    have hst0 : StopA 22 := ⟨rfl⟩
    try refine wkS ?_
    clear hst0
    refine Stop.go (CW.stut (stut_freeze_cell (id := 1) (j := 2) (i := 2) rfl (by simp)) ⟨rfl,rfl,trivial⟩ ?_)
    try refine wk ?_
    exact .two (.cell rfl rfl rfl rfl (.aggd rfl (no_le hF))) (.tmp rfl (.one (.d (er_le hF))))
  ·
   have hp : p ∈ l := List.mem_of_getElem? h2
   have hpl := hsp p hp
   have c2 := ok_lsplit p [32] (by omega) (by simp)
   by_cases hx0 : x = 0
   ·
    subst hx0
    obtain rfl := hc0 (by omega)
    have h2' := h2
    rw [e0] at h2
    obtain rfl : p0 = p := by simpa using h2
    rw [e1] at c2
    have hrl : rs.length ≤ 400 := by have := split_len p0 [32];rw [e1] at this;simp at *;omega
    have hw0 : (v0 :: rs)[0]? = some v0 := rfl
    have hWd : wReads = [114,101,97,100,115] := rfl
    by_cases hv : v0 = wReads
    ·
     rw [hWd] at hv
     repeat (first|refine wa ?_|((with_reducible apply s5);(first|exact a_call c2 rfl by_sub|exact by_oa|exact by_ca);exact by_g)|refine wb ?_)
     refine q_loopT (1,encStrs rs,W,[]) ⟨by dsimp only;omega,fun _ => rfl,fun _ => ⟨hv,rfl⟩,fun h => by dsimp only at h;omega,by simp,fun h => by dsimp only at h;omega⟩ (by dsimp only;omega) ?_
     exact by_less
    ·
     have hP : parseE s = .error 2 := by rw [hPF,if_neg hv]
     rw [hWd] at hv
     repeat (first|refine wa ?_|((with_reducible apply s5);(first|exact a_call c2 rfl by_sub|exact by_oa|exact by_ca);exact by_g)|refine wb ?_)
     exact .two (.cell rfl rfl rfl rfl (.aggd rfl (no_le hP))) (.tmp rfl (.one (.d (er_le hP))))
   by_cases hx1 : x = 1
   ·
    subst hx1
    obtain rfl := hc0 (by omega)
    obtain ⟨hv0,hR⟩ := hR (by omega)
    have h2' := h2
    rw [e0] at h2
    obtain rfl : p1 = p := by simpa using h2
    rw [e2] at c2
    have hwl : ws.length ≤ 400 := by have := split_len p1 [32];rw [e2] at this;simp at *;omega
    have hw0 : (v1 :: ws)[0]? = some v1 := rfl
    have hWd : wWrites = [119,114,105,116,101,115] := rfl
    by_cases hv : v1 = wWrites
    ·
     have hv' := hv
     rw [hWd] at hv
     repeat (first|refine wa ?_|((with_reducible apply s5);(first|exact a_call c2 rfl by_sub|exact by_oa|exact by_ca);exact by_g)|refine wb ?_)
     refine q_loopT (2,R,encStrs ws,[]) ⟨by dsimp only;omega,fun h => by dsimp only at h;omega,fun _ => ⟨hv0,hR⟩,fun _ => ⟨hv,rfl⟩,by simp,fun _ => by rw [hPF,if_pos hv0,if_pos hv',e0];rfl⟩ (by dsimp only;omega) ?_
     exact by_less
    ·
     have hP : parseE s = .error 2 := by rw [hPF,if_pos hv0,if_neg hv]
     rw [hWd] at hv
     repeat (first|refine wa ?_|((with_reducible apply s5);(first|exact a_call c2 rfl by_sub|exact by_oa|exact by_ca);exact by_g)|refine wb ?_)
     exact .two (.cell rfl rfl rfl rfl (.aggd rfl (no_le hP))) (.tmp rfl (.one (.d (er_le hP))))
   have hF := hF (by omega)
   rw [h1,finE_cons] at hF
   obtain ⟨w,wz,hwds⟩ := split_cons p [32]
   rw [hwds] at hF c2
   have hwl : wz.length ≤ 400 := by have := split_len p [32];rw [hwds] at this;simp at *;omega
   have ci := ok_tinstr w wz (by omega) (fun u hu => Nat.le_trans (split_part (s := p) (sep := [32]) (by rw [hwds];exact List.mem_cons_of_mem _ hu)) (by omega))
   have hw0 : (w :: wz)[0]? = some w := rfl
   cases hI : insE (w :: wz) with
   | error e =>
    rw [hI] at hF ci
    dsimp only at hF
    have he0 : e ≠ 0 := by
     intro e0'
     subst e0'
     simp only [insE] at hI
     split at hI
     ·
      cases hI
     ·
      split at hI
      ·
       split at hI <;> cases hI
      ·
       cases hI
    repeat (first|refine wa ?_|((with_reducible apply s5);(first|exact a_call c2 rfl by_sub|exact by_oa|exact by_ca);exact by_g)|refine wb ?_)
    exact .two (.cell rfl rfl rfl rfl (.aggd rfl (no_le hF))) (.tmp rfl (.one (.d (er_le hF))))
   | ok i =>
    rw [hI] at hF ci
    dsimp only at hF
    repeat (first|refine wa ?_|((with_reducible apply s5);(first|exact a_call c2 rfl by_sub|exact by_oa|exact by_ca);exact by_g)|refine wb ?_)
    refine q_loopT (x + 1,R,W,code ++ [i]) ⟨by dsimp only;omega,fun h => by dsimp only at h;omega,fun _ => hR (by omega),fun _ => hW (by omega),by dsimp only;simp;omega,fun _ => hF⟩ (by dsimp only;omega) ?_
    exact by_less
end Go.Proofs.YtmnociojijpdmaaGreatDoor
namespace Go.Proofs.YtmnociojijpdmaaGreatDoor
open Go.AX Go.RF
set_option maxRecDepth 100000
set_option maxHeartbeats 16000000
theorem noEntry_le : DLes [dint 0,.v nilS] noEntry.enc := .cons (.refl _) (.cons (dle_nil 3) .nil)
structure BForm (b : Str) (K : Nat) (h0 u v : UInt8) (L : Str) : Prop where
 len : b.length = K + 2
 k : 1 ≤ K
 l : L.length + 1 = K
 ph : b[0]? = some h0
 pu : b[K]? = some u
 pv : b[K + 1]? = some v
 t : b.take K = h0 :: L
 pb : (b.take K).drop 1 = L
 p : parseB b = if sumN 1 (b.take K) = u.toNat * 256 + v.toNat then
   (if (split L [10]).getLast? = some [] then match parseL (split L [10]).dropLast with
    | .error e => .error e
    | .ok ds => if wrongEntry ⟨h0.toNat,ds⟩ = 0 then .ok ⟨h0.toNat,ds⟩ else .error (wrongEntry ⟨h0.toNat,ds⟩)
   else .error 2)
  else .error 2
theorem bform {b : Str} (h : 3 ≤ b.length) : ∃ K h0 u v L,BForm b K h0 u v L := by
 obtain ⟨h0,L,u,v,rfl⟩ := bytes_form h
 refine ⟨L.length + 1,h0,u,v,L,⟨by simp,by omega,rfl,rfl,by simp,by simp,by simp,by simp,?_⟩⟩
 rw [parseB_app]
 simp
 all_goals rfl
theorem idx_i {α : Type} {l : List α} {f : α → List D} {k : Nat} {m : Int} {x : α} (h : l[k]? = some x) (hm : m = (k : Int)) : idx (l.map f) m = some (f x) := by
 subst hm;exact idx_map h
theorem cut_toI {l : Str} {k : Nat} {m : Int} (h : k ≤ l.length) (hm : m = (k : Int)) : cutI (l.map byteD) none (some m) = some ((l.take k).map byteD) := by
 subst hm
 rw [cut_to (by simpa using h),List.map_take]
theorem cut_ftI {l : Str} {j k : Nat} {m q : Int} (hj : j ≤ k) (h : k ≤ l.length) (hm : m = (j : Int)) (hq : q = (k : Int)) : cutI (l.map byteD) (some m) (some q) = some (((l.take k).drop j).map byteD) := by
 subst hm hq
 rw [cut_ft hj (by simpa using h),List.map_drop,List.map_take]
theorem ok_lparse (b : Str) (hb : b.length ≤ 100000000) : FnOk Tryz.prog 33 [.d (encBytes b)] (.tup [.agg (resB (parseB b)).1.enc,dint (resB (parseB b)).2]) := by
 refine fnOk_of tbl_ok mixed_ok Tryz.func33 rfl (by kernel_rfl) rfl rfl fun w0 own0 => ?_
 by_cases h3 : b.length < 3
 ·
  have hp : parseB b = .error 8 := by unfold parseB;rw [if_pos h3]
  rw [hp]
  try refine wk ?_
  exact .two (.cell rfl rfl rfl rfl (.aggd (ds := [dint 0,.v nilS]) rfl noEntry_le.agg)) (.tmp rfl (.one (.d (.refl _))))
 obtain ⟨K,h0,u,v,L,⟨f1,f2,f3,f4,f5,f6,f7,f8,f9⟩⟩ := bform (b := b) (by omega)
 have hu := u.toNat_lt
 have hv := v.toNat_lt
 have hh := h0.toNat_lt
 have c1 := ok_lsum (b.take K) (by rw [List.length_take];omega)
 rw [f9]
 by_cases g1 : sumN 1 (b.take K) = u.toNat * 256 + v.toNat
 rotate_left
 ·
  rw [if_neg g1]
  generalize sumN 1 (b.take K) = S at *
  repeat (first|refine wa ?_|((with_reducible apply s5);(first|((with_reducible apply a_ia);(iterate 5 exact rfl);first | exact idx_i f5 (by simp;omega) | exact idx_i f6 (by simp;omega) | exact idx_i f4 rfl)|((with_reducible apply a_to);(iterate 5 exact rfl);exact cut_toI (k := K) (by omega) (by simp;omega))|((with_reducible apply a_bin);exact rfl;exact rfl;(first | ((with_reducible apply bin_shlJ);exact rfl;exact hu) | ((with_reducible apply bin_or8);exact hu;exact hv));exact rfl)|exact by_oa|exact by_ca);exact by_g)|refine wb ?_)
  exact .two (.cell rfl rfl rfl rfl (.aggd (ds := [dint 0,.v nilS]) rfl noEntry_le.agg)) (.tmp rfl (.one (.d (.refl _))))
 rw [if_pos g1]
 rw [g1] at c1
 have c2 := ok_lsplit L [10] (by omega) (by simp)
 have hsl := split_len L [10]
 have hsp : ∀ p ∈ split L [10],p.length ≤ L.length := fun p hp => split_part hp
 have hne : split L [10] ≠ [] := splitF_ne [10] L.length [] L
 generalize split L [10] = ls at *
 obtain ⟨x,hx⟩ : ∃ x,ls.getLast? = some x := ⟨_,List.getLast?_eq_some_getLast hne⟩
 have hxi : ls[ls.length - 1]? = some x := by rw [← List.getLast?_eq_getElem?];exact hx
 have hlp := List.length_pos_iff.2 hne
 have hdl : ls.dropLast = ls.take (ls.length - 1) := List.dropLast_eq_take
 have hcutd : ∀ m : Int,m = (ls.length : Int) - 1 → cutI (ls.map encStr1) none (some m) = some (ls.dropLast.map encStr1) := fun m hm => by
  rw [hm,show (ls.length : Int) - 1 = ((ls.length - 1 : Nat) : Int) by omega,cut_to (by simp),hdl,List.map_take]
 have hcut : ∀ m : Int,m = (K : Int) → cutI (b.map byteD) (some 1) (some m) = some (L.map byteD) := fun m hm => by
  have := cut_ftI (l := b) (j := 1) (k := K) (m := 1) (q := m) (by omega) (by omega) rfl hm
  rwa [f8] at this
 rw [hx]
 by_cases g2 : x = []
 rotate_left
 ·
  rw [if_neg (by simpa using g2)]
  repeat (first|refine wa ?_|((with_reducible apply s5);(first|((with_reducible apply a_ia);(iterate 5 exact rfl);first | exact idx_i f5 (by simp;omega) | exact idx_i f6 (by simp;omega) | exact idx_i f4 rfl)|((with_reducible apply a_to);(iterate 5 exact rfl);exact cut_toI (k := K) (by omega) (by simp;omega))|((with_reducible apply a_bin);exact rfl;exact rfl;(first | ((with_reducible apply bin_shlJ);exact rfl;exact hu) | ((with_reducible apply bin_or8);exact hu;exact hv));exact rfl)|((with_reducible apply a_ft);(iterate 6 exact rfl);exact hcut _ (by first | (simp;done) | (simp;omega)))|((with_reducible apply a_b2s);(iterate 8 exact rfl))|((with_reducible apply a_ia);(iterate 5 exact rfl);exact idx_i hxi (by first | (simp;omega) | omega))|exact by_oa|exact by_ca);exact by_g)|refine wb ?_)
  exact .two (.cell rfl rfl rfl rfl (.aggd (ds := [dint 0,.v nilS]) rfl noEntry_le.agg)) (.tmp rfl (.one (.d (.refl _))))
 subst g2
 rw [if_pos rfl]
 have hml : ls.dropLast.length ≤ L.length + 1 := by rw [List.length_dropLast];omega
 have hmp : ∀ p ∈ ls.dropLast,p.length ≤ L.length := fun p hp => hsp p (by rw [hdl] at hp;exact List.mem_of_mem_take hp)
 repeat (first|refine wa ?_|((with_reducible apply s5);(first|((with_reducible apply a_ia);(iterate 5 exact rfl);first | exact idx_i f5 (by simp;omega) | exact idx_i f6 (by simp;omega) | exact idx_i f4 rfl)|((with_reducible apply a_to);(iterate 5 exact rfl);exact cut_toI (k := K) (by omega) (by simp;omega))|((with_reducible apply a_bin);exact rfl;exact rfl;(first | ((with_reducible apply bin_shlJ);exact rfl;exact hu) | ((with_reducible apply bin_or8);exact hu;exact hv));exact rfl)|((with_reducible apply a_ft);(iterate 6 exact rfl);exact hcut _ (by first | (simp;done) | (simp;omega)))|((with_reducible apply a_b2s);(iterate 8 exact rfl))|((with_reducible apply a_ia);(iterate 5 exact rfl);exact idx_i hxi (by first | (simp;omega) | omega))|((with_reducible apply a_to);(iterate 5 exact rfl);exact hcutd _ (by simp))|exact by_oa|exact by_ca);exact by_g)|refine wb ?_)
 refine CW.stut (stut_promote_cell (id := 1) (j := 1) 72 3 rfl) ⟨rfl,rfl,trivial⟩ ?_
 generalize ls.dropLast = ms at *
 refine CW.loopT (fun t : Nat × List Deed => [sp 2 0,ob 0 [dint 0,.v nilS],sd 3 (dint 0),sp 5 1,(.o 1,.ob (.box [.d (dint h0.toNat),.own 2 t.1])),oa 2 72 3 (t.2.map Deed.enc),sd 60 (encStrs ms),sd 61 (dint ms.length),sd 62 (dint t.1),nxt 3])
  (fun t => t.1 ≤ ms.length ∧ t.2.length = t.1 ∧ (∀ d ∈ t.2,wrongDeed d = 0) ∧ accL t.2 (parseL (ms.drop t.1)) = parseL ms) (fun t => ms.length - t.1) (0,[]) ⟨by dsimp only;omega,rfl,by simp,by dsimp only;rw [List.drop_zero];cases parseL ms <;> rfl⟩ ?_ ?_
 ·
  exact by_less
 ·
  rintro ⟨j,ds⟩ ⟨hj,hl,hw,hI⟩
  dsimp only at hj hl hw hI ⊢
  rcases drop_case hj with ⟨k1,k2⟩ | ⟨s,k1,k2,k3⟩
  ·
   rw [k1,parseL] at hI
   simp only [accL,List.append_nil] at hI
   rw [← hI]
   dsimp only
   have c3 := ok_lwrong ⟨h0.toNat,ds⟩ (fun d hd => wrong_sm (hw d hd)) (by dsimp only;omega)
   have hst0 : StopA 18 := ⟨rfl⟩
   try refine wkS ?_
   clear hst0
   refine Stop.go (CW.stut (stut_freeze_cell (id := 1) (j := 1) (i := 2) rfl (by simp;omega)) ⟨rfl,rfl,trivial⟩ ?_)
   by_cases g3 : wrongEntry ⟨h0.toNat,ds⟩ = 0
   ·
    rw [if_pos g3]
    rw [g3] at c3
    try refine wk ?_
    exact .two (.cell rfl rfl rfl rfl (.aggd (ds := Entry.enc ⟨h0.toNat,ds⟩) rfl (.refl _))) (.tmp rfl (.one (.d (.refl _))))
   ·
    rw [if_neg g3]
    generalize wrongEntry ⟨h0.toNat,ds⟩ = W at *
    try refine wk ?_
    exact .two (.cell rfl rfl rfl rfl (.aggd (ds := [dint 0,.v nilS]) rfl noEntry_le.agg)) (.tmp rfl (.one (.d (.refl _))))
  ·
   rw [k1] at hI
   simp only [parseL] at hI
   have hsl := hmp s (List.mem_of_getElem? k2)
   have c3 := ok_tparse s (by omega)
   cases hp : parseE s with
   | error e =>
    rw [hp] at hI
    rw [parseR_err hp] at c3
    have he := parseE_err hp
    simp only [accL] at hI
    rw [← hI]
    repeat (first|refine wa ?_|((with_reducible apply s5);(first|exact a_call c3 rfl by_sub|exact by_oa|exact by_ca);exact by_g)|refine wb ?_)
    exact .two (.cell rfl rfl rfl rfl (.aggd (ds := [dint 0,.v nilS]) rfl noEntry_le.agg)) (.tmp rfl (.one (.d (.refl _))))
   | ok d =>
    rw [hp] at hI
    rw [parseR_ok hp] at c3
    have hd := parseE_right hp
    dsimp only at hI c3
    have hI2 : accL (ds ++ [d]) (parseL (ms.drop (j + 1))) = parseL ms := by
     rw [← hI]
     cases parseL (ms.drop (j + 1)) with
     | error e => rfl
     | ok l => simp [accL]
    repeat (first|((with_reducible apply s5);((with_reducible apply a_bs [d.enc]);(iterate 9 exact rfl);(repeat (first | exact PartsE.nil | (apply PartsE.cons;exact rfl;exact rfl))));exact by_g)|refine wa1 ?_|((with_reducible apply s5);(first|exact a_call c3 rfl by_sub|exact by_oa|exact by_ca);exact by_g)|refine wb ?_)
    refine q_loopT (j + 1,ds ++ [d]) ⟨by dsimp only;omega,by simp;omega,fun y hy => ?_,hI2⟩ (by dsimp only;omega) ?_
    ·
     rcases List.mem_append.1 hy with hy | hy
     ·
      exact hw y hy
     ·
      rw [List.mem_singleton.1 hy];exact hd
    exact by_less
theorem ok_rparse6 (b : Str) (hb : b.length ≤ 100000000) : FnOk Tryz.prog 34 [.d (encBytes b)] (.tup [.agg (resB (parseB b)).1.enc,dint (resB (parseB b)).2]) := by
 refine fnOk_of tbl_ok mixed_ok Tryz.func34 rfl (by kernel_rfl) rfl rfl fun w0 own0 => ?_
 by_cases h3 : b.length < 3
 ·
  have hp : parseB b = .error 8 := by unfold parseB;rw [if_pos h3]
  rw [hp]
  try refine wk ?_
  exact .two (.cell rfl rfl rfl rfl (.aggd (ds := [dint 0,.v nilS]) rfl noEntry_le.agg)) (.tmp rfl (.one (.d (.refl _))))
 obtain ⟨K,h0,u,v,L,⟨f1,f2,f3,f4,f5,f6,f7,f8,f9⟩⟩ := bform (b := b) (by omega)
 have hu := u.toNat_lt
 have hv := v.toNat_lt
 have hh := h0.toNat_lt
 have c1 := ok_rsum (b.take K) (by rw [List.length_take];omega)
 rw [f9]
 by_cases g1 : sumN 1 (b.take K) = u.toNat * 256 + v.toNat
 rotate_left
 ·
  rw [if_neg g1]
  generalize sumN 1 (b.take K) = S at *
  repeat (first|refine wa ?_|((with_reducible apply s5);(first|((with_reducible apply a_ia);(iterate 5 exact rfl);first | exact idx_i f5 (by simp;omega) | exact idx_i f6 (by simp;omega) | exact idx_i f4 rfl)|((with_reducible apply a_to);(iterate 5 exact rfl);exact cut_toI (k := K) (by omega) (by simp;omega))|((with_reducible apply a_bin);exact rfl;exact rfl;(with_reducible apply bin_mul);(exact by omega);exact rfl)|exact by_oa|exact by_ca);exact by_g)|refine wb ?_)
  exact .two (.cell rfl rfl rfl rfl (.aggd (ds := [dint 0,.v nilS]) rfl noEntry_le.agg)) (.tmp rfl (.one (.d (.refl _))))
 rw [if_pos g1]
 rw [g1] at c1
 have hlast := split_last L L.length [] (Nat.le_refl _)
 have hgo := goL_split L L.length [] [] (Nat.le_refl _)
 have hspl : split L [10] = splitF [10] L.length [] L := rfl
 rw [hspl]
 by_cases g2 : (splitF [10] L.length [] L).getLast? = some []
 rotate_left
 ·
  rw [if_neg g2]
  have hL : L ≠ [] := fun h => g2 (hlast.2 (.inl ⟨h,rfl⟩))
  obtain ⟨z,hz⟩ : ∃ z,L.getLast? = some z := ⟨_,List.getLast?_eq_some_getLast hL⟩
  have hz10 : z ≠ 10 := fun h => g2 (hlast.2 (.inr (by rw [hz,h])))
  have hLp := List.length_pos_iff.2 hL
  have hzb : b[K - 1]? = some z := by
   rw [List.getLast?_eq_getElem?] at hz
   have h1 : (b.take K)[K - 1]? = some z := by
    rw [f7,show K - 1 = (L.length - 1) + 1 by omega,List.getElem?_cons_succ];exact hz
   rw [List.getElem?_take,if_pos (by omega)] at h1
   exact h1
  have hzn : z.toNat ≠ 10 := fun h => hz10 (UInt8.toNat_inj.1 h)
  have hzl := z.toNat_lt
  repeat (first|refine wa ?_|((with_reducible apply s5);(first|((with_reducible apply a_ia);(iterate 5 exact rfl);first | exact idx_i f5 (by simp;omega) | exact idx_i f6 (by simp;omega) | exact idx_i f4 rfl)|((with_reducible apply a_to);(iterate 5 exact rfl);exact cut_toI (k := K) (by omega) (by simp;omega))|((with_reducible apply a_bin);exact rfl;exact rfl;(with_reducible apply bin_mul);(exact by omega);exact rfl)|((with_reducible apply a_ia);(iterate 5 exact rfl);exact idx_i hzb (by first | (simp;omega) | omega))|exact by_oa|exact by_ca);exact by_g)|refine wb ?_)
  exact .two (.cell rfl rfl rfl rfl (.aggd (ds := [dint 0,.v nilS]) rfl noEntry_le.agg)) (.tmp rfl (.one (.d (.refl _))))
 rw [if_pos g2]
 have hgo2 := hgo g2
 have hfin : accL [] (parseL (splitF [10] L.length [] L).dropLast) = parseL (splitF [10] L.length [] L).dropLast := by
  cases parseL (splitF [10] L.length [] L).dropLast <;> rfl
 rw [hfin] at hgo2
 rw [← hgo2]
 have hz10 : L = [] ∨ b[K - 1]? = some 10 := by
  rcases hlast.1 g2 with h | h
  ·
   exact .inl h.1
  ·
   by_cases hL : L = []
   ·
    exact .inl hL
   ·
    right
    have hLp := List.length_pos_iff.2 hL
    rw [List.getLast?_eq_getElem?] at h
    have h1 : (b.take K)[K - 1]? = some 10 := by
     rw [f7,show K - 1 = (L.length - 1) + 1 by omega,List.getElem?_cons_succ];exact h
    rw [List.getElem?_take,if_pos (by omega)] at h1
    exact h1
 have hz2 : ¬ 1 < K ∨ (1 < K ∧ b[K - 1]? = some 10) := by
  rcases hz10 with h | h
  ·
   left;rw [h] at f3;simp at f3;omega
  ·
   by_cases hk : 1 < K
   ·
    exact .inr ⟨hk,h⟩
   ·
    exact .inl hk
 clear hlast hgo hfin hz10
 obtain ⟨tgt,htg⟩ : ∃ tgt,goL [] [] L = tgt := ⟨_,rfl⟩
 rw [htg]
 have hcf : ∀ (m q : Nat),m ≤ q → q ≤ K → cutI (b.map byteD) (some (m : Int)) (some (q : Int)) = some (((b.take q).drop m).map byteD) := fun m q h1 h2 => cut_ftI h1 (by omega) rfl rfl
 have hst0 : StopA 6 := ⟨rfl⟩
 repeat (first|refine waS ?_|((with_reducible apply s5);(first|((with_reducible apply a_ia);(iterate 5 exact rfl);first | exact idx_i f5 (by simp;omega) | exact idx_i f6 (by simp;omega) | exact idx_i f4 rfl)|((with_reducible apply a_to);(iterate 5 exact rfl);exact cut_toI (k := K) (by omega) (by simp;omega))|((with_reducible apply a_bin);exact rfl;exact rfl;(with_reducible apply bin_mul);(exact by omega);exact rfl)|exact by_oa|exact by_ca);exact by_g)|refine wb ?_)
 clear hst0
 refine Stop.cutk [] [.s 0,.s 2,.s 3,.s 4,.o 0,.nx] ?_ ?_
 ·
  rcases hz2 with hk | ⟨hk,hz⟩
  ·
   repeat (first|refine wa ?_|((with_reducible apply s5);(first|((with_reducible apply a_ia);(iterate 5 exact rfl);first | exact idx_i f5 (by simp;omega) | exact idx_i f6 (by simp;omega) | exact idx_i f4 rfl)|((with_reducible apply a_to);(iterate 5 exact rfl);exact cut_toI (k := K) (by omega) (by simp;omega))|((with_reducible apply a_bin);exact rfl;exact rfl;(with_reducible apply bin_mul);(exact by omega);exact rfl)|exact by_oa|exact by_ca);exact by_g)|refine wb ?_)
   refine q_cut ?_
   exact by_less
  ·
   repeat (first|refine wa ?_|((with_reducible apply s5);(first|((with_reducible apply a_ia);(iterate 5 exact rfl);first | exact idx_i f5 (by simp;omega) | exact idx_i f6 (by simp;omega) | exact idx_i f4 rfl)|((with_reducible apply a_to);(iterate 5 exact rfl);exact cut_toI (k := K) (by omega) (by simp;omega))|((with_reducible apply a_bin);exact rfl;exact rfl;(with_reducible apply bin_mul);(exact by omega);exact rfl)|((with_reducible apply a_ia);(iterate 5 exact rfl);exact idx_i hz (by simp;omega))|exact by_oa|exact by_ca);exact by_g)|refine wb ?_)
   refine q_cut ?_
   exact by_less
 clear hz2
 repeat (first|refine wa ?_|((with_reducible apply s5);(first|((with_reducible apply a_ia);(iterate 5 exact rfl);first | exact idx_i f5 (by simp;omega) | exact idx_i f6 (by simp;omega) | exact idx_i f4 rfl)|((with_reducible apply a_to);(iterate 5 exact rfl);exact cut_toI (k := K) (by omega) (by simp;omega))|((with_reducible apply a_bin);exact rfl;exact rfl;(with_reducible apply bin_mul);(exact by omega);exact rfl)|exact by_oa|exact by_ca);exact by_g)|refine wb ?_)
 refine CW.stut (stut_promote_cell (id := 1) (j := 1) 72 3 rfl) ⟨rfl,rfl,trivial⟩ ?_
 refine CW.loopT (fun t : Nat × Nat × List Deed => [sd 0 (encBytes b),sp 2 0,ob 0 [dint 0,.v nilS],sd 3 (dint 0),sd 4 (dint K),sp 5 1,(.o 1,.ob (.box [.d (dint h0.toNat),.own 2 t.2.2.length])),oa 2 72 3 (t.2.2.map Deed.enc),sd 6 (dint t.2.1),sd 7 (dint t.1),nxt 3])
  (fun t => (1 ≤ t.2.1 ∧ t.2.1 ≤ t.1 ∧ t.1 ≤ K) ∧ t.2.2.length ≤ t.1 ∧ (∀ d ∈ t.2.2,wrongDeed d = 0) ∧ goL ((b.take t.1).drop t.2.1) t.2.2 ((b.take K).drop t.1) = tgt) (fun t => K - t.1) (1,1,[]) ⟨⟨by dsimp only;omega,by dsimp only;omega,by dsimp only;omega⟩,by simp,by simp,?_⟩ ?_ ?_
 ·
  dsimp only
  rw [f8,List.drop_eq_nil_of_le (by rw [List.length_take];omega)]
  exact htg
 ·
  exact by_less
 ·
  rintro ⟨i,fr,ds⟩ ⟨⟨i1,i2,i3⟩,hl,hw,hI⟩
  dsimp only at i1 i2 i3 hl hw hI ⊢
  by_cases hiK : i < K
  ·
   obtain ⟨c,hc⟩ : ∃ c,b[i]? = some c := ⟨b[i]'(by omega),List.getElem?_eq_getElem (by omega)⟩
   have hcl := c.toNat_lt
   have hdr : (b.take K).drop i = c :: (b.take K).drop (i + 1) := by
    have h1 : (b.take K)[i]? = some c := by rw [List.getElem?_take,if_pos hiK];exact hc
    obtain ⟨h2,h3⟩ := List.getElem?_eq_some_iff.1 h1
    rw [List.drop_eq_getElem_cons h2,h3]
   have hcur : (b.take (i + 1)).drop fr = (b.take i).drop fr ++ [c] := by
    rw [List.take_add_one,hc]
    exact List.drop_append_of_le_length (by rw [List.length_take];omega)
   rw [hdr] at hI
   simp only [goL] at hI
   by_cases hc10 : c = 10
   ·
    rw [if_pos hc10] at hI
    have hcn : c.toNat = 10 := by rw [hc10];rfl
    have c3 := ok_parse ((b.take i).drop fr) (by rw [List.length_drop,List.length_take];omega)
    have hcut := hcf fr i i2 i3
    cases hp : parseE ((b.take i).drop fr) with
    | error e =>
     rw [hp] at hI
     rw [parseR_err hp] at c3
     have he := parseE_err hp
     dsimp only at hI c3
     subst hI
     repeat (first|refine wa ?_|((with_reducible apply s5);(first|((with_reducible apply a_ia);(iterate 5 exact rfl);first | exact idx_i f5 (by simp;omega) | exact idx_i f6 (by simp;omega) | exact idx_i f4 rfl)|((with_reducible apply a_ft);(iterate 6 exact rfl);exact hcut)|((with_reducible apply a_b2s);(iterate 8 exact rfl))|exact by_oa|exact by_ca);exact by_g)|refine wb ?_)
     exact .two (.cell rfl rfl rfl rfl (.aggd (ds := [dint 0,.v nilS]) rfl noEntry_le.agg)) (.tmp rfl (.one (.d (.refl _))))
    | ok d =>
     rw [hp] at hI
     rw [parseR_ok hp] at c3
     have hd := parseE_right hp
     dsimp only at hI c3
     generalize (b.take i).drop fr = cur at *
     repeat (first|((with_reducible apply s5);((with_reducible apply a_bs [d.enc]);(iterate 9 exact rfl);(repeat (first | exact PartsE.nil | (apply PartsE.cons;exact rfl;exact rfl))));exact by_g)|refine wa1 ?_|((with_reducible apply s5);(first|((with_reducible apply a_ia);(iterate 5 exact rfl);first | exact idx_i f5 (by simp;omega) | exact idx_i f6 (by simp;omega) | exact idx_i f4 rfl)|((with_reducible apply a_ft);(iterate 6 exact rfl);exact hcut)|((with_reducible apply a_b2s);(iterate 8 exact rfl))|exact by_oa|exact by_ca);exact by_g)|refine wb ?_)
     refine q_loopT (i + 1,i + 1,ds ++ [d]) ⟨⟨by dsimp only;omega,by dsimp only;omega,by dsimp only;omega⟩,by simp;omega,fun y hy => ?_,?_⟩ (by dsimp only;omega) ?_
     ·
      rcases List.mem_append.1 hy with hy | hy
      ·
       exact hw y hy
      ·
       rw [List.mem_singleton.1 hy];exact hd
     ·
      dsimp only
      rw [List.drop_eq_nil_of_le (by rw [List.length_take];omega)]
      exact hI
     exact by_less
   ·
    rw [if_neg hc10] at hI
    have hcn : c.toNat ≠ 10 := fun h => hc10 (UInt8.toNat_inj.1 h)
    repeat (first|refine wa ?_|((with_reducible apply s5);(first|((with_reducible apply a_ia);(iterate 5 exact rfl);first | exact idx_i f5 (by simp;omega) | exact idx_i f6 (by simp;omega) | exact idx_i f4 rfl)|exact by_oa|exact by_ca);exact by_g)|refine wb ?_)
    refine q_loopT (i + 1,fr,ds) ⟨⟨i1,by dsimp only;omega,by dsimp only;omega⟩,by dsimp only;omega,hw,by dsimp only;rw [hcur];exact hI⟩ (by dsimp only;omega) ?_
    exact by_less
  ·
   obtain rfl : i = K := by omega
   have hnil : (b.take i).drop i = [] := List.drop_eq_nil_of_le (by rw [List.length_take];omega)
   rw [hnil] at hI
   simp only [goL] at hI
   subst hI
   dsimp only
   have c3 := ok_rwrongEntry ⟨h0.toNat,ds⟩ (fun d hd => wrong_sm (hw d hd)) (by dsimp only;omega)
   have hst0 : StopA 19 := ⟨rfl⟩
   try refine wkS ?_
   clear hst0
   refine Stop.go (CW.stut (stut_freeze_cell (id := 1) (j := 1) (i := 2) rfl (by simp)) ⟨rfl,rfl,trivial⟩ ?_)
   by_cases g3 : wrongEntry ⟨h0.toNat,ds⟩ = 0
   ·
    rw [if_pos g3]
    rw [g3] at c3
    repeat (first|refine wa ?_|((with_reducible apply s5);(first|exact a_call c3 rfl by_sub|exact by_oa|exact by_ca);exact by_g)|refine wb ?_)
    exact .two (.cell rfl rfl rfl rfl (.aggd (ds := Entry.enc ⟨h0.toNat,ds⟩) rfl (.refl _))) (.tmp rfl (.one (.d (.refl _))))
   ·
    rw [if_neg g3]
    generalize wrongEntry ⟨h0.toNat,ds⟩ = W at *
    repeat (first|refine wa ?_|((with_reducible apply s5);(first|exact a_call c3 rfl by_sub|exact by_oa|exact by_ca);exact by_g)|refine wb ?_)
    exact .two (.cell rfl rfl rfl rfl (.aggd (ds := [dint 0,.v nilS]) rfl noEntry_le.agg)) (.tmp rfl (.one (.d (.refl _))))
set_option maxHeartbeats 8000000
theorem new_logOwn (l : List Entry) (hl : l.length ≤ 134217728) (hd : ∀ e ∈ l,e.deeds.length ≤ 134217728 ∧ ∀ d ∈ e.deeds,d.Sm) : FnNew Tryz.prog 30 [.d (encEntries l)] 26 2 (l.map Entry.enc) := by
 refine fnNew_of tbl_ok mixed_ok Tryz.func30 rfl (by kernel_rfl) rfl rfl fun w0 own0 => ?_
 try refine wk ?_
 refine CW.stut (stut_promote (i := 3) 26 2) ⟨rfl,rfl,trivial⟩ ?_
 refine CW.loopT (fun i : Nat => [sd 9 (encEntries l),sd 10 (dint l.length),sd 11 (dint i),so 3 0 i,oa 0 26 2 ((l.take i).map Entry.enc),nxt 1]) (fun i => i ≤ l.length) (fun i => l.length - i) 0 (by omega) ?_ ?_
 ·
  exact by_less
 ·
  rintro i hi
  rcases drop_case hi with ⟨h1,h2⟩ | ⟨e,h1,h2,h3⟩
  ·
   subst h2
   rw [List.take_length]
   try refine wk ?_
   exact RetNew.own rfl rfl (by simp)
  ·
   have h4 : (l.take i).map Entry.enc ++ [e.enc] = (l.take (i + 1)).map Entry.enc := by rw [List.take_add_one,h2];simp
   obtain ⟨hel,hed⟩ := hd e (List.mem_of_getElem? h2)
   try refine wk ?_
   refine CW.stut (stut_promote_cell (id := 2) (j := 1) 72 3 rfl) ⟨rfl,rfl,trivial⟩ ?_
   refine CW.loopT (fun j : Nat => [sd 9 (encEntries l),sd 10 (dint l.length),sd 11 (dint i),so 3 0 i,oa 0 26 2 ((l.take i).map Entry.enc),sp 6 2,(.o 2,.ob (.box [.d (dint e.number),.own 3 j])),oa 3 72 3 ((e.deeds.take j).map Deed.enc),sd 19 (encDeeds e.deeds),sd 20 (dint e.deeds.length),sd 21 (dint j),nxt 4])
    (fun j => j ≤ e.deeds.length) (fun j => e.deeds.length - j) 0 (by omega) ?_ ?_
   ·
    exact by_less
   ·
    rintro j hj
    rcases drop_case hj with ⟨h5,h6⟩ | ⟨d,h5,h6,h7⟩
    ·
     subst h6
     rw [List.take_length]
     have hst0 : StopX 11 := ⟨rfl⟩
     try refine wkS ?_
     clear hst0
     refine Stop.go (CW.stut (stut_freeze_cell (id := 2) (j := 1) (i := 3) rfl (by simp)) ⟨rfl,rfl,trivial⟩ ?_)
     have h8 : (l.take i).map Entry.enc ++ [[dint e.number,.sl 3 (e.deeds.map Deed.enc)]] = (l.take (i + 1)).map Entry.enc := h4
     try refine wk ?_
     refine q_loopT (i + 1) (by omega) (by omega) ?_
     exact by_less
    ·
     have h8 : (e.deeds.take j).map Deed.enc ++ [d.enc] = (e.deeds.take (j + 1)).map Deed.enc := by rw [List.take_add_one,h6];simp
     have hd := ok_deedOwn d (hed d (List.mem_of_getElem? h6))
     try refine wk ?_
     refine q_loopT (j + 1) (by omega) (by omega) ?_
     exact by_less
theorem ok_logOwn (l : List Entry) (hl : l.length ≤ 134217728) (hd : ∀ e ∈ l,e.deeds.length ≤ 134217728 ∧ ∀ d ∈ e.deeds,d.Sm) : FnOk Tryz.prog 30 [.d (encEntries l)] (.one (encEntries l)) := (new_logOwn l hl hd).ok
theorem resB_sm (b : Str) : (resB (parseB b)).1.deeds.length ≤ 268435456 ∧ ∀ d ∈ (resB (parseB b)).1.deeds,d.Sm := by
 cases hp : parseB b with
 | error e => exact ⟨by simp [resB,noEntry],by simp [resB,noEntry]⟩
 | ok e =>
  obtain ⟨h1,_⟩ := bytes_parse hp
  obtain ⟨_,h2,_,h4⟩ := wrongEntry_out h1
  exact ⟨by simp only [resB];omega,fun d hd => wrong_sm (h4 d hd)⟩
theorem ok_LogTells (e : Entry) (l : List Entry) (b : Str) (he : e.deeds.length ≤ 10000000 ∧ ∀ d ∈ e.deeds,d.Sm) (hl : l.length ≤ 10000000) (hd : ∀ e ∈ l,e.deeds.length ≤ 10000000 ∧ ∀ d ∈ e.deeds,d.Sm) (hb : b.length ≤ 10000000) :
  FnOk Tryz.prog 4 [.d (.agg e.enc),.d (encEntries l),.d (encBytes b)] (.one (dbool true)) := by
 refine fnOk_of tbl_ok mixed_ok Tryz.func4 rfl (by kernel_rfl) rfl rfl fun w0 own0 => ?_
 have c1 := ok_lwrong e he.2 (by omega)
 have c2 := ok_rwrongEntry e he.2 (by omega)
 have c3 := ok_lsum b (by omega)
 have c4 := ok_rsum b (by omega)
 have c5 := ok_logOwn l (by omega) fun x hx => ⟨by have := (hd x hx).1;omega,(hd x hx).2⟩
 have c6 := ok_sameEnts l l (by omega) fun x hx => ⟨by have := (hd x hx).1;omega,(hd x hx).2⟩
 rw [allB_refl sameEnt_refl] at c6
 have c9 := ok_lparse b (by omega)
 have c10 := ok_rparse6 b (by omega)
 have hx := resB_sm b
 generalize resB (parseB b) = p at *
 obtain ⟨x,w⟩ := p
 dsimp only at c9 c10 hx
 have c11 := ok_sameEnts [x] [x] (by simp) (by simpa using hx)
 rw [allB_refl sameEnt_refl] at c11
 have hS : sumN 1 b < 65521 := sumN_lt (by omega)
 generalize sumN 1 b = S at *
 by_cases hw : wrongEntry e = 0
 ·
  have c7 := ok_lbytes e hw
  have c8 := ok_rbytes e hw
  rw [hw] at c1 c2
  generalize bytesE e = B at *
  repeat (first|((with_reducible apply s5);((with_reducible apply a_bs [x.enc]);(iterate 9 exact rfl);(repeat (first | exact PartsE.nil | (apply PartsE.cons;exact rfl;exact rfl))));exact by_g)|refine wa1 ?_|((with_reducible apply s5);(first|exact a_call c6 rfl by_sub|exact a_call c11 rfl by_sub|((with_reducible apply a_b2s);(iterate 8 exact rfl))|exact by_oa|exact by_ca);exact by_g)|refine wb ?_)
  exact .one (.tmp rfl (.one (.d (dle_bool (by simp)))))
 ·
  generalize wrongEntry e = W at *
  repeat (first|((with_reducible apply s5);((with_reducible apply a_bs [x.enc]);(iterate 9 exact rfl);(repeat (first | exact PartsE.nil | (apply PartsE.cons;exact rfl;exact rfl))));exact by_g)|refine wa1 ?_|((with_reducible apply s5);(first|exact a_call c6 rfl by_sub|exact a_call c11 rfl by_sub|exact by_oa|exact by_ca);exact by_g)|refine wb ?_)
  exact .one (.tmp rfl (.one (.d (dle_bool (by simp)))))
end Go.Proofs.YtmnociojijpdmaaGreatDoor
namespace Go.AX
open Go.RowKit
theorem laid_drop {P : Program} {w : World} : ∀ {laid : List (String × DataW Unit)} (i : Nat),laidMet P laid w → laidMet P (laid.drop i) w
 | _,0,h => h
 | [],_ + 1,h => h
 | (n,d) :: r,i + 1,h => by
  obtain ⟨ps,hv,hnd,hrows⟩ := h
  obtain ⟨g,t,cs,fuel,p,q,_,_,_,_,hq,rfl⟩ := hv
  exact laid_drop i ⟨q,hq,List.Nodup.sublist (List.sublist_append_right _ _) hnd,fun b off hm => hrows b off (List.mem_append_right _ hm)⟩
theorem trod_iface {P : Program} {w : World} {ti : TypeId} {ms : Array (String × TypeId)} {sp : Nat → Bool} {fuel : Nat} {cs : List Value} {nm : String} {d : DataW Unit} {p : List MemPlace} (hi : P.underlying ti = some (.interface ms))
  (h : DataW.trod (fun _ => ()) P w 0 sp false fuel ti cs = some (.iface nm d,p)) : ∃ u v,cs = [.iface u v] := by
 cases fuel with
 | zero => simp [DataW.trod] at h
 | succ n =>
  rcases cs with _ | ⟨c,_ | ⟨c2,r⟩⟩
  ·
   simp [DataW.trod,hi] at h
  ·
   cases c <;> simp [DataW.trod,hi] at h ⊢
  ·
   cases c <;> simp [DataW.trod,hi] at h
theorem gl_iface {P : Program} {w : World} {laid rest : List (String × DataW Unit)} {n nm : String} {d : DataW Unit} {g : Nat} {ti : TypeId} {ms : Array (String × TypeId)} (i : Nat) (hi : laid.drop i = (n,.iface nm d) :: rest)
  (hg : P.globalNamed n = some g) (ht : (P.globals[g]?).map (·.type) = some ti) (hu : P.underlying ti = some (.interface ms)) (h : laidMet P laid w) : GlAt P w n fun cs => ∃ tp p,cs = #[.iface tp p] := by
 intro g' hg'
 have h1 := laid_drop i h
 rw [hi] at h1
 obtain ⟨ps,⟨g0,t0,cs0,f0,p0,q0,hg0,ht0,hv0,hd0,_,_⟩,_⟩ := h1
 obtain rfl := Option.some.inj (hg.symm.trans hg0)
 obtain rfl := Option.some.inj (ht.symm.trans ht0)
 obtain ⟨u,v,hc⟩ := trod_iface hu hd0
 refine ⟨cs0,hv0,u,v,?_⟩
 rw [← Array.toArray_toList (xs := cs0),hc]
theorem gl_tab {P : Program} {w : World} {laid rest : List (String × DataW Unit)} {n : String} {k : IntKind} {zs : List Int} {g : Nat} {t e : TypeId} {m : Nat} (i : Nat) (hi : laid.drop i = (n,Lib.tabData k zs) :: rest)
  (hg : P.globalNamed n = some g) (hty : (P.globals[g]?).map (·.type) = some t) (ht : P.underlying t = some (.array m e)) (he : P.underlying e = some (.int k)) (hce : P.cellsOf e = 1) (hct : P.cellsOf t = m) (h : laidMet P laid w) :
  GlAt P w n fun cs => cs = (zs.map fun z => Value.int k z).toArray := by
 intro g' hg'
 have h1 := laid_drop i h
 rw [hi] at h1
 exact ⟨_,Lib.tabIs_of_head hg hty ht he hce hct h1,rfl⟩
theorem gl_int {P : Program} {w : World} {n : String} {g : Nat} {m : Int} (hg : P.globalNamed n = some g) (h : w.cell? ⟨g,0,none⟩ = some (.int .i64 m)) : GlAt P w n fun cs => ∃ m,cs[0]? = some (.int .i64 m) := by
 intro g' hg'
 have hx : ∃ cs,w.var? P n = some cs ∧ cs[0]? = some (.int .i64 m) := by
  unfold World.var?
  rw [hg]
  simp only [Option.bind_some]
  unfold World.cell? at h
  simp only at h
  split at h
  ·
   next cs _ _ hh => rw [hh];exact ⟨cs,rfl,h⟩
  ·
   cases h
 obtain ⟨cs,h1,h2⟩ := hx
 exact ⟨cs,h1,m,h2⟩
end Go.AX
