/-
  Part 4 of what the claim leans on: G13 G14 R2 R4 P4 P5 AxNews AxApp R5 L5.
-/
import Derived.Test.YtfpkamiobdkcpaaK3
import Derived.Lib.SlTrimSet
set_option linter.all false

namespace Go.Proofs.Ytfpkamiobdkcpaa
open Go.AX Go.RF Go.RowKit Go.Shelf Go.Lib
set_option maxHeartbeats 4000000 in
set_option maxRecDepth 100000 in
theorem insert_roomP (g n cap i:Nat) (ad:Addr) (cp:Nat) (w:World) (cur:Array Value) (c0 c1:Value) (hg:w.heap[g]? = some (.cells cur 73 (0,0))) (hsz:cur.size=cap*2) (hi:i < n) (hn:n≤268435456) (hc:n+1≤cap) (hcm:cap≤maxLen)
  (had:ad.block≠g) (h0:w.cell? (ad.add 0)=some c0) (h1:w.cell? (ad.add 1)=some c1) (hone:∀ v∈cur.toList.take (n*2),v.oneCell'=true) (hc0:c0.oneCell'=true) (hc1:c1.oneCell'=true) :
  Calls Try.prog 57 #[.slice (some ⟨g,0,none⟩) n cap,.int .i64 (i:Int),.slice (some ad) 1 cp] w fun e w' =>
   e = .returned (.slice (some ⟨g,0,none⟩) (n+1) cap)∧∃ m1 cs',w'=(w.drew.setRow g m1).setRow g cs'∧cs'.size=cap*2∧cs'.toList.take ((n+1)*2)=(cur.toList.take (n*2)).take (i*2)++[c0,c1]++(cur.toList.take (n*2)).drop (i*2):=by
 have mixed:=mixed_ok
 have hz1:¬ ((1:Int)=0):=by omega
 have hz2:¬ ((i:Int)=(n:Int)):=by omega
 have hz3:¬ ((cap:Int) < (n:Int)+1):=by omega
 have hb2:¬ (cap=i+1):=by omega
 have hb4:¬ (cap=i):=by omega
 have hin:i≤n:=by omega
 have hw1:IntKind.i64.wrap ((i:Int)+1)=(i:Int)+1:=by rw[IntKind.wrap_i64];omega
 have hb1:(0:Int)≤(i:Int)+1:=by omega
 have htn:((i:Int)+1).toNat=i+1:=by omega
 have hb3:(i:Int)≤(n:Int)+1:=by omega
 have hov:∀ lb cb,(callFunc 64 #[.slice (some ad) 1 cp,.slice (some ⟨g,(i+1)*2,none⟩) lb cb]).run Try.prog w = .ok (.value (.bool false)) w:=fun lb cb=>by
  obtain⟨tA,kA,hsa⟩:=shape_of h0
  have hsb:w.shape? g=some (73,(cap*2 - 1)+1):=by
   simp[World.shape?,hg,hsz];omega
  rw[run_callFunc_extern Try.func64 (by kernel_rfl) (by kernel_rfl) (by kernel_rfl) (e:=Extern.SlicesOverlaps.overlaps #[23,23] #[4]) (by kernel_rfl),
   run_overlaps_b w 23 4 73 Try.underlying23 2 Try.sizeOf73 ad ⟨g,(i+1)*2,none⟩ 1 cp lb cb had tA 73 kA (cap*2 - 1) hsa hsb (by simp[World.frozen?,hg]) (by simp[World.frozen?,hg])]
  rfl
 have hin2:(Try.prog.info? 73).map (·.size)=some 2:=by kernel_rfl
 have hT:Try.prog.underlying 24=some (.slice 73):=Try.underlying24
 have hcl:(n+1)*2≤cur.size:=by rw[hsz];exact Nat.mul_le_mul_right 2 hc
 have hgd:w.drew.heap[g]? = some (.cells cur 73 (0,0)):=hg
 have htl:((cur.toList.drop (i*2)).take ((n - i)*2)).length=(n - i)*2:=by simp;omega
 have hcp1:∀ ty dc sc,(Builtin.copy_ #[24,24] ty #[.slice (some ⟨g,(i+1)*2,none⟩) (n - i) dc,.slice (some ⟨g,i*2,none⟩) (n+1 - i) sc]).run Try.prog w.drew =
   .ok (goInt (n - i:Nat)) (w.drew.setRow g (cur.toList.take ((i+1)*2)++(cur.toList.drop (i*2)).take ((n - i)*2)++cur.toList.drop ((i+1)*2+(n - i)*2)).toArray):=fun ty dc sc=>by
  have h:=run_copy_k (P:=Try.prog) w.drew 24 24 ty 73 2 g ((i+1)*2) (n - i) dc ⟨g,i*2,none⟩ (n+1 - i) sc (n - i) cur 73 ((cur.toList.drop (i*2)).take ((n - i)*2)) hT hin2 hgd
   (Nat.min_eq_right (by omega)) htl (fun j v hj=>by
    rw[List.getElem?_take]at hj
    split at hj
    ·
     rw[List.getElem?_drop]at hj
     rw[Addr.add_lit]
     simp[World.cell?,hgd]
     simpa using hj
    ·
     cases hj) (by rw[htl];omega) (fun v hv=>?_)
  ·
   rw[htl]at h
   exact h
  ·
   obtain⟨j,hj⟩:=List.getElem?_of_mem hv
   rw[List.getElem?_take]at hj
   split at hj
   ·
    rw[List.getElem?_drop]at hj
    refine hone v (List.mem_of_getElem? (i:=i*2+j) ?_)
    rw[List.getElem?_take,if_pos (by omega)];exact hj
   ·
    cases hj
 generalize hmid:cur.toList.take ((i+1)*2)++(cur.toList.drop (i*2)).take ((n - i)*2)++cur.toList.drop ((i+1)*2+(n - i)*2)=mid at hcp1
 have hml:mid.length=cur.size:=by rw[← hmid];simp;omega
 have hg1:(w.drew.setRow g mid.toArray).heap[g]? = some (.cells mid.toArray 73 (0,0)):=setRow_heap _ _ _ _ _ _ hgd
 have hadc:∀ j v,[c0,c1][j]? = some v→(w.drew.setRow g mid.toArray).cell? (ad.add j)=some v:=fun j v hj=>by
  have hk:∀ q,(w.drew.setRow g mid.toArray).cell? (ad.add q)=w.cell? (ad.add q):=fun q=>by
   have hb:(ad.add q).block=ad.block:=add_block ad q
   simp only[World.cell?,hb]
   rw[setRow_other _ _ _ _ had]
   rfl
  match j,hj with
  |0,hj=>simp at hj;subst hj;rw[hk];exact h0
  |1,hj=>simp at hj;subst hj;rw[hk];exact h1
 have hcp2:∀ ty dc,(Builtin.copy_ #[24,23] ty #[.slice (some ⟨g,i*2,none⟩) (n+1 - i) dc,.slice (some ad) 1 cp]).run Try.prog (w.drew.setRow g mid.toArray) =
   .ok (goInt (1:Nat)) ((w.drew.setRow g mid.toArray).setRow g (mid.take (i*2)++[c0,c1]++mid.drop (i*2+2)).toArray):=fun ty dc=>by
  have h:=run_copy_k (P:=Try.prog) (w.drew.setRow g mid.toArray) 24 23 ty 73 2 g (i*2) (n+1 - i) dc ad 1 cp 1 mid.toArray 73 [c0,c1] hT hin2 hg1
   (Nat.min_eq_left (by omega)) rfl hadc (by simp;omega) (by simp[hc0,hc1])
  simpa using h
 go_enter Try.func57,Try.ntmps57
 go_wp2_with (simp only[hov])
 go_region_law_o (refine step_copy_runI rfl _ _ 24 24 rfl _ _ (by simp[Act.eval,Act.put]) (by simp[Act.eval,Act.put]) (hcp1 _ _ _) ?_)
 go_wp2_with (at_builtin;refine wpList_copy_runI _ rfl _ _ 24 23 rfl _ _ rfl rfl (hcp2 _ _) ?_)
 go_ret
 refine⟨rfl,_,_,rfl,by simp;omega,?_⟩
 have:=room_cells (cur:=cur.toList) (n:=n) (i:=i) (c0:=c0) (c1:=c1) hi (by simpa using hcl)
 rw[hmid]at this
 simpa using this
set_option maxHeartbeats 4000000 in
set_option maxRecDepth 100000 in
theorem insert_growP (g n cap i:Nat) (ad:Addr) (cp:Nat) (w:World) (cur:Array Value) (c0 c1:Value) (hg:w.heap[g]? = some (.cells cur 73 (0,0))) (hsz:cur.size=cap*2) (hi:i < n) (hn:n≤268435456) (hnc:n≤cap) (hc:cap < n+1) (hcm:cap≤maxLen)
  (hadw:ad.block < w.heap.size) (h0:w.cell? (ad.add 0)=some c0) (h1:w.cell? (ad.add 1)=some c1) (hone:∀ v∈cur.toList.take (n*2),v.oneCell'=true) (hc0:c0.oneCell'=true) (hc1:c1.oneCell'=true) :
  Calls Try.prog 57 #[.slice (some ⟨g,0,none⟩) n cap,.int .i64 (i:Int),.slice (some ad) 1 cp] w fun e w' =>
   ∃ G,e = .returned (.slice (some ⟨w.heap.size,0,none⟩) (n+1) G)∧n+1≤G∧G≤maxLen∧Below w.heap.size w w'∧∃ cs',w'.heap[w.heap.size]? = some (.cells cs' 73 (0,0))∧cs'.size=G*2 ∧
    cs'.toList.take ((n+1)*2)=(cur.toList.take (n*2)).take (i*2)++[c0,c1]++(cur.toList.take (n*2)).drop (i*2):=by
 have mixed:=mixed_ok
 have hz1:¬ ((1:Int)=0):=by omega
 have hz2:¬ ((i:Int)=(n:Int)):=by omega
 have hz3:(cap:Int) < (n:Int)+1:=by omega
 have hin:i≤n:=by omega
 have hw1:IntKind.i64.wrap ((i:Int)+1)=(i:Int)+1:=by rw[IntKind.wrap_i64];omega
 have hb1:(0:Int)≤(i:Int)+1:=by omega
 have htn:((i:Int)+1).toNat=i+1:=by omega
 have hb3:(i:Int)≤(n:Int):=by omega
 have hci:¬ (cap=i):=by omega
 have hin2:(Try.prog.info? 73).map (·.size)=some 2:=by kernel_rfl
 have hT:Try.prog.underlying 24=some (.slice 73):=Try.underlying24
 have hcl:n*2≤cur.size:=by rw[hsz];exact Nat.mul_le_mul_right 2 hnc
 have hgw:g < w.heap.size:=by
  rcases Nat.lt_or_ge g w.heap.size with h|h
  ·
   exact h
  ·
   rw[Array.getElem?_eq_none h]at hg;cases hg
 generalize hxs:cur.toList.take (n*2)=xs at hone
 have hxl:xs.length=n*2:=by rw[← hxs];simp;omega
 have hcell:∀ (W:World),W.heap[g]? = w.heap[g]? → ∀ j v,xs[j]? = some v→W.cell? ⟨g,j,none⟩=some v:=fun W hW j v hj=>by
  rw[← hxs,List.getElem?_take]at hj
  split at hj
  ·
   simp[World.cell?,hW,hg]
   simpa using hj
  ·
   cases hj
 have htb:∃ ti,tget tbl 73=some ti∧ti.n=2∧ti.bytes=24∧ti.zero=[.string ⟨#[]⟩,.int .i64 0]:=⟨_,rfl,rfl,rfl,rfl⟩
 obtain⟨ti,ht1,ht2,ht3,ht4⟩:=htb
 obtain⟨i0,hi0,hzs,hzb,z,hz0,hzc⟩:=(tbl_ok _ _ ht1).info
 rw[ht2]at hzs
 rw[ht3]at hzb
 rw[ht4]at hzc
 have hzz:z.cells.size=2:=by rw[← Array.length_toList,hzc];rfl
 have hold:(Builtin.firstCells i0.size i (.slice (some ⟨g,0,none⟩) i cap)).run Try.prog w.drew = .ok (xs.take (i*2)).toArray w.drew:=by
  rw[hzs]
  exact run_firstCells_some w.drew 2 i ⟨g,0,none⟩ i cap (xs.take (i*2)) (by rw[List.length_take];omega) (fun j v hj=>by
   rw[Addr.add_lit,Nat.zero_add]
   rw[List.getElem?_take]at hj
   split at hj
   ·
    exact hcell w.drew rfl j v hj
   ·
    cases hj)
 obtain⟨G,hG⟩:∃ G,G=grownCap w (n+1) cap 73:=⟨_,rfl⟩
 have hGn:n+1≤G:=by rw[hG];exact grownCap_ge w _ _ _
 have hGm:G≤maxLen:=by rw[hG];exact grownCap_le_maxLen w (n+1) cap 73 (by unfold maxLen;omega)
 have hG63:G≤9223372036854775807:=by unfold maxLen at hGm;omega
 obtain⟨zs,hzs2⟩:∃ zs:Array Value,zs=Builtin.zeroCells z.cells (n+1 - i)++Builtin.zeroCells z.cells (G - (n+1)):=⟨_,rfl⟩
 have hzl:zs.size=(G - i)*2:=by rw[hzs2];simp[size_zeroCells,hzz];omega
 obtain⟨ROW,hROW⟩:∃ ROW:Array Value,ROW=(xs.take (i*2)).toArray++zs:=⟨_,rfl⟩
 have hRl:ROW.size=G*2:=by rw[hROW];simp[hzl];omega
 have hrz:∀ ty,(Builtin.append_ #[24,3] ty #[.slice (some ⟨g,0,none⟩) i cap,.int .i64 ((n:Int)+1 - (i:Int))]).run Try.prog w =
   .ok (.slice (some ⟨w.heap.size,0,none⟩) (n+1) G) (w.drew.alloc (.cells ROW 73)):=fun ty=>by
  have h:=Lib.run_append_grow_zeros (P:=Try.prog) w 24 3 ty 73 i0 z .i64 .i64 hT Try.underlying3 hi0 hz0 (some ⟨g,0,none⟩) i cap (xs.take (i*2)) hold (n+1 - i) (by omega) (by omega) (by omega) (by omega) (by rw[hzb];omega)
   (by rw[hzb,show i+(n+1 - i)=n+1 by omega];exact growslice_fits hc (by omega))
  rw[show i+(n+1 - i)=n+1 by omega,← hG,Array.append_assoc,← hzs2,← hROW]at h
  rw[show(n:Int)+1 - (i:Int)=((n+1 - i:Nat):Int) by omega]
  exact h
 have hGi:¬ (G=i):=by omega
 have hGim:¬ (G=i+1):=by omega
 have hgs:¬ w.heap.size=g:=by omega
 obtain⟨mid,hmid⟩:∃ mid:List Value,mid=ROW.toList.take (i*2)++[c0,c1]++ROW.toList.drop (i*2+2):=⟨_,rfl⟩
 have hml:mid.length=G*2:=by rw[hmid];simp;omega
 obtain⟨fin,hfin⟩:∃ fin:List Value,fin=mid.take ((i+1)*2)++xs.drop (i*2)++mid.drop ((i+1)*2+(n - i)*2):=⟨_,rfl⟩
 have hfl:fin.length=G*2:=by rw[hfin];simp;omega
 have hN:(w.alloc (.cells ROW 73)).heap[w.heap.size]? = some (.cells ROW 73 (0,0)):=alloc_new_at w _
 have hadc:∀ (W:World),W.heap=(w.alloc (.cells ROW 73)).heap→∀ j v,[c0,c1][j]? = some v→W.cell? (ad.add j)=some v:=fun W hW j v hj=>by
  have hk:∀ q,W.cell? (ad.add q)=w.cell? (ad.add q):=fun q=>by
   have hb:(ad.add q).block=ad.block:=add_block ad q
   simp only[World.cell?,hb,hW]
   rw[Below.heap_alloc w _ _ hadw]
  match j,hj with
  |0,hj=>simp at hj;subst hj;rw[hk];exact h0
  |1,hj=>simp at hj;subst hj;rw[hk];exact h1
 have hcpA:∀ (W:World),W.heap=(w.alloc (.cells ROW 73)).heap→∀ ty dc,(Builtin.copy_ #[24,23] ty #[.slice (some ⟨w.heap.size,i*2,none⟩) (n+1 - i) dc,.slice (some ad) 1 cp]).run Try.prog W =
   .ok (goInt (1:Nat)) (W.setRow w.heap.size mid.toArray):=fun W hW ty dc=>by
  have h:=run_copy_k (P:=Try.prog) W 24 23 ty 73 2 w.heap.size (i*2) (n+1 - i) dc ad 1 cp 1 ROW 73 [c0,c1] hT hin2 (by rw[hW];exact hN)
   (Nat.min_eq_left (by omega)) rfl (hadc W hW) (by simp;omega) (by simp[hc0,hc1])
  rw[hmid]
  simpa using h
 have hdl:(xs.drop (i*2)).length=(n - i)*2:=by rw[List.length_drop,hxl];omega
 have hcpB:∀ (W:World),W.heap[w.heap.size]? = some (.cells mid.toArray 73 (0,0))→W.heap[g]? = w.heap[g]? → ∀ ty dc sc,(Builtin.copy_ #[24,24] ty #[.slice (some ⟨w.heap.size,(i+1)*2,none⟩) (n - i) dc,.slice (some ⟨g,i*2,none⟩) (n - i) sc]).run Try.prog W =
   .ok (goInt (n - i:Nat)) (W.setRow w.heap.size fin.toArray):=fun W hW hWg ty dc sc=>by
  have h:=run_copy_k (P:=Try.prog) W 24 24 ty 73 2 w.heap.size ((i+1)*2) (n - i) dc ⟨g,i*2,none⟩ (n - i) sc (n - i) mid.toArray 73 (xs.drop (i*2)) hT hin2 hW
   (Nat.min_self _) hdl (fun j v hj=>by
    rw[Addr.add_lit]
    rw[List.getElem?_drop]at hj
    exact hcell W hWg _ v hj) (by rw[hdl];simp;omega) (fun v hv=>hone v (List.mem_of_mem_drop hv))
  rw[hdl]at h
  rw[hfin]
  simpa using h
 have hE:((w.alloc (.cells ROW 73)).drew).heap=(w.alloc (.cells ROW 73)).heap:=rfl
 have hB1:∀ (W:World),W.heap=(w.alloc (.cells ROW 73)).heap→(W.setRow w.heap.size mid.toArray).drew.heap[w.heap.size]? = some (.cells mid.toArray 73 (0,0)):=fun W hW=>setRow_heap W _ _ _ _ _ (by rw[hW];exact hN)
 have hB2:∀ (W:World),W.heap=(w.alloc (.cells ROW 73)).heap→(W.setRow w.heap.size mid.toArray).drew.heap[g]? = w.heap[g]? := fun W hW=>by
  show(W.setRow w.heap.size mid.toArray).heap[g]? = _
  rw[setRow_other _ _ _ _ (by omega),hW]
  exact Below.heap_alloc w _ _ hgw
 have hlast:fin.take ((n+1)*2)=xs.take (i*2)++[c0,c1]++xs.drop (i*2):=by
  have h:=grow_cells (xs:=xs) (zs:=zs.toList) (n:=n) (i:=i) (c0:=c0) (c1:=c1) hi hxl (by rw[Array.length_toList,hzl];exact Nat.mul_le_mul_right 2 (by omega))
  rw[hfin,hmid,hROW]
  simpa using h
 clear hzs2 hROW hmid hfin hG
 go_enter Try.func57,Try.ntmps57
 go_wp2_with (first
  |(at_builtin;refine Lib.wpList_append_run _ rfl _ _ _ _ rfl _ _ rfl rfl _ _ (hrz _) ?_)
  |(at_builtin;refine wpList_copy_runI _ rfl _ _ 24 23 rfl _ _ rfl rfl (hcpA _ rfl _ _) ?_))
 go_region_law_o (refine step_copy_runI rfl _ _ 24 24 rfl (.slice (some ⟨w.heap.size,(i+1)*2,none⟩) (n - i) (G - (i+1))) (.slice (some ⟨g,i*2,none⟩) (n - i) (cap - i)) (by simp[Act.eval,Act.put]) (by simp[Act.eval,Act.put]) (hcpB ((w.alloc (.cells ROW 73)).drew.setRow w.heap.size mid.toArray).drew (hB1 _ hE) (hB2 _ hE) _ _ _) ?_)
 go_wp2
 go_ret
 refine⟨G,rfl,hGn,hGm,⟨rfl,rfl,rfl,by simp[setRow_size],fun k hk=>?_⟩,fin.toArray,setRow_heap _ _ _ _ _ _ (hB1 _ hE),by simp[hfl],by simpa using hlast⟩
 rw[setRow_other _ _ _ _ (by omega)]
 show((w.alloc (.cells ROW 73)).drew.setRow w.heap.size mid.toArray).heap[k]? = _
 rw[setRow_other _ _ _ _ (by omega)]
 exact Below.heap_alloc w _ _ hk
set_option maxHeartbeats 4000000 in
set_option maxRecDepth 100000 in
theorem insert_endP (v:Value) (n:Nat) (xs:List Value) (ad:Addr) (cp:Nat) (w:World) (c0 c1:Value) (hown:w.ownsRow 0 73 2 v n xs) (hn:n≤268435456)
  (h0:w.cell? (ad.add 0)=some c0) (h1:w.cell? (ad.add 1)=some c1) (hc0:c0.oneCell'=true) (hc1:c1.oneCell'=true) :
  Calls Try.prog 57 #[v,.int .i64 (n:Int),.slice (some ad) 1 cp] w fun e w' =>
   ∃ v',e = .returned v'∧w'.ownsRow 0 73 2 v' (n+1) (xs++[c0,c1])∧w.grownBy w' v.ownBlock∧(v'.ownBlock=v.ownBlock∨v'.ownBlock=some w.heap.size):=by
 have mixed:=mixed_ok
 have hz1:¬ ((1:Int)=0):=by omega
 have hT:Try.prog.underlying 24=some (.slice 73):=Try.underlying24
 have htb:∃ ti,tget tbl 73=some ti∧ti.n=2∧ti.bytes=24∧ti.zero=[.string ⟨#[]⟩,.int .i64 0]:=⟨_,rfl,rfl,rfl,rfl⟩
 obtain⟨ti,ht1,ht2,ht3,ht4⟩:=htb
 obtain⟨i0,hi0,hzs,hzb,z,hz0,hzc⟩:=(tbl_ok _ _ ht1).info
 rw[ht2]at hzs
 rw[ht3]at hzb
 rw[ht4]at hzc
 have hzz:z.cells.size=2:=by rw[← Array.length_toList,hzc];rfl
 have hnews:∀ j u,[c0,c1][j]? = some u→w.cell? (ad.add j)=some u:=fun j u hj=>by
  match j,hj with
  |0,hj=>simp at hj;subst hj;exact h0
  |1,hj=>simp at hj;subst hj;exact h1
 have hone:∀ u∈[c0,c1],u.oneCell'=true:=by simp[hc0,hc1]
 obtain⟨R,hR⟩:∃ R:Value→World→Prop,R=fun v' w'=>w'.ownsRow 0 73 2 v' (n+1) (xs++[c0,c1])∧w.grownBy w' v.ownBlock∧(v'.ownBlock=v.ownBlock∨v'.ownBlock=some w.heap.size):=⟨_,rfl⟩
 have hmk:∀ v' w',w'.ownsRow 0 73 2 v' (n+1) (xs++[c0,c1])→w.grownBy w' v.ownBlock→(v'.ownBlock=v.ownBlock∨v'.ownBlock=some w.heap.size)→R v' w':=fun v' w' a b c=>by rw[hR];exact⟨a,b,c⟩
 suffices h:Calls Try.prog 57 #[v,.int .i64 (n:Int),.slice (some ad) 1 cp] w fun e w'=>∃ v',e = .returned v'∧R v' w' by
  refine h.mono fun e w'=>?_
  rintro ⟨v',a,b⟩
  rw[hR]at b
  exact⟨v',a,b⟩
 clear hR
 have hb:n+1≤maxLen:=by unfold maxLen;omega
 have hv:(v = .slice none 0 0∧n=0)∨∃ g cap,v = .slice (some ⟨g,0,none⟩) n cap∧n≤cap:=by
  rcases hown.2 with h|⟨g,cap,cur,e,_,_,h,_⟩
  ·
   exact .inl h
  ·
   exact .inr ⟨g,cap,e,h⟩
 obtain⟨v',w',hr,q1,q2,_,q4⟩:=run_append_own_at (P:=Try.prog) w 0 24 0 73 i0 z 2 24 hT hi0 hz0 hzs hzb hzz (by decide) v n xs hown ad 1 cp [c0,c1] rfl hnews hone hb (by omega) (Nat.zero_le _)
 have hR:=hmk v' w' q1 q2 q4
 have hap:∀ ty,(Builtin.append_ #[24,23] ty #[v,.slice (some ad) 1 cp]).run Try.prog w = .ok v' w':=fun ty=>(append_types hT Try.underlying23 ty _ w).trans ((append_ty _ _ _ w).trans hr)
 clear hmk q1 q2 q4 hr hown hnews
 rcases hv with ⟨rfl,rfl⟩|⟨g,cap,rfl,hnc⟩
 ·
  go_enter Try.func57,Try.ntmps57
  go_wp2_with (at_builtin;refine Lib.wpList_append_run _ rfl _ _ 24 23 rfl _ _ rfl rfl _ _ (hap _) ?_)
  go_ret
  exact⟨_,rfl,hR⟩
 ·
  go_enter Try.func57,Try.ntmps57
  go_wp2_with (at_builtin;refine Lib.wpList_append_run _ rfl _ _ 24 23 rfl _ _ rfl rfl _ _ (hap _) ?_)
  all_goals
   go_ret
   exact⟨_,rfl,hR⟩
theorem upd_insertP (rows:List (List D)) (m:Nat) (d0 d1:D) (hm:m≤rows.length) (hl:rows.length≤268435456) :
  FnUpd Try.prog 57 73 2 rows [.d (dint m),.d (.sl 2 [[d0,d1]])] (rows.take m++[d0,d1]::rows.drop m):=by
 refine⟨⟨_,Try.func57,by kernel_rfl,by kernel_rfl⟩,fun w own v vs hown hR hsep ha=>?_⟩
 match vs,ha with
 | [v1,v2],⟨h1,h2,_⟩ =>
  have e1:=rd_v h1
  subst e1
  obtain⟨ad,cp,c0,c1,rfl,hnb,hadw,hc0,hc1,o0,o1,r0,r1⟩:=rd_pair h2
  obtain⟨xs,hrow,hone,hrl,hrd⟩:=hR
  have hbv:blk v=v.ownBlock:=blk_own hrow
  have hxl:=hrow.1
  by_cases hmn:m=rows.length
  ·
   subst hmn
   refine(insert_endP v rows.length xs ad cp w c0 c1 hrow hl hc0 hc1 o0 o1).mono fun e w'=>?_
   rintro ⟨v',rfl,q1,q2,q3⟩
   have hp:∀ b,blk v'=some b→blk v=some b∨w.heap.size≤b:=fun b hb=>by
    rw[blk_own q1]at hb
    rw[hbv]
    rcases q3 with h|h
    ·
     rw[h]at hb;exact .inl hb
    ·
     rw[h]at hb;cases hb;exact .inr (Nat.le_refl _)
   have hbb:BelowBut v w w':=⟨q2.os,q2.tape,q2.output,q2.size,fun b hb hn=>q2.block b hb fun h=>hn (by rw[hbv,h])⟩
   refine⟨v',rfl,hbb,hp,rows_ins (Nat.le_refl _) hbb hp hxl hone hrl hrd r0 r1 o0 o1 ?_⟩
   rw[List.take_of_length_le (by omega),List.drop_eq_nil_of_le (by omega),List.append_nil]
   exact q1
  ·
   rcases hrow.2 with ⟨_,h0⟩|⟨g,cap,cur,rfl,_,hg,hnc,hcm,hsz,htk⟩
   ·
    omega
   ·
    have hadg:ad.block≠g:=fun h=>hnb (.inr (by rw[h];rfl))
    by_cases hroom:rows.length+1≤cap
    ·
     refine(insert_roomP g rows.length cap m ad cp w cur c0 c1 hg hsz (by omega) hl hroom hcm hadg hc0 hc1 (by rw[htk];exact hone) o0 o1).mono fun e w'=>?_
     rintro ⟨rfl,m1,cs',rfl,q1,q2⟩
     have hp:∀ b,blk (.slice (some ⟨g,0,none⟩) (rows.length+1) cap)=some b→blk (.slice (some ⟨g,0,none⟩) rows.length cap)=some b∨w.heap.size≤b:=fun b hb => .inl hb
     have hbb:BelowBut (.slice (some ⟨g,0,none⟩) rows.length cap) w ((w.drew.setRow g m1).setRow g cs'):=⟨rfl,rfl,rfl,by simp[setRow_size],fun b hb hn=>by
      have hbg:b≠g:=fun h=>hn (by rw[h];rfl)
      rw[setRow_other _ _ _ _ hbg,setRow_other _ _ _ _ hbg];rfl⟩
     refine⟨_,rfl,hbb,hp,rows_ins hm hbb hp hxl hone hrl hrd r0 r1 o0 o1 ⟨by simp;omega,.inr ⟨g,cap,cs',rfl,Nat.zero_le _,setRow_heap _ _ _ _ _ _ (setRow_heap _ _ _ _ _ _ hg),hroom,hcm,q1,?_⟩⟩⟩
     rw[q2,htk]
    ·
     refine(insert_growP g rows.length cap m ad cp w cur c0 c1 hg hsz (by omega) hl hnc (by omega) hcm hadw hc0 hc1 (by rw[htk];exact hone) o0 o1).mono fun e w'=>?_
     rintro ⟨G,rfl,q1,q2,hB,cs',q3,q4,q5⟩
     have hp:∀ b,blk (.slice (some ⟨w.heap.size,0,none⟩) (rows.length+1) G)=some b→blk (.slice (some ⟨g,0,none⟩) rows.length cap)=some b∨w.heap.size≤b:=fun b hb => .inr (by cases hb;exact Nat.le_refl _)
     have hbb:BelowBut (.slice (some ⟨g,0,none⟩) rows.length cap) w w':=⟨hB.os,hB.tape,hB.output,hB.size,fun b hb _=>hB.block b hb⟩
     refine⟨_,rfl,hbb,hp,rows_ins hm hbb hp hxl hone hrl hrd r0 r1 o0 o1 ⟨by simp;omega,.inr ⟨_,G,cs',rfl,Nat.zero_le _,q3,q1,q2,q4,?_⟩⟩⟩
     rw[q5,htk]
theorem step_append_runI {P:Program}{ops:Array Oper}{o:Oper}{a:Act}{w:World}{K:Act→World→Prop}{Q:Exit→Act→World→Prop}{E:Prop}
  (hg:o.guard=none) (d x:Operand) (dT sT:TypeId) (hop:o.op=Op.call { callee:=Callee.builtin Builtin.append,args := #[d,x],argTypes := #[dT,sT] })
  (v u:Value) (hd:a.eval d=v) (hx:a.eval x=u) {v':Value} {w':World} (hr:(Builtin.append_ #[dT,sT] o.type #[v,u]).run P w = .ok v' w') (hK:K (a.put o.dst v') w') :
  if Region.wanted o (yielded ops a.tmps)=true then Oper.wp P o a w K Q else E:=by
 have hw:Region.wanted o (yielded ops a.tmps)=true:=by simp[Region.wanted,hg]
 rw[if_pos hw]
 unfold Oper.wp
 simp[execOp,hop,resolve,invoke,builtin,hd,hx,hr,Result.andThen]
 exact hK
theorem wpList_clear_runI {P:Program}{ops:Array Oper}{rest:List Oper}{o:Oper}{a:Act}{w:World}{Q:Exit→Act→World→Prop}(hgd:o.guard=none) (x:Operand) (t:TypeId)
  (ho:o.op = .call { callee := .builtin .clear,args := #[x],argTypes := #[t] }) (u:Value) (hx:a.eval x=u) {v':Value} {w':World}
  (hr:(Builtin.clear_ #[t] o.type #[u]).run P w = .ok v' w') (h:wpList P ops Q rest (a.put o.dst v') w'):wpList P ops Q (o::rest) a w:=by
 refine wpList_plain hgd fun K hK=>?_
 unfold Oper.wp
 simp[execOp,ho,resolve,invoke,builtin,hx,hr,Result.andThen]
 exact hK _ _ h
theorem del_cells {cur zs:List Value}{n m:Nat}(hm:m < n) (hl:n*2≤cur.length) :
  let news:=(cur.drop ((m+1)*2)).take ((n - (m+1))*2)
  let m1:=cur.take (m*2)++news++cur.drop (m*2+news.length)
  (m1.take ((m+(n - (m+1)))*2)++zs++m1.drop ((m+(n - (m+1)))*2+zs.length)).take ((n - 1)*2)=(cur.take (n*2)).take (m*2)++(cur.take (n*2)).drop ((m+1)*2):=by
 intro news m1
 have h1:(cur.take (m*2)).length=m*2:=by simp;omega
 have h2:news.length=(n - (m+1))*2:=by simp[news];omega
 have hk:(m+(n - (m+1)))*2=(n - 1)*2:=by congr 1;omega
 have h3:m1.take ((n - 1)*2)=cur.take (m*2)++news:=by
  show(cur.take (m*2)++news++cur.drop (m*2+news.length)).take ((n - 1)*2)=_
  rw[List.take_append_of_le_length (by rw[List.length_append,h1,h2];omega),List.take_of_length_le (by rw[List.length_append,h1,h2];omega)]
 rw[hk,h3,List.append_assoc,List.take_append_of_le_length (by rw[List.length_append,h1,h2];omega),List.take_of_length_le (by rw[List.length_append,h1,h2];omega)]
 rw[List.take_take,Nat.min_eq_left (by omega),List.drop_take,show n*2 - (m+1)*2=(n - (m+1))*2 by omega]
set_option maxHeartbeats 4000000 in
set_option maxRecDepth 100000 in
theorem delete_walk (g n cap m:Nat) (w:World) (cur:Array Value) (hg:w.heap[g]? = some (.cells cur 73 (0,0))) (hsz:cur.size=cap*2) (hm:m < n) (hn:n≤268435456) (hnc:n≤cap) (hcm:cap≤maxLen) (hone:∀ v∈cur.toList.take (n*2),v.oneCell'=true) :
  Calls Try.prog 58 #[.slice (some ⟨g,0,none⟩) n cap,.int .i64 (m:Int),.int .i64 ((m:Int)+1)] w fun e w' =>
   e = .returned (.slice (some ⟨g,0,none⟩) (n - 1) cap)∧∃ m1 cs',w'=(w.drew.setRow g m1).setRow g cs'∧cs'.size=cap*2∧cs'.toList.take ((n - 1)*2)=(cur.toList.take (n*2)).take (m*2)++(cur.toList.take (n*2)).drop ((m+1)*2):=by
 have mixed:=mixed_ok
 have hnm:¬ ((m:Int)=(m:Int)+1):=by omega
 have hT:Try.prog.underlying 24=some (.slice 73):=Try.underlying24
 have htb:∃ ti,tget tbl 73=some ti∧ti.n=2∧ti.zero=[.string ⟨#[]⟩,.int .i64 0]:=⟨_,rfl,rfl,rfl⟩
 obtain⟨ti,ht1,ht2,ht4⟩:=htb
 obtain⟨i0,hi0,hzs,_,z,hz0,hzc⟩:=(tbl_ok _ _ ht1).info
 rw[ht2]at hzs
 rw[ht4]at hzc
 have hcl:n*2≤cur.size:=by rw[hsz];exact Nat.mul_le_mul_right 2 hnc
 obtain⟨news,hnews⟩:∃ news,news=(cur.toList.drop ((m+1)*2)).take ((n - (m+1))*2):=⟨_,rfl⟩
 have hnl:news.length=(n - (m+1))*2:=by rw[hnews];simp;omega
 obtain⟨m1,hm1⟩:∃ m1:List Value,m1=cur.toList.take (m*2)++news++cur.toList.drop (m*2+news.length):=⟨_,rfl⟩
 have hm1l:m1.length=cur.size:=by rw[hm1];simp;omega
 obtain⟨zs,hzs2⟩:∃ zs:List Value,zs=[.string ⟨#[]⟩,.int .i64 0]:=⟨_,rfl⟩
 obtain⟨m2,hm2⟩:∃ m2:List Value,m2=m1.take ((m+(n - (m+1)))*2)++zs++m1.drop ((m+(n - (m+1)))*2+zs.length):=⟨_,rfl⟩
 have hm2l:m2.length=cur.size:=by rw[hm2,hzs2];simp;omega
 have hlast:m2.take ((n - 1)*2)=(cur.toList.take (n*2)).take (m*2)++(cur.toList.take (n*2)).drop ((m+1)*2):=by
  have h:=del_cells (cur:=cur.toList) (zs:=zs) hm (by simpa using hcl)
  rw[hm2,hm1,hnews]
  exact h
 have hap:∀ (A:Addr),(cap=m+1∨A=⟨g,(m+1)*2,none⟩)→∀ ty,(Builtin.append_ #[24,24] ty #[.slice (some ⟨g,0,none⟩) m cap,.slice (some A) (n - (m+1)) (cap - (m+1))]).run Try.prog w.drew =
   .ok (.slice (some ⟨g,0,none⟩) (m+(n - (m+1))) cap) (w.drew.setRow g m1.toArray):=fun A hA ty=>by
  have hnw:∀ j u,news[j]? = some u→w.drew.cell? (A.add j)=some u:=fun j u hj=>by
   rcases hA with hA|rfl
   ·
    have:news=[]:=List.eq_nil_of_length_eq_zero (by rw[hnl];omega)
    rw[this]at hj;simp at hj
   ·
    rw[hnews,List.getElem?_take]at hj
    split at hj
    ·
     rw[List.getElem?_drop]at hj
     rw[Addr.add_lit]
     have hgd:w.drew.heap[g]? = some (.cells cur 73 (0,0)):=hg
     simp[World.cell?,hgd]
     simpa using hj
    ·
     cases hj
  have ho1:∀ u∈news,u.oneCell'=true:=fun u hu=>by
   obtain⟨j,hj⟩:=List.getElem?_of_mem hu
   rw[hnews,List.getElem?_take]at hj
   split at hj
   ·
    rw[List.getElem?_drop]at hj
    refine hone u (List.mem_of_getElem? (i:=(m+1)*2+j) ?_)
    rw[List.getElem?_take,if_pos (by omega)];exact hj
   ·
    cases hj
  have h:=run_append_room (P:=Try.prog) (w:=w.drew) (ty:=ty) 24 73 i0 hT hi0 g m cap cur hg A (n - (m+1)) (cap - (m+1)) news (by rw[hzs];exact hnl) hnw ho1 (by omega) (by rw[hzs,hnl];omega)
  rw[hzs]at h
  rw[hm1]
  exact h
 have hg1:(w.drew.setRow g m1.toArray).heap[g]? = some (.cells m1.toArray 73 (0,0)):=setRow_heap _ _ _ _ _ _ hg
 have hclr:∀ ty,(Builtin.clear_ #[24] ty #[.slice (some ⟨g,(m+(n - (m+1)))*2,none⟩) (n - (m+(n - (m+1)))) (cap - (m+(n - (m+1))))]).run Try.prog (w.drew.setRow g m1.toArray) =
   .ok (.tuple #[]) ((w.drew.setRow g m1.toArray).setRow g m2.toArray):=fun ty=>by
  have e1:n - (m+(n - (m+1)))=1:=by omega
  have hst:=run_storeCells_at Try.prog g ((m+(n - (m+1)))*2) 73 zs 0 m1.toArray (w.drew.setRow g m1.toArray) hg1 (by rw[hzs2];simp;omega) (by rw[hzs2];simp[Value.oneCell'])
  have hzz:(Builtin.zeroCells z.cells 1).toList=zs:=by
   rw[hzs2,← hzc]
   have h2:z.cells.size=2:=by rw[← Array.length_toList,hzc];rfl
   apply List.ext_getElem
   ·
    simp[Builtin.zeroCells,h2]
   ·
    intro i h3 h4
    have h5:i < 2:=by simpa[h2] using h4
    simp[Builtin.zeroCells,Nat.mod_eq_of_lt h5,h2]
    exact getElem!_pos z.cells i (by omega)
  have hzv:(zeroValue 73).run Try.prog (w.drew.setRow g m1.toArray) = .ok z (w.drew.setRow g m1.toArray):=by simp[zeroValue,typeInfo,hi0,hz0]
  rw[e1]
  simp only[Nat.add_zero]at hst
  simp[Builtin.clear_,run_underlying hT,hzv,hzz,hst,hm2]
 have hi1:m≤cap:=by omega
 have hi2:m+1≤cap:=by omega
 have hi3:m+1≤n:=by omega
 clear hm1 hm2 hnews hzs2
 have hj1:(0:Int)≤(m:Int)+1:=by omega
 have hj2:(m:Int)+1≤(n:Int):=by omega
 have hj3:(m:Int)≤(m:Int)+1:=by omega
 have htn:((m:Int)+1).toNat=m+1:=by omega
 by_cases hcj:cap=m+1
 ·
  have hap1:=hap ⟨g,0,none⟩ (.inl hcj)
  obtain rfl:n=m+1:=by omega
  subst hcj
  have hap2:∀ ty,(Builtin.append_ #[24,24] ty #[.slice (some ⟨g,0,none⟩) m (m+1),.slice (some ⟨g,0,none⟩) 0 0]).run Try.prog w.drew = .ok (.slice (some ⟨g,0,none⟩) m (m+1)) (w.drew.setRow g m1.toArray):=fun ty=>by simpa using hap1 ty
  have hclr2:∀ ty,(Builtin.clear_ #[24] ty #[.slice (some ⟨g,m*2,none⟩) 1 1]).run Try.prog (w.drew.setRow g m1.toArray) = .ok (.tuple #[]) ((w.drew.setRow g m1.toArray).setRow g m2.toArray):=fun ty=>by
   have h:=hclr ty
   rw[show m+1 - (m+1)=0 by omega,show m+0=m by omega,show m+1 - m=1 by omega]at h
   exact h
  clear hap hap1 hclr
  go_enter Try.func58,Try.ntmps58
  go_wp2_with fail
  go_region_law_o (refine step_append_runI rfl _ _ 24 24 rfl (.slice (some ⟨g,0,none⟩) m (m+1)) (.slice (some ⟨g,0,none⟩) 0 0) (by simp[Act.eval,Act.put]) (by simp[Act.eval,Act.put]) (hap2 _) ?_)
  go_wp2_with (at_builtin;refine wpList_clear_runI rfl _ 24 rfl _ rfl (hclr2 _) ?_)
  go_ret
  exact⟨by rw[show m+1 - 1=m by omega];rfl,_,_,rfl,by simp[hm2l,hsz],by simpa using hlast⟩
 ·
  have hap1:=hap ⟨g,(m+1)*2,none⟩ (.inr rfl)
  clear hap
  go_enter Try.func58,Try.ntmps58
  go_wp2_with fail
  go_region_law_o (refine step_append_runI rfl _ _ 24 24 rfl (.slice (some ⟨g,0,none⟩) m cap) (.slice (some ⟨g,(m+1)*2,none⟩) (n - (m+1)) (cap - (m+1))) (by simp[Act.eval,Act.put]) (by simp[Act.eval,Act.put]) (hap1 _) ?_)
  go_wp2_with (at_builtin;refine wpList_clear_runI rfl _ 24 rfl _ rfl (hclr _) ?_)
  go_ret
  exact⟨by rw[show n - 1=m+(n - (m+1)) by omega];rfl,_,_,rfl,by simp[hm2l,hsz],by simpa using hlast⟩
theorem upd_delete (rows:List (List D)) (m:Nat) (hm:m < rows.length) (hl:rows.length≤268435456) :
  FnUpd Try.prog 58 73 2 rows [.d (dint m),.d (dint ((m:Int)+1))] (rows.take m++rows.drop (m+1)):=by
 refine⟨⟨_,Try.func58,by kernel_rfl,by kernel_rfl⟩,fun w own v vs hown hR hsep ha=>?_⟩
 match vs,ha with
 | [v1,v2],⟨h1,h2,_⟩ =>
  have e1:=rd_v h1
  have e2:=rd_v h2
  subst e1 e2
  obtain⟨xs,hrow,hone,hrl,hrd⟩:=hR
  have hxl:=hrow.1
  rcases hrow.2 with ⟨_,h0⟩|⟨g,cap,cur,rfl,_,hg,hnc,hcm,hsz,htk⟩
  ·
   omega
  ·
   refine(delete_walk g rows.length cap m w cur hg hsz hm hl hnc hcm (by rw[htk];exact hone)).mono fun e w'=>?_
   rintro ⟨rfl,m1,cs',rfl,q1,q2⟩
   have hp:∀ b,blk (.slice (some ⟨g,0,none⟩) (rows.length - 1) cap)=some b→blk (.slice (some ⟨g,0,none⟩) rows.length cap)=some b∨w.heap.size≤b:=fun b hb => .inl hb
   have hbb:BelowBut (.slice (some ⟨g,0,none⟩) rows.length cap) w ((w.drew.setRow g m1).setRow g cs'):=⟨rfl,rfl,rfl,by simp[setRow_size],fun b hb hn=>by
    have hbg:b≠g:=fun h=>hn (by rw[h];rfl)
    rw[setRow_other _ _ _ _ hbg,setRow_other _ _ _ _ hbg];rfl⟩
   refine⟨_,rfl,hbb,hp,rows_del hm hbb hp hxl hone hrl hrd ⟨by simp;omega,.inr ⟨g,cap,cs',rfl,Nat.zero_le _,setRow_heap _ _ _ _ _ _ (setRow_heap _ _ _ _ _ _ hg),by omega,hcm,q1,?_⟩⟩⟩
   rw[q2,htk]
end Go.Proofs.Ytfpkamiobdkcpaa
namespace Go.Proofs.Ytfpkamiobdkcpaa
open Go.AX Go.RF Go.RowKit
set_option maxRecDepth 100000
set_option maxHeartbeats 8000000
def putS (k:Str) (n:Int):List Pair→List Pair
 | []=>[⟨k,n⟩]
 |p::r=>if p.key=k then ⟨k,n⟩::r else if slt p.key k=true then p::putS k n r else ⟨k,n⟩::p::r
def dropS (k:Str):List Pair→List Pair
 | []=>[]
 |p::r=>if p.key=k then r else p::dropS k r
theorem atr_some {l:List Pair}{k:Str}{m:Nat}(h:isAtR l k m=true):∃ c,l[m]? = some c∧c.key=k:=by
 unfold isAtR isAtK at h
 split at h
 ·
  next c hc=>exact⟨c,hc,by simpa using h⟩
 ·
  cases h
theorem atk_tail {d:Pair}{l:List Pair}{k:Str}{m:Nat}(hm:AtK Pair.key (d::l) k (m+1)):AtK Pair.key l k m :=
 ⟨by have:=hm.le;simpa using this,fun x c hx hlt=>hm.lt (x+1) c (by simpa using hx) (by omega),fun x c hx hge=>hm.ge (x+1) c (by simpa using hx) (by omega)⟩
theorem get_some {k:Str}:∀ {l:List Pair}{m:Nat}{c:Pair},AtK Pair.key l k m→l[m]? = some c→c.key=k→RF.get l k=(c.n,true)
 | [],m,c,_,h,_=>by simp at h
 |d::l,0,c,_,h,hk=>by simp at h;subst h;simp[RF.get,hk]
 |d::l,m+1,c,hm,h,hk=>by
  have h1:=hm.lt 0 d rfl (by omega)
  simp only[RF.get]
  rw[if_neg (slt_ne h1),get_some (atk_tail hm) (by simpa using h) hk]
theorem get_none {k:Str}:∀ {l:List Pair}{m:Nat},AtK Pair.key l k m→isAtR l k m=false→Srt Pair.key l→RF.get l k=(0,false)
 | [],m,_,_,_=>rfl
 |d::l,0,hm,hn,hs=>by
  have h1:d.key≠k:=by simpa[isAtR,isAtK] using hn
  have h2:=hm.ge 0 d rfl (Nat.le_refl _)
  have h0:∀ p∈l,p.key≠k:=fun p hp e=>by
   have h3:=(List.pairwise_cons.1 hs).1 p hp
   rw[e]at h3
   rw[h3]at h2;cases h2
  simp only[RF.get]
  rw[if_neg h1]
  clear hm hn hs h1 h2
  induction l with
  |nil=>rfl
  |cons p l ih =>
   simp only[RF.get]
   rw[if_neg (h0 p (List.mem_cons_self ..))]
   exact ih fun q hq=>h0 q (List.mem_cons_of_mem _ hq)
 |d::l,m+1,hm,hn,hs=>by
  have h1:=hm.lt 0 d rfl (by omega)
  simp only[RF.get]
  rw[if_neg (slt_ne h1)]
  exact get_none (atk_tail hm) (by simpa[isAtR,isAtK] using hn) (List.pairwise_cons.1 hs).2
theorem putS_found {k:Str}{n:Int}:∀ {l:List Pair}{m:Nat}{c:Pair},AtK Pair.key l k m→l[m]? = some c→c.key=k→putS k n l=l.set m ⟨c.key,n⟩
 | [],m,c,_,h,_=>by simp at h
 |d::l,0,c,_,h,hk=>by
  simp at h;subst h
  simp only[putS]
  rw[if_pos hk,List.set_cons_zero,hk]
 |d::l,m+1,c,hm,h,hk=>by
  have h1:=hm.lt 0 d rfl (by omega)
  simp only[putS]
  rw[if_neg (slt_ne h1),if_pos h1,putS_found (atk_tail hm) (by simpa using h) hk,List.set_cons_succ]
theorem putS_new {k:Str}{n:Int}:∀ {l:List Pair}{m:Nat},AtK Pair.key l k m→isAtR l k m=false→putS k n l=l.take m++⟨k,n⟩::l.drop m
 | [],m,hm,_=>by
  obtain rfl:m=0:=by simpa using hm.le
  rfl
 |d::l,0,hm,hn=>by
  have h1:d.key≠k:=by simpa[isAtR,isAtK] using hn
  have h2:=hm.ge 0 d rfl (Nat.le_refl _)
  simp only[putS]
  rw[if_neg h1,if_neg (by rw[h2];simp)]
  rfl
 |d::l,m+1,hm,hn=>by
  have h1:=hm.lt 0 d rfl (by omega)
  simp only[putS]
  rw[if_neg (slt_ne h1),if_pos h1,putS_new (atk_tail hm) (by simpa[isAtR,isAtK] using hn)]
  rfl
theorem dropS_found {k:Str}:∀ {l:List Pair}{m:Nat}{c:Pair},AtK Pair.key l k m→l[m]? = some c→c.key=k→dropS k l=l.take m++l.drop (m+1)
 | [],m,c,_,h,_=>by simp at h
 |d::l,0,c,_,h,hk=>by
  simp at h;subst h
  simp[dropS,hk]
 |d::l,m+1,c,hm,h,hk=>by
  have h1:=hm.lt 0 d rfl (by omega)
  simp only[dropS]
  rw[if_neg (slt_ne h1),dropS_found (atk_tail hm) (by simpa using h) hk]
  rfl
theorem dropS_none {k:Str}:∀ {l:List Pair},(∀ p∈l,p.key≠k)→dropS k l=l
 | [],_=>rfl
 |d::l,h=>by
  simp only[dropS]
  rw[if_neg (h d (List.mem_cons_self ..)),dropS_none fun p hp=>h p (List.mem_cons_of_mem _ hp)]
theorem not_at {l:List Pair}{k:Str}{m:Nat}(hm:AtK Pair.key l k m) (hn:isAtR l k m=false) (hs:Srt Pair.key l):∀ p∈l,p.key≠k:=by
 intro p hp e
 obtain⟨i,hi⟩:=List.getElem?_of_mem hp
 rcases Nat.lt_trichotomy i m with h|h|h
 ·
  have:=hm.lt i p hi h;rw[e,slt_irrefl]at this;cases this
 ·
  subst h
  unfold isAtR isAtK at hn
  rw[hi]at hn
  simp[e]at hn
 ·
  have hil:=(List.getElem?_eq_some_iff.1 hi).1
  have h1:=hm.ge m (l[m]'(by omega)) (List.getElem?_eq_getElem (by omega)) (Nat.le_refl _)
  have h2:=hs.lt (List.getElem?_eq_getElem (show m < l.length by omega)) hi h
  rw[e]at h2
  rw[h2]at h1;cases h1
theorem dropS_at {l:List Pair}{k:Str}{m:Nat}(hm:AtK Pair.key l k m) (hn:isAtR l k m=false) (hs:Srt Pair.key l):dropS k l=l:=dropS_none (not_at hm hn hs)
theorem putGo_done {k:Str}{n:Int}{h:Bool}:∀ {l out:List Pair},(∀ p∈l,p.key≠k)→putGo k n h true out l=out++l
 | [],out,_=>by simp[putGo]
 |p::l,out,hl=>by
  simp only[putGo]
  rw[if_neg (hl p (List.mem_cons_self ..))]
  simp only[Bool.true_or,Bool.not_true,Bool.false_and,Bool.false_eq_true,if_false]
  rw[putGo_done fun q hq=>hl q (List.mem_cons_of_mem _ hq)]
  simp
theorem putGo_srt {k:Str}{n:Int}{h:Bool}:∀ {l out:List Pair},Srt Pair.key l→putGo k n h false out l=out++(if h=true then putS k n l else dropS k l)
 | [],out,_=>by cases h <;> simp[putGo,putS,dropS]
 |p::l,out,hs=>by
  obtain⟨h1,h2⟩:=List.pairwise_cons.1 hs
  cases hl:slt p.key k with
  |true =>
   have hk:p.key≠k:=slt_ne hl
   simp only[putGo,hl]
   rw[if_neg hk]
   simp only[Bool.not_true,Bool.or_false,Bool.not_false,Bool.and_false,Bool.false_and,Bool.false_eq_true,if_false]
   rw[putGo_srt h2]
   cases h <;> simp[putS,dropS,hk,hl]
  |false =>
   have hne:∀ q∈l,q.key≠k:=fun q hq e=>by
    have h3:=h1 q hq
    rw[e]at h3
    rw[h3]at hl;cases hl
   simp only[putGo,hl]
   simp only[Bool.not_false,Bool.or_true,Bool.true_and,Bool.and_true]
   rw[putGo_done hne]
   by_cases hk:p.key=k
   ·
    cases h <;> simp[putS,dropS,hk]
   ·
    cases h <;> simp[putS,dropS,hk,hl,dropS_none hne]
theorem put_true {l:List Pair}(hs:Srt Pair.key l) (k:Str) (n:Int):put l k n true=putS k n l:=by
 unfold put;rw[putGo_srt hs];rfl
theorem put_false {l:List Pair}(hs:Srt Pair.key l) (k:Str) (n:Int):put l k n false=dropS k l:=by
 unfold put;rw[putGo_srt hs];rfl
theorem putS_mem {k:Str}{n:Int}:∀ {l:List Pair}{p:Pair},p∈putS k n l→p∈l∨p=⟨k,n⟩
 | [],p,h=>by simp[putS]at h;exact .inr h
 |q::l,p,h=>by
  simp only[putS]at h
  split at h
  ·
   rcases List.mem_cons.1 h with h|h
   ·
    exact .inr h
   ·
    exact .inl (List.mem_cons_of_mem _ h)
  ·
   split at h
   ·
    rcases List.mem_cons.1 h with h|h
    ·
     exact .inl (h▸List.mem_cons_self ..)
    ·
     rcases putS_mem h with h|h
     ·
      exact .inl (List.mem_cons_of_mem _ h)
     ·
      exact .inr h
   ·
    rcases List.mem_cons.1 h with h|h
    ·
     exact .inr h
    ·
     exact .inl h
theorem dropS_sub {k:Str}:∀ l:List Pair,(dropS k l).Sublist l
 | []=>List.Sublist.slnil
 |p::l=>by
  simp only[dropS]
  split
  ·
   exact List.sublist_cons_self ..
  ·
   exact(dropS_sub l).cons_cons _
theorem putS_srt {k:Str}{n:Int}:∀ {l:List Pair},Srt Pair.key l→Srt Pair.key (putS k n l)
 | [],_=>List.pairwise_singleton ..
 |c::l,hs=>by
  obtain⟨h1,h2⟩:=List.pairwise_cons.1 hs
  simp only[putS]
  by_cases hk:c.key=k
  ·
   rw[if_pos hk]
   exact List.pairwise_cons.2 ⟨fun d hd=>by show slt k d.key=true;rw[← hk];exact h1 d hd,h2⟩
  ·
   rw[if_neg hk]
   split
   ·
    next h3 =>
    refine List.pairwise_cons.2 ⟨fun d hd=>?_,putS_srt h2⟩
    rcases putS_mem hd with h|rfl
    ·
     exact h1 d h
    ·
     exact h3
   ·
    next h3 =>
    have h4:slt k c.key=true:=by
     rcases slt_tri c.key k with h|h|h
     ·
      exact absurd h h3
     ·
      exact absurd h hk
     ·
      exact h
    refine List.pairwise_cons.2 ⟨fun d hd=>?_,hs⟩
    rcases List.mem_cons.1 hd with rfl|hd
    ·
     exact h4
    ·
     exact slt_trans h4 (h1 d hd)
theorem dropS_srt {k:Str}{l:List Pair}(hs:Srt Pair.key l):Srt Pair.key (dropS k l):=hs.sublist (dropS_sub l)
theorem putS_len {k:Str}{n:Int}:∀ l:List Pair,(putS k n l).length≤l.length+1
 | []=>by simp[putS]
 |p::l=>by
  have:=putS_len (k:=k) (n:=n) l
  simp only[putS]
  split
  ·
   simp
  ·
   split <;> simp <;> omega
theorem dropS_len {k:Str}(l:List Pair):(dropS k l).length≤l.length:=(dropS_sub l).length_le
theorem ok_pround (n:Int) (hn:inI n):FnOk Try.prog 54 [.d (dint n)] (.one (dint (round n))):=by
 refine fnOk_of tbl_ok mixed_ok Try.func54 rfl (by kernel_rfl) rfl rfl fun w0 own0=>?_
 repeat(first|refine wa ?_|((with_reducible apply s5);(first|((with_reducible apply a_bin);(iterate 2 exact rfl);exact bin_rem (by omega);exact rfl)|exact by_oa|exact by_ca);exact by_g)|refine wb ?_)
 refine .one (.tmp rfl (.one (.d (dle_eq ?_))))
 have h1:n.tdiv 1073741825*1073741825+n.tmod 1073741825=n:=Int.tdiv_mul_add_tmod n 1073741825
 show dint _=dint _
 congr 1
 unfold round
 omega
theorem ok_pget (l:List Pair) (k:Str) (hl:l.length≤268435456) (hs:Srt Pair.key l):FnOk Try.prog 39 [.d (encRows l),.d (dstr k)] (.tup [dint (RF.get l k).1,dbool (RF.get l k).2]):=by
 refine fnOk_of tbl_ok mixed_ok Try.func39 rfl (by kernel_rfl) rfl rfl fun w0 own0=>?_
 obtain⟨m,hm⟩:=hs.at k
 have hf:=ok_rfind l k m hl hm
 cases hb:isAtR l k m with
 |true =>
  obtain⟨c,hc,hck⟩:=atr_some hb
  rw[hb]at hf
  rw[get_some hm hc hck]
  try refine wk ?_
  exact .two (.tmp rfl (.one (.d (.refl _)))) (.tmp rfl (.one (.d (.refl _))))
 |false =>
  rw[hb]at hf
  rw[get_none hm hb hs]
  try refine wk ?_
  exact .two (.tmp rfl (.one (.d (.refl _)))) (.tmp rfl (.one (.d (.refl _))))
theorem ok_pput (l:List Pair) (k:Str) (n:Int) (hl:l.length≤268435456) (hs:Srt Pair.key l):FnOk Try.prog 40 [.d (encRows l),.d (dstr k),.d (dint n)] (.one (encRows (putS k n l))):=by
 refine fnOk_of tbl_ok mixed_ok Try.func40 rfl (by kernel_rfl) rfl rfl fun w0 own0=>?_
 obtain⟨m,hm⟩:=hs.at k
 have hml:=hm.le
 have hf:=ok_rfind l k m hl hm
 have hn:=new_clone_pair (l.map Pair.enc) (by simp;omega)
 cases hb:isAtR l k m with
 |true =>
  obtain⟨c,hc,hck⟩:=atr_some hb
  have hmlt:=(List.getElem?_eq_some_iff.1 hc).1
  rw[hb]at hf
  rw[putS_found hm hc hck]
  repeat(first|refine wa ?_|((with_reducible apply s5);(first|exact a_callnew hn rfl rfl by_sub|exact by_oa|exact by_ca);exact by_g)|refine wb ?_)
  refine .one (.tmp rfl (.one (.own rfl (by simp) (dle_eq ?_))))
  show D.sl 2 _=D.sl 2 _
  congr 1
  rw[List.map_set]
  congr 1
 |false =>
  rw[hb]at hf
  rw[putS_new hm hb]
  have hi:=upd_insertP (l.map Pair.enc) m (dstr k) (dint n) (by simp;omega) (by simp;omega)
  repeat(first|refine wa ?_|((with_reducible apply s5);(first|exact a_callnew hn rfl rfl by_sub|(focus ((with_reducible apply a_upd);exact hi;(iterate 3 exact rfl);(focus first|exact rfl|(simp;done)|(simp;omega));exact rfl;exact by_sub))|exact by_oa|exact by_ca);exact by_g)|refine wb ?_)
  refine .one (.tmp rfl (.one (.own rfl (by simp) (dle_eq ?_))))
  show D.sl 2 _=D.sl 2 _
  congr 1
  simp[Pair.enc]
theorem ok_pdrop (l:List Pair) (k:Str) (hl:l.length≤268435456) (hs:Srt Pair.key l):FnOk Try.prog 41 [.d (encRows l),.d (dstr k)] (.one (encRows (dropS k l))):=by
 refine fnOk_of tbl_ok mixed_ok Try.func41 rfl (by kernel_rfl) rfl rfl fun w0 own0=>?_
 obtain⟨m,hm⟩:=hs.at k
 have hml:=hm.le
 have hf:=ok_rfind l k m hl hm
 have hn:=new_clone_pair (l.map Pair.enc) (by simp;omega)
 cases hb:isAtR l k m with
 |true =>
  obtain⟨c,hc,hck⟩:=atr_some hb
  have hmlt:=(List.getElem?_eq_some_iff.1 hc).1
  rw[hb]at hf
  rw[dropS_found hm hc hck]
  have hd:=upd_delete (l.map Pair.enc) m (by simpa using hmlt) (by simp;omega)
  repeat(first|refine wa ?_|((with_reducible apply s5);(first|exact a_callnew hn rfl rfl by_sub|(focus ((with_reducible apply a_upd);exact hd;(iterate 3 exact rfl);(focus first|exact rfl|(simp;done)|(simp;omega));exact rfl;exact by_sub))|exact by_oa|exact by_ca);exact by_g)|refine wb ?_)
  refine .one (.tmp rfl (.one (.own rfl (by simp) (dle_eq ?_))))
  show D.sl 2 _=D.sl 2 _
  congr 1
  simp
 |false =>
  rw[hb]at hf
  rw[dropS_at hm hb hs]
  repeat(first|refine wa ?_|((with_reducible apply s5);(first|exact a_callnew hn rfl rfl by_sub|exact by_oa|exact by_ca);exact by_g)|refine wb ?_)
  exact .one (.tmp rfl (.one (.own rfl (by simp) (.refl _))))
theorem chTy:∃ ti,tget tbl 96=some ti∧ti.zero=[.bool false,.int .i64 0]:=⟨_,rfl,rfl⟩
theorem mty {n:Nat}{w0:World}{own0:Nat→Prop}{ti:TI}(h:tget tbl 96=some ti) (hz:ti.zero=[.bool false,.int .i64 0]):MapTy ⟨Try.prog,tbl,tbl_ok,mixed_ok,n,w0,own0,0,[]⟩ 94 96 (chA (false,0)):=by
 have:=MapTy.st (cx:=⟨Try.prog,tbl,tbl_ok,mixed_ok,n,w0,own0,0,[]⟩) (t:=94) ⟨9,Try.underlying94,Try.underlying9⟩ h (by rw[hz];decide)
 rw[hz]at this
 exact this
theorem flat0:flat (chA (false,0)):=by
 intro c hc
 simp[chV]at hc
 rcases hc with rfl|rfl <;> rfl
theorem ok_see (vf:FuncId) (caps:List D) (zs:List Arg) (view:Str→Int×Bool) (hcap:Caps caps zs) (m:Mk) (k:Str) (hv:FnOk Try.prog vf ([.d (dstr k)]++zs) (.tup [dint (view k).1,dbool (view k).2])) :
  FnOk Try.prog 53 [.d (dstr k),.pd [mapD (encM m)],.pd [fnD vf caps]] (.one (dint (seeM view m k))):=by
 refine fnOk_of tbl_ok mixed_ok Try.func53 rfl (by kernel_rfl) rfl rfl fun w0 own0=>?_
 obtain⟨ti,h1,h2⟩:=chTy
 have hm:=mty (n:=Try.f53.ntmps) (w0:=w0) (own0:=own0) h1 h2
 have hg:=mget_enc m k
 unfold seeM
 cases hk:mG m k with
 |some c =>
  rw[hk]at hg
  have hl:mlook (chA (false,0)) (encM m) k=chA c:=by simp[mlook,hg]
  have ha:=fun {d:Nat} {ty:TypeId} {pos:String} {af:Array Edge} {gd:Option (Nat×Bool)} {σ:St} {x y:Operand} (hx) (hy) (hd)=>a_mlookd (σ:=σ) (d:=d) (ty:=ty) (pos:=pos) (af:=af) (gd:=gd) (x:=x) (y:=y) hm flat0 (encM_one m) (k:=k) hx hy hd
  rw[hl,hg]at ha
  repeat(first|refine wa ?_|((with_reducible apply s5);(first|((with_reducible apply ha);(iterate 3 exact rfl))|exact by_oa|exact by_ca);exact by_g)|refine wb ?_)
  exact .one (.tmp rfl (.one (.d (.refl _))))
 |none =>
  rw[hk]at hg
  have hl:mlook (chA (false,0)) (encM m) k=chA (false,0):=by simp[mlook,hg]
  have ha:=fun {d:Nat} {ty:TypeId} {pos:String} {af:Array Edge} {gd:Option (Nat×Bool)} {σ:St} {x y:Operand} (hx) (hy) (hd)=>a_mlookd (σ:=σ) (d:=d) (ty:=ty) (pos:=pos) (af:=af) (gd:=gd) (x:=x) (y:=y) hm flat0 (encM_one m) (k:=k) hx hy hd
  rw[hl,hg]at ha
  repeat(first|refine wa ?_|((with_reducible apply s5);(first|((with_reducible apply ha);(iterate 3 exact rfl))|(focus (with_reducible apply(a_callfn (ys:=[.d (dstr k)])));exact hv;exact hcap;exact rfl;exact rfl;apply SubsE.cons;exact rfl;exact .d (.refl _);exact trivial;exact SubsE.nil)|exact by_oa|exact by_ca);exact by_g)|refine wb ?_)
  exact .one (.tmp rfl (.one (.d (.refl _))))
theorem ok_run (vf:FuncId) (caps:List D) (zs:List Arg) (view:Str→Int×Bool) (d:Deed) (hcap:Caps caps zs) (hv:∀ k∈d.reads,FnOk Try.prog vf ([.d (dstr k)]++zs) (.tup [dint (view k).1,dbool (view k).2]))
  (hvn:∀ k∈d.reads,nOk (view k).1) (hc:d.code.length≤134217728) (hw:d.writes.length≤134217728) (hi:∀ i∈d.code,i.Ok) (hk:∀ i∈d.code,i.kind=1→i.key∈d.reads) :
  FnOk Try.prog 37 [.d (.agg d.enc),.d (fnD vf caps)] (.tup (runRes view d)):=by
 refine fnOk_of tbl_ok mixed_ok Try.func37 rfl (by kernel_rfl) rfl rfl fun w0 own0=>?_
 obtain⟨ti,hti,htz⟩:=chTy
 have hmt:=mty (n:=Try.f37.ntmps) (w0:=w0) (own0:=own0) hti htz
 have hst0:StopA 2:=⟨rfl⟩
 try refine wkS ?_
 clear hst0
 refine Stop.go (CW.seq (CW.regionS ?_))
 refine SW.fam rfl (fam_mkmap rfl rfl) fun x0=>?_
 refine SW.fact (p:=∃ b,x0 = .map (some b)) (map_known (id:=4) (M:=[]) rfl) ?_
 rintro ⟨b0,rfl⟩
 refine SW.rw ?_
 have hst0:StopR 3:=⟨rfl⟩
 try refine wkS ?_
 clear hst0
 refine Stop.go (CW.stut (stut_freezebox (i:=8) (id:=5) (ds:=[.v (.map (some b0))]) rfl) ⟨rfl,rfl,trivial⟩ ?_)
 refine CW.stut (stut_freezebox (i:=3) (id:=1) (ds:=[fnD vf caps]) rfl) ⟨rfl,rfl,trivial⟩ ?_
 have hst0:StopR 4:=⟨rfl⟩
 repeat(first|refine waS ?_|((with_reducible apply s5);(first|((with_reducible apply(a_mkfn (ds:=[refD [.v (.map (some b0))],refD [fnD vf caps]])));exact rfl;apply SubsE.cons;exact rfl;exact .d (.refl _);exact trivial;apply SubsE.cons;exact rfl;exact .d (.refl _);exact trivial;exact SubsE.nil)|exact by_oa|exact by_ca);exact by_g)|refine wb ?_)
 clear hst0
 refine Stop.go (CW.stut (stut_refpd (i:=8)) ⟨rfl,trivial⟩ ?_)
 try refine wk ?_
 refine CW.loopT (fun t:Nat×Mk×Done=>[sp 2 0,ob 0 d.enc,sp 4 2,ob 2 done0.enc,sd 5 (.v nilS),sd 6 (.v nilS),sp 7 3,ob 3 t.2.2.enc,(.s 8,.av (.pd [.v (.map (some b0))])),sd 9 (fnD 53 [refD [.v (.map (some b0))],refD [fnD vf caps]]),(.s 10,.av (.ptr 3 1)),(.o 4,.ob (.mp (encM t.2.1) (.map (some b0)))),sd 11 (dint t.1),nxt 6])
  (fun t=>mOk t.2.1∧t.2.2.Ok∧t.2.2.failed=false∧runGo view 0 t.2.1 t.2.2 (d.code.drop t.1)=runM view d)
  (fun t=>d.code.length - t.1) (0,[],done0) ⟨mOk_nil,⟨by simp[nOk,done0],by simp[nOk,done0],by simp[nOk,done0],by simp[nOk,done0]⟩,rfl,rfl⟩ ?_ ?_
 ·
  exact by_less
 ·
  rintro ⟨x,m,e⟩ ⟨hm,he,hf,hI⟩
  dsimp only at hm he hf hI ⊢
  by_cases hx:x < d.code.length
  ·
   obtain⟨i,h1,h2⟩:∃ i,d.code.drop x=i::d.code.drop (x+1)∧d.code[x]? = some i:=⟨d.code[x],List.drop_eq_getElem_cons hx,List.getElem?_eq_getElem hx⟩
   rw[h1]at hI
   simp only[runGo]at hI
   rw[if_neg (show ¬ (0:Int) < 0 by decide)]at hI
   have hio:=hi i (List.mem_of_getElem? h2)
   obtain⟨kd,ia,ib,n,key⟩:=i
   obtain⟨A,rfl⟩:=Int.eq_ofNat_of_zero_le hio.a.1
   obtain⟨B,rfl⟩:=Int.eq_ofNat_of_zero_le hio.b.1
   have hA:A < 4:=by have:=hio.a.2;dsimp only at this;omega
   have hB:B < 4:=by have:=hio.b.2;dsimp only at this;omega
   have hga:=rget_ok he A
   have hgb:=rget_ok he B
   have hst:=fun y=>st_reg e hA y
   have hfit:=fit_reg e hA
   have hself:=rset_self e A
   have hkk:=hio.k
   have hcn:=hio.c
   have hcs:=hio.s
   dsimp only[Int.toNat_natCast]at hI hkk hcn hcs
   have hkd:kd=1∨kd=2∨kd=3∨kd=4∨kd=5∨kd=6∨kd=7∨kd=8∨kd=9:=by omega
   clear hkk hio h1
   unfold nOk at hga hgb
   rcases hkd with rfl|rfl|rfl|rfl|rfl|rfl|rfl|rfl|rfl
   ·
    rw[if_pos rfl]at hI
    have hsee:=ok_see vf caps zs view hcap m key (hv key (hk _ (List.mem_of_getElem? h2) rfl))
    have hs:=hst (seeM view m key)
    repeat(first|refine wa ?_|((with_reducible apply s5);(first|(focus (with_reducible apply(a_callfnM (ys:=[.d (dstr key)]) (id:=4) (x0 := .map (some b0)) (M:=encM m)));exact hsee;exact .map (.ref .nil);exact rfl;exact rfl;exact rfl;exact rfl;apply SubsE.cons;exact rfl;exact .d (.refl _);exact trivial;exact SubsE.nil)|((with_reducible apply a_lptr);(iterate 4 exact rfl);exact ld_reg e hA rfl)|((with_reducible apply a_lptr);(iterate 4 exact rfl);exact ld_reg e hB rfl)|((with_reducible apply a_store);(iterate 6 exact rfl);exact hfit;exact⟨rfl,trivial⟩)|((with_reducible apply a_nilp);(iterate 3 exact rfl))|exact by_oa|exact by_ca);exact by_g)|refine wb ?_)
    refine q_loopT (x+1,m,rset e A (seeM view m key)) ⟨hm,rset_ok he A (see_ok (hvn key (hk _ (List.mem_of_getElem? h2) rfl)) hm),by rw[rset_failed];exact hf,hI⟩ (by dsimp only;omega) ?_
    exact by_less
   ·
    rw[if_neg (show ¬ (2:Int)=1 by decide),if_pos rfl]at hI
    have hs:=hst n
    repeat(first|refine wa ?_|((with_reducible apply s5);(first|((with_reducible apply a_lptr);(iterate 4 exact rfl);exact ld_reg e hA rfl)|((with_reducible apply a_lptr);(iterate 4 exact rfl);exact ld_reg e hB rfl)|((with_reducible apply a_store);(iterate 6 exact rfl);exact hfit;exact⟨rfl,trivial⟩)|((with_reducible apply a_nilp);(iterate 3 exact rfl))|exact by_oa|exact by_ca);exact by_g)|refine wb ?_)
    refine q_loopT (x+1,m,rset e A n) ⟨hm,rset_ok he A (hcn rfl),by rw[rset_failed];exact hf,hI⟩ (by dsimp only;omega) ?_
    exact by_less
   ·
    rw[if_neg (show ¬ (3:Int)=1 by decide),if_neg (show ¬ (3:Int)=2 by decide),if_pos rfl]at hI
    have hs:=hst (round (rget e A+rget e B))
    have cr:=ok_pround (rget e A+rget e B) (by unfold inI;omega)
    repeat(first|refine wa ?_|((with_reducible apply s5);(first|((with_reducible apply a_lptr);(iterate 4 exact rfl);exact ld_reg e hA rfl)|((with_reducible apply a_lptr);(iterate 4 exact rfl);exact ld_reg e hB rfl)|((with_reducible apply a_store);(iterate 6 exact rfl);exact hfit;exact⟨rfl,trivial⟩)|((with_reducible apply a_nilp);(iterate 3 exact rfl))|((with_reducible apply a_bin);(iterate 2 exact rfl);(apply bin_add;omega);exact rfl)|exact by_oa|exact by_ca);exact by_g)|refine wb ?_)
    refine q_loopT (x+1,m,rset e A (round (rget e A+rget e B))) ⟨hm,rset_ok he A (round_ok _),by rw[rset_failed];exact hf,hI⟩ (by dsimp only;omega) ?_
    exact by_less
   ·
    rw[if_neg (show ¬ (4:Int)=1 by decide),if_neg (show ¬ (4:Int)=2 by decide),if_neg (show ¬ (4:Int)=3 by decide),if_pos rfl]at hI
    have hs:=hst (round (rget e A - rget e B))
    have cr:=ok_pround (rget e A - rget e B) (by unfold inI;omega)
    repeat(first|refine wa ?_|((with_reducible apply s5);(first|((with_reducible apply a_lptr);(iterate 4 exact rfl);exact ld_reg e hA rfl)|((with_reducible apply a_lptr);(iterate 4 exact rfl);exact ld_reg e hB rfl)|((with_reducible apply a_store);(iterate 6 exact rfl);exact hfit;exact⟨rfl,trivial⟩)|((with_reducible apply a_nilp);(iterate 3 exact rfl))|((with_reducible apply a_bin);(iterate 2 exact rfl);(apply bin_sub;omega);exact rfl)|exact by_oa|exact by_ca);exact by_g)|refine wb ?_)
    refine q_loopT (x+1,m,rset e A (round (rget e A - rget e B))) ⟨hm,rset_ok he A (round_ok _),by rw[rset_failed];exact hf,hI⟩ (by dsimp only;omega) ?_
    exact by_less
   ·
    rw[if_neg (show ¬ (5:Int)=1 by decide),if_neg (show ¬ (5:Int)=2 by decide),if_neg (show ¬ (5:Int)=3 by decide),if_neg (show ¬ (5:Int)=4 by decide),if_pos rfl]at hI
    have hmul : -1152921504606846976≤rget e A*rget e B∧rget e A*rget e B≤1152921504606846976:=mul_bound hga hgb
    have hs:=hst (round (rget e A*rget e B))
    have cr:=ok_pround (rget e A*rget e B) (by unfold inI;omega)
    repeat(first|refine wa ?_|((with_reducible apply s5);(first|((with_reducible apply a_lptr);(iterate 4 exact rfl);exact ld_reg e hA rfl)|((with_reducible apply a_lptr);(iterate 4 exact rfl);exact ld_reg e hB rfl)|((with_reducible apply a_store);(iterate 6 exact rfl);exact hfit;exact⟨rfl,trivial⟩)|((with_reducible apply a_nilp);(iterate 3 exact rfl))|((with_reducible apply a_bin);(iterate 2 exact rfl);(apply bin_mul;omega);exact rfl)|exact by_oa|exact by_ca);exact by_g)|refine wb ?_)
    refine q_loopT (x+1,m,rset e A (round (rget e A*rget e B))) ⟨hm,rset_ok he A (round_ok _),by rw[rset_failed];exact hf,hI⟩ (by dsimp only;omega) ?_
    exact by_less
   ·
    rw[if_neg (show ¬ (6:Int)=1 by decide),if_neg (show ¬ (6:Int)=2 by decide),if_neg (show ¬ (6:Int)=3 by decide),if_neg (show ¬ (6:Int)=4 by decide),if_neg (show ¬ (6:Int)=5 by decide),if_pos rfl]at hI
    have hms:=mset_enc m key (true,rget e A)
    repeat(first|refine wa ?_|((with_reducible apply s5);(first|((with_reducible apply a_lptr);(iterate 4 exact rfl);exact ld_reg e hA rfl)|((with_reducible apply a_lptr);(iterate 4 exact rfl);exact ld_reg e hB rfl)|((with_reducible apply a_store);(iterate 6 exact rfl);exact hfit;exact⟨rfl,trivial⟩)|((with_reducible apply a_nilp);(iterate 3 exact rfl))|((with_reducible apply(a_mset (us:=chA (true,rget e A)) 4 hmt));(iterate 3 exact rfl);exact .agg (.d rfl);exact rfl)|exact by_oa|exact by_ca);exact by_g)|refine wb ?_)
    rw[hms]
    refine q_loopT (x+1,mS m key (true,rget e A),e) ⟨mOk_set hm key (rget_ok he A),he,hf,hI⟩ (by dsimp only;omega) ?_
    exact by_less
   ·
    rw[if_neg (show ¬ (7:Int)=1 by decide),if_neg (show ¬ (7:Int)=2 by decide),if_neg (show ¬ (7:Int)=3 by decide),if_neg (show ¬ (7:Int)=4 by decide),if_neg (show ¬ (7:Int)=5 by decide),if_neg (show ¬ (7:Int)=6 by decide),if_pos rfl]at hI
    have hms:=mset_enc m key (false,0)
    repeat(first|refine wa ?_|((with_reducible apply s5);(first|((with_reducible apply a_lptr);(iterate 4 exact rfl);exact ld_reg e hA rfl)|((with_reducible apply a_lptr);(iterate 4 exact rfl);exact ld_reg e hB rfl)|((with_reducible apply a_store);(iterate 6 exact rfl);exact hfit;exact⟨rfl,trivial⟩)|((with_reducible apply a_nilp);(iterate 3 exact rfl))|((with_reducible apply(a_mset (us:=chA (false,0)) 4 hmt));(iterate 3 exact rfl);exact .agg (.d rfl);exact rfl)|exact by_oa|exact by_ca);exact by_g)|refine wb ?_)
    rw[hms]
    refine q_loopT (x+1,mS m key (false,0),e) ⟨mOk_set hm key (by simp[nOk]),he,hf,hI⟩ (by dsimp only;omega) ?_
    exact by_less
   ·
    rw[if_neg (show ¬ (8:Int)=1 by decide),if_neg (show ¬ (8:Int)=2 by decide),if_neg (show ¬ (8:Int)=3 by decide),if_neg (show ¬ (8:Int)=4 by decide),if_neg (show ¬ (8:Int)=5 by decide),if_neg (show ¬ (8:Int)=6 by decide),if_neg (show ¬ (8:Int)=7 by decide),if_pos rfl]at hI
    obtain⟨N,rfl⟩:=Int.eq_ofNat_of_zero_le (hcs rfl).1
    have hN:=(hcs rfl).2
    by_cases h5:rget e A < 1
    ·
     rw[if_pos h5,runGo_skip,List.drop_drop]at hI
     repeat(first|refine wa ?_|((with_reducible apply s5);(first|((with_reducible apply a_lptr);(iterate 4 exact rfl);exact ld_reg e hA rfl)|((with_reducible apply a_lptr);(iterate 4 exact rfl);exact ld_reg e hB rfl)|((with_reducible apply a_store);(iterate 6 exact rfl);exact hfit;exact⟨rfl,trivial⟩)|((with_reducible apply a_nilp);(iterate 3 exact rfl))|exact by_oa|exact by_ca);exact by_g)|refine wb ?_)
     refine q_loopT (x+N+1,m,e) ⟨hm,he,hf,by dsimp only;rw[← hI];congr 2;omega⟩ (by dsimp only;omega) ?_
     exact by_less
    ·
     rw[if_neg h5]at hI
     repeat(first|refine wa ?_|((with_reducible apply s5);(first|((with_reducible apply a_lptr);(iterate 4 exact rfl);exact ld_reg e hA rfl)|((with_reducible apply a_lptr);(iterate 4 exact rfl);exact ld_reg e hB rfl)|((with_reducible apply a_store);(iterate 6 exact rfl);exact hfit;exact⟨rfl,trivial⟩)|((with_reducible apply a_nilp);(iterate 3 exact rfl))|exact by_oa|exact by_ca);exact by_g)|refine wb ?_)
     refine q_loopT (x+1,m,e) ⟨hm,he,hf,hI⟩ (by dsimp only;omega) ?_
     exact by_less
   ·
    rw[if_neg (show ¬ (9:Int)=1 by decide),if_neg (show ¬ (9:Int)=2 by decide),if_neg (show ¬ (9:Int)=3 by decide),if_neg (show ¬ (9:Int)=4 by decide),if_neg (show ¬ (9:Int)=5 by decide),if_neg (show ¬ (9:Int)=6 by decide),if_neg (show ¬ (9:Int)=7 by decide),if_neg (show ¬ (9:Int)=8 by decide)]at hI
    by_cases h5:rget e A < 0
    ·
     rw[if_pos h5]at hI
     repeat(first|refine wa ?_|((with_reducible apply s5);(first|((with_reducible apply a_lptr);(iterate 4 exact rfl);exact ld_reg e hA rfl)|((with_reducible apply a_lptr);(iterate 4 exact rfl);exact ld_reg e hB rfl)|((with_reducible apply a_store);(iterate 6 exact rfl);exact hfit;exact⟨rfl,trivial⟩)|((with_reducible apply a_nilp);(iterate 3 exact rfl))|exact by_oa|exact by_ca);exact by_g)|refine wb ?_)
     unfold runRes runC
     rw[← hI]
     exact .three (.cell rfl rfl rfl rfl (.aggd rfl (.refl _))) (.tmp rfl (.one (.d (.nil _)))) (.tmp rfl (.one (.d (.nil _))))
    ·
     rw[if_neg h5]at hI
     repeat(first|refine wa ?_|((with_reducible apply s5);(first|((with_reducible apply a_lptr);(iterate 4 exact rfl);exact ld_reg e hA rfl)|((with_reducible apply a_lptr);(iterate 4 exact rfl);exact ld_reg e hB rfl)|((with_reducible apply a_store);(iterate 6 exact rfl);exact hfit;exact⟨rfl,trivial⟩)|((with_reducible apply a_nilp);(iterate 3 exact rfl))|exact by_oa|exact by_ca);exact by_g)|refine wb ?_)
     refine q_loopT (x+1,m,e) ⟨hm,he,hf,hI⟩ (by dsimp only;omega) ?_
     exact by_less
  ·
   rw[List.drop_eq_nil_of_le (by omega)]at hI
   simp only[runGo]at hI
   have hchl:∀ j,j≤d.writes.length→(chg m (d.writes.drop j)).length≤d.writes.length - j:=fun j _=>by
    have:=chg_len m (d.writes.drop j);simpa using this
   have hst0:StopA 33:=⟨rfl⟩
   try refine wkS ?_
   clear hst0
   refine Stop.go (CW.stut (stut_promote (i:=13) 26 4) ⟨rfl,rfl,trivial⟩ ?_)
   refine CW.stut (stut_promote (i:=14) 9 1) ⟨rfl,rfl,trivial⟩ ?_
   try refine wk ?_
   refine CW.loopT (fun t:Nat×List (Str×(Bool×Int))=>[sp 4 2,ob 2 done0.enc,sd 5 (.v nilS),sd 6 (.v nilS),sp 7 3,ob 3 e.enc,(.s 8,.av (.pd [.v (.map (some b0))])),(.o 4,.ob (.mp (encM m) (.map (some b0)))),
    so 13 6 t.2.length,oa 6 26 4 ((t.2.map chVer).map Version.enc),so 14 7 t.2.length,oa 7 9 1 ((t.2.map (·.1)).map encStr1),sd 162 (encStrs d.writes),sd 163 (dint d.writes.length),sd 164 (dint t.1),nxt 8])
    (fun t=>t.1≤d.writes.length∧t.2.length≤t.1∧t.2++chg m (d.writes.drop t.1)=chg m d.writes) (fun t=>d.writes.length - t.1) (0,[]) ⟨by omega,by simp,rfl⟩ ?_ ?_
   ·
    exact by_less
   ·
    rintro ⟨j,acc⟩ ⟨hj,hacc,hJ⟩
    dsimp only at hj hacc hJ ⊢
    rcases drop_case hj with ⟨h1,h2⟩|⟨k,h1,h2,h3⟩
    ·
     rw[h1,chg,List.append_nil]at hJ
     try refine wk ?_
     have hrc:runC view d=acc:=by
      unfold runC
      rw[← hI]
      dsimp only
      rw[if_neg (by rw[hf];simp),hJ]
     unfold runRes
     rw[hrc,← hI]
     exact .three (.cell rfl rfl rfl rfl (.aggd rfl (.refl _))) (.tmp rfl (.one (.own rfl (by simp) (.refl _)))) (.tmp rfl (.one (.own rfl (by simp) (.refl _))))
    ·
     rw[h1,chg]at hJ
     have hg:=mget_enc m k
     cases hmk:mG m k with
     |none =>
      rw[hmk]at hJ hg
      dsimp only at hJ
      have hl:mlook (chA (false,0)) (encM m) k=chA (false,0):=by simp[mlook,hg]
      have ha:=fun {d:Nat} {ty:TypeId} {pos:String} {af:Array Edge} {gd:Option (Nat×Bool)} {σ:St} {x y:Operand} {x0:Value} (hx) (hy) (ho) (hd)=>a_mlook (σ:=σ) (d:=d) (ty:=ty) (pos:=pos) (af:=af) (gd:=gd) (x:=x) (y:=y) (x0:=x0) 4 hmt flat0 (encM_one m) (k:=k) hx hy ho hd
      rw[hl,hg]at ha
      repeat(first|refine wa ?_|((with_reducible apply s5);(first|((with_reducible apply ha);(iterate 4 exact rfl))|exact by_oa|exact by_ca);exact by_g)|refine wb ?_)
      refine q_loopT (j+1,acc) ⟨by dsimp only;omega,by dsimp only;omega,hJ⟩ (by dsimp only;omega) ?_
      exact by_less
     |some c =>
      rw[hmk]at hJ hg
      dsimp only at hJ
      have hl:mlook (chA (false,0)) (encM m) k=chA c:=by simp[mlook,hg]
      have ha:=fun {d:Nat} {ty:TypeId} {pos:String} {af:Array Edge} {gd:Option (Nat×Bool)} {σ:St} {x y:Operand} {x0:Value} (hx) (hy) (ho) (hd)=>a_mlook (σ:=σ) (d:=d) (ty:=ty) (pos:=pos) (af:=af) (gd:=gd) (x:=x) (y:=y) (x0:=x0) 4 hmt flat0 (encM_one m) (k:=k) hx hy ho hd
      rw[hl,hg]at ha
      repeat(first|refine wa ?_|((with_reducible apply s5);(first|((with_reducible apply ha);(iterate 4 exact rfl))|exact by_oa|exact by_ca);exact by_g)|refine wb ?_)
      refine q_loopT (j+1,acc++[(k,c)]) ⟨by dsimp only;omega,by dsimp only;simp;omega,by rw[← hJ];simp⟩ (by dsimp only;omega) ?_
      exact by_less
end Go.Proofs.Ytfpkamiobdkcpaa
namespace Go.Proofs.Ytfpkamiobdkcpaa
open Go.AX Go.RF
theorem get_put {k k':Str}{n:Int}:∀ {l:List Pair},RF.get (putS k n l) k'=if k=k' then (n,true) else RF.get l k'
 | []=>by simp[putS,RF.get]
 |p::l=>by
  simp only[putS]
  by_cases hk:p.key=k
  ·
   rw[if_pos hk]
   simp only[RF.get]
   by_cases h:k=k'
   ·
    simp[h]
   ·
    rw[if_neg h,if_neg h,if_neg (by rw[hk];exact h)]
  ·
   rw[if_neg hk]
   split
   ·
    simp only[RF.get]
    rw[get_put]
    by_cases h:p.key=k'
    ·
     rw[if_pos h,if_neg (fun e=>hk (by rw[h,e])),if_pos h]
    ·
     rw[if_neg h,if_neg h]
   ·
    simp only[RF.get]
theorem get_absent {k:Str}:∀ {l:List Pair},(∀ p∈l,p.key≠k)→RF.get l k=(0,false)
 | [],_=>rfl
 |p::l,h=>by
  simp only[RF.get]
  rw[if_neg (h p (List.mem_cons_self ..)),get_absent fun q hq=>h q (List.mem_cons_of_mem _ hq)]
theorem srt_absent {p:Pair}{l:List Pair}(hs:Srt Pair.key (p::l)):∀ q∈l,q.key≠p.key:=fun q hq e=>by
 have:=(List.pairwise_cons.1 hs).1 q hq
 rw[e,slt_irrefl]at this;cases this
theorem get_drop {k k':Str}:∀ {l:List Pair},Srt Pair.key l→RF.get (dropS k l) k'=if k=k' then (0,false) else RF.get l k'
 | [],_=>by simp[dropS,RF.get]
 |p::l,hs=>by
  simp only[dropS]
  by_cases hk:p.key=k
  ·
   rw[if_pos hk]
   by_cases h:k=k'
   ·
    rw[if_pos h]
    exact get_absent fun q hq=>by rw[← h,← hk];exact srt_absent hs q hq
   ·
    rw[if_neg h]
    simp only[RF.get]
    rw[if_neg (by rw[hk];exact h)]
  ·
   rw[if_neg hk]
   simp only[RF.get]
   rw[get_drop (List.pairwise_cons.1 hs).2]
   by_cases h:p.key=k'
   ·
    rw[if_pos h,if_neg (fun e=>hk (by rw[h,e])),if_pos h]
   ·
    rw[if_neg h,if_neg h]
theorem srt_ext:∀ {l r:List Pair},Srt Pair.key l→Srt Pair.key r→(∀ p,p∈l↔p∈r)→l=r
 | [],[],_,_,_=>rfl
 | [],q::r,_,_,h=>by have:=(h q).2 (List.mem_cons_self ..);simp at this
 |p::l,[],_,_,h=>by have:=(h p).1 (List.mem_cons_self ..);simp at this
 |p::l,q::r,hl,hr,h=>by
  obtain⟨l1,l2⟩:=List.pairwise_cons.1 hl
  obtain⟨r1,r2⟩:=List.pairwise_cons.1 hr
  have hpq:p=q:=by
   rcases List.mem_cons.1 ((h p).1 (List.mem_cons_self ..)) with e|e
   ·
    exact e
   ·
    rcases List.mem_cons.1 ((h q).2 (List.mem_cons_self ..)) with e'|e'
    ·
     exact e'.symm
    ·
     have:=slt_trans (l1 q e') (r1 p e)
     rw[slt_irrefl]at this;cases this
  subst hpq
  congr 1
  refine srt_ext l2 r2 fun x=>⟨fun hx=>?_,fun hx=>?_⟩
  ·
   rcases List.mem_cons.1 ((h x).1 (List.mem_cons_of_mem _ hx)) with e|e
   ·
    subst e;have:=l1 x hx;rw[slt_irrefl]at this;cases this
   ·
    exact e
  ·
   rcases List.mem_cons.1 ((h x).2 (List.mem_cons_of_mem _ hx)) with e|e
   ·
    subst e;have:=r1 x hx;rw[slt_irrefl]at this;cases this
   ·
    exact e
theorem get_mem_some {k:Str}:∀ {l:List Pair}{n:Int},RF.get l k=(n,true)→(⟨k,n⟩:Pair)∈l
 | [],n,h=>by simp[RF.get]at h
 |p::l,n,h=>by
  simp only[RF.get]at h
  by_cases hk:p.key=k
  ·
   rw[if_pos hk]at h
   cases h
   rw[← hk]
   exact List.mem_cons_self ..
  ·
   rw[if_neg hk]at h
   exact List.mem_cons_of_mem _ (get_mem_some h)
theorem get_of_mem {p:Pair}:∀ {l:List Pair},Srt Pair.key l→p∈l→RF.get l p.key=(p.n,true)
 |q::l,hs,h=>by
  simp only[RF.get]
  rcases List.mem_cons.1 h with rfl|h
  ·
   rw[if_pos rfl]
  ·
   have:=srt_absent hs p h
   rw[if_neg (fun e=>this e.symm),get_of_mem (List.pairwise_cons.1 hs).2 h]
theorem get_ext {l r:List Pair}(hl:Srt Pair.key l) (hr:Srt Pair.key r) (h:∀ k,RF.get l k=RF.get r k):l=r :=
 srt_ext hl hr fun p=>⟨fun hp=>get_mem_some (by rw[← h,get_of_mem hl hp]),fun hp=>get_mem_some (by rw[h,get_of_mem hr hp])⟩
def chOf (c:Bool×Int):Int×Bool:=if c.1=true then (c.2,true) else (0,false)
def chAt (r:List Pair) (m:Mk) (k:Str):Int×Bool:=match mG m k with
 |some c=>chOf c
 |none=>RF.get r k
def app1 (out:List Pair) (k:Str) (c:Bool×Int):List Pair:=if c.1=true then putS k c.2 out else dropS k out
def appC:List Pair→List (Str×(Bool×Int))→List Pair
 |out,[]=>out
 |out,x::r=>appC (app1 out x.1 x.2) r
theorem app1_srt {out:List Pair}(h:Srt Pair.key out) (k:Str) (c:Bool×Int):Srt Pair.key (app1 out k c):=by
 unfold app1;split
 ·
  exact putS_srt h
 ·
  exact dropS_srt h
theorem app1_get {out:List Pair}(h:Srt Pair.key out) (k k':Str) (c:Bool×Int):RF.get (app1 out k c) k'=if k=k' then chOf c else RF.get out k':=by
 unfold app1 chOf;split
 ·
  exact get_put
 ·
  exact get_drop h
theorem app1_len (out:List Pair) (k:Str) (c:Bool×Int):(app1 out k c).length≤out.length+1:=by
 unfold app1;split
 ·
  exact putS_len out
 ·
  exact Nat.le_succ_of_le (dropS_len out)
theorem appC_srt:∀ {l:List (Str×(Bool×Int))}{out:List Pair},Srt Pair.key out→Srt Pair.key (appC out l)
 | [],out,h=>h
 |x::l,out,h=>appC_srt (l:=l) (app1_srt h _ _)
theorem appC_get {m:Mk}{k:Str}:∀ {l:List Str}{out:List Pair},Srt Pair.key out→RF.get (appC out (chg m l)) k=if k∈l then chAt out m k else RF.get out k
 | [],out,h=>by simp[chg,appC]
 |x::l,out,h=>by
  simp only[chg]
  cases hx:mG m x with
  |none =>
   simp only
   rw[appC_get h]
   by_cases hk:k∈l
   ·
    rw[if_pos hk,if_pos (List.mem_cons_of_mem _ hk)]
   ·
    rw[if_neg hk]
    by_cases he:k=x
    ·
     subst he
     rw[if_pos (List.mem_cons_self ..),chAt,hx]
    ·
     rw[if_neg (by simp[he,hk])]
  |some c =>
   simp only[appC]
   rw[appC_get (app1_srt h _ _)]
   by_cases he:x=k
   ·
    subst he
    rw[if_pos (List.mem_cons_self ..),app1_get h,if_pos rfl]
    simp only[chAt,hx,ite_self]
   ·
    have hne:¬ k=x:=fun e=>he e.symm
    by_cases hk:k∈l
    ·
     rw[if_pos hk,if_pos (List.mem_cons_of_mem _ hk)]
     unfold chAt
     rw[app1_get h,if_neg he]
    ·
     rw[if_neg hk,if_neg (by simp[hne,hk]),app1_get h,if_neg he]
def plainD (r:List Pair) (d:Deed):List Pair×Done:=(appC r (runC (RF.get r) d),(runM (RF.get r) d).2)
theorem see_at {r now:List Pair}{m:Mk}(h:∀ k,RF.get now k=chAt r m k) (hf:∀ k c,mG m k=some c→c.1=false→c.2=0) (k:Str):seeM (RF.get r) m k=(RF.get now k).1:=by
 rw[h k]
 unfold seeM chAt chOf
 cases hm:mG m k with
 |none=>rfl
 |some c =>
  dsimp only
  by_cases hc:c.1=true
  ·
   rw[if_pos hc]
  ·
   rw[if_neg hc]
   exact hf k c hm (by simpa using hc)
structure MInv (r:List Pair) (W:List Str) (m:Mk) (now:List Pair):Prop where
 s:Srt Pair.key now
 a:∀ k,RF.get now k=chAt r m k
 f:∀ k c,mG m k=some c→c.1=false→c.2=0
 w:∀ k c,mG m k=some c→k∈W
theorem MInv.set {r now:List Pair}{W:List Str}{m:Mk}(h:MInv r W m now) {k:Str}(hk:k∈W) (c:Bool×Int) (hc:c.1=false→c.2=0):MInv r W (mS m k c) (app1 now k c):=by
 refine⟨app1_srt h.s k c,fun k'=>?_,fun k' c' hm=>?_,fun k' c' hm=>?_⟩
 ·
  rw[app1_get h.s]
  unfold chAt
  rw[mG_mS]
  by_cases he:k=k'
  ·
   rw[if_pos he,if_pos he]
  ·
   rw[if_neg he,if_neg he]
   exact h.a k'
 ·
  rw[mG_mS]at hm
  split at hm
  ·
   cases hm;exact hc
  ·
   exact h.f k' c' hm
 ·
  rw[mG_mS]at hm
  split at hm
  ·
   next he=>rw[← he];exact hk
  ·
   exact h.w k' c' hm
theorem run_do {r:List Pair}{W:List Str}:∀ {l:List Ins}{sk:Int}{m:Mk}{e:Done}{now:List Pair},MInv r W m now→e.failed=false→(∀ i∈l,(i.kind=6∨i.kind=7)→i.key∈W) →
  (runGo (RF.get r) sk m e l).2=(doGo r sk now e l).2∧((doGo r sk now e l).2.failed=true→(doGo r sk now e l).1=r)∧((doGo r sk now e l).2.failed=false→MInv r W (runGo (RF.get r) sk m e l).1 (doGo r sk now e l).1)
 | [],sk,m,e,now,h,he,hw=>by
  simp only[runGo,doGo]
  exact⟨trivial,fun hf=>by rw[he]at hf;exact absurd hf (by simp),fun _=>h⟩
 |i::l,sk,m,e,now,h,he,hw=>by
  have hl:∀ i∈l,(i.kind=6∨i.kind=7)→i.key∈W:=fun j hj=>hw j (List.mem_cons_of_mem _ hj)
  simp only[runGo,doGo]
  rw[see_at h.a h.f]
  by_cases h0:0 < sk
  ·
   rw[if_pos h0,if_pos h0];exact run_do h he hl
  rw[if_neg h0,if_neg h0]
  have hr:∀ k x,(rset e k x).failed=false:=fun k x=>by rw[rset_failed];exact he
  by_cases h1:i.kind=1
  ·
   rw[if_pos h1,if_pos h1];exact run_do h (hr _ _) hl
  rw[if_neg h1,if_neg h1]
  by_cases h2:i.kind=2
  ·
   rw[if_pos h2,if_pos h2];exact run_do h (hr _ _) hl
  rw[if_neg h2,if_neg h2]
  by_cases h3:i.kind=3
  ·
   rw[if_pos h3,if_pos h3];exact run_do h (hr _ _) hl
  rw[if_neg h3,if_neg h3]
  by_cases h4:i.kind=4
  ·
   rw[if_pos h4,if_pos h4];exact run_do h (hr _ _) hl
  rw[if_neg h4,if_neg h4]
  by_cases h5:i.kind=5
  ·
   rw[if_pos h5,if_pos h5];exact run_do h (hr _ _) hl
  rw[if_neg h5,if_neg h5]
  by_cases h6:i.kind=6
  ·
   rw[if_pos h6,if_pos h6,put_true h.s]
   have:=h.set (hw i (List.mem_cons_self ..) (.inl h6)) (true,rget e i.a.toNat) (by simp)
   exact run_do this he hl
  rw[if_neg h6,if_neg h6]
  by_cases h7:i.kind=7
  ·
   rw[if_pos h7,if_pos h7,put_false h.s]
   have:=h.set (hw i (List.mem_cons_self ..) (.inr h7)) (false,0) (by simp)
   exact run_do this he hl
  rw[if_neg h7,if_neg h7]
  by_cases h8:i.kind=8
  ·
   rw[if_pos h8,if_pos h8];exact run_do h he hl
  rw[if_neg h8,if_neg h8]
  by_cases h9:rget e i.a.toNat < 0
  ·
   rw[if_pos h9,if_pos h9]
   exact⟨rfl,fun _=>rfl,fun hf=>by simp[bustE]at hf⟩
  ·
   rw[if_neg h9,if_neg h9];exact run_do h he hl
theorem plain_do {r:List Pair}{d:Deed}(hs:Srt Pair.key r) (hw:∀ i∈d.code,(i.kind=6∨i.kind=7)→i.key∈d.writes):plainD r d=doD r d:=by
 obtain⟨h1,h2,h3⟩:=run_do (r:=r) (W:=d.writes) (l:=d.code) (sk:=0) (m:=[]) (e:=done0) (now:=r) ⟨hs,fun k=>rfl,fun k c h=>by simp[mG]at h,fun k c h=>by simp[mG]at h⟩ rfl hw
 unfold plainD doD
 refine Prod.ext ?_ h1
 dsimp only
 unfold runC
 by_cases hf:(runM (RF.get r) d).2.failed=true
 ·
  rw[if_pos hf]
  have hf':(doGo r 0 r done0 d.code).2.failed=true:=by rw[← h1];exact hf
  rw[h2 hf'];rfl
 ·
  rw[if_neg hf]
  have hf':(doGo r 0 r done0 d.code).2.failed=false:=by rw[← h1];exact Bool.eq_false_iff.2 hf
  have h:=h3 hf'
  refine get_ext (appC_srt hs) h.s fun k=>?_
  rw[appC_get hs,h.a k]
  by_cases hk:k∈d.writes
  ·
   rw[if_pos hk];rfl
  ·
   rw[if_neg hk]
   unfold chAt
   cases hm:mG (runGo (RF.get r) 0 [] done0 d.code).1 k with
   |none=>rfl
   |some c=>exact absurd (h.w k c hm) hk
theorem doD_srt {r:List Pair}{d:Deed}(hs:Srt Pair.key r) (hw:∀ i∈d.code,(i.kind=6∨i.kind=7)→i.key∈d.writes):Srt Pair.key (doD r d).1:=by
 rw[← plain_do hs hw];exact appC_srt hs
theorem isIn_true {s:Str}:∀ {l:List Str},isIn l s=true→s∈l
 | [],h=>by cases h
 |x::l,h=>by
  simp only[isIn]at h
  by_cases hx:x=s
  ·
   rw[hx];exact List.mem_cons_self ..
  ·
   rw[if_neg hx]at h
   exact List.mem_cons_of_mem _ (isIn_true h)
theorem wrongIns_keyed {d:Deed}{m:Int}{i:Ins}(h:wrongIns d m i=0) (hk:i.kind=6∨i.kind=7):i.key∈d.writes:=by
 unfold wrongIns at h
 have hkk:¬ (i.kind < 1∨9 < i.kind):=by omega
 rw[if_neg hkk]at h
 have hh:has i.kind.toNat 107=true:=by rcases hk with e|e <;> rw[e] <;> decide
 split at h
 ·
  simp at h
 ·
  rw[if_neg (by rw[hh];simp),if_neg (show ¬ i.kind=1 by omega)]at h
  split at h
  ·
   next hi=>exact isIn_true hi
  ·
   simp at h
theorem wrong_keyed {d:Deed}(h:wrongDeed d=0):∀ i∈d.code,(i.kind=6∨i.kind=7)→i.key∈d.writes:=by
 intro i hi
 unfold wrongDeed at h
 by_cases h0:lsGo [d.reads,d.writes]=0
 ·
  rw[if_pos h0]at h
  by_cases hc:12 < d.code.length
  ·
   rw[if_pos hc]at h;simp at h
  ·
   rw[if_neg hc]at h
   obtain⟨j,hj⟩:=List.getElem?_of_mem hi
   exact wrongIns_keyed (codeGo_mem h j i hj)
 ·
  rw[if_neg h0]at h;exact absurd h h0
end Go.Proofs.Ytfpkamiobdkcpaa
namespace Go.AX
open Go.RowKit
variable {cx:Cx}{g:Nat→Value}{σ σ':St}{a:Act}{w w':World}{nx:Nat}{c:Code}{Q:Exit→St→Prop}
variable {ty:TypeId}{pos:String}{af:Array Edge}{gd:Option (Nat×Bool)}{d:Nat}
inductive Part where
 |d (x:D)
 |own (e k:Nat) (rows:List (List D))
def withL (own:Nat→Prop) (ps:List Part) (cs:Array Value):Nat→Prop:=fun b=>own b∨∃ j e k rows,ps[j]? = some (.own e k rows)∧blk (cs.getD j undef)=some b
structure PartsAt (w:World) (base:Nat) (own:Nat→Prop) (ps:List Part) (cs:Array Value):Prop where
 size:cs.size=ps.length
 one:∀ (j:Nat) (c:Value),cs[j]? = some c→c.oneCell'=true
 data:∀ j x,ps[j]? = some (.d x)→Rd w (withL own ps cs) (cs.getD j undef) x
 rows:∀ j e k rows,ps[j]? = some (.own e k rows)→RowsAt w base (withL own ps cs) e k (cs.getD j undef) rows
 sep:∀ j j' e k rows e' k' rows' b,ps[j]? = some (.own e k rows)→ps[j']? = some (.own e' k' rows')→blk (cs.getD j undef)=some b→blk (cs.getD j' undef)=some b→j=j'
structure FnNews (P:Program) (f:FuncId) (args:List Arg) (ps:List Part):Prop where
 run : ∃ fn, P.funcs[f]? = some fn ∧ (fn.name == "runtime.NumGoroutine") = false ∧ fn.body.isNone = false
 calls:∀ (w:World) (own:Nat→Prop) (vs:List Value),((∀ b,own b→b < w.heap.size)∧Gl P w)→ArgsOk w own vs args →
  Calls P f vs.toArray w fun r w'=>∃ cs,r = .returned (.agg cs)∧Below w.heap.size w w'∧PartsAt w' w.heap.size own ps cs
inductive PartE (σ:St):AV→Part→Prop
 |d {x:D}:PartE σ (.d x) (.d x)
 |own {id n e k:Nat} {rows:List (List D)} (ho:get σ (.o id) = .ob (.arr e k rows)) (hn:n=rows.length):PartE σ (.own id n) (.own e k rows)
def ids:List AV→List Nat
 | []=>[]
 |.own id _::r=>id::ids r
 |_::r=>ids r
inductive PartsL (σ:St):List AV→List Part→Prop
 |nil:PartsL σ [] []
 |cons {av:AV} {p:Part} {avs:List AV} {ps:List Part} (h:PartE σ av p) (t:PartsL σ avs ps):PartsL σ (av::avs) (p::ps)
theorem PartsL.at {avs:List AV}{ps:List Part}(h:PartsL σ avs ps):avs.length=ps.length∧∀ (j:Nat) (p:Part),ps[j]? = some p→∃ av:AV,avs[j]? = some av∧PartE σ av p:=by
 induction h with
 |nil=>exact⟨rfl,fun j p h=>by simp at h⟩
 |cons h t ih =>
  refine⟨by simp[ih.1],fun j p hj=>?_⟩
  cases j with
  |zero=>simp at hj;subst hj;exact⟨_,rfl,h⟩
  |succ j=>simpa using ih.2 j p (by simpa using hj)
theorem ids_mem {id n:Nat}:∀ {avs:List AV}{j:Nat},avs[j]? = some (.own id n)→id∈ids avs
 |x::avs,0,h=>by
  obtain rfl:x = .own id n:=by simpa using h
  exact List.mem_cons_self ..
 |x::avs,j+1,h=>by
  have:=ids_mem (avs:=avs) (j:=j) (by simpa using h)
  cases x <;> simp[ids,this]
theorem ids_inj {id n m:Nat}:∀ {avs:List AV}{i j:Nat},(ids avs).Nodup→avs[i]? = some (.own id n)→avs[j]? = some (.own id m)→i=j
 |x::avs,0,0,_,_,_=>rfl
 |x::avs,0,j+1,h,hi,hj=>by
  obtain rfl:x = .own id n:=by simpa using hi
  simp only[ids,List.nodup_cons]at h
  exact absurd (ids_mem (by simpa using hj)) h.1
 |x::avs,i+1,0,h,hi,hj=>by
  obtain rfl:x = .own id m:=by simpa using hj
  simp only[ids,List.nodup_cons]at h
  exact absurd (ids_mem (by simpa using hi)) h.1
 |x::avs,i+1,j+1,h,hi,hj=>by
  have h':(ids avs).Nodup:=by
   cases x <;> simp only[ids,List.nodup_cons]at h <;> first|exact h.2|exact h
  exact congrArg (· + 1) (ids_inj (n:=n) (m:=m) h' (by simpa using hi) (by simpa using hj))
theorem parts_at (hs:SimG cx σ a w g nx) {avs:List AV}{ps:List Part}{v:Value}(hr:Rep cx g σ w v (.agg avs)) (hp:PartsL σ avs ps) (hn:(ids avs).Nodup):∃ cs,v = .agg cs∧PartsAt w cx.w0.heap.size cx.own0 ps cs:=by
 obtain⟨cs,h1,h2,h3,h4⟩:=hr
 obtain⟨hl,hat⟩:=hp.at
 refine⟨cs,h1,?_⟩
 have hc:∀ j p,ps[j]? = some p→∃ av,avs[j]? = some av∧PartE σ av p∧Rep1 cx g σ w (cs.getD j undef) av:=fun j p hj=>by
  obtain⟨av,h5,h6⟩:=hat j p hj
  have hlt:j < cs.size:=by rw[h2];exact(List.getElem?_eq_some_iff.1 h5).1
  have h7:cs[j]? = some cs[j]:=Array.getElem?_eq_getElem hlt
  refine⟨av,h5,h6,?_⟩
  rw[Array.getD_eq_getD_getElem?,h7]
  exact h4 j _ av h5 h7
 have hown:∀ j e k rows,ps[j]? = some (.own e k rows)→∃ id n,avs[j]? = some (.own id n)∧cs.getD j undef=g id∧get σ (.o id) = .ob (.arr e k rows):=fun j e k rows hj=>by
  obtain⟨av,h5,h6,h7⟩:=hc j _ hj
  cases h6 with
  |@own id n _ _ _ ho hn=>exact⟨id,n,h5,(h7.2 e k rows ho).2 hn,ho⟩
 have hle:∀ b,withL cx.own0 ps cs b→cx.own g σ b:=fun b hb=>by
  rcases hb with hb|⟨j,e,k,rows,hj,hb⟩
  ·
   exact .inl hb
  ·
   obtain⟨id,n,_,h6,h7⟩:=hown j e k rows hj
   exact .inr ⟨id,_,h7,by rw[← h6];exact hb⟩
 refine⟨by rw[h2,hl],h3,fun j x hj=>?_,fun j e k rows hj=>?_,fun j j' e k rows e' k' rows' b hj hj' hb hb'=>?_⟩
 ·
  obtain⟨av,h5,h6,h7⟩:=hc j _ hj
  cases h6 with
  |d=>exact Rd.less hle h7
 ·
  obtain⟨id,n,_,h6,h7⟩:=hown j e k rows hj
  rw[h6]
  exact(objRows hs h7).re (fun b hb=>obj_ge hs h7 hb) hle
 ·
  obtain⟨id,n,h5,h6,h7⟩:=hown j e k rows hj
  obtain⟨id',n',h5',h6',h7'⟩:=hown j' e' k' rows' hj'
  obtain rfl:=hs.sep id id' _ _ b h7 h7' (by rw[← h6];exact hb) (by rw[← h6'];exact hb')
  exact ids_inj hn h5 h5'
inductive RetNews (T:Tbl) (σ:St) (ps:List Part):ResultVar→Prop
 |tmp {t:Nat} {avs:List AV} (h:get σ (.s t) = .av (.agg avs)) (hp:PartsL σ avs ps) (hn:(ids avs).Nodup):RetNews T σ ps (.tmp t)
 |cell {s t id:Nat} {cells avs:List AV} {ti:TI} (h:get σ (.s s) = .av (.ptr id 0)) (ho:get σ (.o id) = .ob (.box cells)) (ht:tget T t=some ti)
   (hl:ldA ti cells=some (.agg avs)) (hp:PartsL σ avs ps) (hn:(ids avs).Nodup):RetNews T σ ps (.cell s t)
theorem RetNews.ok (hs:SimG cx σ a w g nx) {rv:ResultVar}{ps:List Part}(h:RetNews cx.T σ ps rv):∃ cs,(rvRun a.tmps rv).run cx.P w = .ok (.agg cs) w∧PartsAt w cx.w0.heap.size cx.own0 ps cs:=by
 cases h with
 |@tmp t avs h hp hn =>
  obtain⟨cs,h1,h2⟩:=parts_at hs (hs.slots t _ h).1 hp hn
  exact⟨cs,by rw[← h1];rfl,h2⟩
 |@cell s t id cells avs ti h ho ht hl hp hn =>
  obtain⟨v,h1,h2,_⟩:=load_ptr hs (x:=a.tmps.getD s undef) (off:=0) (hs.slots s _ h).1 ho ht (by simpa using hl)
  obtain⟨b,hg,hv⟩:=(hs.slots s _ h).1.2 cells ho
  obtain⟨cs,rfl,h3⟩:=parts_at hs h2 hp hn
  refine⟨cs,?_,h3⟩
  rw[hv]at h1
  simp only[rvRun,hv,asAddr,Sem.run_bind,Sem.run_pure,Result.andThen_ok]
  simpa[Instr.loadAt,Instr.sureAddr] using h1
def Part.dt:Part→D
 |.d x=>x
 |.own _ k rows => .sl k rows
theorem FnNews.ok {P:Program}{f:FuncId}{args:List Arg}{ps:List Part}(h:FnNews P f args ps):FnOk P f args (.one (.agg (ps.map Part.dt))):=by
 refine⟨h.run,fun w own vs hown ha=>(h.calls w own vs hown ha).mono fun r w' hr=>?_⟩
 obtain⟨cs,rfl,h1,h2⟩:=hr
 refine⟨.agg cs,rfl,h1,?_⟩
 refine .agg cs _ (by rw[h2.size,List.length_map]) h2.one fun j x c hj hc=>?_
 rw[List.getElem?_map]at hj
 cases hp:ps[j]? with
 |none=>rw[hp]at hj;cases hj
 |some p =>
  rw[hp]at hj
  simp at hj;subst hj
  have hcd:cs.getD j undef=c:=by rw[Array.getD_eq_getD_getElem?,hc];rfl
  cases p with
  |d x =>
   have:=h2.data j x hp
   rw[hcd]at this
   exact this.less fun b hb => .inl hb
  |own e k rows =>
   have:=h2.rows j e k rows hp
   rw[hcd]at this
   refine this.rd fun b hb=>⟨.inl hb,fun he=>?_⟩
   have:=(this.lt he).1
   have:=hown.1 b hb
   omega
end Go.AX
namespace Go.AX
open Go.RowKit
variable {cx:Cx}{g:Nat→Value}{σ:St}{a:Act}{w:World}{nx:Nat}
variable {ty:TypeId}{pos:String}{af:Array Edge}{gd:Option (Nat×Bool)}{d:Nat}
theorem app_core {t e k id:Nat}{x y:Operand}{rows rows2:List (List D)}{ti te:TI}{K:Act→World→Prop}{Q:Exit→Act→World→Prop}(hs:SimG cx σ a w g nx) (hn:d < cx.n) (hv:a.eval x=g id) (hy':Rd w (cx.own g σ) (a.eval y) (.sl k rows2)) (ht:tget cx.T t=some ti) (hk:ti.kind = .sl e k)
  (hte:tget cx.T e=some te) (hby:te.bytes≤65536) (ho:get σ (.o id) = .ob (.arr e k rows)) (hlen:rows.length+rows2.length≤1073741824)
  (hK:∀ a' w',Sim cx ([(.s d,.av (.own id (rows.length+rows2.length))),(.o id,.ob (.arr e k (rows++rows2)))]++σ) a' w'→K a' w') :
  (⟨some d,.call { callee := .builtin .append,args := #[x,y],argTypes := #[t,t] },ty,pos,af,gd⟩:Oper).wp cx.P a w K Q:=by
 obtain⟨hid,⟨xs,h1,h2,h3,h4⟩,_⟩:=hs.objs id _ ho
 have hF:=(cx.hT t ti ht).kind
 rw[hk]at hF
 obtain⟨hu,⟨ie,hie,hks⟩,hk0,_⟩:=hF
 obtain⟨ie',hie',hes,heb,z,hz,hzc⟩:=(cx.hT e te hte).info
 rw[hie]at hie'
 cases hie'
 have hzl:z.cells.size=k:=by
  have:=(cx.hT e te hte).len
  rw[← hzc]at this
  simp at this
  omega
 have hrunS:∀ (v':Value) (w':World),(Builtin.append_ #[t,t] ty #[g id,a.eval y]).run cx.P w = .ok v' w' →
   (execOp a.eval ⟨some d,.call { callee := .builtin .append,args := #[x,y],argTypes := #[t,t] },ty,pos,af,gd⟩).run cx.P w = .ok (.value v') w':=by
  intro v' w' h
  simp[execOp,resolve,invoke,builtin,hv,h]
 by_cases hne:rows2=[]
 ·
  subst hne
  have hyv:∃ p c,a.eval y = .slice p 0 c:=by
   generalize a.eval y=v at hy'
   generalize hD:D.sl k []=D0 at hy'
   cases hy' with
   |v=>cases hD
   |x=>cases hD
   |agg=>cases hD
   |nil p c=>exact⟨p,c,rfl⟩
   |sl ad cap=>cases hD;exact⟨_,cap,rfl⟩
  obtain⟨p,c,hyv⟩:=hyv
  have hrun:=hrunS (g id) w (by rw[hyv];exact append_nothing hu hie h1)
  refine wp_val rfl hrun (hK _ _ (Sim.eqv (Sim.put hs hn (Below.refl _ _) (av := .own id (rows.length+0)) ⟨.of ho,fun e' k' rows' hg=>?_⟩ hid) fun q=>?_))
  ·
   rw[ho]at hg
   cases hg
   exact⟨Nat.le_refl _,fun _=>rfl⟩
  ·
   cases q with
   |s i =>
    by_cases hi:i=d
    ·
     subst hi;rw[get_cons_same];exact get_cons_same.symm
    ·
     rw[get_cons_ne (by simpa using fun e=>hi e.symm)]
     exact((get_cons_ne (by simpa using fun e=>hi e.symm)).trans (get_cons_ne (by simp))).symm
   |o i =>
    rw[get_cons_ne (by simp)]
    by_cases hi:i=id
    ·
     subst hi
     rw[ho]
     exact((get_cons_ne (by simp)).trans (get_cons_same.trans (by rw[List.append_nil]))).symm
    ·
     exact((get_cons_ne (by simp)).trans (get_cons_ne (by simpa using fun e=>hi e.symm))).symm
   |nx=>rw[get_cons_ne (by simp)];exact((get_cons_ne (by simp)).trans (get_cons_ne (by simp))).symm
 ·
  obtain⟨ad,c,news,hyv,hnl,hnc,hn1,hnr⟩:=sl_cells hy' hne
  have hbytes:(rows.length+rows2.length)*te.bytes≤140737488355328:=Nat.le_trans (Nat.mul_le_mul hlen hby) (by decide)
  obtain⟨v',w',hrun0,hown,hgr,_,hat⟩:=run_append_own_at (P:=cx.P) w cx.w0.heap.size t ty e ie z k te.bytes hu hie hz hks heb hzl hk0 (g id) rows.length xs h1 ad rows2.length c news hnl hnc hn1 (by simp only[maxLen];omega) hbytes hs.below.size
  have hrun:=hrunS v' w' (by rw[hyv];exact hrun0)
  have hlen2:0 < rows2.length:=List.length_pos_iff.2 hne
  have hgb:∀ b,blk (g id)=some b↔(g id).ownBlock=some b:=fun b=>by rw[blk_own h1]
  have hst:ObjStep cx σ g nx nx w w' id (.arr e k (rows++rows2)) v':=by
   refine⟨.inr ⟨rfl,_,ho,rfl,rfl,by simp,fun h=>?_⟩,?_,fun b hb hno=>?_,fun b hb=>?_⟩
   ·
    rw[List.length_append]at h;omega
   ·
    exact(Below.refl _ _).grown hgr hs.below.size fun q hq=>obj_ge hs ho (by rw[hgb];exact hq)
   ·
    exact hgr.block b hb fun e=>hno _ ho (by rw[hgb];exact e.symm)
   ·
    have hb':v'.ownBlock=some b:=by rw[← blk_own hown];exact hb
    rcases hat with h|h
    ·
     exact .inl ⟨_,ho,by rw[hgb,← h];exact hb'⟩
    ·
     rw[h]at hb'
     right
     simp at hb'
     omega
  have hG:=SimG.obj hs hst (fun hl=>⟨xs++news,by rw[upd_same,List.length_append];exact hown,fun u hu=>?_,fun r hr'=>?_,fun i j r q u hi hj hu=>?_⟩) trivial
  ·
   refine wp_val rfl hrun (hK _ _ (Sim.eqv (Sim.put hG hn (Below.refl _ _) (av := .own id (rows.length+rows2.length)) ⟨.of get_cons_same,fun e' k' rows' hg=>?_⟩ hid) fun q=>?_))
   ·
    rw[get_cons_same]at hg
    cases hg
    exact⟨by simp,fun _=>(upd_same _ _ _).symm⟩
   ·
    cases q with
    |s i =>
     by_cases hi:i=d
     ·
      subst hi;rw[get_cons_same];exact get_cons_same.symm
     ·
      rw[get_cons_ne (by simpa using fun e=>hi e.symm),objSt_s]
      exact((get_cons_ne (by simpa using fun e=>hi e.symm)).trans (get_cons_ne (by simp))).symm
    |o i =>
     rw[get_cons_ne (by simp)]
     by_cases hi:i=id
     ·
      subst hi
      rw[get_cons_same]
      exact((get_cons_ne (by simp)).trans get_cons_same).symm
     ·
      rw[objSt_o hi]
      exact((get_cons_ne (by simp)).trans (get_cons_ne (by simpa using fun e=>hi e.symm))).symm
    |nx =>
     rw[get_cons_ne (by simp),objSt_nx]
     exact(((get_cons_ne (by simp)).trans (get_cons_ne (by simp))).trans hs.hnx).symm
  ·
   rcases List.mem_append.1 hu with hu|hu
   ·
    exact h2 u hu
   ·
    exact hn1 u hu
  ·
   rcases List.mem_append.1 hr' with hr'|hr'
   ·
    exact h3 r hr'
   ·
    exact sl_k hy' r hr'
  ·
   rcases Nat.lt_or_ge i rows.length with hil|hil
   ·
    rw[List.getElem?_append_left hil]at hi
    have hjk:j < k:=by
     have:=(List.getElem?_eq_some_iff.1 hj).1
     rw[h3 r (List.mem_of_getElem? hi)]at this
     exact this
    have hlt:i*k+j < xs.length:=by
     rw[h1.1]
     have h5:(i+1)*k≤rows.length*k:=Nat.mul_le_mul_right _ hil
     rw[Nat.add_mul,Nat.one_mul]at h5
     omega
    rw[List.getElem?_append_left hlt]at hu
    exact(h4 i j r q u hi hj hu).step hl.ext hl.own
   ·
    rw[List.getElem?_append_right hil]at hi
    have he:i*k+j=xs.length+((i - rows.length)*k+j):=by
     rw[h1.1,Nat.sub_mul]
     have:rows.length*k≤i*k:=Nat.mul_le_mul_right _ hil
     omega
    rw[he,List.getElem?_append_right (by omega),Nat.add_sub_cancel_left]at hu
    exact(hnr _ j r q u hi hj hu).step hl.ext hl.own
theorem a_appnil {t e k:Nat}{y:Operand}{rows2:List (List D)}{ti te:TI}(hnx:get σ .nx = .num nx) (hy:ev σ y=some (.d (.sl k rows2))) (ht:tget cx.T t=some ti) (hk:ti.kind = .sl e k)
  (hte:tget cx.T e=some te) (hby:Nat.ble te.bytes 65536=true) (hd:Nat.blt d cx.n=true) (hlen:rows2.length≤1073741824) :
  OA cx σ ⟨some d,.call { callee := .builtin .append,args := #[.const nilS,y],argTypes := #[t,t] },ty,pos,af,gd⟩
   ⟨(.nx,.num nx)::rdOf y (.d (.sl k rows2)),[(.s d,.av (.own nx rows2.length)),(.o nx,.ob (.arr e k rows2)),(.o nx,.ob (.arr e k [])),(.nx,.num (nx+1))]⟩:=by
 refine⟨?_,hnx,(ev_out hy).2⟩
 rintro σ a w K Q ⟨g,n',hs⟩ hr hK
 have hnx:n'=nx:=by
  have h2:=hr.1
  rw[hs.hnx]at h2
  simpa using h2
 subst hnx
 have hG:=newArr (w':=w) (hv:=nilS) (e:=e) (k:=k) hs (Below.refl _ _) (fun b hb=>by simp[blk]at hb) (World.ownsRow_nil w _ e k)
 have hy':Rd w (cx.own g σ) (a.eval y) (.sl k rows2):=(hs.ev (ev_out hy).1 hr.2).1
 have hle:∀ b,cx.own (upd g n' nilS) (objSt σ (n'+1) n' (.arr e k [])) b→cx.own g σ b:=by
  rintro b (h|⟨j,o,h1,h2⟩)
  ·
   exact .inl h
  ·
   by_cases hj:j=n'
   ·
    subst hj;rw[upd_same]at h2;simp[blk]at h2
   ·
    rw[objSt_o hj]at h1
    rw[upd_ne hj]at h2
    exact .inr ⟨j,o,h1,h2⟩
 have:=app_core (ty:=ty) (pos:=pos) (af:=af) (gd:=gd) (x := .const nilS) (K:=K) (Q:=Q) (rows:=[]) hG (lt_of_blt hd) (by rw[upd_same];rfl) (hy'.less hle) ht hk hte (by simpa using hby) get_cons_same (by simpa using hlen) fun a' w' h=>hK a' w' ?_
 ·
  exact this
 ·
  simpa using h
end Go.AX
namespace Go.Proofs.Ytfpkamiobdkcpaa
open Go.AX Go.RF Go.RowKit
set_option maxRecDepth 100000
set_option maxHeartbeats 8000000
theorem ok_viewR (r:List Pair) (k:Str) (hl:r.length≤268435456) (hs:Srt Pair.key r):FnOk Try.prog 38 [.d (dstr k),.pd [encRows r]] (.tup [dint (RF.get r k).1,dbool (RF.get r k).2]):=by
 refine fnOk_of tbl_ok mixed_ok Try.func38 rfl (by kernel_rfl) rfl rfl fun w0 own0=>?_
 have c1:=ok_pget r k hl hs
 try refine wk ?_
 exact .two (.tmp rfl (.one (.d (.refl _)))) (.tmp rfl (.one (.d (.refl _))))
theorem wrong_reads {d:Deed}(h:wrongDeed d=0):∀ i∈d.code,i.kind=1→i.key∈d.reads:=by
 intro i hi hk
 unfold wrongDeed at h
 by_cases h0:lsGo [d.reads,d.writes]=0
 ·
  rw[if_pos h0]at h
  by_cases hc:12 < d.code.length
  ·
   rw[if_pos hc]at h;simp at h
  ·
   rw[if_neg hc]at h
   obtain⟨j,hj⟩:=List.getElem?_of_mem hi
   have h:=codeGo_mem h j i hj
   unfold wrongIns at h
   rw[if_neg (show ¬ (i.kind < 1∨9 < i.kind) by omega)]at h
   have hh:has i.kind.toNat 107=true:=by rw[hk];decide
   split at h
   ·
    simp at h
   ·
    simp only[hh,hk,Bool.true_eq_false,if_false,if_true]at h
    rw[if_neg (show ¬ has (Int.toNat 1) 107=false by decide)]at h
    by_cases hi:isIn d.reads i.key=true
    ·
     exact isIn_true hi
    ·
     rw[if_neg hi]at h;simp at h
 ·
  rw[if_neg h0]at h;exact absurd h h0
theorem ok_pdo (r:List Pair) (d:Deed) (hl:r.length≤134217728) (hs:Srt Pair.key r) (hr:rowsOk r) (hw:wrongDeed d=0) :
  FnOk Try.prog 27 [.d (encRows r),.d (.agg d.enc)] (.tup [encRows (doD r d).1,.agg (doD r d).2.enc]):=by
 refine fnOk_of tbl_ok mixed_ok Try.func27 rfl (by kernel_rfl) rfl rfl fun w0 own0=>?_
 have ho:=wrongDeed_ok hw
 have cr:=ok_run 38 [refD [encRows r]] [.pd [encRows r]] (RF.get r) d (.ref .nil) (fun k _=>ok_viewR r k (by omega) hs) (fun k _=>get_ok hr k) (by have:=ho.c;omega) (by have:=ho.w;omega) ho.i (wrong_reads hw)
 have hplain:=plain_do hs (wrong_keyed hw)
 rw[← hplain]
 have hcl:(runC (RF.get r) d).length≤5:=by
  unfold runC
  split
  ·
   simp
  ·
   exact Nat.le_trans (chg_len _ _) ho.w
 unfold plainD
 generalize hch:runC (RF.get r) d=ch at hcl
 unfold runRes at cr
 rw[hch]at cr
 generalize (runM (RF.get r) d).2=e at cr
 have hst0:StopR 1:=⟨rfl⟩
 try refine wkS ?_
 clear hst0
 refine Stop.go (CW.stut (stut_freezebox (i:=2) (id:=0) (ds:=[encRows r]) rfl) ⟨rfl,rfl,trivial⟩ ?_)
 have hst0:StopR 2:=⟨rfl⟩
 repeat(first|refine waS ?_|((with_reducible apply s5);(first|((with_reducible apply(a_mkfn (ds:=[refD [encRows r]])));exact rfl;apply SubsE.cons;exact rfl;exact .d (.refl _);exact trivial;exact SubsE.nil)|exact by_oa|exact by_ca);exact by_g)|refine wb ?_)
 clear hst0
 refine Stop.go (CW.stut (stut_refpd (i:=2)) ⟨rfl,trivial⟩ ?_)
 have hst0:StopA 3:=⟨rfl⟩
 repeat(first|refine waS ?_|((with_reducible apply s5);(first|((with_reducible apply a_appnil);(iterate 7 exact rfl);(focus first|omega|(simp;done)|(simp;omega)))|exact by_oa|exact by_ca);exact by_g)|refine wb ?_)
 clear hst0
 refine Stop.go (CW.stut (stut_freeze (i:=9) (id:=4) (by simp[encRows])) ⟨rfl,rfl,trivial⟩ ?_)
 try refine wk ?_
 refine CW.loopT (fun t:Nat×List Pair=>[sd 4 (.v nilS),sp 5 2,ob 2 done0.enc,sp 6 3,ob 3 e.enc,sd 7 (encVs (ch.map chVer)),sd 8 (encStrs (ch.map (·.1))),sd 9 (encRows t.2),sd 21 (encVs (ch.map chVer)),sd 22 (dint (ch.map chVer).length),sd 23 (dint t.1),nxt 4])
  (fun t=>t.1≤ch.length∧t.2.length≤r.length+t.1∧Srt Pair.key t.2∧appC t.2 (ch.drop t.1)=appC r ch) (fun t=>ch.length - t.1) (0,r) ⟨by omega,by simp,hs,rfl⟩ ?_ ?_
 ·
  exact by_less
 ·
  rintro ⟨j,out⟩ ⟨hj,hol,hos,hJ⟩
  dsimp only at hj hol hos hJ ⊢
  rcases drop_case hj with ⟨h1,h2⟩|⟨c,h1,h2,h3⟩
  ·
   rw[h1,appC]at hJ
   try refine wk ?_
   rw[← hJ]
   exact .two (.tmp rfl (.one (.d (.refl _)))) (.cell rfl rfl rfl rfl (.aggd rfl (.refl _)))
  ·
   rw[h1,appC]at hJ
   obtain⟨k,b,n⟩:=c
   have h4:(ch.map chVer)[j]? = some (chVer (k,b,n)):=by rw[List.getElem?_map,h2];rfl
   have h5:(ch.map (·.1))[j]? = some k:=by rw[List.getElem?_map,h2];rfl
   have hal:=app1_len out k (b,n)
   cases b with
   |true =>
    have c1:=ok_pput out k n (by omega) hos
    try refine wk ?_
    refine q_loopT (j+1,putS k n out) ⟨by dsimp only;omega,by dsimp only;unfold app1 at hal;rw[if_pos rfl]at hal;dsimp only at hal;omega,putS_srt hos,hJ⟩ (by dsimp only;omega) ?_
    exact by_less
   |false =>
    have c1:=ok_pdrop out k (by omega) hos
    repeat(first|refine wa ?_|((with_reducible apply s5);(first|exact a_call c1 rfl by_sub|exact by_oa|exact by_ca);exact by_g)|refine wb ?_)
    refine q_loopT (j+1,dropS k out) ⟨by dsimp only;omega,by dsimp only;have:=dropS_len (k:=k) out;omega,dropS_srt hos,hJ⟩ (by dsimp only;omega) ?_
    exact by_less
theorem allD_append:∀ {l:List Deed}{r:List Pair},(allD r l).2.length=l.length
 | [],r=>rfl
 |d::l,r=>by simp[allD,allD_append (l:=l)]
theorem ok_pall (r:List Pair) (l:List Deed) (hl:r.length≤1048576) (hll:l.length≤1048576) (hs:Srt Pair.key r) (hr:rowsOk r) (hw:∀ d∈l,wrongDeed d=0) :
  FnOk Try.prog 29 [.d (encRows r),.d (encDeeds l)] (.tup [encRows (allD r l).1,encEnds (allD r l).2]):=by
 refine fnOk_of tbl_ok mixed_ok Try.func29 rfl (by kernel_rfl) rfl rfl fun w0 own0=>?_
 have hst0:StopA 3:=⟨rfl⟩
 repeat(first|refine waS ?_|((with_reducible apply s5);(first|((with_reducible apply a_appnil);(iterate 7 exact rfl);(focus first|omega|(simp;done)|(simp;omega)))|exact by_oa|exact by_ca);exact by_g)|refine wb ?_)
 clear hst0
 refine Stop.go (CW.stut (stut_freeze (i:=6) (id:=0) (by simp)) ⟨rfl,rfl,trivial⟩ ?_)
 refine CW.stut (stut_promote (i:=7) 57 5) ⟨rfl,rfl,trivial⟩ ?_
 try refine wk ?_
 refine CW.loopT (fun t:Nat×List Pair×List Done=>[sd 4 (.v nilS),sd 5 (.v nilS),sd 6 (encRows t.2.1),so 7 1 t.2.2.length,oa 1 57 5 (t.2.2.map Done.enc),sd 14 (encDeeds l),sd 15 (dint l.length),sd 16 (dint t.1),nxt 2])
  (fun t=>t.1≤l.length∧t.2.2.length≤t.1∧t.2.1.length≤r.length+12*t.1∧Srt Pair.key t.2.1∧rowsOk t.2.1∧(allD t.2.1 (l.drop t.1)).1=(allD r l).1∧t.2.2++(allD t.2.1 (l.drop t.1)).2=(allD r l).2) (fun t=>l.length - t.1) (0,r,[]) ⟨by omega,by simp,by simp,hs,hr,rfl,rfl⟩ ?_ ?_
 ·
  exact by_less
 ·
  rintro ⟨j,out,es⟩ ⟨hj,hes,hol,hos,hor,hJ1,hJ2⟩
  dsimp only at hj hes hol hos hor hJ1 hJ2 ⊢
  rcases drop_case hj with ⟨h1,h2⟩|⟨c,h1,h2,h3⟩
  ·
   rw[h1]at hJ1 hJ2
   simp only[allD,List.append_nil]at hJ1 hJ2
   try refine wk ?_
   rw[← hJ1,← hJ2]
   exact .two (.tmp rfl (.one (.d (.refl _)))) (.tmp rfl (.one (.own rfl (by simp) (.refl _))))
  ·
   rw[h1]at hJ1 hJ2
   simp only[allD]at hJ1 hJ2
   have hwc:=hw c (List.mem_of_getElem? h2)
   have c1:=ok_pdo out c (by omega) hos hor hwc
   have hlen:=doD_len out c
   have hwl:=(wrongDeed_ok hwc).c
   have hd1:=doD_srt hos (wrong_keyed hwc)
   have hd2:=doD_ok hor (wrongDeed_ok hwc)
   generalize doD out c=q at c1 hlen hd1 hd2 hJ1 hJ2
   obtain⟨q1,q2⟩:=q
   dsimp only at c1 hlen hd1 hd2 hJ1 hJ2
   try refine wk ?_
   refine q_loopT (j+1,q1,es++[q2]) ⟨by dsimp only;omega,by dsimp only;simp;omega,by dsimp only;omega,hd1,hd2,hJ1,by rw[← hJ2];simp⟩ (by dsimp only;omega) ?_
   exact by_less
end Go.Proofs.Ytfpkamiobdkcpaa
namespace Go.Proofs.Ytfpkamiobdkcpaa
open Go.AX Go.RF
set_option maxRecDepth 100000
set_option maxHeartbeats 8000000
theorem ok_all (r:List Pair) (l:List Deed) (hl:r.length≤1048576) (hll:l.length≤1048576) (hr:rowsOk r) (hw:∀ d∈l,Deed.Ok d) :
  FnOk Try.prog 30 [.d (encRows r),.d (encDeeds l)] (.tup [encRows (allD r l).1,encEnds (allD r l).2]):=by
 refine fnOk_of tbl_ok mixed_ok Try.func30 rfl (by kernel_rfl) rfl rfl fun w0 own0=>?_
 have hst0:StopA 2:=⟨rfl⟩
 try refine wkS ?_
 clear hst0
 refine Stop.go (CW.stut (stut_promote (i:=6) 57 5) ⟨rfl,rfl,trivial⟩ ?_)
 try refine wk ?_
 refine CW.loopT (fun t:Nat×List Pair×List Done=>[sd 4 (.v nilS),sd 5 (.v nilS),sd 0 (encRows t.2.1),so 6 0 t.2.2.length,oa 0 57 5 (t.2.2.map Done.enc),sd 11 (encDeeds l),sd 12 (dint l.length),sd 13 (dint t.1),nxt 1])
  (fun t=>t.1≤l.length∧t.2.2.length≤t.1∧t.2.1.length≤r.length+12*t.1∧rowsOk t.2.1∧(allD t.2.1 (l.drop t.1)).1=(allD r l).1∧t.2.2++(allD t.2.1 (l.drop t.1)).2=(allD r l).2) (fun t=>l.length - t.1) (0,r,[]) ⟨by omega,by simp,by simp,hr,rfl,rfl⟩ ?_ ?_
 ·
  exact by_less
 ·
  rintro ⟨j,out,es⟩ ⟨hj,hes,hol,hor,hJ1,hJ2⟩
  dsimp only at hj hes hol hor hJ1 hJ2 ⊢
  rcases drop_case hj with ⟨h1,h2⟩|⟨c,h1,h2,h3⟩
  ·
   rw[h1]at hJ1 hJ2
   simp only[allD,List.append_nil]at hJ1 hJ2
   try refine wk ?_
   rw[← hJ1,← hJ2]
   exact .two (.tmp rfl (.one (.d (.refl _)))) (.tmp rfl (.one (.own rfl (by simp) (.refl _))))
  ·
   rw[h1]at hJ1 hJ2
   simp only[allD]at hJ1 hJ2
   have hwc:=hw c (List.mem_of_getElem? h2)
   have hwl:=hwc.c
   have c1:=ok_do out c (by omega) hor (by omega) hwc.i
   have hlen:=doD_len out c
   have hd2:=doD_ok hor hwc
   generalize doD out c=q at c1 hlen hd2 hJ1 hJ2
   obtain⟨q1,q2⟩:=q
   dsimp only at c1 hlen hd2 hJ1 hJ2
   try refine wk ?_
   refine q_loopT (j+1,q1,es++[q2]) ⟨by dsimp only;omega,by dsimp only;simp;omega,by dsimp only;omega,hd2,hJ1,by rw[← hJ2];simp⟩ (by dsimp only;omega) ?_
   exact by_less
theorem right_mem:∀ {l:List Deed},right l=true→∀ d∈l,wrongDeed d=0
 |x::l,h,d,hd=>by
  simp only[right]at h
  by_cases h0:wrongDeed x=0
  ·
   rw[if_pos h0]at h
   rcases List.mem_cons.1 hd with rfl|hd
   ·
    exact h0
   ·
    exact right_mem h d hd
  ·
   rw[if_neg h0]at h;cases h
theorem allD_len1:∀ {l:List Deed}{r:List Pair},(∀ d∈l,Deed.Ok d)→(allD r l).1.length≤r.length+12*l.length
 | [],r,_=>by simp[allD]
 |d::l,r,h=>by
  have h1:=doD_len r d
  have h2:=(h d (List.mem_cons_self ..)).c
  have:=allD_len1 (l:=l) (r:=(doD r d).1) fun x hx=>h x (List.mem_cons_of_mem _ hx)
  simp only[allD,List.length_cons]
  omega
theorem ok_PlainTells (r:List Pair) (l:List Deed) (hl:r.length≤1048576) (hlk:∀ q∈r,q.key.length≤1048576) (hll:l.length≤1048576) (hls:∀ d∈l,d.Sm) :
  FnOk Try.prog 6 [.d (encRows r),.d (encDeeds l)] (.one (dbool true)):=by
 refine fnOk_of tbl_ok mixed_ok Try.func6 rfl (by kernel_rfl) rfl rfl fun w0 own0=>?_
 have c1:=ok_wrongRows r (by omega) (fun q hq=>by have:=hlk q hq;omega)
 have c2:=ok_right l (by omega) hls
 by_cases hw:wrongRows r=0
 ·
  cases hrt:right l with
  |false =>
   rw[hrt]at c2
   try refine wk ?_
   exact .one (.tmp rfl (.one (.d (.refl _))))
  |true =>
   rw[hrt]at c2
   obtain⟨hs,_,hro⟩:=wrongRows_srt hw
   have hwd:=right_mem hrt
   have hok:∀ d∈l,Deed.Ok d:=fun d hd=>wrongDeed_ok (hwd d hd)
   have c3:=ok_pall r l (by omega) (by omega) hs hro hwd
   have c4:=ok_all r l (by omega) (by omega) hro hok
   have c5:=ok_SameRows (allD r l).1 (allD r l).1 (by have:=allD_len1 (r:=r) hok;omega)
   have c6:=ok_sameEnds (allD r l).2 (allD r l).2 (by rw[allD_append];omega)
   rw[allB_refl (by simp)]at c5 c6
   try refine wk ?_
   refine CW.loopT (fun t:Nat=>[sd 0 (encRows r),sd 1 (encDeeds l),sd 23 (encDeeds l),sd 24 (dint l.length),sd 25 (dint t),nxt 0])
    (fun t=>t≤l.length) (fun t=>l.length - t) 0 (by omega) ?_ ?_
   ·
    exact by_less
   ·
    intro j hj
    rcases drop_case hj with ⟨h1,h2⟩|⟨d,h1,h2,h3⟩
    ·
     repeat(first|refine wa ?_|((with_reducible apply s5);(first|((with_reducible apply a_bin);(iterate 2 exact rfl);(first|exact bin_bneq (by kernel_rfl)|exact bin_beql (by kernel_rfl));exact rfl)|exact by_oa|exact by_ca);exact by_g)|refine wb ?_)
     exact .one (.tmp rfl (.one (.d (.refl _))))
    ·
     have hd:=hwd d (List.mem_of_getElem? h2)
     have ho:=hok d (List.mem_of_getElem? h2)
     have hoc:=ho.c
     have c7:=ok_pdo r d (by omega) hs hro hd
     have c8:=ok_do r d (by omega) hro (by omega) ho.i
     have c9:=ok_SameRows (doD r d).1 (doD r d).1 (by have:=doD_len r d;omega)
     rw[allB_refl (by simp)]at c9
     have hne:=neq_done (doD r d).2 (doD r d).2
     rw[decide_eq_true rfl]at hne
     repeat(first|refine wa ?_|((with_reducible apply s5);(first|exact a_call c9 rfl by_sub|((with_reducible apply a_agg2);exact hne;(iterate 2 exact rfl);(first|exact .d rfl|exact .a rfl);(first|exact .d rfl|exact .a rfl);exact rfl)|((with_reducible apply a_agg);exact hne;(iterate 5 exact rfl))|exact by_oa|exact by_ca);exact by_g)|refine wb ?_)
     refine q_loopT (j+1) (by omega) (by omega) ?_
     exact by_less
 ·
  try refine wk ?_
  exact .one (.tmp rfl (.one (.d (.refl _))))
end Go.Proofs.Ytfpkamiobdkcpaa
