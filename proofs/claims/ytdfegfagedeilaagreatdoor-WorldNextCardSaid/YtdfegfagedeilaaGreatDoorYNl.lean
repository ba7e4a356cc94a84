/-
  Several texts of these walks, joined and squeezed (as templates they lie in wip/tpl): WrA WrO WrV WrF VaL VaC.
-/
import Derived.Test.YtdfegfagedeilaaGreatDoorYNk
namespace Go.Proofs.YtdfegfagedeilaaGreatDoor
section
open Go.RowKit Go.Lib Go.Maps
def bKa (o:OpM):Value:=.agg #[.bool o.1,.int .i64 o.2.1,.int .i64 o.2.2.1,.int .i64 o.2.2.2]
theorem aYm {w:World} {b:Nat} {x y z u:Value} (h:Blk w b 82 [x,y,z,u]):(loadVar 82 ⟨b,0,none⟩).run Tryz.prog w=.ok (.agg #[x,y,z,u]) w:=by
 have hr:w.rangeAt b 0 [x,y,z,u]:=fun j v hj=>(by rw[Nat.zero_add];exact h.cell j hj);exact run_loadVar_mid (P:=Tryz.prog) w b 0 82 [x,y,z,u] _ hr Tryz.underlying82 rfl (by kernel_rfl)
theorem bFm {w:World} {b:Nat} {t:TypeId} {a0 a1 a2 a3:Value} (h:Blk w b t [a0,a1,a2,a3]) (x y z u:Value):Blk ((((w.setCell ⟨b,0,none⟩ x).setCell ⟨b,1,none⟩ y).setCell ⟨b,2,none⟩ z).setCell ⟨b,3,none⟩ u) b t [x,y,z,u]:=(((h.set 0 x).set 1 y).set 2 z).set 3 u
theorem aBn {n:Nat} {a w:World} (h:Below n a w) {b:Nat} (hb:n≤b) (x y z u:Value):Below n a ((((w.setCell ⟨b,0,none⟩ x).setCell ⟨b,1,none⟩ y).setCell ⟨b,2,none⟩ z).setCell ⟨b,3,none⟩ u):=(((h.setCell hb x).setCell hb y).setCell hb z).setCell hb u
set_option maxRecDepth 100000 in
set_option maxHeartbeats 4000000 in
theorem aPz {w:World} {v:Value} {h:aI} (t k:Nat) (hv:cJ w v h) (hm:cU h) (hmm:cZ h=true) (ht:t<h.2.2.length) (hk:k<(h.2.2.getD t aM).2.2.length) (hT:Lib.Utf8Tabs 1 2 w) :
  Calls Tryz.prog 82 #[v,.agg #[.int .i64 (t:Nat),.int .i64 (k:Nat)]] w fun e w'=>e=.returned (.tuple #[bKa (aEb h (t,k)),.bool (!(aEb h (t,k)).1)])∧Below w.heap.size w w':=by
 have H0:=lhid hv;obtain⟨v0,v1,v2,rfl,⟨p0,c0,rfl,-⟩,⟨p1,c1,rfl,-⟩,⟨p2,c2,rfl,k2⟩⟩:=hv;obtain⟨g,sv,rfl,-,-,a3,a4⟩:=k2 t ht;have hE:aEb h (t,k)=(h.2.2.getD t aM).2.2.getD k cG:=rfl;have hal:=(((Below.refl w.heap.size w).alloc (Nat.le_refl _) (.cells #[.slice p0 h.1.length c0,.slice p1 h.2.1.length c1,.slice (some ⟨g,0,none⟩) h.2.2.length c2] 25)).alloc (by simp) (.cells #[.int .i64 (t:Nat),.int .i64 (k:Nat)] 70)).alloc (by simp;omega) (.cells #[.bool false,.int .i64 0,.int .i64 0,.int .i64 0] 82);have hbx:=((Blk.new w 25 [.slice p0 h.1.length c0,.slice p1 h.2.1.length c1,.slice (some ⟨g,0,none⟩) h.2.2.length c2]).alloc (.cells #[.int .i64 (t:Nat),.int .i64 (k:Nat)] 70)).alloc (.cells #[.bool false,.int .i64 0,.int .i64 0,.int .i64 0] 82);have hpx:=(Blk.new (w.alloc (.cells #[.slice p0 h.1.length c0,.slice p1 h.2.1.length c1,.slice (some ⟨g,0,none⟩) h.2.2.length c2] 25)) 70 [.int .i64 (t:Nat),.int .i64 (k:Nat)]).alloc (.cells #[.bool false,.int .i64 0,.int .i64 0,.int .i64 0] 82);have hox:=Blk.new ((w.alloc (.cells #[.slice p0 h.1.length c0,.slice p1 h.2.1.length c1,.slice (some ⟨g,0,none⟩) h.2.2.length c2] 25)).alloc (.cells #[.int .i64 (t:Nat),.int .i64 (k:Nat)] 70)) 82 [.bool false,.int .i64 0,.int .i64 0,.int .i64 0];simp only[World.size_alloc] at hpx hox;obtain⟨⟨ts,tf,tl⟩,htt⟩:∃ q,h.2.2.getD t aM=q:=⟨_,rfl⟩;rw[htt] at a4 hk hE;dsimp only at a4 hk hE;obtain⟨p3,c3,rfl,-,ho⟩:=a4;obtain⟨go,rfl,q0,q1,q2,q3⟩:=ho k hk;obtain⟨⟨o1,o2,o3,o4⟩,hop⟩:∃ q,tl.getD k cG=q:=⟨_,rfl⟩;rw[hop] at q0 q1 q2 q3 hE;dsimp only at q0 q1 q2 q3;have HE:=lhid hE;have HMy0:=lhid (fun w' (hb:Below w.heap.size w w')=>bUd (H0.out.below hb) hm (Utf8Tabs_below hT hb));rw[kT hmm] at HMy0;have HAL:=lhid hal;have HBX:=lhid hbx;have HPX:=lhid hpx;have HOX:=lhid hox;have HQ:=lhid (show ∀ w',Below w.heap.size w w'→w'.cell? ⟨g,t*3+2,none⟩=some (.slice (some ⟨go,0,none⟩) tl.length c3)∧w'.cell? ⟨go,k*4,none⟩=some (.bool o1)∧w'.cell? ⟨go,k*4+1,none⟩=some (.int .i64 o2)∧w'.cell? ⟨go,k*4+2,none⟩=some (.int .i64 o3)∧w'.cell? ⟨go,k*4+3,none⟩=some (.int .i64 o4) from fun w' hb=>⟨cell_later hb a3,cell_later hb q0,cell_later hb q1,cell_later hb q2,cell_later hb q3⟩);have d1:decide (h.2.2.length≤t)=false:=(by simp;omega);have d2:=Nat.not_le.2 ht;have d3:decide (tl.length≤k)=false:=(by simp;omega);have d4:=Nat.not_le.2 hk;clear H0 hm hT hal hbx hpx hox k2 ho a3 q0 q1 q2 q3 hE htt hop;go_enter Tryz.func82,Tryz.ntmps82;(go_upto_region 1 with fail);obtain⟨W1,hW1⟩:∃ q,((w.alloc (.cells #[.slice p0 h.1.length c0,.slice p1 h.2.1.length c1,.slice (some ⟨g,0,none⟩) h.2.2.length c2] 25)).alloc (.cells #[.int .i64 (t:Nat),.int .i64 (k:Nat)] 70)).alloc (.cells #[.bool false,.int .i64 0,.int .i64 0,.int .i64 0] 82)=q:=⟨_,rfl⟩;rw[hW1] at HAL HBX HPX HOX ⊢;clear hW1;obtain⟨gh,hgh⟩:∃ q,w.heap.size=q:=⟨_,rfl⟩;obtain⟨gp,hgp⟩:∃ q,gh+1=q:=⟨_,rfl⟩;obtain⟨gr,hgr⟩:∃ q,gp+1=q:=⟨_,rfl⟩;have HG:Hid (w.heap.size≤gr):=lhid (by omega);(try simp only[hgh,hgp,hgr]);(try simp only[hgh,hgp,hgr] at HBX HPX HOX);clear hgh hgp hgr
 have HS:Hid (∀ w',Below W1.heap.size W1 w'→w'.cell? ⟨gh,0,none⟩=some (.slice p0 h.1.length c0)∧w'.cell? ⟨gh,1,none⟩=some (.slice p1 h.2.1.length c1)∧w'.cell? ⟨gh,2,none⟩=some (.slice (some ⟨g,0,none⟩) h.2.2.length c2)∧w'.cell? ⟨gp,0,none⟩=some (.int .i64 (t:Nat))∧w'.cell? ⟨gp,1,none⟩=some (.int .i64 (k:Nat))∧w'.cell? ⟨g,t*3+2,none⟩=some (.slice (some ⟨go,0,none⟩) tl.length c3)∧w'.cell? ⟨go,k*4,none⟩=some (.bool o1)∧w'.cell? ⟨go,k*4+1,none⟩=some (.int .i64 o2)∧w'.cell? ⟨go,k*4+2,none⟩=some (.int .i64 o3)∧w'.cell? ⟨go,k*4+3,none⟩=some (.int .i64 o4)∧Below W1.heap.size W1 w'):=lhid (fun w' hb=>by
  obtain⟨x1,x2,x3,x4,x5⟩:=HQ.out _ (aB HAL.out hb)
  exact⟨(HBX.out.later hb).cell 0 rfl,(HBX.out.later hb).cell 1 rfl,(HBX.out.later hb).cell 2 rfl,(HPX.out.later hb).cell 0 rfl,(HPX.out.later hb).cell 1 rfl,x1,x2,x3,x4,x5,hb⟩)
 have HMy:=lhid (fun w' (hb:Below W1.heap.size W1 w')=>HMy0.out _ (aB HAL.out hb));refine wpk HS [] (by kernel_rfl) fun hB0 hS0=>?_;refine wO 0 ?_;refine won 1 rfl fun K hK=>?_;go_simp;refine(HMy.out _ hB0).mono ?_;rintro e w1 ⟨rfl,hb1⟩;have hB1:=aB hB0 hb1;have hS1:=HS.out _ hB1;refine hK.out _ _ (fun _ _=>hS1) ?_;clear hK K hS0;(try simp only[Act.put,sq]);refine wO 2 ?_;refine wO 3 ?_;refine wO 4 ?_;refine wO 5 ?_;refine wO 6 ?_;refine wO 7 ?_;refine wO 8 ?_;refine wF 9 ?_;refine wT 10 34 hS1 ?_;refine wO 11 ?_;refine wO 12 ?_;refine wO 13 ?_;refine wO 14 ?_;refine wO 15 ?_;refine wO 16 ?_;refine wO 17 ?_;refine wO 18 ?_;refine wO 19 ?_;refine wO 20 ?_;refine wO 21 ?_;refine wF 22 ?_;refine wT 23 34 hS1 ?_;refine wF 24 ?_;refine wT 25 34 hS1 ?_;refine wO 26 ?_;refine wO 27 ?_;refine wO 28 ?_;refine wO 29 ?_;refine wO 30 ?_;refine wO 31 ?_;refine wO 32 ?_;refine wO 33 ?_;refine wD ?_;have HB1:=lhid hB1;have HR1:=lhid (HOX.out.later hB1);have HR0:Hid (W1.heap.size≤w1.heap.size∧gr<w1.heap.size):=lhid ⟨hB1.size,HR1.out.lt⟩
 have HS1:Hid (∀ w',Below w1.heap.size w1 w'→w'.cell? ⟨gh,0,none⟩=some (.slice p0 h.1.length c0)∧w'.cell? ⟨gh,1,none⟩=some (.slice p1 h.2.1.length c1)∧w'.cell? ⟨gh,2,none⟩=some (.slice (some ⟨g,0,none⟩) h.2.2.length c2)∧w'.cell? ⟨gp,0,none⟩=some (.int .i64 (t:Nat))∧w'.cell? ⟨gp,1,none⟩=some (.int .i64 (k:Nat))∧w'.cell? ⟨g,t*3+2,none⟩=some (.slice (some ⟨go,0,none⟩) tl.length c3)∧w'.cell? ⟨go,k*4,none⟩=some (.bool o1)∧w'.cell? ⟨go,k*4+1,none⟩=some (.int .i64 o2)∧w'.cell? ⟨go,k*4+2,none⟩=some (.int .i64 o3)∧w'.cell? ⟨go,k*4+3,none⟩=some (.int .i64 o4)∧Below w1.heap.size w1 w'):=lhid (fun w' hb=>by
  obtain⟨x1,x2,x3,x4,x5,x6,x7,x8,x9,x10,-⟩:=HS.out _ (aB HB1.out hb)
  exact⟨x1,x2,x3,x4,x5,x6,x7,x8,x9,x10,hb⟩)
 clear hB1 hS1 HS HMy HMy0 HQ HBX HPX HOX;have HS:=HS1;clear HS1;(go_upto_region 3 with fail);refine wpk HS [12] (by kernel_rfl) fun hB0 _=>?_;obtain⟨wd,hwd⟩:∃ q,(w1).drew=q:=⟨_,rfl⟩;rw[hwd] at hB0 ⊢;have HZ0:Hid (wd.heap.size=(w1).heap.size):=lhid (by rw[←hwd];rfl);clear hwd;refine wF 0 ?_;refine wT 1 13 (HS.out _ hB0) ?_;refine wF 2 ?_;refine wT 3 13 (HS.out _ hB0) ?_;refine wF 4 ?_;refine wF 5 ?_;refine wT 6 13 (HS.out _ hB0) ?_;refine wF 7 ?_;refine wT 8 13 (HS.out _ hB0) ?_;refine wF 9 ?_;refine wT 10 13 (HS.out _ hB0) ?_;refine won 11 rfl fun K hK=>?_;go_simp;have hB11:=hB0.alloc hB0.size (.cells #[.bool false,.int .i64 0,.int .i64 0,.int .i64 0] 82);have hBl:=Blk.new (wd) 82 [.bool false,.int .i64 0,.int .i64 0,.int .i64 0];have hb11:=(Below.refl (wd).heap.size (wd)).alloc (Nat.le_refl _) (.cells #[.bool false,.int .i64 0,.int .i64 0,.int .i64 0] 82);have hgB:(wd).heap.size<((wd).alloc (.cells #[.bool false,.int .i64 0,.int .i64 0,.int .i64 0] 82)).heap.size:=(by simp);have hge:(w1).heap.size≤(wd).heap.size:=hB0.size;have hgo:∀ k,k<(wd).heap.size→((wd).alloc (.cells #[.bool false,.int .i64 0,.int .i64 0,.int .i64 0] 82)).heap[k]? = (wd).heap[k]?:=fun k hk=>cW _ _ hk;refine hK.out _ _ (fun _ _=>HS.out _ hB11) ?_;clear hK K;(try simp only[Act.put,sq]);obtain⟨w11,hw11⟩:∃ q,(wd).alloc (.cells #[.bool false,.int .i64 0,.int .i64 0,.int .i64 0] 82)=q:=⟨_,rfl⟩;rw[hw11] at hB11 hb11 hBl hgB hgo;(try simp only[hw11]);obtain⟨gh,hgh⟩:∃ q,(wd).heap.size=q:=⟨_,rfl⟩;rw[hgh] at hBl hgB hgo hge;(try simp only[hgh]);have HBl:=lhid hBl;clear hBl hw11;refine won 12 rfl fun K hK=>?_;have r0:=HBl.out.cell 0 rfl;have r1:=HBl.out.cell 1 rfl;have r2:=HBl.out.cell 2 rfl;have r3:=HBl.out.cell 3 rfl;have f0:=HBl.out.frozen 0;have f1:=HBl.out.frozen 1;have f2:=HBl.out.frozen 2;have f3:=HBl.out.frozen 3;go_simp;refine hK.out _ _ (fun h=>absurd h (by decide)) ?_;clear hK K;(try simp only[Act.put,sq]);clear r0 r1 r2 r3 f0 f1 f2 f3;refine wD ?_;have HL3:=lhid (bFm HBl.out (.bool o1) (.int .i64 o2) (.int .i64 o3) (.int .i64 o4));have HB3:=lhid (aBn hB11 hge (.bool o1) (.int .i64 o2) (.int .i64 o3) (.int .i64 o4));obtain⟨W3,hW3⟩:∃ q,((((w11.setCell ⟨gh,0,none⟩ (.bool o1)).setCell ⟨gh,1,none⟩ (.int .i64 o2)).setCell ⟨gh,2,none⟩ (.int .i64 o3)).setCell ⟨gh,3,none⟩ (.int .i64 o4))=q:=⟨_,rfl⟩;obtain⟨gh2,hg2⟩:∃ q,gh=q:=⟨_,rfl⟩;rw[hW3,hg2] at HL3;rw[hg2] at hge;rw[hW3] at HB3;(go_upto_region 4 with fail);(try rw[hW3]);(try rw[hg2]);clear hW3 hg2 HBl;have HR3:=lhid (HR1.out.later HB3.out);have HS4:Hid (∀ w',Below W3.heap.size W3 w'→w'.cell? ⟨gh2,0,none⟩=some (.bool o1)∧w'.cell? ⟨gh2,1,none⟩=some (.int .i64 o2)∧w'.cell? ⟨gh2,2,none⟩=some (.int .i64 o3)∧w'.cell? ⟨gh2,3,none⟩=some (.int .i64 o4)):=lhid (fun w' hb=>⟨(HL3.out.later hb).cell 0 rfl,(HL3.out.later hb).cell 1 rfl,(HL3.out.later hb).cell 2 rfl,(HL3.out.later hb).cell 3 rfl⟩);have HN:Hid (gh2≠gr):=lhid (by have:=HR0.out;omega);have HFin:=lhid (HB3.out);clear HS;have HS:=HS4;clear HS4;refine wpk HS [] (by kernel_rfl) fun hB0 hS0=>?_;obtain⟨wd4,hwd4⟩:∃ q,W3.drew=q:=⟨_,rfl⟩;have HL4:=lhid (HL3.out.later hB0);rw[hwd4] at hB0 hS0 HL4;(try simp only[hwd4]);clear hwd4;refine wT 0 6 hS0 ?_;refine wF 1 ?_;refine wT 2 6 hS0 ?_;refine wF 3 ?_;have hvk:=HR3.out.later hB0;have r0:=hvk.cell 0 rfl;have r1:=hvk.cell 1 rfl;have r2:=hvk.cell 2 rfl;have r3:=hvk.cell 3 rfl;have f0:=hvk.frozen 0;have f1:=hvk.frozen 1;have f2:=hvk.frozen 2;have f3:=hvk.frozen 3;have HVk:=lhid hvk;clear hvk;refine won 4 rfl fun K hK=>?_;go_simp;refine hK.out _ _ (fun _ _=>by have hf:=(((HL4.out.far (a:=⟨gr,0,none⟩) HN.out (.bool o1)).far (a:=⟨gr,1,none⟩) HN.out (.int .i64 o2)).far (a:=⟨gr,2,none⟩) HN.out (.int .i64 o3)).far (a:=⟨gr,3,none⟩) HN.out (.int .i64 o4);exact⟨hf.cell 0 rfl,hf.cell 1 rfl,hf.cell 2 rfl,hf.cell 3 rfl⟩) ?_;clear hK K;(try simp only[Act.put,sq]);clear r0 r1 r2 r3 f0 f1 f2 f3;refine wO 5 ?_;refine wD ?_;(go_wp2_with fail);refine bodyPost_ret (cM Tryz.results82 _ _ _ _ _ rfl (aYm (bFm HVk.out _ _ _ _))) rfl ?_;exact⟨by rw[HE.out]<;>rfl,aBn (aB HAL.out (aB HB1.out (HB3.out.trans (hB0.mono HB3.out.size)))) HG.out _ _ _ _⟩
end
section
open Go.RowKit Go.Lib Go.Maps
theorem kQ {w w':World} {row:Option Nat} (hb:Below w.heap.size w w'):w.grownBy w' row:=⟨hb.os,hb.tape,hb.output,hb.size,fun k hk _=>hb.block k hk⟩
def nJ (h:aI) (t:Nat) (key:Int):List Int:=(jF h key).filter fun j=>j != (t:Int)
def qK (h:aI) (key j:Int):aR:=(dL key (lL h j)).1
theorem qX.no_cell {w:World} {b:Nat} {ks:List Int} {f:Int→aR} (h:qX w b ks f) (i:Nat):w.cell? ⟨b,i,none⟩=none:=by
 obtain⟨D,⟨es,clock,hb,r⟩,h2⟩:=h;simp[World.cell?,hb]
theorem aXn (p:bB→Bool) (L:List bB) (n:Nat):(jH p L n).Pairwise (· < ·):=by
 unfold jH;rw[List.pairwise_map];exact(List.pairwise_lt_range.sublist (List.filter_sublist ..)).imp fun {a b} h=>by omega
theorem xW (h:aI) (key:Int):(jF h key).Pairwise (· < ·):=by
 unfold jF cA;split
 ·exact aXn _ _ _
 ·exact List.Pairwise.nil
theorem sY {h:aI} {key j:Int} (hj:j∈jF h key):0≤j∧j<h.2.2.length:=by
 unfold jF cA at hj;split at hj
 ·unfold jH at hj;obtain⟨i,hi,rfl⟩:=List.mem_map.1 hj;have:=List.mem_range.1 (List.mem_filter.1 hi).1;omega
 ·cases hj
theorem aAg {h:aI} (hmm:cZ h=true) (key:Int) (i:Nat):(i:Int)∈jF h key↔i<h.2.2.length∧dU key (h.2.2.getD i aM)=true:=by
 unfold jF;rw[jZ _ hmm];unfold jH;rw[List.mem_map];constructor
 ·rintro⟨j,hj,e⟩;obtain rfl:j=i:=(by exact Int.ofNat.inj e);rw[List.mem_filter,List.mem_range] at hj;exact hj
 ·intro hi;exact⟨i,by rw[List.mem_filter,List.mem_range];exact hi,rfl⟩
theorem aXx {h:aI} (hmm:cZ h=true) (t:Nat) (key:Int) (v:aR):v∈dW h.2.2 t key h.2.2.length↔∃ j∈nJ h t key,v=qK h key j:=by
 rw[aYl];constructor
 ·rintro⟨i,hi,hne,hw,rfl⟩;refine⟨(i:Int),?_,by unfold qK;rw[qN hmm i hi]⟩;unfold nJ;rw[List.mem_filter,aAg hmm];exact⟨⟨hi,hw⟩,by rw[bne_iff_ne];omega⟩
 ·rintro⟨j,hj,rfl⟩;unfold nJ at hj;rw[List.mem_filter] at hj;obtain⟨h1,h2⟩:=sY hj.1;obtain⟨i,rfl⟩:∃ i:Nat,j=i:=⟨j.toNat,by omega⟩;obtain⟨k1,k2⟩:=(aAg hmm key i).1 hj.1;exact⟨i,k1,by have:=hj.2;rw[bne_iff_ne] at this;omega,k2,by unfold qK;rw[qN hmm i k1]⟩
theorem aJu (L:List Int) (t:Int) (k:Nat) (hk:k<L.length):(L.take (k+1)).filter (fun j=>j != t)=(L.take k).filter (fun j=>j != t)++(if L.getD k 0=t then [] else [L.getD k 0]):=by
 have e:L.take (k+1)=L.take k++[L.getD k 0]:=by
  rw[List.take_add_one];simp[hk]
 rw[e,List.filter_append];congr 1;by_cases h:L.getD k 0=t
 ·rw[if_pos h,List.filter_cons,if_neg (by rw[h];simp)];rfl
 ·rw[if_neg h,List.filter_cons,if_pos (by simpa using h)];rfl
theorem bEm {L:List Int} (hp:L.Pairwise (· < ·)) (t:Int) (k:Nat) (hk:k<L.length):L.getD k 0∉(L.take k).filter (fun j=>j != t):=by
 intro hm;have h1:=(List.mem_filter.1 hm).1;obtain⟨i,hi,e⟩:=List.getElem_of_mem h1;rw[List.length_take] at hi;rw[List.getElem_take] at e;have h2:=List.pairwise_iff_getElem.1 hp i k (by omega) hk (by omega);rw[show L.getD k 0=L[k] by simp[hk]] at e;omega
set_option maxRecDepth 100000 in
set_option maxHeartbeats 4000000 in
theorem aKk {w:World} {v:Value} {h:aI} (t:Nat) (key:Int) (hv:cJ w v h) (hm:cU h) (hT:Lib.Utf8Tabs 1 2 w) :
  Calls Tryz.prog 83 #[v,.int .i64 (t:Nat),.int .i64 key] w fun e w'=>∃ b,e=.returned (.map (some b))∧qX w' b (nJ h t key) (qK h key)∧w.heap.size≤b∧Below w.heap.size w w':=by
 have H0:=lhid hv;obtain⟨v0,v1,v2,rfl,⟨p0,c0,rfl,-⟩,⟨p1,c1,rfl,-⟩,⟨p2,c2,rfl,-⟩⟩:=hv;have hal:=((Below.refl w.heap.size w).alloc (Nat.le_refl _) (.cells #[.slice p0 h.1.length c0,.slice p1 h.2.1.length c1,.slice p2 h.2.2.length c2] 25)).alloc (by simp) (.map #[] 0);have hbx:=(Blk.new w 25 [.slice p0 h.1.length c0,.slice p1 h.2.1.length c1,.slice p2 h.2.2.length c2]).alloc (.map #[] 0);have hmp:=bFw (w.alloc (.cells #[.slice p0 h.1.length c0,.slice p1 h.2.1.length c1,.slice p2 h.2.2.length c2] 25)) (qK h key);simp only[World.size_alloc] at hmp;have HWr:=lhid (bUm key (H0.out.below hal) hm (Utf8Tabs_below hT hal));have HLv:=lhid (fun w' (hb:Below w.heap.size w w') (i:Int)=>bUo i key (H0.out.below hb) hm (Utf8Tabs_below hT hb));have HPr:=lhid (xW h key);have HLt:=lhid (fun j (hj:j∈jF h key)=>sY hj);have h1000:h.2.2.length≤1000:=hm.2.2.1;have hmm:=@run_makeMap Tryz.prog;have HAL:=lhid hal;have HBX:=lhid hbx;have HMP:=lhid hmp;have HK:Hid (nJ h t key=(jF h key).filter fun j=>j != (t:Int)):=lhid rfl;obtain⟨L,hL⟩:∃ L,jF h key=L:=⟨_,rfl⟩;rw[hL] at HWr HPr HLt HK
 have hLn:L.length≤1000:=by
  have h3:=wH (m:=(List.range h.2.2.length).map fun n:Nat=>(n:Int)) (HPr.out.imp fun {a b} hab e=>by omega) (fun x hx=>by
   have:=HLt.out x hx
   exact List.mem_map.2 ⟨x.toNat,List.mem_range.2 (by omega),by omega⟩)
  rw[List.length_map,List.length_range] at h3;omega
 clear H0 hm hT hal hbx hmp hL;go_enter Tryz.func83,Tryz.ntmps83;(go_wp2_with fail);obtain⟨W1,hW1⟩:∃ q,(w.alloc (.cells #[.slice p0 h.1.length c0,.slice p1 h.2.1.length c1,.slice p2 h.2.2.length c2] 25)).alloc (.map #[] 0)=q:=⟨_,rfl⟩;(try rw[hW1]);rw[hW1] at HAL HBX HWr HMP;obtain⟨gh,hgh⟩:∃ q,w.heap.size=q:=⟨_,rfl⟩;obtain⟨bm,hbm⟩:∃ q,gh+1=q:=⟨_,rfl⟩;have HG:=lhid hgh;have HGm:=lhid hbm;(try simp only[hgh,hbm]);(try simp only[hgh,hbm] at HBX HMP);clear hW1 hgh hbm hmm;refine HWr.out.mono ?_;rintro e w2 ⟨v',rfl,hi,hb2⟩;obtain⟨pw,cw,rfl,hin⟩:=hi;have HIn:=lhid hin;have HB2:=lhid (aB HAL.out hb2);have HBX2:=lhid (HBX.out.later hb2);have HMP2:=lhid (HMP.out.later hb2);clear hin hb2 HWr HBX HMP HAL;go_wp2_with fail
 go_loopw [15] (fun i wr=>∃ n:Nat,n≤L.length∧i=.int .i64 n∧qX wr bm ((L.take n).filter fun j=>j != (t:Int)) (qK h key)∧w2.grownBy wr (some bm)) (fun i _=>L.length-(intOf i).toNat)
 case atStart=>exact⟨0,Nat.zero_le _,rfl,HMP2.out,⟨rfl,rfl,rfl,Nat.le_refl _,fun _ _ _=>rfl⟩⟩
 case round=>
  obtain⟨n,hn,rfl,hvm,hgr⟩:=hrel
  have HBr:Hid (Below w.heap.size w wr):=lhid (HB2.out.grown hgr HB2.out.size (fun q hq=>by
   injection hq with hq;have h1:=HG.out;have h2:=HGm.out
   omega))
  by_cases hlt:n<L.length
  ·obtain⟨gi,rfl,c0'⟩:=HIn.out n hlt
   have hne:gi≠bm:=fun e=>by
    subst e;rw[HMP2.out.no_cell] at c0';cases c0'
   have a0:=hgr.cell c0' (fun e=>hne (by injection e));have hfn:=aJu L (t:Int) n hlt;have hnw:=bEm HPr.out (t:Int) n hlt;have hjb:=HLt.out (L.getD n 0) (by rw[show L.getD n 0=L[n] by simp[hlt]];exact List.getElem_mem hlt);obtain⟨j,hj⟩:∃ j,L.getD n 0=j:=⟨_,rfl⟩;rw[hj] at a0 hfn hnw hjb;obtain⟨K,hK⟩:∃ K,(L.take n).filter (fun j=>j != (t:Int))=K:=⟨_,rfl⟩;rw[hK] at hvm hfn hnw
   have hkl:K.length≤1000:=by
    rw[←hK];have h1:=List.length_filter_le (fun j=>j != (t:Int)) (L.take n);rw[List.length_take] at h1;omega
   have HVm:=lhid hvm;have HGr:=lhid hgr;have HFn:=lhid hfn;have HNw:=lhid hnw
   have xh:=(HBX2.out.kept hgr (fun e=>by
    injection e with e;have:=HGm.out
    omega))
   have x0:=xh.cell 0 rfl;have x1:=xh.cell 1 rfl;have x2:=xh.cell 2 rfl;clear c0' hj hK hvm hgr hfn hnw hne xh;by_cases hjt:j=(t:Int)
   ·have e0:(j != (t:Int))=false:=(by simpa using hjt);have HKs:Hid ((L.take (n+1)).filter (fun j=>j != (t:Int))=K):=lhid (by rw[HFn.out,if_pos hjt,List.append_nil]);clear hjt;(go_wp2_with fail);go_roundw
    case rel=>exact⟨n+1,by omega,by go_num,by rw[HKs.out];exact HVm.out,HGr.out⟩
    case measure=>simp[intOf];omega
   ·have e0:(j != (t:Int))=true:=(by simpa using hjt);have HKs:Hid ((L.take (n+1)).filter (fun j=>j != (t:Int))=K++[j]):=lhid (by rw[HFn.out,if_neg hjt]);have HLj:=lhid (HLv.out wr HBr.out j);rw[show(dL key (lL h j)).1=qK h key j from rfl] at HLj;obtain⟨x,hx⟩:∃ x,qK h key j=x:=⟨_,rfl⟩;rw[hx] at HLj;have HX:=lhid hx;obtain⟨x1',x2'⟩:=x;dsimp only at HLj;clear hjt hx;(go_wp2_with fail);refine HLj.out.mono ?_;rintro e w3 ⟨rfl,hb3⟩;have hvm3:=HVm.out.later hb3;obtain⟨w4,hput,hvm4,htn⟩:=bFx hvm3 (by omega) j HNw.out (by omega) (by omega) (x1',x2');unfold uI at hput;dsimp only at hput
    have HV4:Hid (qX w4 bm ((L.take (n+1)).filter fun j=>j != (t:Int)) (qK h key)):=lhid (by
     rw[HKs.out];refine hvm4.congr fun i _=>?_;by_cases e:i=j
     ·rw[if_pos e,e,HX.out]
     ·rw[if_neg e])
    have HG4:Hid (w2.grownBy w4 (some bm)):=lhid (HGr.out.trans ((kQ hb3).trans htn.grown));clear hvm3 hvm4 htn hb3 HLj;(go_wp2_with fail);go_roundw
    case rel=>exact⟨n+1,by omega,by go_num,HV4.out,HG4.out⟩
    case measure=>simp[intOf];omega
  ·have hne:n=L.length:=(by omega);subst hne;rw[List.take_length] at hvm;have HVm:=lhid hvm
   have hbm':w.heap.size≤bm:=by
    have h1:=HG.out;have h2:=HGm.out;omega
   have HBm:=lhid hbm';clear hvm hgr hbm';(go_wp2_with fail);go_ret;exact⟨bm,rfl,by rw[HK.out];exact HVm.out,HBm.out,HBr.out⟩
end
section
open Go.RowKit Go.Lib Go.Maps
theorem oC:(Tryz.prog.info? 57).map (fun i=>(i.zero,i.size,i.bytes))=some (some (.agg #[.int .i64 0,.int .i64 0]),2,16):=by kernel_rfl
theorem nP (L:List aR) (x:aR):aJ L++[.int .i64 x.1,.int .i64 x.2]=aJ (L++[x]):=by simp[aJ,aZ]
def aBg (ks:List Int) (f:Int→aR) (left:Lit→Bool) (A:List aR):Prop:=∀ x,x∈A↔(x=aN∨∃ j∈ks,left (.int .i64 j)=false∧x=f j)
theorem aBg.start {ks:List Int} {f:Int→aR} {left:Lit→Bool} (h:∀ j∈ks,left (.int .i64 j)=true):aBg ks f left [aN]:=fun x=>by
 rw[List.mem_singleton];refine⟨fun e=>.inl e,?_⟩;rintro(e | ⟨j,hj,h1,-⟩)
 ·exact e
 ·rw[h j hj] at h1;cases h1
theorem aBg.step {ks:List Int} {f:Int→aR} {left:Lit→Bool} {A:List aR} (h:aBg ks f left A) (i:Int) (hi:i∈ks):aBg ks f (fun z=>left z && !z.sameKey (.int .i64 i)) (A++[f i]):=fun x=>by
 rw[List.mem_append,List.mem_singleton,h x];constructor
 ·rintro((e | ⟨j,hj,h1,e⟩) | e)
  ·exact .inl e
  ·exact .inr ⟨j,hj,by dsimp only;rw[h1];rfl,e⟩
  ·exact .inr ⟨i,hi,by simp[Lit.sameKey],e⟩
 ·rintro(e | ⟨j,hj,h1,e⟩)
  ·exact .inl (.inl e)
  ·by_cases hji:j=i
   ·subst hji;exact .inr e
   ·refine .inl (.inr ⟨j,hj,?_,e⟩)
    cases hl:left (.int .i64 j) with
    | false=>rfl
    | true=>
     dsimp only at h1;rw[hl] at h1;simp[Lit.sameKey,hji] at h1
theorem aBg.all {h:aI} (hmm:cZ h=true) {t:Nat} {key:Int} {left:Lit→Bool} {A:List aR} (hA:aBg (nJ h t key) (qK h key) left A) (hl:∀ z,left z=false):cH A=cH (aN::dW h.2.2 t key h.2.2.length):=
 aKq _ _ fun x=>by
  rw[hA x,List.mem_cons,aXx hmm];constructor
  ·rintro(e | ⟨j,hj,-,e⟩)
   ·exact .inl e
   ·exact .inr ⟨j,hj,e⟩
  ·rintro(e | ⟨j,hj,e⟩)
   ·exact .inl e
   ·exact .inr ⟨j,hj,hl _,e⟩
theorem wM {P:Program} {kt:TypeId} {R:Value→Option (DataW Unit×List MemPlace)} {w:World} {b r n base size m cnt:Nat} {D:DataW Unit} {left:Lit→Bool} {e:TypeId} {v:Value} {xs:List Value} (h:w.ranges P kt R b r n D left cnt) (ho:w.ownsRow base e size v m xs):v.ownBlock≠some r∧v.ownBlock≠some b:=by
 obtain⟨es,clock,since,seen,c0,hb,_,_,_,hr,_⟩:=h;rcases ho.2 with ⟨rfl,-⟩ | ⟨g,cap,cur,rfl,-,hw,-⟩
 ·exact⟨by simp[Value.ownBlock],by simp[Value.ownBlock]⟩
 ·refine⟨fun he=>?_,fun he=>?_⟩
  ·have e1:g=r:=(by simpa [Value.ownBlock] using he);subst e1;rw[hw] at hr;cases hr
  ·have e1:g=b:=(by simpa [Value.ownBlock] using he);subst e1;rw[hw] at hb;cases hb
theorem pW {w w':World} {base size n:Nat} {e:TypeId} {v:Value} {xs:List Value} {row:Option Nat} (h:w.ownsRow base e size v n xs) (hg:w.grownBy w' row) (hne:∀ k,v.ownBlock=some k→row≠some k):w'.ownsRow base e size v n xs:=by
 refine h.kept hg ?_
 cases hv:v.ownBlock with
 | none=>
  rcases h.2 with ⟨rfl,-⟩ | ⟨g,cap,cur,rfl,-⟩
  ·exact .inl rfl
  ·cases hv
 | some k=>exact .inr (fun e=>hne k hv e.symm)
def bBm (ks:List Int) (left:Lit→Bool):Prop:=∀ j:Int,(Lit.int .i64 j).wf=true→left (.int .i64 j)=true→j∈ks
set_option maxRecDepth 100000 in
set_option maxHeartbeats 4000000 in
theorem aKw {w:World} {v:Value} {h:aI} (t k:Nat) (hv:cJ w v h) (hm:cU h) (hmm:cZ h=true) (ht:t<h.2.2.length) (hk:k<(h.2.2.getD t aM).2.2.length) (hr:(aEb h (t,k)).1=false) (hT:Lib.Utf8Tabs 1 2 w) :
  Calls Tryz.prog 63 #[v,.agg #[.int .i64 (t:Nat),.int .i64 (k:Nat)]] w fun e w'=>∃ v',e=.returned v'∧w'.ownsRow w.heap.size 57 2 v' (jE h (t,k)).length (aJ (jE h (t,k)))∧Below w.heap.size w w':=by
 have H0:=lhid hv;obtain⟨v0,v1,v2,rfl,⟨p0,c0,rfl,-⟩,⟨p1,c1,rfl,-⟩,⟨p2,c2,rfl,-⟩⟩:=hv;have hal:=((Below.refl w.heap.size w).alloc (Nat.le_refl _) (.cells #[.slice p0 h.1.length c0,.slice p1 h.2.1.length c1,.slice p2 h.2.2.length c2] 25)).alloc (by simp) (.cells #[.int .i64 (t:Nat),.int .i64 (k:Nat)] 70);have hbx:=(Blk.new w 25 [.slice p0 h.1.length c0,.slice p1 h.2.1.length c1,.slice p2 h.2.2.length c2]).alloc (.cells #[.int .i64 (t:Nat),.int .i64 (k:Nat)] 70);have hpx:=Blk.new (w.alloc (.cells #[.slice p0 h.1.length c0,.slice p1 h.2.1.length c1,.slice p2 h.2.2.length c2] 25)) 70 [.int .i64 (t:Nat),.int .i64 (k:Nat)];simp only[World.size_alloc] at hpx;have hrd:=aPz t k (H0.out.below hal) hm hmm ht hk (Utf8Tabs_below hT hal);have HOt:=lhid (fun w' (hb:Below w.heap.size w w')=>aKk t (gW h (t,k)) (H0.out.below hb) hm (Utf8Tabs_below hT hb))
 have HKl:Hid ((nJ h t (gW h (t,k))).length≤1000):=lhid (by
  have h1:(nJ h t (gW h (t,k))).length≤(jF h (gW h (t,k))).length:=List.length_filter_le _ _
  have h2:=wH (m:=(List.range h.2.2.length).map fun n:Nat=>(n:Int)) ((xW h (gW h (t,k))).imp fun {a b} hab e=>by omega) (fun x hx=>by
   have:=sY hx
   exact List.mem_map.2 ⟨x.toNat,List.mem_range.2 (by omega),by omega⟩)
  rw[List.length_map,List.length_range] at h2;have:=hm.2.2.1
  omega)
 have HAll:=lhid (fun left A (hA:aBg (nJ h t (gW h (t,k))) (qK h (gW h (t,k))) left A) hl=>aBg.all hmm hA hl);have h1000:h.2.2.length≤1000:=hm.2.2.1;have HVl:Hid (jE h (t,k)=cH (aN::dW h.2.2 t (gW h (t,k)) h.2.2.length)):=lhid rfl;have hko:gW h (t,k)=(aEb h (t,k)).2.1:=rfl;obtain⟨⟨o1,o2,o3,o4⟩,hop⟩:∃ q,aEb h (t,k)=q:=⟨_,rfl⟩;rw[hop] at hko hr hrd;dsimp only at hko hr hrd;subst hr;rw[hko] at HOt HKl HAll HVl;unfold bKa at hrd;dsimp only at hrd;have HRd:=lhid hrd;have HAL:=lhid hal;have HBX:=lhid hbx;have HPX:=lhid hpx;obtain⟨i1,hj,hj0,hj1,hj2⟩:=info_parts oC;clear H0 hm hT hal hbx hpx hrd hko hop;go_enter Tryz.func63,Tryz.ntmps63;(go_wp2_with fail);refine HRd.out.mono ?_;rintro e w1 ⟨rfl,hb1⟩;have HB1:=lhid (aB HAL.out hb1);have HBX1:=lhid (HBX.out.later hb1);have HPX1:=lhid (HPX.out.later hb1);clear hb1 HRd HAL HBX HPX;have hbe:w.heap.size≤w1.heap.size:=HB1.out.size;have HA2:=lhid ((HB1.out.alloc hbe (.cells #[.bool false,.int .i64 o2,.int .i64 o3,.int .i64 o4] 82)).alloc (by simp;omega) (.cells #[.int .i64 0,.int .i64 0] 57));have HOx:=lhid ((Blk.new w1 82 [.bool false,.int .i64 o2,.int .i64 o3,.int .i64 o4]).alloc (.cells #[.int .i64 0,.int .i64 0] 57));have HBX2:=lhid ((HBX1.out.alloc (.cells #[.bool false,.int .i64 o2,.int .i64 o3,.int .i64 o4] 82)).alloc (.cells #[.int .i64 0,.int .i64 0] 57));have HPX2:=lhid ((HPX1.out.alloc (.cells #[.bool false,.int .i64 o2,.int .i64 o3,.int .i64 o4] 82)).alloc (.cells #[.int .i64 0,.int .i64 0] 57));have HR2:=lhid (World.ownsRow_lit (base:=w.heap.size) (size:=2) (e:=57) (w1.alloc (.cells #[.bool false,.int .i64 o2,.int .i64 o3,.int .i64 o4] 82)) #[.int .i64 0,.int .i64 0] 1 (by simp;omega) (by unfold maxLen;omega) rfl);(go_upto_region 5 with fail);obtain⟨W2,hW2⟩:∃ q,(w1.alloc (.cells #[.bool false,.int .i64 o2,.int .i64 o3,.int .i64 o4] 82)).alloc (.cells #[.int .i64 0,.int .i64 0] 57)=q:=⟨_,rfl⟩;rw[hW2] at HA2 HOx HBX2 HPX2 HR2;(try rw[hW2]);simp only[World.size_alloc] at HR2;(try simp only[World.size_alloc]);obtain⟨gl,hgl⟩:∃ q,w1.heap.size+1=q:=⟨_,rfl⟩;obtain⟨gx,hgx⟩:∃ q,w1.heap.size=q:=⟨_,rfl⟩;obtain⟨gp,hgp⟩:∃ q,w.heap.size+1=q:=⟨_,rfl⟩;obtain⟨gh,hgh⟩:∃ q,w.heap.size=q:=⟨_,rfl⟩;(try simp only[hgl] at HR2);(try simp only[hgl]);(try simp only[hgx] at HOx);(try simp only[hgx]);(try simp only[hgp] at HPX2);(try simp only[hgp]);rw[hgh] at HBX2;have HGh:=lhid hgh;(try simp only[hgh]);clear hW2 hgl hgx hgp hgh hbe HBX1 HPX1 HB1;have HO2:=lhid (HOt.out W2 HA2.out);have x0:=HBX2.out.cell 0 rfl;have x1:=HBX2.out.cell 1 rfl;have x2:=HBX2.out.cell 2 rfl;have y0:=HPX2.out.cell 0 rfl;have z1:=HOx.out.cell 1 rfl;(go_wp2_with fail);refine HO2.out.mono ?_;rintro e w3 ⟨bm,rfl,hvm,hbm,hb3⟩;have HA3:=lhid (aB HA2.out hb3);have HR3:=lhid (aS HR2.out hb3);obtain⟨D,hown,hsz,hhas,hat⟩:=hvm;have HHs:=lhid hhas;have HAt:=lhid hat;have HSz:=lhid hsz;have hbl:=hown.lt;clear hb3 HO2 x0 x1 x2 y0 z1 HOt HR2 HA2 HOx HBX2 HPX2 hsz hhas hat
 go_wp2_with (first
  | (at_range;refine wpList_range_own _ rfl _ 107 rfl 3 57 (int_keyed Tryz.underlying3) Tryz.underlying107 _ bm _ _ rfl hown ?_;intro w4 hrg0 hg0 hs0)
  | go_in)
 go_frame
 obtain⟨r,hr0⟩:∃ q,w3.heap.size=q:=⟨_,rfl⟩;have HRg:=lhid hrg0;have HG0:=lhid hg0;have HA4:=lhid (HA3.out.grown hg0 HA3.out.size (fun j hj=>by cases hj));have HR4:=lhid (pW HR3.out hg0 (fun q _ h2=>by cases h2));have hbr:w.heap.size≤r:=(by rw[←hr0];exact HA3.out.size);(try simp only[hr0]);rw[hr0] at HRg;clear hrg0 hg0 hs0 hr0
 go_loopw [7] (fun l wr=>∃ (left:Lit→Bool) (cnt:Nat) (A:List aR),wr.ranges Tryz.prog 3 vG bm r (nJ h t o2).length D left cnt∧bBm (nJ h t o2) left∧wr.ownsRow w.heap.size 57 2 l A.length (aJ A)∧aBg (nJ h t o2) (qK h o2) left A∧A.length+cnt≤(nJ h t o2).length+1∧Below w.heap.size w wr) (fun _ wr=>wr.rangeLeft bm r)
 case atStart=>
  refine⟨_,_,[aN],HRg.out,fun j hj hl=>?_,HR4.out,aBg.start fun j hj=>?_,by rw[HSz.out,List.length_singleton];omega,HA4.out⟩
  ·rw[HHs.out j hj] at hl;exact of_decide_eq_true hl
  ·have hjw:=sY (List.mem_filter.1 hj).1;rw[HHs.out j (WalkArith.wf_i64 (by omega))];exact decide_eq_true hj
 case round=>
  obtain⟨left,cnt,A,hrg,hst,hrow,hgot,hcn,hbw⟩:=hrel;have HSt:=lhid hst;have HGt:=lhid hgot;have HBw:=lhid hbw;have HRw:=lhid hrow;have hkl:=HKl.out;have hal9:A.length≤1001:=(by omega);have HCn:=lhid hcn;obtain⟨pl,cl,rfl⟩:=aF hrow;clear hst hgot hbw hrow hcn
  go_wp2_with (first
   | (at_next;refine wpList_next_ranges _ rfl _ rfl 3 (int_keyed Tryz.underlying3) vG (Value.int .i64) uI (fun key kl hk9=>by
     obtain⟨x,e,-,-⟩:=Maps.keyOf_int_inv Tryz.underlying3 hk9
     exact⟨x,e⟩) (fun v y hv9=>by
     obtain⟨x,e,-⟩:=aVy hv9
     exact⟨x,e⟩) bm r _ _ _ _ rfl hrg ?_ ?_)
   | go_in)
  ·intro hc0 hl0;have hS:=HAll.out left A HGt.out hl0;obtain⟨pq,cq,eq,-,hhv⟩:=qR HRw.out rfl;injection eq with eq1 eq2 eq3;subst eq1;have HS5:=lhid (bUx wr pl cl A hhv (by omega));rw[hS, ←HVl.out] at HS5;clear hS hc0 hl0 eq2 eq3 hhv;(go_wp2_with fail);refine HS5.out.mono ?_;rintro e w6 ⟨v',rfl,hs,hb6⟩;have HSo:=lhid (cQ hs HBw.out.size);have HB6:=lhid (aB HBw.out hb6);obtain⟨ps,cs,rfl⟩:=aF hs;clear hs hb6 HS5;(go_wp2_with fail);go_ret;exact⟨_,rfl,HSo.out,HB6.out⟩
  ·intro x c1 c2 kl ya yb w5 cnt1 hwx hlx hwc hatx hrg1 hlt hg1 hs1 hen;obtain⟨c,hcc⟩:∃ c:aR,(c1,c2)=c:=⟨_,rfl⟩;rw[hcc] at hwc hen;obtain⟨x',e1,e2,hwf⟩:=Maps.keyOf_int_inv Tryz.underlying3 hwx;injection e1 with _ e1;subst e1;subst e2;have hxk:x∈nJ h t o2:=HSt.out x hwf hlx
   have hcx:qK h o2 x=c:=by
    have h1:=hatx .nil;rw[HAt.out x .nil hxk] at h1;obtain⟨c',e3,e4⟩:=aVy hwc
    have e5:c'=c:=by
     unfold uI at e3;injection e3 with e3;have e6:=congrArg Array.toList e3;simp at e6;exact Prod.ext e6.1.symm e6.2.symm
    subst e5;injection e4 with e4 _;rw[e4] at h1;exact bFu h1
   have HG5:=lhid (HGt.out.step x hxk);rw[hcx] at HG5
   have HS5:Hid (bBm (nJ h t o2) (fun z=>left z && !z.sameKey (.int .i64 x))):=lhid (fun j hj hl=>HSt.out j hj (by
    rw[Bool.and_eq_true] at hl
    exact hl.1))
   have HB5:=lhid (HBw.out.grown hg1 HBw.out.size (fun q hq=>by
    injection hq with hq
    omega))
   have HR5:=lhid (pW HRw.out hg1 (fun q h1 h2=>by
    rw[←h2] at h1
    exact(wM hrg HRw.out).1 h1))
   have HRg1:=lhid hrg1;have HRg9:=lhid hrg;have HLt:=lhid hlt;have hcl:A.length+1+cnt1≤(nJ h t o2).length+1:=(by have:=HCn.out;omega);subst hcc;unfold uI at hen;dsimp only at hen;have HBx:=lhid (Blk.new w5 57 [.int .i64 c1,.int .i64 c2]);have HR6:=lhid (HR5.out.alloc (.cells #[.int .i64 c1,.int .i64 c2] 57));have HRg6:=lhid (HRg1.out.alloc (.cells #[.int .i64 c1,.int .i64 c2] 57));have HB6:=lhid (HB5.out.alloc HB5.out.size (.cells #[.int .i64 c1,.int .i64 c2] 57));clear hatx hwc hxk hcx hg1 hrg1 hlt hs1 hrg;(go_upto_region 8 with fail);obtain⟨W6,hW6⟩:∃ q,w5.alloc (.cells #[.int .i64 c1,.int .i64 c2] 57)=q:=⟨_,rfl⟩;rw[hW6] at HBx HR6 HRg6 HB6;(try rw[hW6]);clear hW6 hen;have y0:=HBx.out.cell 0 rfl;have y1:=HBx.out.cell 1 rfl;have hr7:=HR6.out.alloc (.cells #[.int .i64 c1,.int .i64 c2] 57);have hg7:=HRg6.out.alloc (.cells #[.int .i64 c1,.int .i64 c2] 57);have HR7:=lhid hr7;have HRg7:=lhid hg7;have HB7:=lhid (HB6.out.alloc HB6.out.size (.cells #[.int .i64 c1,.int .i64 c2] 57));clear hr7 hg7;go_wp2_with (at_builtin;refine wpList_append_own _ rfl _ _ 27 rfl w.heap.size 57 i1 (.agg #[.int .i64 0,.int .i64 0]) 2 16 Tryz.underlying27 hj hj0 hj1 hj2 rfl (by decide) _ _ _ rfl HR7.out ⟨W6.heap.size,0,none⟩ 1 1 [.int .i64 c1,.int .i64 c2] rfl rfl (dB W6 [.int .i64 c1,.int .i64 c2] _ _ rfl) (dO _ _) ?_ ?_ HB7.out.size ?_)
   ·unfold maxLen;omega
   ·omega
   intro v' w8 hown8 hgr8 hnil8;have HRg8:=lhid (HRg7.out.kept hgr8 (fun e=>(wM HRg7.out HR7.out).2 e.symm) (fun e=>(wM HRg7.out HR7.out).1 e.symm));have HB8:=lhid (HB7.out.grown hgr8 HB7.out.size (fun q hq=>(HR7.out.lt q hq).1))
   have HO8:Hid (w8.ownsRow w.heap.size 57 2 v' (A++[(c1,c2)]).length (aJ (A++[(c1,c2)]))):=lhid (by
    rw[←nP,List.length_append]
    exact hown8)
   obtain⟨p8,c8,rfl⟩:=aF hown8;clear hown8 hgr8 hnil8 y0 y1 HR7 HRg7;(go_wp2_with fail);go_roundw
   case rel=>exact⟨_,cnt1,A++[(c1,c2)],HRg8.out,HS5.out,HO8.out,HG5.out,by rw[List.length_append,List.length_singleton];omega,HB8.out⟩
   case measure=>rw[HRg8.out.left_eq,HRg9.out.left_eq];exact HLt.out
end
section
open Go.RowKit Go.Lib Go.Maps
def aAk (f:Int→Int) (l:List OpM) (key:Int):Prop:=∀ x,0≤f x∧f x≤l.length∧(0<f x↔∃ o∈l,wrO key o=true∧o.2.2.2=x)
theorem aAk.start (key:Int):aAk (fun _=>0) [] key:=fun _=>⟨Int.le_refl _,Int.le_refl _,⟨fun (h:(0:Int)<0)=>absurd h (Int.lt_irrefl 0),fun ⟨_,h,_⟩=>absurd h List.not_mem_nil⟩⟩
theorem aAk.same {f:Int→Int} {l:List OpM} {key:Int} (h:aAk f l key) (o:OpM) (ho:wrO key o=false):aAk f (l++[o]) key:=fun x=>by
 obtain⟨h1,h2,h3⟩:=h x;refine⟨h1,by rw[List.length_append];simp;omega,h3.trans ⟨fun ⟨q,hq,e⟩=>⟨q,List.mem_append_left _ hq,e⟩,fun ⟨q,hq,e⟩=>?_⟩⟩;rcases List.mem_append.1 hq with hq | hq
 ·exact⟨q,hq,e⟩
 ·obtain rfl:q=o:=(by simpa using hq);rw[ho] at e;cases e.1
theorem aAk.more {f:Int→Int} {l:List OpM} {key:Int} (h:aAk f l key) (o:OpM) (ho:wrO key o=true):aAk (fun j=>if j=o.2.2.2 then f o.2.2.2+1 else f j) (l++[o]) key:=fun x=>by
 obtain⟨h1,h2,h3⟩:=h x;dsimp only;by_cases e:x=o.2.2.2
 ·rw[if_pos e, ←e];refine⟨by omega,by rw[List.length_append];simp;omega,fun _=>⟨o,by simp,ho,e.symm⟩,fun _=>by omega⟩
 ·rw[if_neg e];refine⟨h1,by rw[List.length_append];simp;omega,h3.trans ⟨fun ⟨q,hq,e⟩=>⟨q,List.mem_append_left _ hq,e⟩,fun ⟨q,hq,e2⟩=>?_⟩⟩;rcases List.mem_append.1 hq with hq | hq
  ·exact⟨q,hq,e2⟩
  ·obtain rfl:q=o:=(by simpa using hq);exact absurd e2.2.symm e
theorem zT (T:List bB) (n:Nat) (hn:n<T.length):(T.take (n+1)).flatMap (·.2.2)=(T.take n).flatMap (·.2.2)++(T.getD n aM).2.2:=by
 rw[List.take_add_one,List.flatMap_append];congr 1;simp[hn]
theorem sF (T:List bB) (hT:∀ t∈T,t.2.2.length≤20):∀ n,n≤T.length→((T.take n).flatMap (·.2.2)).length≤n*20
 | 0,_=>by simp
 | n+1,hn=>by
  rw[zT T n (by omega),List.length_append];have h1:=sF T hT n (by omega)
  have h2:=hT (T.getD n aM) (by
   rw[show T.getD n aM=T[n] by simp[show n<T.length by omega]]
   exact List.getElem_mem _)
  omega
set_option maxRecDepth 100000 in
set_option maxHeartbeats 4000000 in
theorem aMk {w:World} {v:Value} {h:aI} (key:Int) (hv:cJ w v h) (hm:cU h) (hmm:cZ h=true) (hk0:0≤key) (hk1:key<h.2.1.length) (hN:∀ o∈bU h,-9223372036854775808≤o.2.2.2∧o.2.2.2≤9223372036854775807) (hT:Lib.Utf8Tabs 1 2 w) :
  Calls Tryz.prog 65 #[v,.int .i64 key] w fun e w'=>e=.returned (.agg #[.int .i64 1,.int .i64 (kI h.2.2 key:Nat)])∧Below w.heap.size w w':=by
 have H0:=lhid hv;obtain⟨v0,v1,v2,rfl,⟨p0,c0,rfl,-⟩,⟨p1,c1,rfl,-⟩,⟨p2,c2,rfl,k2⟩⟩:=hv;have hal:=((Below.refl w.heap.size w).alloc (Nat.le_refl _) (.cells #[.slice p0 h.1.length c0,.slice p1 h.2.1.length c1,.slice p2 h.2.2.length c2] 25)).alloc (by simp) (.cells #[.int .i64 0,.int .i64 0] 57);have hbx:=(Blk.new w 25 [.slice p0 h.1.length c0,.slice p1 h.2.1.length c1,.slice p2 h.2.2.length c2]).alloc (.cells #[.int .i64 0,.int .i64 0] 57);have hvx:=Blk.new (w.alloc (.cells #[.slice p0 h.1.length c0,.slice p1 h.2.1.length c1,.slice p2 h.2.2.length c2] 25)) 57 [.int .i64 0,.int .i64 0];simp only[World.size_alloc] at hvx;have hmy:=bUd (H0.out.below hal) hm (Utf8Tabs_below hT hal);rw[kT hmm] at hmy;have HMy:=lhid hmy;have hMH:=(dA h).1 hmm;have h40:h.2.2.length≤40:=hMH.n2
 have HT20:Hid (∀ t∈h.2.2,t.2.2.length≤20):=lhid (fun t ht=>by
  have:=hMH.txn t ht;unfold bQ at this;simp only[Bool.and_eq_true,decide_eq_true_eq] at this
  exact this.2.2.2)
 have HFl:=lhid (sF h.2.2 HT20.out);have HFs:=lhid (oA h.2.2 key);have HWi:=lhid (zL h.2.2 key);have HF1:=lhid (aXa h.2.2 key);have hrm:=@run_makeMap Tryz.prog;have d1:decide (key<0)=false:=(by simp;omega);have d2:decide (key≥(h.2.1.length:Int))=false:=(by simp;omega);have HX:=lhid k2
 have HNn:=lhid (fun n (hn:n<h.2.2.length) o (ho:o∈(h.2.2.getD n aM).2.2)=>hN o (List.mem_flatMap.2 ⟨_,(by
  rw[show h.2.2.getD n aM=h.2.2[n] by simp[hn]]
  exact List.getElem_mem hn:h.2.2.getD n aM∈h.2.2),ho⟩))
 have HAL:=lhid hal;have HBX:=lhid hbx;have HVX:=lhid hvx;clear H0 hm hT hal hbx hvx hmy hMH k2 hN;go_enter Tryz.func65,Tryz.ntmps65;(go_wp2_with fail);refine HMy.out.mono ?_;rintro e w1 ⟨rfl,hb1⟩;have HB1:=lhid (aB HAL.out hb1);have HBX1:=lhid (HBX.out.later hb1);have HVX1:=lhid (HVX.out.later hb1);have hbe:w.heap.size≤w1.heap.size:=HB1.out.size;have hv1:w.heap.size+1<w1.heap.size:=HVX1.out.lt;have HB2:=lhid (HB1.out.alloc hbe (.map #[] 0));have HBX2:=lhid (HBX1.out.alloc (.map #[] 0));have HVX2:=lhid (HVX1.out.alloc (.map #[] 0));have HM2:=lhid (aRk w1);have y1:=HBX1.out.cell 1 rfl;clear hb1 HMy HAL HBX HVX HB1 HBX1 HVX1;(go_upto_region 4 with fail);clear y1;obtain⟨W2,hW2⟩:∃ q,w1.alloc (.map #[] 0)=q:=⟨_,rfl⟩;rw[hW2] at HB2 HBX2 HVX2 HM2;(try rw[hW2]);obtain⟨bm,hbm⟩:∃ q,w1.heap.size=q:=⟨_,rfl⟩;obtain⟨gv,hgv⟩:∃ q,w.heap.size+1=q:=⟨_,rfl⟩;obtain⟨gh,hgh⟩:∃ q,w.heap.size=q:=⟨_,rfl⟩;rw[hbm] at HM2;(try simp only[hbm]);rw[hgv] at HVX2;(try simp only[hgv]);rw[hgh] at HBX2;try simp only[hgh]
 have HNe:Hid (gh<bm∧gv<bm∧w.heap.size≤bm∧w.heap.size≤gv∧bm<W2.heap.size):=lhid (by
  have h1:=HM2.out.lt
  omega)
 clear hrm hW2 hbm hgv hgh hbe hv1;have x2:=HBX2.out.cell 2 rfl;(go_wp2_with fail);clear x2
 go_loopw [30] (fun i wr=>∃ n:Nat,n≤h.2.2.length∧i=.int .i64 n∧(∃ c f,dJ wr bm c f∧c≤((h.2.2.take n).flatMap (·.2.2)).length∧aAk f ((h.2.2.take n).flatMap (·.2.2)) key)∧W2.grownBy wr (some bm)) (fun i _=>h.2.2.length-(intOf i).toNat)
 case atStart=>exact⟨0,Nat.zero_le _,rfl,⟨0,_,HM2.out,Nat.zero_le _,aAk.start key⟩,⟨rfl,rfl,rfl,Nat.le_refl _,fun _ _ _=>rfl⟩⟩
 case round=>
  obtain⟨n,hn,rfl,⟨c,f,him,hc,hcw⟩,hgr⟩:=hrel;by_cases hlt:n<h.2.2.length
  ·obtain⟨g,sv,rfl,a1,a2,a3,a4⟩:=HX.out n hlt
   have HBr:Hid (Below w.heap.size w wr):=lhid (HB2.out.grown hgr HB2.out.size (fun q hq=>by
    injection hq with hq;have:=HNe.out
    omega))
   have hfl1:=HFl.out (n+1) hlt;have hfn:=zT h.2.2 n hlt;have b1:=cell_later HBr.out a1;have b2:=cell_later HBr.out a2;have b3:=cell_later HBr.out a3;have hnn:=HNn.out n hlt;obtain⟨⟨ts,tf,tl⟩,ht⟩:∃ q,h.2.2.getD n aM=q:=⟨_,rfl⟩;rw[ht] at b1 b2 a4 hfn hnn;dsimp only at b1 b2 a4 hfn hnn;obtain⟨L0,hL0⟩:∃ L0,(h.2.2.take n).flatMap (·.2.2)=L0:=⟨_,rfl⟩;rw[hL0] at hc hcw hfn;rw[hfn] at hfl1;rw[List.length_append] at hfl1;have HFn:=lhid hfn;have HIm:=lhid him;have HCw:=lhid hcw;have HGr:=lhid hgr;obtain⟨p3,c3,rfl,-,ho⟩:=a4;have HO:=lhid (fun w' (hb:Below w.heap.size w w')=>ho.below hb);have HNt:=lhid hnn;have HA3:=lhid ((Below.refl wr.heap.size wr).alloc (Nat.le_refl _) (.cells #[.int .i64 ts,.int .i64 tf,.slice p3 tl.length c3] 67));have HTx:=lhid (Blk.new wr 67 [.int .i64 ts,.int .i64 tf,.slice p3 tl.length c3]);have HIm3:=lhid (HIm.out.alloc (.cells #[.int .i64 ts,.int .i64 tf,.slice p3 tl.length c3] 67));clear a1 a2 a3 hnn hL0 hfn him hcw hgr ho HIm ht;(go_upto_region 7 with fail);obtain⟨W3,hW3⟩:∃ q,wr.alloc (.cells #[.int .i64 ts,.int .i64 tf,.slice p3 tl.length c3] 67)=q:=⟨_,rfl⟩;rw[hW3] at HA3 HTx HIm3;(try rw[hW3]);clear hW3;have t2:=HTx.out.cell 2 rfl;have HG3:=lhid (HGr.out.trans (kQ HA3.out (row:=some bm)));clear b1 b2 b3 HGr;(go_wp2_with fail);clear t2;obtain⟨wo,rfl⟩:∃ q,q=wr:=⟨_,rfl⟩
   go_loopw [37] (fun i wx=>∃ m:Nat,m≤tl.length∧i=.int .i64 m∧(∃ c f,dJ wx bm c f∧c≤(L0++tl.take m).length∧aAk f (L0++tl.take m) key)∧W2.grownBy wx (some bm)) (fun i _=>tl.length-(intOf i).toNat)
   case atStart=>exact⟨0,Nat.zero_le _,rfl,⟨c,f,HIm3.out,by simp;omega,by simpa using HCw.out⟩,HG3.out⟩
   case round=>
    obtain⟨m,hml,rfl,⟨c',f',him',hc',hcw'⟩,hgr'⟩:=hrel;by_cases hlm:m<tl.length
    ·have HBx:Hid (Below w.heap.size w wr):=lhid (HB2.out.grown hgr' HB2.out.size (fun q hq=>by
      injection hq with hq;have:=HNe.out
      omega))
     obtain⟨go,rfl,q0,q1,q2,q3⟩:=HO.out wr HBx.out m hlm;have hts:=aIz tl m hlm
     have hno:=HNt.out (tl.getD m cG) (by
      rw[show tl.getD m cG=tl[m] by simp[hlm]]
      exact List.getElem_mem hlm)
     obtain⟨⟨o1,o2,o3,o4⟩,hop⟩:∃ q,tl.getD m cG=q:=⟨_,rfl⟩;rw[hop] at q0 q1 q2 q3 hts hno;dsimp only at q0 q1 q2 q3 hno
     have hll:(L0++tl.take m).length≤800:=by
      rw[List.length_append,List.length_take];omega
     obtain⟨L1,hL1⟩:∃ L1,L0++tl.take m=L1:=⟨_,rfl⟩;have hL2:L0++tl.take (m+1)=L1++[(o1,o2,o3,o4)]:=(by rw[hts, ←List.append_assoc,hL1]);rw[hL1] at hc' hcw' hll;have HL2:=lhid hL2;have HIm5:=lhid (him'.alloc (.cells #[.bool o1,.int .i64 o2,.int .i64 o3,.int .i64 o4] 82));have HCw5:=lhid hcw';have HA5:=lhid ((Below.refl wr.heap.size wr).alloc (Nat.le_refl _) (.cells #[.bool o1,.int .i64 o2,.int .i64 o3,.int .i64 o4] 82));have HOx:=lhid (Blk.new wr 82 [.bool o1,.int .i64 o2,.int .i64 o3,.int .i64 o4]);have HG5:=lhid (hgr'.trans (kQ HA5.out (row:=some bm)));clear hts hop hL1 hL2 him' hcw' hgr' HBx;(go_upto_region 10 with fail);obtain⟨W5,hW5⟩:∃ q,wr.alloc (.cells #[.bool o1,.int .i64 o2,.int .i64 o3,.int .i64 o4] 82)=q:=⟨_,rfl⟩;rw[hW5] at HIm5 HA5 HOx HG5;(try rw[hW5]);clear hW5 q0 q1 q2 q3;have t0:=HOx.out.cell 0 rfl;have t1:=HOx.out.cell 1 rfl;have t3:=HOx.out.cell 3 rfl
     cases o1 with
     | false=>
      have HCn:=lhid (HCw5.out.same (false,o2,o3,o4) rfl);(go_wp2_with fail);go_roundw
      case rel=>exact⟨m+1,by omega,by go_num,⟨c',f',HIm5.out,by rw[HL2.out,List.length_append];omega,by rw[HL2.out];exact HCn.out⟩,HG5.out⟩
      case measure=>simp[intOf];omega
     | true=>
      by_cases hke:o2=key
      ·have e0:(o2==key)=true:=(by simpa using hke);have HCn:=lhid (HCw5.out.more (true,o2,o3,o4) (by unfold wrO;simp[hke]));have hfo:=HCw5.out o4;have hlk:=zU HIm5.out o4 hno.1 hno.2;obtain⟨W6,hput,him6,htn⟩:=aRl HIm5.out (by unfold maxLen;omega) o4 (f' o4+1) hno.1 hno.2 (by omega) (by omega);obtain⟨z,hz⟩:∃ z,f' o4=z:=⟨_,rfl⟩;rw[hz] at hlk hput hfo;have e1:IntKind.i64.wrap (z+1)=z+1:=by rw[IntKind.wrap_i64];omega
       have HCm:Hid (aAk (fun j=>if j=o4 then z+1 else f' j) (L1++[(true,o2,o3,o4)]) key):=lhid (by
        have h9:=HCn.out;dsimp only at h9;rw[hz] at h9
        exact h9)
       have HIm6:Hid (dJ W6 bm (c'+1) (fun j=>if j=o4 then z+1 else f' j)):=lhid (by
        rw[hz] at him6
        exact him6)
       have HG6:=lhid (HG5.out.trans htn.grown);clear hke him6 htn HCn hz hfo;(go_wp2_with fail);go_roundw
       case rel=>exact⟨m+1,by omega,by go_num,⟨c'+1,_,HIm6.out,by rw[HL2.out,List.length_append];simp;omega,by rw[HL2.out];exact HCm.out⟩,HG6.out⟩
       case measure=>simp[intOf];omega
      ·have e0:(o2==key)=false:=(by simpa using hke);have HCn:=lhid (HCw5.out.same (true,o2,o3,o4) (by unfold wrO;simp[hke]));clear hke;(go_wp2_with fail);go_roundw
       case rel=>exact⟨m+1,by omega,by go_num,⟨c',f',HIm5.out,by rw[HL2.out,List.length_append];omega,by rw[HL2.out];exact HCn.out⟩,HG5.out⟩
       case measure=>simp[intOf];omega
    ·have hme:m=tl.length:=(by omega);subst hme;rw[List.take_length] at hc' hcw';have HIm4:=lhid him';have HCw4:=lhid hcw';have HG4:=lhid hgr';clear him' hcw' hgr';(go_wp2_with fail);go_roundw
     case rel=>exact⟨n+1,by omega,by go_num,⟨c',f',HIm4.out,by rw[HFn.out];exact hc',by rw[HFn.out];exact HCw4.out⟩,HG4.out⟩
     case measure=>simp[intOf];omega
  ·have hne:n=h.2.2.length:=(by omega);subst hne;rw[List.take_length] at hc hcw;have HCw:=lhid hcw;have HGr:=lhid hgr
   have HVr:=lhid (HVX2.out.kept hgr (fun e=>by
    injection e with e;have:=HNe.out
    omega))
   have HBr:Hid (Below w.heap.size w wr):=lhid (HB2.out.grown hgr HB2.out.size (fun q hq=>by
    injection hq with hq;have:=HNe.out
    omega))
   have HLk:=lhid (fun m (h1:(0:Int)≤m) (h2:m≤100000)=>zU him m (by omega) (by omega));have HFb:=lhid HFs.out.2.1
   have hfb:kI h.2.2 key≤800:=by
    have h1:=HFs.out.2.1;have h2:=HFl.out h.2.2.length (Nat.le_refl _);rw[List.take_length] at h2;omega
   have HPos:Hid (∀ m:Nat,m≤kI h.2.2 key→(0<f (m:Int)↔m<kI h.2.2 key)):=lhid (fun m hmf=>by
    rw[(HCw.out (m:Int)).2.2];have hw:=HWi.out (m:Int);rw[show(∃ o∈h.2.2.flatMap (·.2.2),wrO key o=true∧o.2.2.2=(m:Int))↔jK h.2.2 key (m:Int)=true from hw.symm];constructor
    ·intro hq;refine Nat.lt_of_le_of_ne hmf fun e=>?_;rw[e,HFs.out.1] at hq;cases hq
    ·intro hq
     exact HFs.out.2.2 m hq)
   obtain⟨N,hNq⟩:∃ N,kI h.2.2 key=N:=⟨_,rfl⟩;rw[hNq] at hfb HPos;have HNq:=lhid hNq;clear hc hcw him hgr hNq HFb;(go_wp2_with fail);obtain⟨wo,rfl⟩:∃ q,q=wr:=⟨_,rfl⟩
   go_loopw [10] (fun i wx=>∃ m:Nat,m≤N∧i=.int .i64 m∧wx=wo) (fun i _=>N-(intOf i).toNat)
   case atStart=>exact⟨0,Nat.zero_le _,rfl,rfl⟩
   case round=>
    obtain⟨m,hmN,rfl,rfl⟩:=hrel;have hlk:=HLk.out (m:Int) (by omega) (by omega);have hps:=HPos.out m hmN;obtain⟨z,hz⟩:∃ z,f (m:Int)=z:=⟨_,rfl⟩;rw[hz] at hlk hps;clear hz;by_cases hlt2:m<N
    ·have hz0:0<z:=hps.2 hlt2;have e0:decide (z > 0)=true:=decide_eq_true hz0;clear hps hz0;(go_wp2_with fail);go_roundw
     case rel=>exact⟨m+1,by omega,by go_num,by first | rfl | trivial⟩
     case measure=>simp[intOf];omega
    ·have hmN2:m=N:=(by omega);subst hmN2;have hz0:¬0<z:=fun q=>hlt2 (hps.1 q);have e0:decide (z > 0)=false:=decide_eq_false hz0;have r0:=HVr.out.cell 0 rfl;have r1:=HVr.out.cell 1 rfl;have f0:=HVr.out.frozen 0;have f1:=HVr.out.frozen 1;have HFin:=lhid (aU HBr.out (by have:=HNe.out;omega:w.heap.size≤gv) (.int .i64 1) (.int .i64 (m:Nat)));clear hps hz0 hlt2;(go_wp2_with fail);refine bodyPost_ret (bS Tryz.results65 _ _ _ _ _ rfl (kC (dQ HVr.out _ _))) rfl ?_;exact⟨by rw[HNq.out]<;>rfl,HFin.out⟩
end
section
open Go.RowKit Go.Lib
def dM (w:World) (v:Value) (L:List aR):Prop:=∃ g c cur,v=.slice (some ⟨g,0,none⟩) L.length c∧(L.length≤c∧c≤maxLen)∧w.heap[g]? = some (Obj.cells cur 57 (0,0))∧∀ (q:Nat) (u:Value),(aJ L)[q]? = some u→cur[q]? = some u
theorem dM.kept {w w':World} {v:Value} {L:List aR} (h:dM w v L) (hk:∀ (g:Nat) (cur:Array Value),w.heap[g]? = some (Obj.cells cur 57 (0,0))→w'.heap[g]? = w.heap[g]?):dM w' v L:=by
 obtain⟨g,c,cur,e,h1,h2,h3⟩:=h;exact⟨g,c,cur,e,h1,(hk g cur h2).trans h2,h3⟩
theorem dM.later {w w':World} {v:Value} {L:List aR} (h:dM w v L) (hb:Below w.heap.size w w'):dM w' v L:=h.kept fun g _ hg=>hb.block g (Array.getElem?_eq_some_iff.1 hg).1
theorem dM.grown {w w':World} {v r:Value} {L:List aR} {base size n:Nat} {e:TypeId} {xs:List Value} (h:dM w v L) (hr:w.ownsRow base e size r n xs) (hne:e≠57) (hg:w.grownBy w' r.ownBlock):dM w' v L:=h.kept fun g cur hc=>by
 refine hg.block g (Array.getElem?_eq_some_iff.1 hc).1 fun eq=>?_;rcases hr.2 with ⟨rfl,-⟩ | ⟨g',cap,cur',rfl,-,hw,-⟩
 ·cases eq
 ·have e1:g=g':=(by simpa [Value.ownBlock] using eq);subst e1;rw[hc] at hw;injection hw with hw;injection hw with _ hw;exact hne hw.symm
theorem dM.block {w w':World} {v:Value} {L:List aR} {x:Nat} {t:TypeId} {cs:List Value} (h:dM w v L) (hx:Blk w x t cs) (hne:t≠57) (hg:w.grownBy w' (some x)):dM w' v L:=h.kept fun g cur hc=>by
 refine hg.block g (Array.getElem?_eq_some_iff.1 hc).1 fun eq=>?_;injection eq with e1;subst e1;have hs':w.heap[g]? = some (.cells cs.toArray t (0,0)):=hx;rw[hc] at hs';injection hs' with hs';injection hs' with _ hs';exact hne hs'.symm
theorem aIk {w:World} {base n:Nat} {v:Value} {L:List aR} (h:w.ownsRow base 57 2 v n (aJ L)) (hn:n=L.length) (h0:0<n):dM w v L:=by
 subst hn;have h3:=h;rcases h.2 with ⟨-,h1⟩ | ⟨g,cap,cur,rfl,-,hw,h1,h2,-⟩
 ·omega
 ·refine⟨g,cap,cur,rfl,⟨h1,h2⟩,hw,fun q u hq=>?_⟩;have hl:=(List.getElem?_eq_some_iff.1 hq).1;rw[bC] at hl;have h4:=h3.cellAt q hl;rw[hq] at h4;simpa [World.cell?,hw] using h4
theorem dM.vals {w:World} {v:Value} {L:List aR} (h:dM w v L):oS w v L:=by
 obtain⟨g,c,cur,e,h1,h2,h3⟩:=h;refine⟨_,c,e,h1,fun j hj=>⟨g,rfl,?_,?_⟩⟩
 ·have e1:=h3 (j*2) _ (by
   rw[aJ,show j*2=j*2+0 by omega,kB aZ 2 (fun _=>rfl) aN L j 0 hj (by omega)]
   rfl)
  simpa [World.cell?,h2] using e1
 ·have e1:=h3 (j*2+1) _ (by
   rw[aJ,kB aZ 2 (fun _=>rfl) aN L j 1 hj (by omega)]
   rfl)
  simpa [World.cell?,h2] using e1
theorem dM.at {w:World} {v:Value} {L:List aR} (h:dM w v L):∃ g c,v=.slice (some ⟨g,0,none⟩) L.length c∧(L.length≤c∧c≤maxLen)∧∀ j,j<L.length→w.cell? ⟨g,j*2,none⟩=some (.int .i64 (L.getD j aN).1)∧w.cell? ⟨g,j*2+1,none⟩=some (.int .i64 (L.getD j aN).2):=by
 obtain⟨p,c,e,hc,hh⟩:=h.vals;obtain⟨g,c',cur,e',-⟩:=h;rw[e'] at e;injection e with e1 _ e3;subst e3;refine⟨g,c',e',hc,fun j hj=>?_⟩;obtain⟨g',eg,h1,h2⟩:=hh j hj;rw[←e1] at eg;injection eg with eg;injection eg with eg;subst eg;exact⟨h1,h2⟩
def lA (w:World) (vs:List Value) (LL:List (List aR)):Prop:=vs.length=LL.length∧∀ i,i<LL.length→dM w (vs.getD i (.slice none 0 0)) (LL.getD i [])
theorem lA.kept {w w':World} {vs:List Value} {LL:List (List aR)} (h:lA w vs LL) (hk:∀ (g:Nat) (cur:Array Value),w.heap[g]? = some (Obj.cells cur 57 (0,0))→w'.heap[g]? = w.heap[g]?):lA w' vs LL:=⟨h.1,fun i hi=>(h.2 i hi).kept hk⟩
theorem lA.later {w w':World} {vs:List Value} {LL:List (List aR)} (h:lA w vs LL) (hb:Below w.heap.size w w'):lA w' vs LL:=⟨h.1,fun i hi=>(h.2 i hi).later hb⟩
theorem lA.grown {w w':World} {r:Value} {vs:List Value} {LL:List (List aR)} {base size n:Nat} {e:TypeId} {xs:List Value} (h:lA w vs LL) (hr:w.ownsRow base e size r n xs) (hne:e≠57) (hg:w.grownBy w' r.ownBlock):lA w' vs LL:=⟨h.1,fun i hi=>(h.2 i hi).grown hr hne hg⟩
theorem lA.nil (w:World):lA w [] []:=⟨rfl,fun i hi=>absurd hi (Nat.not_lt_zero i)⟩
theorem lA.snoc {w:World} {vs:List Value} {LL:List (List aR)} {v:Value} {l:List aR} (h:lA w vs LL) (k:dM w v l):lA w (vs++[v]) (LL++[l]):=by
 refine⟨by rw[List.length_append,List.length_append,h.1];rfl,fun i hi=>?_⟩;by_cases e:i<LL.length
 ·rw[show(vs++[v]).getD i (.slice none 0 0)=vs.getD i (.slice none 0 0) by simp[List.getD,List.getElem?_append_left (by rw[h.1];exact e:i<vs.length)],show(LL++[l]).getD i []=LL.getD i [] by simp[List.getD,List.getElem?_append_left e]];exact h.2 i e
 ·have e2:i=LL.length:=by
   rw[List.length_append] at hi;simp at hi;omega
  subst e2;rw[show(vs++[v]).getD LL.length (.slice none 0 0)=v by simp[List.getD, ←h.1],show(LL++[l]).getD LL.length []=l by simp[List.getD]];exact k
def kH (w:World) (v:Value) (LL:List (List aR)):Prop:=∃ p c,v=.slice p LL.length c∧(LL.length≤c∧c≤maxLen)∧(LL≠[]→∃ (g:Nat) (cur:Array Value),p=some ⟨g,0,none⟩∧w.heap[g]? = some (Obj.cells cur 27 (0,0))∧∀ j,j<LL.length→∃ u,cur[j]? = some u∧dM w u (LL.getD j []))
theorem kH.kept {w w':World} {v:Value} {LL:List (List aR)} (h:kH w v LL) (hk:∀ (g:Nat) (cur:Array Value) (t:TypeId),t=27∨t=57→w.heap[g]? = some (Obj.cells cur t (0,0))→w'.heap[g]? = w.heap[g]?):kH w' v LL:=by
 obtain⟨p,c,e,hc,hh⟩:=h;refine⟨p,c,e,hc,fun hl=>?_⟩;obtain⟨g,cur,e1,e2,e3⟩:=hh hl;refine⟨g,cur,e1,(hk g cur _ (.inl rfl) e2).trans e2,fun j hj=>?_⟩;obtain⟨u,h1,h2⟩:=e3 j hj;exact⟨u,h1,h2.kept fun g cur hg=>hk g cur _ (.inr rfl) hg⟩
theorem kH.below {w w':World} {v:Value} {LL:List (List aR)} (h:kH w v LL) (hb:Below w.heap.size w w'):kH w' v LL:=h.kept fun g _ _ _ hg=>hb.block g (Array.getElem?_eq_some_iff.1 hg).1
theorem kH.block {w w':World} {v:Value} {LL:List (List aR)} {x:Nat} {t:TypeId} {cs:List Value} (h:kH w v LL) (hx:Blk w x t cs) (h1:t≠57) (h2:t≠27) (hg:w.grownBy w' (some x)):kH w' v LL:=h.kept fun g cur e he hc=>by
 refine hg.block g (Array.getElem?_eq_some_iff.1 hc).1 fun eq=>?_;injection eq with e1;subst e1;have hs':w.heap[g]? = some (.cells cs.toArray t (0,0)):=hx;rw[hc] at hs';injection hs' with hs';injection hs' with _ hs';rcases he with he | he
 ·exact h2 (hs'.symm.trans he)
 ·exact h1 (hs'.symm.trans he)
theorem kH.get {w:World} {v:Value} {LL:List (List aR)} (h:kH w v LL) (j:Nat) (hj:j<LL.length):∃ g c u,v=.slice (some ⟨g,0,none⟩) LL.length c∧w.cell? ⟨g,j,none⟩=some u∧dM w u (LL.getD j []):=by
 obtain⟨p,c,e,hc,hh⟩:=h;obtain⟨g,cur,rfl,e2,e3⟩:=hh (fun q=>by rw[q] at hj;cases hj);obtain⟨u,h1,h2⟩:=e3 j hj;exact⟨g,c,u,e,by simp[World.cell?,e2,h1],h2⟩
theorem kH.form {w:World} {v:Value} {LL:List (List aR)} (h:kH w v LL):∃ p c,v=.slice p LL.length c∧∀ j,j<LL.length→∃ g,p=some ⟨g,0,none⟩:=by
 obtain⟨p,c,e,hc,hh⟩:=h;refine⟨p,c,e,fun j hj=>?_⟩;obtain⟨g,cur,rfl,e2,e3⟩:=hh (fun q=>by rw[q] at hj;cases hj);exact⟨g,rfl⟩
theorem aZj {w:World} {base n:Nat} {v:Value} {vs:List Value} {LL:List (List aR)} (h:w.ownsRow base 27 1 v n vs) (hn:n=LL.length) (hl:lA w vs LL):kH w v LL:=by
 subst hn;have h3:=h;rcases h.2 with ⟨rfl,h1⟩ | ⟨g,cap,cur,rfl,-,hw,h1,h2,-⟩
 ·exact⟨none,0,by rw[h1],⟨by omega,Nat.zero_le _⟩,fun q=>absurd (List.eq_nil_of_length_eq_zero h1) q⟩
 ·refine⟨_,cap,rfl,⟨h1,h2⟩,fun _=>⟨g,cur,rfl,hw,fun j hj=>⟨vs.getD j (.slice none 0 0),?_,hl.2 j hj⟩⟩⟩;have hjv:j<vs.length:=(by rw[hl.1];exact hj);have h4:=h3.cellAt j (by omega);rw[show vs.getD j (.slice none 0 0)=vs[j] by simp[hjv]];rw[List.getElem?_eq_getElem hjv] at h4;simpa [World.cell?,hw] using h4
theorem dM.below {w w':World} {v:Value} {L:List aR} (h:dM w v L) (hb:Below w.heap.size w w'):dM w' v L:=h.later hb
theorem lA.below {w w':World} {vs:List Value} {LL:List (List aR)} (h:lA w vs LL) (hb:Below w.heap.size w w'):lA w' vs LL:=h.later hb
theorem aXc {w a b:World} {row r:Option Nat} (h:w.grownBy a row) (hg:a.grownBy b r) (hr:∀ q,r=some q→w.heap.size≤q):w.grownBy b row:=
 ⟨hg.os.trans h.os,hg.tape.trans h.tape,hg.output.trans h.output,Nat.le_trans h.size hg.size,fun k hk hne=>(hg.block k (Nat.lt_of_lt_of_le hk h.size) (fun e=>by have:=hr k e.symm;omega)).trans (h.block k hk hne)⟩
end
section
open Go.RowKit Go.Lib
theorem aCt {w:World} {a:Addr} {L:List Bool} (hp:jA w (some a) L):∀ (j:Nat) (u:Value),(bG L)[j]? = some u→w.cell? (a.add j)=some u:=by
 intro j u hj
 have hjl:j<L.length:=by
  have:=(List.getElem?_eq_some_iff.1 hj).1;simpa [bG] using this
 obtain⟨g,hg,hc⟩:=hp j hjl;obtain rfl:a=⟨g,0,none⟩:=(by simpa using hg);rw[Addr.add_lit,Nat.zero_add,hc, ←hj];simp[bG,hjl]
theorem aGk {w:World} {a:Addr} {L:List aR} (hp:lF w (some a) L):∀ (j:Nat) (u:Value),(aJ L)[j]? = some u→w.cell? (a.add j)=some u:=by
 intro j u hj;have hjl:=(List.getElem?_eq_some_iff.1 hj).1;rw[bC] at hjl;have e1:j=j / 2*2+j % 2:=(by omega);obtain⟨g,hg,h1,h2⟩:=hp (j / 2) (by omega);obtain rfl:a=⟨g,0,none⟩:=(by simpa using hg);rw[Addr.add_lit,Nat.zero_add];rcases Nat.mod_two_eq_zero_or_one j with q | q
 ·rw[q] at e1;rw[e1,aJ,kB aZ 2 (fun _=>rfl) aN L (j / 2) 0 (by omega) (by omega)] at hj;rw[e1, ←hj];exact h1
 ·rw[q] at e1;rw[e1,aJ,kB aZ 2 (fun _=>rfl) aN L (j / 2) 1 (by omega) (by omega)] at hj;rw[e1, ←hj];exact h2
set_option maxRecDepth 100000 in
set_option maxHeartbeats 2000000 in
theorem aBw (w:World) (v:Value) (L:List Bool) (hv:qW w v L) (hL:L.length≤1000000) :
  Calls Tryz.prog 33 #[v] w fun e w'=>∃ v',e=.returned v'∧w'.ownsRow w.heap.size 4 1 v' L.length (bG L)∧Below w.heap.size w w':=by
 obtain⟨p,c,rfl,-,hp⟩:=hv;obtain⟨i0,hi,hz0,hz1,hz2⟩:=info_parts oB
 cases p with
 | none=>
  have hL0:L=[]:=by
   cases L with
   | nil=>rfl
   | cons a r=>obtain⟨g,hg,-⟩:=hp 0 (by simp);cases hg
  subst hL0;have hq:=run_eql_slice_nil (P:=Tryz.prog) w 26 4 none 0 c Tryz.underlying26;clear hp;go_enter Tryz.func33,Tryz.ntmps33;(go_wp2_with fail);go_ret;exact⟨_,rfl,World.ownsRow_nil _ _ _ _,Below.refl _ _⟩
 | some a=>
  have hq:=run_eql_slice_nil (P:=Tryz.prog) w 26 4 (some a) L.length c Tryz.underlying26;have HNews:=lhid (aCt hp);clear hp;go_enter Tryz.func33,Tryz.ntmps33;(go_wp2_with (at_builtin;refine wpList_append_own _ rfl _ _ 26 rfl w.heap.size 4 i0 (.bool false) 1 1 Tryz.underlying26 hi hz0 hz1 hz2 rfl (by decide) _ 0 [] rfl (World.ownsRow_made w #[] 0 (Nat.le_refl _) (Nat.zero_le _) rfl) a L.length c (bG L) rfl (by simp[bG]) (fun j u hj=>lQ _ (HNews.out j u hj)) (lK L) (by unfold maxLen;omega) (by omega) (by simp) ?_));intro v' w4 hown4 hgrow hnil;have hb4:Below w.heap.size w w4:=((Below.refl _ _).alloc (Nat.le_refl _) _).grown hgrow (by simp) (fun k hk=>by simp[Value.ownBlock] at hk;omega);have HO:Hid (w4.ownsRow w.heap.size 4 1 v' L.length (bG L)):=lhid (by simpa using hown4);clear hown4 hgrow hnil;(go_wp2_with fail);go_ret;exact⟨_,rfl,HO.out,hb4⟩
set_option maxRecDepth 100000 in
set_option maxHeartbeats 2000000 in
theorem vZ (w:World) (v:Value) (L:List aR) (hv:oS w v L) (hL:L.length≤1000000) :
  Calls Tryz.prog 34 #[v] w fun e w'=>∃ v',e=.returned v'∧w'.ownsRow w.heap.size 57 2 v' L.length (aJ L)∧Below w.heap.size w w':=by
 obtain⟨p,c,rfl,-,hp⟩:=hv;obtain⟨i0,hi,hz0,hz1,hz2⟩:=info_parts oC
 cases p with
 | none=>
  have hL0:L=[]:=by
   cases L with
   | nil=>rfl
   | cons a r=>obtain⟨g,hg,-⟩:=hp 0 (by simp);cases hg
  subst hL0;have hq:=run_eql_slice_nil (P:=Tryz.prog) w 27 57 none 0 c Tryz.underlying27;clear hp;go_enter Tryz.func34,Tryz.ntmps34;(go_wp2_with fail);go_ret;exact⟨_,rfl,World.ownsRow_nil _ _ _ _,Below.refl _ _⟩
 | some a=>
  have hq:=run_eql_slice_nil (P:=Tryz.prog) w 27 57 (some a) L.length c Tryz.underlying27;have HNews:=lhid (aGk hp);clear hp;go_enter Tryz.func34,Tryz.ntmps34;(go_wp2_with (at_builtin;refine wpList_append_own _ rfl _ _ 27 rfl w.heap.size 57 i0 (.agg #[.int .i64 0,.int .i64 0]) 2 16 Tryz.underlying27 hi hz0 hz1 hz2 rfl (by decide) _ 0 [] rfl (World.ownsRow_made w #[] 0 (Nat.le_refl _) (Nat.zero_le _) rfl) a L.length c (aJ L) rfl (bC L) (fun j u hj=>lQ _ (HNews.out j u hj)) (bJ L) (by unfold maxLen;omega) (by omega) (by simp) ?_));intro v' w4 hown4 hgrow hnil;have hb4:Below w.heap.size w w4:=((Below.refl _ _).alloc (Nat.le_refl _) _).grown hgrow (by simp) (fun k hk=>by simp[Value.ownBlock] at hk;omega);have HO:Hid (w4.ownsRow w.heap.size 57 2 v' L.length (aJ L)):=lhid (by simpa using hown4);clear hown4 hgrow hnil;(go_wp2_with fail);go_ret;exact⟨_,rfl,HO.out,hb4⟩
def aJw (L:List aR) (x:aR):Int:=if x∈L then (atW L x:Nat) else -1
theorem bHp {L:List aR} {x:aR} {n:Nat} (hn:n<L.length) (hb:∀ j,j<n→L.getD j aN≠x) (he:L.getD n aN=x):aJw L x=(n:Nat):=by
 have hm:x∈L:=by
  rw[←he,show L.getD n aN=L[n] by simp[hn]];exact List.getElem_mem hn
 have h1:=zN.2 hm;have h2:=aJo aN hm
 have h3:¬n<atW L x:=fun q=>by
  have h4:=List.not_of_lt_findIdx (p:=(· == x)) q;rw[show L.getD n aN=L[n] by simp[hn]] at he;simp[he] at h4
 have h5:¬atW L x<n:=fun q=>hb _ q h2;unfold aJw;rw[if_pos hm];have:atW L x=n:=(by omega);rw[this]
theorem bHq {L:List aR} {x:aR} (h:∀ j,j<L.length→L.getD j aN≠x):aJw L x=-1:=by
 unfold aJw;rw[if_neg fun hm=>h _ (zN.2 hm) (aJo aN hm)]
set_option maxRecDepth 100000 in
set_option maxHeartbeats 2000000 in
theorem aRn (w:World) (p:Option Addr) (c:Nat) (L:List aR) (x:aR) (hp:lF w p L) (hL:L.length≤100000) :
  Calls Tryz.prog 32 #[.slice p L.length c,.agg #[.int .i64 x.1,.int .i64 x.2]] w fun e w'=>e=.returned (.int .i64 (aJw L x))∧Below w.heap.size w w':=by
 have HV:=lhid hp;have HAt:=lhid (fun n (hn:n<L.length) hb he=>bHp (x:=x) hn hb he);have HNo:=lhid (fun h=>bHq (L:=L) (x:=x) h);obtain⟨iw,hiw⟩:∃ q,aJw L x=q:=⟨_,rfl⟩;rw[hiw] at HAt HNo ⊢;obtain⟨x1,x2⟩:=x;dsimp only;have HAL:=lhid ((Below.refl w.heap.size w).alloc (Nat.le_refl _) (.cells #[.int .i64 x1,.int .i64 x2] 57));have HBX:=lhid (Blk.new w 57 [.int .i64 x1,.int .i64 x2]);clear hp hiw;go_enter Tryz.func32,Tryz.ntmps32;(go_wp2_with fail);obtain⟨W1,hW1⟩:∃ q,w.alloc (.cells #[.int .i64 x1,.int .i64 x2] 57)=q:=⟨_,rfl⟩;rw[hW1] at HAL HBX ⊢;obtain⟨gx,hgx⟩:∃ q,w.heap.size=q:=⟨_,rfl⟩;rw[hgx] at HBX;(try simp only[hgx]);have HGx:=lhid hgx;clear hW1 hgx
 go_loopw [8] (fun i wr=>∃ n:Nat,n≤L.length∧i=.int .i64 n∧(∀ j,j<n→L.getD j aN≠(x1,x2))∧Below W1.heap.size W1 wr) (fun i _=>L.length-(intOf i).toNat)
 case atStart=>exact⟨0,Nat.zero_le _,rfl,fun j hj=>absurd hj (Nat.not_lt_zero j),Below.refl _ _⟩
 case round=>
  obtain⟨n,hn,rfl,hbf,hbw⟩:=hrel;have HBf:=lhid hbf;by_cases hlt:n<L.length
  ·obtain⟨g,rfl,q1,q2⟩:=HV.out n hlt;have q1:=cell_later (aB HAL.out hbw) q1;have q2:=cell_later (aB HAL.out hbw) q2;have hat:=HAt.out n hlt hbf;obtain⟨⟨y1,y2⟩,hy⟩:∃ q,L.getD n aN=q:=⟨_,rfl⟩;rw[hy] at q1 q2 hat;dsimp only at q1 q2;have HY:=lhid hy;have HAt1:=lhid hat;have HBw:=lhid hbw;have HS:Hid (∀ w',Below wr.heap.size wr w'→w'.cell? ⟨gx,0,none⟩=some (.int .i64 x1)∧w'.cell? ⟨gx,1,none⟩=some (.int .i64 x2)∧w'.cell? ⟨g,n*2,none⟩=some (.int .i64 y1)∧w'.cell? ⟨g,n*2+1,none⟩=some (.int .i64 y2)∧Below wr.heap.size wr w'):=lhid (fun w' hb=>⟨(HBX.out.later (aB hbw hb)).cell 0 rfl,(HBX.out.later (aB hbw hb)).cell 1 rfl,cell_later hb q1,cell_later hb q2,hb⟩);clear hat hy hbf hbw q1 q2;by_cases hxy:(x1,x2)=((y1,y2):Int×Int)
   ·have e1:x1=y1:=congrArg Prod.fst hxy;have e2:x2=y2:=congrArg Prod.snd hxy;subst e1;subst e2;have HR:=lhid (HAt1.out rfl);clear hxy;(go_upto_region 4 with fail);refine wpk HS [] (by kernel_rfl) fun hB0 hS0=>?_;refine wT 0 6 hS0 ?_;refine wF 1 ?_;refine wO 2 ?_;refine wO 3 ?_;refine wO 4 ?_;refine wO 5 ?_;refine wD ?_;(go_wp2_with fail);go_ret;exact⟨by rw[HR.out]<;>rfl,aB HAL.out (aB HBw.out hB0)⟩
   ·have hbn:∀ j,j<n+1→L.getD j aN≠(x1,x2):=fun j hj=>by
     by_cases e:j=n
     ·rw[e,HY.out];exact fun q=>hxy q.symm
     ·exact HBf.out j (by omega)
    have HBn:=lhid hbn;clear hbn;by_cases e1:x1=y1
    ·have e2:¬x2=y2:=fun b=>hxy (by rw[e1,b]);subst e1;clear hxy;(go_upto_region 4 with fail);refine wpk HS [] (by kernel_rfl) fun hB0 hS0=>?_;refine wT 0 6 hS0 ?_;refine wF 1 ?_;refine wO 2 ?_;refine wO 3 ?_;refine wO 4 ?_;refine wO 5 ?_;refine wD ?_;(go_wp2_with fail);go_roundw
     case rel=>exact⟨n+1,by omega,by go_num,HBn.out,aB HBw.out hB0⟩
     case measure=>simp[intOf];omega
    ·clear hxy;(go_upto_region 4 with fail);refine wpk HS [] (by kernel_rfl) fun hB0 hS0=>?_;refine wT 0 6 hS0 ?_;refine wF 1 ?_;refine wO 2 ?_;refine wO 3 ?_;refine wO 4 ?_;refine wO 5 ?_;refine wD ?_;(go_wp2_with fail);go_roundw
     case rel=>exact⟨n+1,by omega,by go_num,HBn.out,aB HBw.out hB0⟩
     case measure=>simp[intOf];omega
  ·have hne:n=L.length:=(by omega);subst hne;have HR:=lhid (HNo.out hbf);have HBw:=lhid hbw;clear hbf hbw;(go_wp2_with fail);go_ret;exact⟨by rw[HR.out]<;>rfl,aB HAL.out HBw.out⟩
end
end Go.Proofs.YtdfegfagedeilaaGreatDoor
