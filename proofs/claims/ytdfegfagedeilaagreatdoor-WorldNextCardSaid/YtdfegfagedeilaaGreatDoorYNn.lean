/-
  Several texts of these walks, joined and squeezed (as templates they lie in wip/tpl): WlG WrS WlR WlX WhF HArgN.
-/
import Derived.Test.YtdfegfagedeilaaGreatDoorYNm
namespace Go.Proofs.YtdfegfagedeilaaGreatDoor
section
open Go.RowKit Go.Lib
theorem dM.blk {w:World} {gl c n:Nat} {L:List aR} (h:dM w (.slice (some ⟨gl,0,none⟩) n c) L):∃ cur:Array Value,Blk w gl 57 cur.toList∧n=L.length∧(n≤c∧c≤maxLen)∧∀ (q:Nat) (u:Value),(aJ L)[q]? = some u→cur[q]? = some u:=by
 obtain⟨g,c',cur,e,h1,h2,h3⟩:=h;injection e with e1 e2 e3;injection e1 with e1;injection e1 with e1;subst e1 e2 e3;exact⟨cur,h2,rfl,h1,h3⟩
theorem dM.spots {w:World} {gl c n:Nat} {L:List aR} (h:dM w (.slice (some ⟨gl,0,none⟩) n c) L) (k:Nat) (hk:k<L.length):∃ z0 z1,w.cell? ⟨gl,k*2,none⟩=some z0∧w.cell? ⟨gl,k*2+1,none⟩=some z1∧w.frozen? ⟨gl,k*2,none⟩=false∧w.frozen? ⟨gl,k*2+1,none⟩=false:=by
 obtain⟨cur,hb,-,-,h3⟩:=h.blk;have e1:=h3 _ _ (pD L (k*2) (by omega));have e2:=h3 _ _ (pD L (k*2+1) (by omega));exact⟨_,_,hb.cell _ (by rw[Array.getElem?_toList];exact e1),hb.cell _ (by rw[Array.getElem?_toList];exact e2),hb.frozen _,hb.frozen _⟩
theorem dM.put {w:World} {gl c n:Nat} {L:List aR} (h:dM w (.slice (some ⟨gl,0,none⟩) n c) L) (k:Nat) (hk:k<L.length) (x:aR):dM ((w.setCell ⟨gl,k*2,none⟩ (.int .i64 x.1)).setCell ⟨gl,k*2+1,none⟩ (.int .i64 x.2)) (.slice (some ⟨gl,0,none⟩) n c) (L.set k x):=by
 obtain⟨cur,hb,hn,hc,h3⟩:=h.blk;have hb2:=(hb.set (k*2) (.int .i64 x.1)).set (k*2+1) (.int .i64 x.2);refine⟨gl,c,_,by rw[List.length_set, ←hn],by rw[List.length_set, ←hn];exact hc,hb2,fun q u hq=>?_⟩;have hql:=(List.getElem?_eq_some_iff.1 hq).1;rw[bC,List.length_set] at hql;have e0:=pD (L.set k x) q (by rw[List.length_set];exact hql);rw[hq] at e0;injection e0 with e0;have e1:=h3 _ _ (pD L q hql)
 have hqc:q<cur.toList.length:=by
  have:=(Array.getElem?_eq_some_iff.1 e1).1;simpa using this
 show((cur.toList.set (k*2) _).set (k*2+1) _).toArray[q]? = some u;rw[List.getElem?_toArray,List.getElem?_set,List.getElem?_set]
 have hd:(L.set k x).getD (q / 2) (0,0)=if q / 2=k then x else L.getD (q / 2) (0,0):=by
  rw[List.getD_eq_getElem?_getD,List.getElem?_set];by_cases e:k=q / 2
  ·subst e;rw[if_pos rfl,if_pos hk,if_pos rfl];rfl
  ·rw[if_neg e,if_neg (fun q=>e q.symm)];rfl
 rw[hd] at e0;rw[Array.getElem?_toList,List.length_set];by_cases h1:k*2+1=q
 ·rw[if_pos h1,if_pos (by omega),e0,if_neg (by omega),if_pos (by omega)]
 ·rw[if_neg h1];by_cases h2:k*2=q
  ·rw[if_pos h2,if_pos (by omega),e0,if_pos (by omega),if_pos (by omega)]
  ·have h4:¬q / 2=k:=(by omega);rw[if_neg h2,e1,e0];simp only[if_neg h4]
set_option maxRecDepth 100000 in
set_option maxHeartbeats 4000000 in
theorem aSb (w:World) (k a ga gt go gat gl N ca cl Q:Nat) (cv vt:Value) (LL:List (List aR)) (L:List aR) (ha:w.cell? ⟨ga,0,none⟩=some (.slice (some ⟨gat,0,none⟩) N ca)) (hat:w.cell? ⟨gat,k,none⟩=some (.int .i64 (a:Nat))) (ht:w.cell? ⟨gt,0,none⟩=some vt) (hts:kH w vt LL) (hgo:Blk w go 29 [cv,.slice (some ⟨gl,0,none⟩) Q cl]) (hlv:dM w (.slice (some ⟨gl,0,none⟩) Q cl) L)
  (hkN:k<N) (hkL:k<LL.length) (hkQ:k<L.length) (hne:LL.getD k []≠[]) (hal:a<(LL.getD k []).length) (hbig:(LL.getD k []).length≤100000) :
  Calls Tryz.prog 35 #[.int .i64 (k:Nat),.pointer (some ⟨ga,0,none⟩),.pointer (some ⟨gt,0,none⟩),.pointer (some ⟨go,0,none⟩)] w fun e w'=>e=.returned (.bool (decide (0<(a+1) % (LL.getD k []).length)))∧dM w' (.slice (some ⟨gl,0,none⟩) Q cl) (L.set k ((LL.getD k []).getD ((a+1) % (LL.getD k []).length) aN))∧w.grownBy w' (some gl):=by
 obtain⟨gtr,ct,u,rfl,hu,hvt⟩:=hts.get k hkL;have hp1:0<(LL.getD k []).length:=List.length_pos_iff.2 hne;obtain⟨TL,hTL⟩:∃ q,LL.getD k []=q:=⟨_,rfl⟩;rw[hTL] at hvt hne hal hbig hp1 ⊢
 obtain⟨gu,cu,rfl,-,hvu⟩:=hvt.at
 obtain⟨M,hM⟩:∃ q,LL.length=q:=⟨_,rfl⟩;rw[hM] at ht hkL;have hqT:(a+1) % TL.length<TL.length:=Nat.mod_lt _ hp1;have hwrap:IntKind.i64.wrap ((a:Int)+1)=(a:Int)+1:=by rw[IntKind.wrap_i64];omega
 have hrem:((a:Int)+1).tmod (TL.length:Int)=(((a+1) % TL.length:Nat):Int):=by
  rw[Int.tmod_eq_emod_of_nonneg (by omega)];rfl
 obtain⟨q,hq⟩:∃ q,(a+1) % TL.length=q:=⟨_,rfl⟩;rw[hq] at hqT hrem ⊢;obtain⟨x1,x2⟩:=hvu q hqT;obtain⟨⟨xa,xb⟩,hx⟩:∃ z,TL.getD q aN=z:=⟨_,rfl⟩;rw[hx] at x1 x2 ⊢;dsimp only at x1 x2;obtain⟨-,-,hQ,-,-⟩:=hlv.blk;have hkQ2:k<Q:=(by omega);clear hQ;have HkL:=lhid hkQ;have HLv0:=lhid hlv;have HGo:=lhid hgo;have HX1:=lhid x1;have HX2:=lhid x2;have HT:=lhid ht;have HU:=lhid hu;have HS:Hid (∀ w',Below w.heap.size w w'→w'.cell? ⟨ga,0,none⟩=some (.slice (some ⟨gat,0,none⟩) N ca)∧w'.cell? ⟨gat,k,none⟩=some (.int .i64 (a:Nat))∧w'.cell? ⟨gt,0,none⟩=some (.slice (some ⟨gtr,0,none⟩) M ct)∧w'.cell? ⟨gtr,k,none⟩=some (.slice (some ⟨gu,0,none⟩) TL.length cu)∧Below w.heap.size w w'):=lhid (fun w' hb=>⟨cell_later hb ha,cell_later hb hat,cell_later hb ht,cell_later hb hu,hb⟩);clear ha hat ht hts hgo hlv hvt hu hvu x1 x2 hTL hM hx hq;go_enter Tryz.func35,Tryz.ntmps35;(go_upto_region 1 with fail);refine wpk HS [] (by kernel_rfl) fun hB0 hS0=>?_;refine wT 0 12 hS0 ?_;refine wF 1 ?_;refine wF 2 ?_;refine wT 3 12 hS0 ?_;refine wF 4 ?_;refine wT 5 12 hS0 ?_;refine wO 6 ?_;refine wO 7 ?_;refine wO 8 ?_;refine wO 9 ?_;refine wO 10 ?_;refine wO 11 ?_;refine wD ?_;obtain⟨w1,hw1⟩:∃ q,w.drew=q:=⟨_,rfl⟩;rw[hw1] at hB0;(try rw[hw1]);have HB0:=lhid hB0;have HLv:=lhid (HLv0.out.later hB0)
 have HS2:Hid (∀ w',Below w1.heap.size w1 w'→w'.cell? ⟨gt,0,none⟩=some (.slice (some ⟨gtr,0,none⟩) M ct)∧w'.cell? ⟨gtr,k,none⟩=some (.slice (some ⟨gu,0,none⟩) TL.length cu)∧w'.cell? ⟨go,1,none⟩=some (.slice (some ⟨gl,0,none⟩) Q cl)∧w'.cell? ⟨gu,q*2,none⟩=some (.int .i64 xa)∧w'.cell? ⟨gu,q*2+1,none⟩=some (.int .i64 xb)∧Below w1.heap.size w1 w'):=lhid (fun w' hb=>by
  have hbb:=aB HB0.out hb
  exact⟨cell_later hbb HT.out,cell_later hbb HU.out,(HGo.out.later hbb).cell 1 rfl,cell_later hbb HX1.out,cell_later hbb HX2.out,hb⟩)
 clear hw1 hB0 hS0 HS HX1 HX2 HT HU HLv0;have HS:=HS2;clear HS2;(go_upto_region 2 with fail);refine wpk HS [11] (by kernel_rfl) fun hB0 hS0=>?_;obtain⟨wd,hwd⟩:∃ q,w1.drew=q:=⟨_,rfl⟩;rw[hwd] at hB0 hS0;(try simp only[hwd]);clear hwd;refine wF 0 ?_;refine wT 1 12 hS0 ?_;refine wF 2 ?_;refine wT 3 12 hS0 ?_;refine wF 4 ?_;refine wF 5 ?_;refine wT 6 12 hS0 ?_;refine wO 7 ?_;refine wO 8 ?_;refine wO 9 ?_;refine wO 10 ?_;have HLz:=lhid (HLv.out.later hB0);obtain⟨z0,z1,s0,s1,f0,f1⟩:=HLz.out.spots k HkL.out;refine wL 11 ?_;clear s0 s1 f0 f1;refine wD ?_;have HP:=lhid (HLz.out.put k HkL.out (xa,xb));have HG:=lhid ((kQ (HB0.out.trans (hB0.mono HB0.out.size)) (row:=some gl)).trans ((jC _ gl (k*2) (.int .i64 xa)).trans (jC _ gl (k*2+1) (.int .i64 xb))));(go_wp2_with fail);go_ret;exact⟨by first | rfl | (congr 2;simp),HP.out,HG.out⟩
def jM (w:World) (v:Value) (L:List Bool):Prop:=∃ g c cur,v=.slice (some ⟨g,0,none⟩) L.length c∧(L.length≤c∧c≤maxLen)∧w.heap[g]? = some (Obj.cells cur 4 (0,0))∧∀ (q:Nat) (u:Value),(bG L)[q]? = some u→cur[q]? = some u
theorem jM.later {w w':World} {v:Value} {L:List Bool} (h:jM w v L) (hb:Below w.heap.size w w'):jM w' v L:=by
 obtain⟨g,c,cur,e,h1,h2,h3⟩:=h;exact⟨g,c,cur,e,h1,(hb.block g (Array.getElem?_eq_some_iff.1 h2).1).trans h2,h3⟩
theorem jM.blk {w:World} {gl c n:Nat} {L:List Bool} (h:jM w (.slice (some ⟨gl,0,none⟩) n c) L):∃ cur:Array Value,Blk w gl 4 cur.toList∧n=L.length∧(n≤c∧c≤maxLen)∧∀ (q:Nat) (u:Value),(bG L)[q]? = some u→cur[q]? = some u:=by
 obtain⟨g,c',cur,e,h1,h2,h3⟩:=h;injection e with e1 e2 e3;injection e1 with e1;injection e1 with e1;subst e1 e2 e3;exact⟨cur,h2,rfl,h1,h3⟩
theorem jM.spot {w:World} {gl c n:Nat} {L:List Bool} (h:jM w (.slice (some ⟨gl,0,none⟩) n c) L) (k:Nat) (hk:k<L.length):w.cell? ⟨gl,k,none⟩=some (.bool (L.getD k false))∧w.frozen? ⟨gl,k,none⟩=false:=by
 obtain⟨cur,hb,-,-,h3⟩:=h.blk;have e1:=h3 _ _ (aBt L k hk);exact⟨hb.cell _ (by rw[Array.getElem?_toList];exact e1),hb.frozen _⟩
theorem jM.has {w:World} {gl c n:Nat} {L:List Bool} (h:jM w (.slice (some ⟨gl,0,none⟩) n c) L):jA w (some ⟨gl,0,none⟩) L:=fun j hj=>⟨gl,rfl,(h.spot j hj).1⟩
theorem jM.put {w:World} {gl c n:Nat} {L:List Bool} (h:jM w (.slice (some ⟨gl,0,none⟩) n c) L) (k:Nat) (b:Bool):jM (w.setCell ⟨gl,k,none⟩ (.bool b)) (.slice (some ⟨gl,0,none⟩) n c) (L.set k b):=by
 obtain⟨cur,hb,hn,hc,h3⟩:=h.blk;have hb2:=hb.set k (.bool b);refine⟨gl,c,_,by rw[List.length_set, ←hn],by rw[List.length_set, ←hn];exact hc,hb2,fun q u hq=>?_⟩;have hql:=(List.getElem?_eq_some_iff.1 hq).1;rw[gD,List.length_set] at hql;rw[yC,List.getElem?_set] at hq;have e1:=h3 _ _ (aBt L q hql)
 have hqc:q<cur.toList.length:=by
  have:=(Array.getElem?_eq_some_iff.1 e1).1;simpa using this
 show(cur.toList.set k _).toArray[q]? = some u;rw[List.getElem?_toArray,List.getElem?_set,Array.getElem?_toList];by_cases h1:k=q
 ·subst h1;rw[if_pos rfl,if_pos (by rw[gD];exact hql)] at hq;rw[if_pos rfl,if_pos hqc];exact hq
 ·rw[if_neg h1] at hq ⊢;exact h3 _ _ hq
theorem aSu {w:World} {base n:Nat} {v:Value} {L:List Bool} (h:w.ownsRow base 4 1 v n (bG L)) (hn:n=L.length) (h0:0<n):jM w v L:=by
 subst hn;have h3:=h;rcases h.2 with ⟨-,h1⟩ | ⟨g,cap,cur,rfl,-,hw,h1,h2,-⟩
 ·omega
 ·refine⟨g,cap,cur,rfl,⟨h1,h2⟩,hw,fun q u hq=>?_⟩;have hl:=(List.getElem?_eq_some_iff.1 hq).1;rw[gD] at hl;have h4:=h3.cellAt q (by omega);rw[hq] at h4;simpa [World.cell?,hw] using h4
set_option maxRecDepth 100000 in
set_option maxHeartbeats 4000000 in
theorem aQz (w:World) (k go gc Q cl:Nat) (lv:Value) (L:List Bool) (b:Bool) (hgo:Blk w go 29 [.slice (some ⟨gc,0,none⟩) Q cl,lv]) (hrb:jM w (.slice (some ⟨gc,0,none⟩) Q cl) L) (hk:k<L.length) (hb:L.getD k false=b) :
  Calls Tryz.prog 37 #[.int .i64 (k:Nat),.pointer (some ⟨go,0,none⟩)] w fun e w'=>e=.returned (.bool (!b))∧jM w' (.slice (some ⟨gc,0,none⟩) Q cl) (L.set k (!b))∧w.grownBy w' (some gc):=by
 have hne:go≠gc:=fun e=>by
  subst e;obtain⟨cur,h1,-⟩:=hrb.blk;have h2:=hgo;unfold Blk at h1 h2;rw[h1] at h2;injection h2 with h2;injection h2 with _ h2;exact absurd h2 (by decide)
 obtain⟨x1,-⟩:=hrb.spot k hk;rw[hb] at x1;obtain⟨-,-,hQ,-,-⟩:=hrb.blk;have hkQ:k<Q:=(by omega);have HNe:=lhid hne;have HLk:=lhid hk;have HRb:=lhid hrb;have HGo:=lhid hgo;have HS:Hid (∀ w',Below w.heap.size w w'→w'.cell? ⟨go,0,none⟩=some (.slice (some ⟨gc,0,none⟩) Q cl)∧w'.cell? ⟨gc,k,none⟩=some (.bool b)∧Below w.heap.size w w'):=lhid (fun w' hb=>⟨(HGo.out.later hb).cell 0 rfl,cell_later hb x1,hb⟩);clear hgo hrb hk hb hne x1 hQ;go_enter Tryz.func37,Tryz.ntmps37;(go_upto_region 1 with fail);refine wpk HS [10] (by kernel_rfl) fun hB0 hS0=>?_;obtain⟨wd,hwd⟩:∃ q,w.drew=q:=⟨_,rfl⟩;rw[hwd] at hB0 hS0;(try simp only[hwd]);clear hwd;refine wF 0 ?_;refine wT 1 11 hS0 ?_;refine wF 2 ?_;refine wF 3 ?_;refine wT 4 11 hS0 ?_;refine wO 5 ?_;refine wO 6 ?_;refine wO 7 ?_;refine wO 8 ?_;refine wO 9 ?_;have HLz:=lhid (HRb.out.later hB0);obtain⟨s0,f0⟩:=HLz.out.spot k HLk.out;refine wL 10 ?_;clear s0 f0;refine wD ?_;have HP:=lhid (HLz.out.put k (!b));have HG:=lhid ((kQ hB0 (row:=some gc)).trans (jC _ gc k (.bool (!b))));have y0:=((HGo.out.later hB0).far (a:=⟨gc,k,none⟩) HNe.out (.bool (!b))).cell 0 rfl
 have y1:(wd.setCell ⟨gc,k,none⟩ (.bool (!b))).cell? ⟨gc,k,none⟩=some (.bool (!b)):=by
  have h1:=(HP.out.spot k (by rw[List.length_set];exact HLk.out)).1;rw[h1];have h2:=HLk.out;simp[h2]
 (go_wp2_with fail);go_ret;exact⟨by first | rfl | simp,HP.out,HG.out⟩
def aAt (Q I:World→Prop) (e:Ending) (w':World):Prop:=∃ b,e=.returned (.bool b)∧(b=true→Q w')∧(b=false→I w')
set_option maxRecDepth 100000 in
set_option maxHeartbeats 4000000 in
theorem bAx (w:World) (N:Nat) (hN:N≤1000) (pa pt po:Value) (Inv:Nat→World→Prop) (Q:World→Prop) (h0:Inv N w) (hs:∀ k wr,k<N→Inv (k+1) wr→Calls Tryz.prog 35 #[.int .i64 (k:Nat),pa,pt,po] wr (aAt Q (Inv k))) :
  Calls Tryz.prog 36 #[.int .i64 (N:Nat),.func (.func 35) #[] #[pa,pt,po]] w (aAt Q (Inv 0)):=by
 have en:=enters_of Tryz.func35 (by kernel_rfl) rfl;have HS:=lhid hs;have H0:=lhid h0;clear hs h0;go_enter Tryz.func36,Tryz.ntmps36;go_wp2_with fail
 go_loopw [5] (fun i wr=>∃ k:Nat,k≤N∧i=.int .i64 ((k:Int)-1)∧Inv k wr) (fun i _=>(intOf i+1).toNat)
 case atStart=>exact⟨N,Nat.le_refl _,by go_num,H0.out⟩
 case round=>
  obtain⟨k,hk,rfl,hinv⟩:=hrel
  cases k with
  | zero=>
   have HI:=lhid hinv;clear hinv;(go_wp2_with fail);go_ret;exact⟨false,rfl,fun h=>(by cases h),fun _=>HI.out⟩
  | succ k=>
   have HC:=lhid (HS.out k wr (by omega) hinv);clear hinv;rw[show(((k+1:Nat):Int)-1)=((k:Nat):Int) by omega];go_wp2_with (first | (go_at_call 35;refine HC.out.mono ?_;rintro e w1 ⟨b,rfl,hq1,hq2⟩))
   ·rename_i hb;have HQ:=lhid (hq1 hb);clear hq1 hq2;go_ret;exact⟨true,rfl,fun _=>HQ.out,fun h=>(by cases h)⟩
   ·rename_i hb;have HQ:=lhid (hq2 (by simpa using hb));clear hq1 hq2;go_roundw
    case rel=>exact⟨k,by omega,by go_num,HQ.out⟩
    case measure=>simp[intOf]<;>omega
set_option maxRecDepth 100000 in
set_option maxHeartbeats 4000000 in
theorem bAw (w:World) (N:Nat) (hN:N≤1000) (po:Value) (Inv:Nat→World→Prop) (Q:World→Prop) (h0:Inv N w) (hs:∀ k wr,k<N→Inv (k+1) wr→Calls Tryz.prog 37 #[.int .i64 (k:Nat),po] wr (aAt Q (Inv k))) :
  Calls Tryz.prog 36 #[.int .i64 (N:Nat),.func (.func 37) #[] #[po]] w (aAt Q (Inv 0)):=by
 have en:=enters_of Tryz.func37 (by kernel_rfl) rfl;have HS:=lhid hs;have H0:=lhid h0;clear hs h0;go_enter Tryz.func36,Tryz.ntmps36;go_wp2_with fail
 go_loopw [5] (fun i wr=>∃ k:Nat,k≤N∧i=.int .i64 ((k:Int)-1)∧Inv k wr) (fun i _=>(intOf i+1).toNat)
 case atStart=>exact⟨N,Nat.le_refl _,by go_num,H0.out⟩
 case round=>
  obtain⟨k,hk,rfl,hinv⟩:=hrel
  cases k with
  | zero=>
   have HI:=lhid hinv;clear hinv;(go_wp2_with fail);go_ret;exact⟨false,rfl,fun h=>(by cases h),fun _=>HI.out⟩
  | succ k=>
   have HC:=lhid (HS.out k wr (by omega) hinv);clear hinv;rw[show(((k+1:Nat):Int)-1)=((k:Nat):Int) by omega];go_wp2_with (first | (go_at_call 37;refine HC.out.mono ?_;rintro e w1 ⟨b,rfl,hq1,hq2⟩))
   ·rename_i hb;have HQ:=lhid (hq1 hb);clear hq1 hq2;go_ret;exact⟨true,rfl,fun _=>HQ.out,fun h=>(by cases h)⟩
   ·rename_i hb;have HQ:=lhid (hq2 (by simpa using hb));clear hq1 hq2;go_roundw
    case rel=>exact⟨k,by omega,by go_num,HQ.out⟩
    case measure=>simp[intOf]<;>omega
end
section
open Go.RowKit Go.Lib
theorem wC {α:Type} (L:List α) (i:Nat) (d:α) (h:i<L.length):L.getD i d∈L:=by
 rw[show L.getD i d=L[i] by simp[h]];exact List.getElem_mem h
def aAo (key n:Int) (o:OpM):Bool:=wrO key o&&o.2.2.2==n
theorem aJl (T:List bB) (key n:Int):jK T key n=T.any fun t=>t.2.2.any (aAo key n):=rfl
theorem bHn {T:List bB} {key n:Int} {i j:Nat} (hi:i<T.length) (hj:j<(T.getD i aM).2.2.length) (h:aAo key n ((T.getD i aM).2.2.getD j cG)=true):jK T key n=true:=by
 rw[aJl,List.any_eq_true];exact⟨_,wC T i aM hi,List.any_eq_true.2 ⟨_,wC _ j cG hj,h⟩⟩
theorem bHm {l:List OpM} {key n:Int} (h:∀ j,j<l.length→aAo key n (l.getD j cG)=false):l.any (aAo key n)=false:=by
 rw[List.any_eq_false];intro o ho;obtain⟨j,hj,rfl⟩:=List.getElem_of_mem ho;have:=h j hj;rw[show l.getD j cG=l[j] by simp[hj]] at this;rw[this];simp
theorem bKn {T:List bB} {key n:Int} (h:∀ i,i<T.length→(T.getD i aM).2.2.any (aAo key n)=false):jK T key n=false:=by
 rw[aJl,List.any_eq_false];intro t ht;obtain⟨i,hi,rfl⟩:=List.getElem_of_mem ht;have:=h i hi;rw[show T.getD i aM=T[i] by simp[hi]] at this;rw[this];simp
def bJs (T:List bB) (key n:Int) (i:Nat):Prop:=∀ j,j<i→(T.getD j aM).2.2.any (aAo key n)=false
def bJq (l:List OpM) (key n:Int) (i:Nat):Prop:=∀ j,j<i→aAo key n (l.getD j cG)=false
set_option maxRecDepth 100000 in
set_option maxHeartbeats 4000000 in
theorem aFb {w:World} {v:Value} {h:aI} (key n:Int) (hv:cJ w v h) (hm:cU h) :
  Calls Tryz.prog 73 #[v,.int .i64 key,.int .i64 n] w fun e w'=>e=.returned (.bool (jK h.2.2 key n))∧Below w.heap.size w w':=by
 obtain⟨v0,v1,v2,rfl,⟨p0,c0,rfl,-⟩,⟨p1,c1,rfl,-⟩,⟨p2,c2,rfl,k2⟩⟩:=hv;have HX:=lhid k2;have h1000:h.2.2.length≤1000:=hm.2.2.1;have HTl:=lhid (fun i (hi:i<h.2.2.length)=>hm.2.2.2.2.2 _ (wC h.2.2 i aM hi));have HYes:=lhid (fun i j hi hj hh=>bHn (T:=h.2.2) (key:=key) (n:=n) (i:=i) (j:=j) hi hj hh);have HNo:=lhid (fun hh=>bKn (T:=h.2.2) (key:=key) (n:=n) hh);obtain⟨B,hB⟩:∃ q,jK h.2.2 key n=q:=⟨_,rfl⟩;rw[hB] at HYes HNo ⊢;have HAL:=lhid ((Below.refl w.heap.size w).alloc (Nat.le_refl _) (.cells #[.slice p0 h.1.length c0,.slice p1 h.2.1.length c1,.slice p2 h.2.2.length c2] 25));have HBX:=lhid (Blk.new w 25 [.slice p0 h.1.length c0,.slice p1 h.2.1.length c1,.slice p2 h.2.2.length c2]);clear k2 hm hB;go_enter Tryz.func73,Tryz.ntmps73;(go_wp2_with fail);obtain⟨W1,hW1⟩:∃ q,w.alloc (.cells #[.slice p0 h.1.length c0,.slice p1 h.2.1.length c1,.slice p2 h.2.2.length c2] 25)=q:=⟨_,rfl⟩;rw[hW1] at HAL HBX ⊢;obtain⟨gh,hgh⟩:∃ q,w.heap.size=q:=⟨_,rfl⟩;rw[hgh] at HBX;(try simp only[hgh]);have HG:=lhid hgh;clear hW1 hgh
 go_loopw [7] (fun i wr=>∃ a:Nat,a≤h.2.2.length∧i=.int .i64 a∧bJs h.2.2 key n a∧Below W1.heap.size W1 wr) (fun i _=>h.2.2.length-(intOf i).toNat)
 case atStart=>exact⟨0,Nat.zero_le _,rfl,fun j hj=>absurd hj (Nat.not_lt_zero j),Below.refl _ _⟩
 case round=>
  obtain⟨a,ha,rfl,hnt,hbw⟩:=hrel;have HNt:=lhid hnt;have HBw:=lhid hbw;have x2:=(HBX.out.later hbw).cell 2 rfl;by_cases hlt:a<h.2.2.length
  ·obtain⟨g,sv,rfl,-,-,a3,a4⟩:=HX.out a hlt;have HA3:=lhid a3;have htl:=HTl.out a hlt;have HYa:=lhid (fun j=>HYes.out a j hlt)
   have HNx:Hid ((h.2.2.getD a aM).2.2.any (aAo key n)=false→bJs h.2.2 key n (a+1)):=lhid (fun q j hj=>by
    by_cases e:j=a
    ·rw[e];exact q
    ·exact HNt.out j (by omega))
   obtain⟨⟨ts,tf,tl⟩,ht⟩:∃ q,h.2.2.getD a aM=q:=⟨_,rfl⟩;rw[ht] at a4 htl HYa HNx;dsimp only at a4 htl HYa HNx;obtain⟨p3,c3,rfl,-,ho⟩:=a4;have HO:=lhid ho;clear hnt ht a3 ho hbw;(go_wp2_with fail);clear x2;obtain⟨wo,rfl⟩:∃ q,q=wr:=⟨_,rfl⟩
   go_loopw [8] (fun i wx=>∃ m:Nat,m≤tl.length∧i=.int .i64 m∧bJq tl key n m∧Below W1.heap.size W1 wx) (fun i _=>tl.length-(intOf i).toNat)
   case atStart=>exact⟨0,Nat.zero_le _,rfl,fun j hj=>absurd hj (Nat.not_lt_zero j),HBw.out⟩
   case round=>
    obtain⟨m,hml,rfl,hno,hbx⟩:=hrel;have HNo1:=lhid hno;have x2:=(HBX.out.later hbx).cell 2 rfl;have y3:=cell_later (aB HAL.out hbx) HA3.out;by_cases hlm:m<tl.length
    ·obtain⟨go,rfl,q0,q1,q2,q3⟩:=HO.out m hlm;have q0:=cell_later (aB HAL.out hbx) q0;have q1:=cell_later (aB HAL.out hbx) q1;have q2:=cell_later (aB HAL.out hbx) q2;have q3:=cell_later (aB HAL.out hbx) q3;have hY:=HYa.out m hlm
     have HNx1:Hid (aAo key n (tl.getD m cG)=false→bJq tl key n (m+1)):=lhid (fun q j hj=>by
      by_cases e:j=m
      ·rw[e];exact q
      ·exact HNo1.out j (by omega))
     obtain⟨⟨o1,o2,o3,o4⟩,hop⟩:∃ q,tl.getD m cG=q:=⟨_,rfl⟩;rw[hop] at q0 q1 q2 q3 hY HNx1;dsimp only at q0 q1 q2 q3;have HY:=lhid hY;have HB5:=lhid (hbx.alloc hbx.size (.cells #[.bool o1,.int .i64 o2,.int .i64 o3,.int .i64 o4] 82));have HOx:=lhid (Blk.new wr 82 [.bool o1,.int .i64 o2,.int .i64 o3,.int .i64 o4]);clear hno hbx hop hY;(go_upto_region 8 with fail);obtain⟨W5,hW5⟩:∃ q,wr.alloc (.cells #[.bool o1,.int .i64 o2,.int .i64 o3,.int .i64 o4] 82)=q:=⟨_,rfl⟩;rw[hW5] at HB5 HOx;(try rw[hW5]);clear hW5 q0 q1 q2 q3 x2 y3;have t0:=HOx.out.cell 0 rfl;have t1:=HOx.out.cell 1 rfl;have t3:=HOx.out.cell 3 rfl
     cases o1 with
     | false=>
      have HN2:=lhid (HNx1.out rfl);clear HY HNx1;(go_wp2_with fail);go_roundw
      case rel=>exact⟨m+1,by omega,by go_num,HN2.out,HB5.out⟩
      case measure=>simp[intOf];omega
     | true=>
      by_cases hke:o2=key
      ·have e0:(o2==key)=true:=(by simpa using hke);by_cases hkn:o4=n
       ·have e1:(o4==n)=true:=(by simpa using hkn);have HY2:=lhid (HY.out (by unfold aAo wrO;simp[hke,hkn]));clear hke hkn HNx1;(go_wp2_with fail);go_ret;exact⟨by rw[HY2.out]<;>rfl,aB HAL.out HB5.out⟩
       ·have e1:(o4==n)=false:=(by simpa using hkn);have HN2:=lhid (HNx1.out (by unfold aAo;simp[hkn]));clear hke hkn HY HNx1;(go_wp2_with fail);go_roundw
        case rel=>exact⟨m+1,by omega,by go_num,HN2.out,HB5.out⟩
        case measure=>simp[intOf];omega
      ·have e0:(o2==key)=false:=(by simpa using hke);have HN2:=lhid (HNx1.out (by unfold aAo wrO;simp[hke]));clear hke HY HNx1;(go_wp2_with fail);go_roundw
       case rel=>exact⟨m+1,by omega,by go_num,HN2.out,HB5.out⟩
       case measure=>simp[intOf];omega
    ·have hme:m=tl.length:=(by omega);subst hme;have HN2:=lhid (HNx.out (bHm hno));have HBx:=lhid hbx;clear hno hbx;(go_wp2_with fail);go_roundw
     case rel=>exact⟨a+1,by omega,by go_num,HN2.out,HBx.out⟩
     case measure=>simp[intOf];omega
  ·have hne:a=h.2.2.length:=(by omega);subst hne;have HF:=lhid (HNo.out hnt);clear hnt hbw;(go_wp2_with fail);go_ret;exact⟨by rw[HF.out]<;>rfl,aB HAL.out HBw.out⟩
set_option maxRecDepth 100000 in
set_option maxHeartbeats 4000000 in
theorem bIx {w:World} {v:Value} {h:aI} (key:Int) (hv:cJ w v h) (hm:cU h) (hmm:cZ h=true) (hk0:0≤key) (hk1:key<h.2.1.length) :
  Calls Tryz.prog 50 #[v,.int .i64 key] w fun e w'=>e=.returned (.agg #[.int .i64 1,.int .i64 (kI h.2.2 key:Nat)])∧Below w.heap.size w w':=by
 have H0:=lhid hv;obtain⟨v0,v1,v2,rfl,⟨p0,c0,rfl,-⟩,⟨p1,c1,rfl,-⟩,⟨p2,c2,rfl,-⟩⟩:=hv;have hal:=((Below.refl w.heap.size w).alloc (Nat.le_refl _) (.cells #[.slice p0 h.1.length c0,.slice p1 h.2.1.length c1,.slice p2 h.2.2.length c2] 25)).alloc (by simp) (.cells #[.int .i64 0,.int .i64 0] 57);have hbx:=(Blk.new w 25 [.slice p0 h.1.length c0,.slice p1 h.2.1.length c1,.slice p2 h.2.2.length c2]).alloc (.cells #[.int .i64 0,.int .i64 0] 57);have hvx:=Blk.new (w.alloc (.cells #[.slice p0 h.1.length c0,.slice p1 h.2.1.length c1,.slice p2 h.2.2.length c2] 25)) 57 [.int .i64 0,.int .i64 0];simp only[World.size_alloc] at hvx;have hmy:=bUk (H0.out.below hal) hm;rw[kT hmm] at hmy;have HMy:=lhid hmy;have HWr:=lhid (fun n w' (hb:Below w.heap.size w w')=>aFb key n (H0.out.below hb) hm);have HFs:=lhid (oA h.2.2 key);have hMH:=(dA h).1 hmm
 have hfb:kI h.2.2 key≤800:=by
  have h1:=(oA h.2.2 key).2.1
  have h3:=sF h.2.2 (fun t ht=>by
   have:=hMH.txn t ht;unfold bQ at this;simp only[Bool.and_eq_true,decide_eq_true_eq] at this
   exact this.2.2.2) h.2.2.length (Nat.le_refl _)
  rw[List.take_length] at h3;have h4:=hMH.n2;omega
 have d1:decide (key<0)=false:=(by simp;omega);have d2:decide (key≥(h.2.1.length:Int))=false:=(by simp;omega);obtain⟨N,hNq⟩:∃ N,kI h.2.2 key=N:=⟨_,rfl⟩;rw[hNq] at hfb HFs ⊢;have HAL:=lhid hal;have HBX:=lhid hbx;have HVX:=lhid hvx;clear H0 hm hal hbx hvx hmy hMH hNq;go_enter Tryz.func50,Tryz.ntmps50;(go_upto_region 1 with fail);obtain⟨W1,hW1⟩:∃ q,(w.alloc (.cells #[.slice p0 h.1.length c0,.slice p1 h.2.1.length c1,.slice p2 h.2.2.length c2] 25)).alloc (.cells #[.int .i64 0,.int .i64 0] 57)=q:=⟨_,rfl⟩;rw[hW1] at HAL HBX HVX HMy ⊢;clear hW1;obtain⟨gh,hgh⟩:∃ q,w.heap.size=q:=⟨_,rfl⟩;obtain⟨gv,hgv⟩:∃ q,gh+1=q:=⟨_,rfl⟩;have HGv:Hid (w.heap.size≤gv):=lhid (by omega);(try simp only[hgh,hgv]);(try simp only[hgh,hgv] at HBX HVX);clear hgh hgv;have x0:=HBX.out.cell 0 rfl;have x1:=HBX.out.cell 1 rfl;have x2:=HBX.out.cell 2 rfl;(go_wp2_with fail);refine HMy.out.mono ?_;rintro e w1 ⟨rfl,hb1⟩;have HB1:=lhid (aB HAL.out hb1);have HBX1:=lhid (HBX.out.later hb1);have HVX1:=lhid (HVX.out.later hb1);clear hb1 HMy HAL HBX HVX x0 x1 x2;have x1:=HBX1.out.cell 1 rfl;(go_wp2_with fail);clear x1
 go_loopw [5] (fun i wr=>∃ m:Nat,m≤N∧i=.int .i64 m∧Below w1.heap.size w1 wr) (fun i _=>N-(intOf i).toNat)
 case atStart=>exact⟨0,Nat.zero_le _,rfl,Below.refl _ _⟩
 case round=>
  obtain⟨m,hmN,rfl,hbw⟩:=hrel;have HBw:=lhid hbw;have x0:=(HBX1.out.later hbw).cell 0 rfl;have x1:=(HBX1.out.later hbw).cell 1 rfl;have x2:=(HBX1.out.later hbw).cell 2 rfl;have hwr:=HWr.out (m:Int) _ (aB HB1.out hbw);by_cases hlt:m<N
  ·rw[HFs.out.2.2 m hlt] at hwr;have HW:=lhid hwr;clear hwr hbw;(go_wp2_with fail);refine HW.out.mono ?_;rintro e w2 ⟨rfl,hb2⟩;have HB2:=lhid (aB HBw.out hb2);clear hb2 HW x0 x1 x2;(go_wp2_with fail);go_roundw
   case rel=>exact⟨m+1,by omega,by go_num,HB2.out⟩
   case measure=>simp[intOf];omega
  ·have hme:m=N:=(by omega);subst hme;rw[HFs.out.1] at hwr;have HW:=lhid hwr;clear hwr hbw;(go_wp2_with fail);refine HW.out.mono ?_;rintro e w2 ⟨rfl,hb2⟩;have HB2:=lhid (aB HBw.out hb2);have HV2:=lhid (HVX1.out.later HB2.out);clear hb2 HW x0 x1 x2;have r0:=HV2.out.cell 0 rfl;have r1:=HV2.out.cell 1 rfl;have f0:=HV2.out.frozen 0;have f1:=HV2.out.frozen 1;(go_wp2_with fail);refine bodyPost_ret (bS Tryz.results50 _ _ _ _ _ rfl (kC (dQ HV2.out _ _))) rfl ?_;exact⟨rfl,aU (aB HB1.out HB2.out) HGv.out _ _⟩
end
section
open Go.RowKit Go.Lib
def bOl (B:Nat) (v:Value):Prop:=∀ q,v.ownBlock=some q→B≤q
theorem bOl.mono {A B:Nat} {v:Value} (h:bOl B v) (hb:A≤B):bOl A v:=fun q hq=>Nat.le_trans hb (h q hq)
theorem bOt {B:Nat} {vs:List Value} {v:Value} (h:∀ u∈vs,bOl B u) (k:bOl B v):∀ u∈vs++[v],bOl B u:=by
 intro u hu;rcases List.mem_append.1 hu with hu | hu
 ·exact h u hu
 ·rw[List.mem_singleton.1 hu];exact k
def bOb (w:World) (B:Nat) (v:Value) (LL:List (List aR)):Prop:=∃ vs,w.ownsRow B 27 1 v LL.length vs∧lA w vs LL∧∀ u∈vs,bOl B u
theorem bOb.tries {w:World} {B:Nat} {v:Value} {LL:List (List aR)} (h:bOb w B v LL):kH w v LL:=by
 obtain⟨vs,h1,h2,-⟩:=h;exact aZj h1 rfl h2
theorem bOb.kept {w w':World} {B x:Nat} {v:Value} {LL:List (List aR)} (h:bOb w B v LL) (hx:x<B) (hg:w.grownBy w' (some x)):bOb w' B v LL:=by
 obtain⟨vs,h1,h2,h3⟩:=h;refine⟨vs,h1.kept hg ?_,⟨h2.1,fun i hi=>?_⟩,h3⟩
 ·cases hq:v.ownBlock with
  | none=>exact .inl rfl
  | some q=>
   refine .inr fun e=>?_;injection e with e;have:=(h1.lt q hq).1;omega
 ·have h4:=h3 (vs.getD i (.slice none 0 0)) (wB vs i _ (by rw[h2.1];exact hi));obtain⟨g,c,cur,e,k1,k2,k3⟩:=h2.2 i hi;refine⟨g,c,cur,e,k1,(hg.block g (Array.getElem?_eq_some_iff.1 k2).1 fun eq=>?_).trans k2,k3⟩;injection eq with eq;have:=h4 g (by rw[e];rfl);omega
set_option maxRecDepth 100000 in
set_option maxHeartbeats 4000000 in
theorem bPc {w:World} {v u:Value} {h:aI} {m:bK} (hv:cJ w v h) (hu:lI w u m) (hm:cU h) (h50:m.1.length≤1000000∧m.2.length≤1000000) (hmm:cZ h=true) (hf:m.1.length=(h.2.2.filter aP).length) :
  Calls Tryz.prog 23 #[v,u] w fun e w'=>∃ v',e=.returned v'∧bOb w' w.heap.size v' (bD h m.1)∧Below w.heap.size w w':=by
 have H0:=lhid hv;have U0:=lhid hu;obtain⟨v0,v1,v2,rfl,⟨p0,c0,rfl,-⟩,⟨p1,c1,rfl,-⟩,⟨p2,c2,rfl,k2⟩⟩:=hv;obtain⟨pb,cb,pv,cv,rfl,-,-,-,-⟩:=lY hu;have HX:=lhid k2;have hal:=((Below.refl w.heap.size w).alloc (Nat.le_refl _) (.cells #[.slice p0 h.1.length c0,.slice p1 h.2.1.length c1,.slice p2 h.2.2.length c2] 25)).alloc (by simp) (.cells #[.slice pb m.1.length cb,.slice pv m.2.length cv] 29);have hbx:=(Blk.new w 25 [.slice p0 h.1.length c0,.slice p1 h.2.1.length c1,.slice p2 h.2.2.length c2]).alloc (.cells #[.slice pb m.1.length cb,.slice pv m.2.length cv] 29);have hwx:=Blk.new (w.alloc (.cells #[.slice p0 h.1.length c0,.slice p1 h.2.1.length c1,.slice p2 h.2.2.length c2] 25)) 29 [.slice pb m.1.length cb,.slice pv m.2.length cv];simp only[World.size_alloc] at hwx;have HCo0:=lhid (fun w' (hb:Below w.heap.size w w')=>bUa (H0.out.below hb) (U0.out.below hb) hm h50 hf);have HLo0:=lhid (fun w' (hb:Below w.heap.size w w')=>bUp (H0.out.below hb) hm);rw[←kF hmm] at HLo0;have HOw0:=lhid (fun (t k:Nat) w' (hb:Below w.heap.size w w')=>rown13_any (t:Int) (k:Int) (H0.out.below hb) hm);have HVs0:=lhid (fun p (hp:bJp h p) w' (hb:Below w.heap.size w w')=>bGo p.1 p.2 (H0.out.below hb) hm hmm hp.lt hp.lk hp.rd);have HFr00:=lhid (fun p (hp:bJp h p) w' (hb:Below w.heap.size w w')=>bIx (gW h p) (H0.out.below hb) hm hmm hp.k0 hp.k1);have HPp0:=lhid (fun p (hp:p∈cY h)=>aDo hmm hp);have hl8:=aDn hmm
 have hvl:∀ p,(jE h p).length≤1001:=fun p=>by
  have h1:=uF (aN::dW h.2.2 p.1 (gW h p) h.2.2.length);have h2:=yT h.2.2 p.1 (gW h p) h.2.2.length;have h3:=hm.2.2.1;rw[List.length_cons] at h1;rw[show jE h p=cH (aN::dW h.2.2 p.1 (gW h p) h.2.2.length) from rfl];omega
 have HVn:=lhid hvl;obtain⟨CC,hCC⟩:∃ q,aL h.2.2 m.1=q:=⟨_,rfl⟩;have HLL:Hid (bD h m.1=(cY h).map fun p=>nB h p (CC.getD p.1 false)):=lhid (by rw[←hCC];rfl);have HCL:Hid (h.2.2.length=CC.length):=lhid (by rw[←hCC,lR]);rw[hCC] at HCo0;obtain⟨LP,hLP⟩:∃ q,cY h=q:=⟨_,rfl⟩;rw[hLP] at HLo0 hl8 HPp0 HLL;obtain⟨LL,hLL⟩:∃ q,bD h m.1=q:=⟨_,rfl⟩;rw[hLL] at HLL ⊢;have HLn:Hid (LL.length=LP.length):=lhid (by rw[HLL.out,List.length_map]);have HAL:=lhid hal;have HBX:=lhid hbx;have HWX:=lhid hwx;obtain⟨i1,hj,hj0,hj1,hj2⟩:=info_parts aMv;obtain⟨i2,hk,hk0,hk1,hk2⟩:=info_parts oC;clear hu U0 hal hbx hwx k2 hCC hLP hLL hf hm hmm h50 hvl H0;go_enter Tryz.func23,Tryz.ntmps23;(go_upto_region 1 with fail);obtain⟨W1,hW1⟩:∃ q,(w.alloc (.cells #[.slice p0 h.1.length c0,.slice p1 h.2.1.length c1,.slice p2 h.2.2.length c2] 25)).alloc (.cells #[.slice pb m.1.length cb,.slice pv m.2.length cv] 29)=q:=⟨_,rfl⟩;rw[hW1] at HAL HBX HWX ⊢;clear hW1;obtain⟨gw,hgw⟩:∃ q,w.heap.size+1=q:=⟨_,rfl⟩;obtain⟨gh,hgh⟩:∃ q,w.heap.size=q:=⟨_,rfl⟩;(try simp only[hgw]);(try simp only[hgw] at HWX);(try simp only[hgh]);rw[hgh] at HBX;clear hgh hgw;have HS:Hid (∀ w',Below W1.heap.size W1 w'→w'.cell? ⟨gh,0,none⟩=some (.slice p0 h.1.length c0)∧w'.cell? ⟨gh,1,none⟩=some (.slice p1 h.2.1.length c1)∧w'.cell? ⟨gh,2,none⟩=some (.slice p2 h.2.2.length c2)∧w'.cell? ⟨gw,0,none⟩=some (.slice pb m.1.length cb)∧w'.cell? ⟨gw,1,none⟩=some (.slice pv m.2.length cv)∧Below W1.heap.size W1 w'):=lhid (fun w' hb=>⟨(HBX.out.later hb).cell 0 rfl,(HBX.out.later hb).cell 1 rfl,(HBX.out.later hb).cell 2 rfl,(HWX.out.later hb).cell 0 rfl,(HWX.out.later hb).cell 1 rfl,hb⟩);have HCo:=lhid (fun w' (hb:Below W1.heap.size W1 w')=>HCo0.out w' (aB HAL.out hb));have HLo:=lhid (fun w' (hb:Below W1.heap.size W1 w')=>HLo0.out w' (aB HAL.out hb));clear HCo0 HLo0;refine wpk HS [] (by kernel_rfl) fun hB0 hS0=>?_;refine wT 0 7 hS0 ?_;refine wT 1 7 hS0 ?_;refine wT 3 7 hS0 ?_;refine won 2 rfl fun K hK=>?_;go_simp;refine(HCo.out _ hB0).mono ?_;rintro e w1 ⟨vc,rfl,hc1,hb1⟩;have hB1:=aB hB0 hb1;have hS1:=HS.out _ hB1;have HCc:=lhid (qO hc1 HCL.out);clear hc1;refine hK.out _ _ (fun _ _=>hS1) ?_;clear hK K hS0;(try simp only[Act.put,sq]);refine won 4 rfl fun K hK=>?_;go_simp;refine(HLo.out _ hB1).mono ?_;rintro e w2 ⟨vl,rfl,hl2,hb2⟩;have hB2:=aB hB1 hb2;have hS2:=HS.out _ hB2;replace HCc:=lhid (HCc.out.below hb2);have HPl:=lhid hl2;clear hl2;refine hK.out _ _ (fun _ _=>hS2) ?_;clear hK K hS1;(try simp only[Act.put,sq]);refine wO 5 ?_;refine wO 6 ?_;refine wD ?_;have HB2:=lhid (aB HAL.out hB2);have HBX2:=lhid (HBX.out.later hB2);obtain⟨pc,cc,rfl,-,hcc⟩:=HCc.out;have HHc:=lhid hcc;obtain⟨pp,cp,rfl,hpp⟩:=HPl.out;have HPp:=lhid hpp;obtain⟨W2,rfl⟩:∃ q,q=w2:=⟨_,rfl⟩;clear hS2 HS HCo HLo HBX HWX HAL HCc HPl hcc hpp hB2 hB0;have HR2:=lhid (World.ownsRow_lit (base:=W2.heap.size) (size:=1) (e:=27) W2 #[] 0 (Nat.le_refl _) (by unfold maxLen;omega) rfl);have HB3:=lhid ((Below.refl W2.heap.size W2).alloc (Nat.le_refl _) (.cells #[] 27));go_wp2_with fail
 go_loopw [7,8] (fun l i wr=>∃ n:Nat,n≤LP.length∧i=.int .i64 n∧(∃ vs,wr.ownsRow W2.heap.size 27 1 l n vs∧lA wr vs (LL.take n)∧∀ u∈vs,bOl W2.heap.size u)∧Below W2.heap.size W2 wr) (fun _ i _=>LP.length-(intOf i).toNat)
 case atStart=>exact⟨0,Nat.zero_le _,rfl,⟨[],HR2.out,lA.nil _,fun u hu=>absurd hu List.not_mem_nil⟩,HB3.out⟩
 case round=>
  obtain⟨n,hn,rfl,⟨vs,hrw,hvl,hfr⟩,hbw⟩:=hrel;obtain⟨pw,cw,rfl⟩:=aF hrw;by_cases hlt:n<LP.length
  ·obtain⟨gp,rfl,q1,q2⟩:=HPp.out n hlt;have q1:=cell_later hbw q1;have q2:=cell_later hbw q2;have hmem:=wB LP n (0,0) hlt
   have hnx:LL.take (n+1)=LL.take n++[nB h (LP.getD n (0,0)) (CC.getD (LP.getD n (0,0)).1 false)]:=by
    rw[zY LL [] n (by rw[HLn.out];exact hlt),HLL.out];simp[hlt]
   have hpl:=HPp0.out (LP.getD n (0,0)) hmem;obtain⟨⟨t,k⟩,hp⟩:∃ q,LP.getD n (0,0)=q:=⟨_,rfl⟩;rw[hp] at q1 q2 hnx hpl;dsimp only at q1 q2 hnx;have htn:t<h.2.2.length:=hpl.lt;have htc:t<CC.length:=(by rw[←HCL.out];exact htn);obtain⟨gc,rfl,hcc⟩:=HHc.out t htc;have hcc:=cell_later hbw hcc;obtain⟨cb,hcb⟩:∃ q,CC.getD t false=q:=⟨_,rfl⟩;rw[hcb] at hcc hnx;have HBw:=lhid hbw;have RWr:=lhid hrw;have VLr:=lhid hvl;have HFs:=lhid hfr;have HNx0:=lhid hnx;have HPq:=lhid hpl;have HA5:=lhid ((Below.refl wr.heap.size wr).alloc (Nat.le_refl _) (.cells #[.int .i64 (t:Nat),.int .i64 (k:Nat)] 70));have HPx0:=lhid (Blk.new wr 70 [.int .i64 (t:Nat),.int .i64 (k:Nat)]);clear hmem hp hcb hnx hrw hvl hfr;(go_upto_region 7 with fail);obtain⟨W5,hW5⟩:∃ q,wr.alloc (.cells #[.int .i64 (t:Nat),.int .i64 (k:Nat)] 70)=q:=⟨_,rfl⟩;have c5:W5.cell? ⟨gc,t,none⟩=some (.bool cb):=(by rw[←hW5];exact cell_later HA5.out hcc);rw[hW5] at HA5 HPx0 ⊢;obtain⟨gb,hgb⟩:∃ q,wr.heap.size=q:=⟨_,rfl⟩;have HGb:=lhid hgb;rw[hgb] at HPx0;(try simp only[hgb]);clear hW5 hgb q1 q2 hcc;have y0:=HPx0.out.cell 0 rfl;have y1:=HPx0.out.cell 1 rfl
   cases cb with
   | false=>
    have HNx:Hid (LL.take (n+1)=LL.take n++[[aN]]):=lhid (by rw[HNx0.out];rfl);have RW:=lhid (((aS RWr.out HA5.out).alloc (.cells #[.int .i64 0,.int .i64 0] 57)).alloc (.cells #[.slice (some ⟨W5.heap.size,0,none⟩) 1 1] 27));have HZ1:=World.ownsRow_lit (base:=W5.heap.size) (size:=2) (e:=57) W5 #[.int .i64 0,.int .i64 0] 1 (Nat.le_refl _) (by unfold maxLen;omega) rfl;have HZ2:dM (W5.alloc (.cells #[.int .i64 0,.int .i64 0] 57)) (.slice (some ⟨W5.heap.size,0,none⟩) 1 1) [aN]:=aIk (L:=[aN]) HZ1 rfl (by omega);have HZ:=lhid (HZ2.below ((Below.refl _ _).alloc (Nat.le_refl _) (.cells #[.slice (some ⟨W5.heap.size,0,none⟩) 1 1] 27)));have VL:=lhid ((VLr.out.below HA5.out).below (((Below.refl W5.heap.size W5).alloc (Nat.le_refl _) (.cells #[.int .i64 0,.int .i64 0] 57)).alloc (by simp) (.cells #[.slice (some ⟨W5.heap.size,0,none⟩) 1 1] 27)));have HB7:=lhid ((HBw.out.trans (HA5.out.mono HBw.out.size)).trans ((((Below.refl W5.heap.size W5).alloc (Nat.le_refl _) (.cells #[.int .i64 0,.int .i64 0] 57)).alloc (by simp) (.cells #[.slice (some ⟨W5.heap.size,0,none⟩) 1 1] 27)).mono (Nat.le_trans HBw.out.size HA5.out.size)));have hs7:W2.heap.size≤W5.heap.size:=Nat.le_trans HBw.out.size HA5.out.size;clear HNx0 HPq HZ1 HZ2 HA5 RWr VLr HPx0;go_wp2_with (at_builtin;refine wpList_append_own _ rfl _ _ 46 rfl W2.heap.size 27 i1 (.slice none 0 0) 1 24 Tryz.underlying46 hj hj0 hj1 hj2 rfl (by decide) _ _ _ rfl RW.out ⟨W5.heap.size+1,0,none⟩ 1 1 [.slice (some ⟨W5.heap.size,0,none⟩) 1 1] rfl rfl ?_ (by intro u hu;simp at hu;subst hu;rfl) ?_ ?_ ?_ ?_)
    ·intro j u hj9;have e9:(W5.alloc (.cells #[.int .i64 0,.int .i64 0] 57)).heap.size=W5.heap.size+1:=(by simp);have:=dB (W5.alloc (.cells #[.int .i64 0,.int .i64 0] 57)) [.slice (some ⟨W5.heap.size,0,none⟩) 1 1] 27 _ rfl j u hj9;rw[e9] at this;exact this
    ·unfold maxLen;omega
    ·omega
    ·simp;omega
    intro v8 w8 hown8 hgr8 hnil8;have HB8:=lhid (HB7.out.grown hgr8 HB7.out.size (fun q hq=>(RW.out.lt q hq).1))
    have HL8:Hid (lA w8 (vs++[.slice (some ⟨W5.heap.size,0,none⟩) 1 1]) (LL.take (n+1))):=lhid (by
     rw[HNx.out]
     exact(VL.out.grown RW.out (by decide) hgr8).snoc (HZ.out.grown RW.out (by decide) hgr8))
    have HO8:=lhid hown8
    have HF8:=lhid (bOt HFs.out (v:=.slice (some ⟨W5.heap.size,0,none⟩) 1 1) (B:=W2.heap.size) (fun q hq=>by
     have e:q=W5.heap.size:=by simpa [Value.ownBlock] using hq.symm
     omega))
    obtain⟨p8,c8,rfl⟩:=aF hown8;clear hown8 hgr8 hnil8 RW VL HZ HB7;(go_wp2_with fail);go_roundw
    case rel=>exact⟨n+1,by omega,by go_num,⟨_,HO8.out,HL8.out,HF8.out⟩,HB8.out⟩
    case measure=>simp[intOf];omega
   | true=>
    obtain⟨g,sv,eg,-,-,a3,a4⟩:=HX.out t htn;subst eg;have hE:gW h (t,k)=((h.2.2.getD t aM).2.2.getD k cG).2.1:=rfl;obtain⟨p4,c4,rfl,-,ho⟩:=a4;obtain⟨go,rfl,-,z1,-,-⟩:=ho k HPq.out.lk;have HTy:Hid (nB h (t,k) true=(if (nE h (t:Int) (k:Int)).2 then [(nE h (t:Int) (k:Int)).1] else jE h (t,k))++[(1,((kI h.2.2 (gW h (t,k)):Nat):Int))]):=lhid rfl;have HFr1:=lhid (HFr00.out (t,k) HPq.out);have HVs1:=lhid (HVs0.out (t,k) HPq.out);have HOw1:=lhid (HOw0.out t k);have hvn:=HVn.out (t,k);obtain⟨key,hkey⟩:∃ q,gW h (t,k)=q:=⟨_,rfl⟩;rw[←hE,hkey] at z1;rw[hkey] at HFr1 HTy;obtain⟨fn,hfn⟩:∃ q,kI h.2.2 key=q:=⟨_,rfl⟩;rw[hfn] at HFr1 HTy;have hlk:=HPq.out.lk;obtain⟨tlen,htl0⟩:∃ q,(h.2.2.getD t aM).2.2.length=q:=⟨_,rfl⟩;dsimp only at hlk;rw[htl0] at a3 hlk;obtain⟨VS,hVS⟩:∃ q,jE h (t,k)=q:=⟨_,rfl⟩;rw[hVS] at HVs1 HTy hvn;obtain⟨⟨⟨ok,on⟩,ob⟩,hob⟩:∃ q,nE h (t:Int) (k:Int)=q:=⟨_,rfl⟩;rw[hob] at HOw1 HTy;dsimp only at HOw1 HTy HVs1 HFr1;obtain⟨TL,hTL⟩:∃ q,nB h (t,k) true=q:=⟨_,rfl⟩;rw[hTL] at HTy HNx0;have HNx:=HNx0;have HTL:=HTy;have HQ:=lhid (show ∀ w',Below w.heap.size w w'→w'.cell? ⟨g,t*3+2,none⟩=some (.slice (some ⟨go,0,none⟩) tlen c4)∧w'.cell? ⟨go,k*4+1,none⟩=some (.int .i64 key) from fun w' hb=>⟨cell_later hb a3,cell_later hb z1⟩);have HW5:=lhid (aB (aB HB2.out HBw.out) HA5.out);have HBX5:=lhid ((HBX2.out.later HBw.out).later HA5.out);have RW0:=RWr;have VL0:=VLr;clear HNx0 HTy hE ho a3 z1 hkey hfn htl0 hVS hob hTL RWr VLr;have x0:=HBX5.out.cell 0 rfl;have x1:=HBX5.out.cell 1 rfl;have x2:=HBX5.out.cell 2 rfl;(go_wp2_with fail);refine(HOw1.out _ HW5.out).mono ?_;rintro e w6 ⟨rfl,hb6⟩;have HA6:=lhid (((aB HA5.out hb6).alloc (aB HA5.out hb6).size (.cells #[.int .i64 ok,.int .i64 on] 57)).alloc (by have:=(aB HA5.out hb6).size;simp;omega) (.cells #[.int .i64 ok,.int .i64 on] 57));have HR6:=World.ownsRow_lit (base:=wr.heap.size) (size:=2) (e:=57) (w6.alloc (.cells #[.int .i64 ok,.int .i64 on] 57)) #[.int .i64 ok,.int .i64 on] 1 (by have:=(aB HA5.out hb6).size;simp;omega) (by unfold maxLen;omega) rfl;have HPx6:=lhid (((HPx0.out.later hb6).alloc (.cells #[.int .i64 ok,.int .i64 on] 57)).alloc (.cells #[.int .i64 ok,.int .i64 on] 57));have hz6:wr.heap.size≤w6.heap.size:=(aB HA5.out hb6).size;simp only[World.size_alloc] at HR6;have HR6:=lhid HR6;clear hb6 HOw1 x0 x1 x2 y0 y1 HPx0 c5;(go_upto_if 49 with fail);obtain⟨W6,hW6⟩:∃ q,(w6.alloc (.cells #[.int .i64 ok,.int .i64 on] 57)).alloc (.cells #[.int .i64 ok,.int .i64 on] 57)=q:=⟨_,rfl⟩;rw[hW6] at HA6 HR6 HPx6;(try rw[hW6]);clear hW6
    go_cut [12] (fun l wx=>(∃ L,wx.ownsRow wr.heap.size 57 2 l L.length (aJ L)∧L.length≤1001∧L=if ob then [(ok,on)] else VS)∧Blk wx gb 70 [.int .i64 (t:Nat),.int .i64 (k:Nat)]∧Below wr.heap.size wr wx)
    case first=>
     cases ob with
     | true=>
      (go_wp2_with fail);go_meet;exact⟨⟨[(ok,on)],HR6.out,by simp,rfl⟩,HPx6.out,HA6.out⟩
     | false=>
      have HV7:=lhid (HVs1.out _ (aB (aB HB2.out HBw.out) HA6.out));have x0:=((HBX2.out.later HBw.out).later HA6.out).cell 0 rfl;have x1:=((HBX2.out.later HBw.out).later HA6.out).cell 1 rfl;have x2:=((HBX2.out.later HBw.out).later HA6.out).cell 2 rfl;have y0:=HPx6.out.cell 0 rfl;have y1:=HPx6.out.cell 1 rfl;(go_wp2_with fail);refine HV7.out.mono ?_;rintro e w7 ⟨v7,rfl,hs7,hb7⟩;obtain⟨p7,c7,rfl⟩:=aF hs7;(go_wp2_with fail);go_meet;exact⟨⟨VS,cQ hs7 HA6.out.size,hvn,rfl⟩,HPx6.out.later hb7,aB HA6.out hb7⟩
    case rest=>
     obtain⟨⟨L,hrt,hln,hL⟩,hpx,hbc⟩:=hcut;obtain⟨pl,cl,rfl⟩:=aF hrt;have HLq:=lhid (show L++[(1,((fn:Nat):Int))]=(if ob then [(ok,on)] else VS)++[(1,((fn:Nat):Int))] by rw[hL]);have HBc:=lhid hbc;have RT0:=lhid hrt;have HFr:=lhid (fun w' (hb:Below wc.heap.size wc w')=>HFr1.out w' (aB (aB HB2.out HBw.out) (aB hbc hb)));have HBXw:=lhid ((HBX2.out.later HBw.out).later hbc)
     have HS:Hid (∀ w',Below wc.heap.size wc w'→w'.cell? ⟨gh,0,none⟩=some (.slice p0 h.1.length c0)∧w'.cell? ⟨gh,1,none⟩=some (.slice p1 h.2.1.length c1)∧w'.cell? ⟨gh,2,none⟩=some (.slice (some ⟨g,0,none⟩) h.2.2.length c2)∧w'.cell? ⟨gb,0,none⟩=some (.int .i64 (t:Nat))∧w'.cell? ⟨gb,1,none⟩=some (.int .i64 (k:Nat))∧w'.cell? ⟨g,t*3+2,none⟩=some (.slice (some ⟨go,0,none⟩) tlen c4)∧w'.cell? ⟨go,k*4+1,none⟩=some (.int .i64 key)∧Below wc.heap.size wc w'):=lhid (fun w' hb=>by
      obtain⟨z1,z2⟩:=HQ.out _ (aB (aB HB2.out HBw.out) (aB hbc hb))
      exact⟨(HBXw.out.later hb).cell 0 rfl,(HBXw.out.later hb).cell 1 rfl,(HBXw.out.later hb).cell 2 rfl,(hpx.later hb).cell 0 rfl,(hpx.later hb).cell 1 rfl,z1,z2,hb⟩)
     clear hrt hL hbc hpx HFr1 HVs1 HQ HR6 HA6 HPx6 HBX5 HW5;(go_upto_region 13 with fail);refine wpk HS [17,18,19] (by kernel_rfl) fun hB0 _=>?_;have RT:=lhid (aS RT0.out hB0);obtain⟨wd,hwd⟩:∃ q,(wc).drew=q:=⟨_,rfl⟩;rw[hwd] at hB0 RT ⊢;clear hwd;refine wF 0 ?_;refine wF 1 ?_;refine wT 2 21 (HS.out _ hB0) ?_;refine wF 3 ?_;refine wT 4 21 (HS.out _ hB0) ?_;refine wF 5 ?_;refine wT 6 21 (HS.out _ hB0) ?_;refine wF 7 ?_;refine wF 8 ?_;refine wT 9 21 (HS.out _ hB0) ?_;refine wO 10 ?_;have hSn:=HS.out _ hB0;refine wO 11 ?_;clear hSn;refine wO 12 ?_;refine wO 13 ?_;have hSn:=HS.out _ hB0;refine wO 14 ?_;clear hSn;refine won 15 rfl fun K hK=>?_;go_simp;refine(HFr.out _ hB0).mono ?_;rintro e wb1 ⟨rfl,hc1⟩;have hB1:=aB hB0 hc1;replace RT:=lhid (aS RT.out hc1);refine hK.out _ _ (fun _ _=>HS.out _ hB1) ?_;clear hK K hc1;(try simp only[Act.put,sq]);refine won 16 rfl fun K hK=>?_;go_simp;have hA2:=hB1.alloc hB1.size (.cells #[.int .i64 1,.int .i64 (fn:Nat)] 57);have FB:=lhid (Blk.new wb1 57 [.int .i64 1,.int .i64 (fn:Nat)]);replace RT:=lhid (RT.out.alloc (.cells #[.int .i64 1,.int .i64 (fn:Nat)] 57));refine hK.out _ _ (fun _ _=>HS.out _ hA2) ?_;clear hK K;(try simp only[Act.put,sq]);obtain⟨wa2,hwa2⟩:∃ q,wb1.alloc (.cells #[.int .i64 1,.int .i64 (fn:Nat)] 57)=q:=⟨_,rfl⟩;obtain⟨gb2,hgb2⟩:∃ q,wb1.heap.size=q:=⟨_,rfl⟩;have hlt2:wc.heap.size≤gb2:=(by rw[←hgb2];exact hB1.size);simp only[hwa2,hgb2] at hA2 RT FB ⊢;clear hwa2 hgb2;refine won 17 rfl fun K hK=>?_;refine aY (by rfl) _ _ 27 (by rfl) wr.heap.size 57 i2 (.agg #[.int .i64 0,.int .i64 0]) 2 16 Tryz.underlying27 hk hk0 hk1 hk2 rfl (by decide) (.slice pl L.length cl) L.length (aJ L) (by rfl) RT.out ⟨gb2,0,none⟩ 1 1 [.int .i64 1,.int .i64 (fn:Nat)] (by rfl) rfl (fun q u hq=>by rw[Addr.add_lit,Nat.zero_add];exact FB.out.cell q hq) (dO _ _) (by unfold maxLen;omega) (by omega) (Nat.le_trans HBc.out.size hA2.size) ?_;intro v3 wa3 hown3 hg3 hat3;have HB3:=lhid ((HBc.out.trans (hA2.mono HBc.out.size)).grown hg3 (Nat.le_trans HBc.out.size hA2.size) (fun q hq=>(RT.out.lt q hq).1));have h93:wa3.ownsRow wr.heap.size 57 2 v3 (L.length+1) (aJ (L++[(1,((fn:Nat):Int))])):=(by rw[←nP];exact hown3);have HTN:Hid (dM wa3 v3 (L++[(1,((fn:Nat):Int))])):=lhid (aIk h93 (by simp) (by omega));have HFR:Hid (bOl wr.heap.size v3):=lhid (fun q hq=>(h93.lt q hq).1);obtain⟨p3,c3,rfl⟩:=aF hown3;clear hown3 hg3 hat3 h93 RT FB;refine hK.out _ _ (fun h=>absurd h (by decide)) ?_;clear hK K;(try simp only[Act.put,sq]);refine won 18 rfl fun K hK=>?_;go_simp;have HA4:=lhid (HB3.out.alloc HB3.out.size (.cells #[.slice p3 (L.length+1) c3] 27));have FB2:=lhid (Blk.new wa3 27 [.slice p3 (L.length+1) c3]);replace HTN:=lhid (HTN.out.below ((Below.refl _ _).alloc (Nat.le_refl _) (.cells #[.slice p3 (L.length+1) c3] 27)));refine hK.out _ _ (fun h=>absurd h (by decide)) ?_;clear hK K;(try simp only[Act.put,sq]);obtain⟨wa4,hwa4⟩:∃ q,wa3.alloc (.cells #[.slice p3 (L.length+1) c3] 27)=q:=⟨_,rfl⟩;obtain⟨gb4,hgb4⟩:∃ q,wa3.heap.size=q:=⟨_,rfl⟩;simp only[hwa4,hgb4] at HA4 HTN FB2 ⊢;clear hwa4 hgb4;refine won 19 rfl fun K hK=>?_;have RW:=lhid (aS RW0.out HA4.out);have VL:=lhid (VL0.out.below HA4.out);refine aY (by rfl) _ _ 46 (by rfl) W2.heap.size 27 i1 (.slice none 0 0) 1 24 Tryz.underlying46 hj hj0 hj1 hj2 rfl (by decide) (.slice pw n cw) n vs (by rfl) RW.out ⟨gb4,0,none⟩ 1 1 [.slice p3 (L.length+1) c3] (by rfl) rfl (fun q u hq=>by rw[Addr.add_lit,Nat.zero_add];exact FB2.out.cell q hq) (by intro u hu;simp at hu;subst hu;rfl) (by unfold maxLen;omega) (by omega) (Nat.le_trans HBw.out.size HA4.out.size) ?_;intro v5 wa5 hown5 hg5 hat5;have HA5:=lhid ((HBw.out.trans (HA4.out.mono HBw.out.size)).grown hg5 (Nat.le_trans HBw.out.size HA4.out.size) (fun q hq=>(RW.out.lt q hq).1));have HO:Hid (wa5.ownsRow W2.heap.size 27 1 v5 (n+1) (vs++[.slice p3 (L.length+1) c3])):=lhid hown5
     have HL:Hid (lA wa5 (vs++[.slice p3 (L.length+1) c3]) (LL.take (n+1))):=lhid (by
      rw[HNx.out]
      have h9:dM wa5 (.slice p3 (L.length+1) c3) TL:=by
       have h8:=HTN.out.grown RW.out (by decide) hg5;rw[HTL.out, ←HLq.out];exact h8
      exact(VL.out.grown RW.out (by decide) hg5).snoc h9)
     have HF:Hid (∀ u∈vs++[.slice p3 (L.length+1) c3],bOl W2.heap.size u):=lhid (bOt HFs.out (HFR.out.mono HBw.out.size));obtain⟨p9,c9,rfl⟩:=aF hown5;clear hown5 hg5 hat5 RW FB2 HTN VL;refine hK.out _ _ (fun h=>absurd h (by decide)) ?_;clear hK K;(try simp only[Act.put,sq]);refine wO 20 ?_;refine wD ?_;(go_wp2_with fail);go_roundw
     case rel=>exact⟨n+1,by omega,by go_num,⟨_,HO.out,HL.out,HF.out⟩,HA5.out⟩
     case measure=>simp[intOf];omega
  ·have hne:n=LP.length:=(by omega);subst hne
   have hvl2:lA wr vs LL:=by
    have e1:=HLn.out;rw[show LL.take LP.length=LL by rw[←e1,List.take_length]] at hvl;exact hvl
   have hzw:w.heap.size≤W2.heap.size:=HB2.out.size;have HTs:Hid (bOb wr w.heap.size (.slice pw LP.length cw) LL):=lhid ⟨vs,by rw[HLn.out];exact cQ hrw hzw,hvl2,fun u hu=>(hfr u hu).mono hzw⟩;have HBw:=lhid hbw;clear hrw hvl hvl2 hfr hbw;(go_wp2_with fail);go_ret;exact⟨_,rfl,HTs.out,aB HB2.out HBw.out⟩
end
section
open Go.RowKit Go.Lib
theorem bRq {α:Type} {L M:List α} (d:α) (hl:L.length=M.length) (h:∀ j,j<L.length→L.getD j d=M.getD j d):L=M:=by
 apply List.ext_getElem hl;intro i h1 h2;have:=h i h1;simpa [h1,h2] using this
set_option maxRecDepth 100000 in
set_option maxHeartbeats 8000000 in
theorem bRs {w:World} {u v:Value} {m m2:bK} (hu:lI w u m) (hv:lI w v m2) (h5:m.1.length≤1000∧m.2.length≤1000) :
  Calls Tryz.prog 11 #[u,v] w fun e w'=>e=.returned (.bool (decide (m=m2)))∧Below w.heap.size w w':=by
 obtain⟨p0,c0,p1,c1,rfl,ha0,ha1,-,-⟩:=lY hu;obtain⟨q0,d0,q1,d1,rfl,hb0,hb1,-,-⟩:=lY hv;have hal:=((Below.refl w.heap.size w).alloc (Nat.le_refl _) (.cells #[.slice p0 m.1.length c0,.slice p1 m.2.length c1] 29)).alloc (by simp) (.cells #[.slice q0 m2.1.length d0,.slice q1 m2.2.length d1] 29);have hax:=(Blk.new w 29 [.slice p0 m.1.length c0,.slice p1 m.2.length c1]).alloc (.cells #[.slice q0 m2.1.length d0,.slice q1 m2.2.length d1] 29);have hbx:=Blk.new (w.alloc (.cells #[.slice p0 m.1.length c0,.slice p1 m.2.length c1] 29)) 29 [.slice q0 m2.1.length d0,.slice q1 m2.2.length d1];simp only[World.size_alloc] at hbx;have HA0:=lhid (fun n (hn:n<m.1.length)=>ha0 n hn);have HA1:=lhid (fun n (hn:n<m.2.length)=>ha1 n hn);have HB0:=lhid (fun n (hn:n<m2.1.length)=>hb0 n hn);have HB1:=lhid (fun n (hn:n<m2.2.length)=>hb1 n hn)
 have HNo:Hid ((¬m.1.length=m2.1.length∨¬m.2.length=m2.2.length∨(∃ n,¬m.1.getD n false=m2.1.getD n false)∨∃ n,¬m.2.getD n aN=m2.2.getD n aN)→decide (m=m2)=false):=lhid (fun h=>by
  refine decide_eq_false fun e=>?_;subst e
  rcases h with h | h | ⟨n,h⟩ | ⟨n,h⟩<;>exact h rfl)
 have HYs:Hid (m.1.length=m2.1.length→m.2.length=m2.2.length→(∀ j,j<m.1.length→m.1.getD j false=m2.1.getD j false)→(∀ j,j<m.2.length→m.2.getD j aN=m2.2.getD j aN)→decide (m=m2)=true):=lhid (fun h1 h2 h3 h4=>decide_eq_true (Prod.ext (bRq false h1 h3) (bRq aN h2 h4)));have HAL:=lhid hal;have HAX:=lhid hax;have HBX:=lhid hbx;obtain⟨B,hB⟩:∃ q,decide (m=m2)=q:=⟨_,rfl⟩;rw[hB] at HNo HYs ⊢;clear hu hv ha0 ha1 hb0 hb1 hal hax hbx hB;go_enter Tryz.func11,Tryz.ntmps11;(go_upto_region 1 with fail);obtain⟨W1,hW1⟩:∃ q,(w.alloc (.cells #[.slice p0 m.1.length c0,.slice p1 m.2.length c1] 29)).alloc (.cells #[.slice q0 m2.1.length d0,.slice q1 m2.2.length d1] 29)=q:=⟨_,rfl⟩;rw[hW1] at HAL HAX HBX ⊢;clear hW1;obtain⟨ga,hga⟩:∃ q,w.heap.size=q:=⟨_,rfl⟩;obtain⟨gb,hgb⟩:∃ q,ga+1=q:=⟨_,rfl⟩;(try simp only[hga,hgb]);(try simp only[hga,hgb] at HAX HBX);clear hga hgb;have x0:=HAX.out.cell 0 rfl;have x1:=HAX.out.cell 1 rfl;have y0:=HBX.out.cell 0 rfl;have y1:=HBX.out.cell 1 rfl;by_cases hl0:m.1.length=m2.1.length
 ·have e0:((m.1.length:Int) != (m2.1.length:Int))=false:=(by rw[hl0];simp);by_cases hl1:m.2.length=m2.2.length
  ·have e1:((m.2.length:Int) != (m2.2.length:Int))=false:=(by rw[hl1];simp);have HL:=lhid (And.intro hl0 hl1);have HYe:=lhid (HYs.out hl0 hl1);have HNe:=lhid (fun h=>HNo.out (.inr (.inr h)));clear hl0 hl1 HYs HNo;(go_wp2_with fail);clear x0 x1 y0 y1 e0 e1
   go_loopw [5] (fun i wr=>∃ n:Nat,n≤m.1.length∧i=.int .i64 n∧(∀ j,j<n→m.1.getD j false=m2.1.getD j false)∧Below W1.heap.size W1 wr) (fun i _=>m.1.length-(intOf i).toNat)
   case atStart=>exact⟨0,Nat.zero_le _,rfl,fun j hj=>absurd hj (Nat.not_lt_zero j),Below.refl _ _⟩
   case round=>
    obtain⟨n,hn,rfl,hsm,hbw⟩:=hrel;have HBw:=lhid hbw;have HSm:=lhid hsm;have x0:=(HAX.out.later hbw).cell 0 rfl;by_cases hlt:n<m.1.length
    ·have hl2:n<m2.1.length:=(by rw[←HL.out.1];exact hlt);obtain⟨g1,rfl,h1⟩:=HA0.out n hlt;obtain⟨g2,rfl,h2⟩:=HB0.out n hl2;have h1:=cell_later (aB HAL.out hbw) h1;have h2:=cell_later (aB HAL.out hbw) h2;have x0:=(HAX.out.later hbw).cell 0 rfl;have y0:=(HBX.out.later hbw).cell 0 rfl;obtain⟨x,hx⟩:∃ q,m.1.getD n false=q:=⟨_,rfl⟩;obtain⟨y,hy⟩:∃ q,m2.1.getD n false=q:=⟨_,rfl⟩;rw[hx] at h1;rw[hy] at h2;have HQ:=lhid (And.intro hx hy);have HS:Hid (∀ w',Below wr.heap.size wr w'→w'.cell? ⟨ga,0,none⟩=some (.slice (some ⟨g1,0,none⟩) m.1.length c0)∧w'.cell? ⟨gb,0,none⟩=some (.slice (some ⟨g2,0,none⟩) m2.1.length d0)∧w'.cell? ⟨g1,n,none⟩=some (.bool x)∧w'.cell? ⟨g2,n,none⟩=some (.bool y)∧Below wr.heap.size wr w'):=lhid (fun w' hb=>⟨cell_later hb x0,cell_later hb y0,cell_later hb h1,cell_later hb h2,hb⟩);clear hx hy hsm hbw h1 h2;by_cases hxy:x=y
     ·have ex:(x != y)=false:=by rw[hxy];simp
      have HN:Hid (∀ j,j<n+1→m.1.getD j false=m2.1.getD j false):=lhid (fun j hj=>by
       by_cases e:j=n
       ·rw[e,HQ.out.1,HQ.out.2,hxy]
       ·exact HSm.out j (by omega))
      subst hxy;clear ex;(go_upto_region 6 with fail);refine wpk HS [] (by kernel_rfl) fun hB0 hS0=>?_;refine wF 0 ?_;refine wT 1 11 hS0 ?_;refine wF 2 ?_;refine wF 3 ?_;refine wT 4 11 hS0 ?_;refine wF 5 ?_;refine wT 6 11 hS0 ?_;refine wO 7 ?_;refine wO 8 ?_;refine wO 9 ?_;refine wO 10 ?_;refine wD ?_;(go_wp2_with fail);go_roundw
      case rel=>exact⟨n+1,by omega,by go_num,HN.out,aB HBw.out hB0⟩
      case measure=>simp[intOf];omega
     ·have ex:(x != y)=true:=(by simpa using hxy);have HF:=lhid (HNe.out (.inl ⟨n,by rw[HQ.out.1,HQ.out.2];exact hxy⟩));obtain rfl:y = !x:=(by cases x<;>cases y<;>simp_all);clear hxy ex HQ;(go_upto_region 6 with fail);refine wpk HS [] (by kernel_rfl) fun hB0 hS0=>?_;refine wF 0 ?_;refine wT 1 11 hS0 ?_;refine wF 2 ?_;refine wF 3 ?_;refine wT 4 11 hS0 ?_;refine wF 5 ?_;refine wT 6 11 hS0 ?_;refine wO 7 ?_;refine wO 8 ?_;refine wO 9 ?_;refine wO 10 ?_;refine wD ?_;(go_wp2_with fail);go_ret;exact⟨by rw[HF.out]<;>rfl,aB HAL.out (aB HBw.out hB0)⟩
    ·have hne:n=m.1.length:=(by omega);have HS0:Hid (∀ j,j<m.1.length→m.1.getD j false=m2.1.getD j false):=lhid (by rw[←hne];exact hsm);have hnl:¬(n:Int)<(m.1.length:Int):=(by omega);clear hne hsm hbw;(go_wp2_with fail);clear x0;obtain⟨wo,rfl⟩:∃ q,q=wr:=⟨_,rfl⟩;have HBo:=HBw;clear HBw
     go_loopw [6] (fun i wr=>∃ n:Nat,n≤m.2.length∧i=.int .i64 n∧(∀ j,j<n→m.2.getD j aN=m2.2.getD j aN)∧Below W1.heap.size W1 wr) (fun i _=>m.2.length-(intOf i).toNat)
     case atStart=>exact⟨0,Nat.zero_le _,rfl,fun j hj=>absurd hj (Nat.not_lt_zero j),HBo.out⟩
     case round=>
      obtain⟨n,hn,rfl,hsm,hbw⟩:=hrel;have HBw:=lhid hbw;have HSm:=lhid hsm;by_cases hlt:n<m.2.length
      ·have hl2:n<m2.2.length:=(by rw[←HL.out.2];exact hlt);obtain⟨g1,rfl,h1,h3⟩:=HA1.out n hlt;obtain⟨g2,rfl,h2,h4⟩:=HB1.out n hl2;have h1:=cell_later (aB HAL.out hbw) h1;have h2:=cell_later (aB HAL.out hbw) h2;have h3:=cell_later (aB HAL.out hbw) h3;have h4:=cell_later (aB HAL.out hbw) h4;have x1:=(HAX.out.later hbw).cell 1 rfl;have y1:=(HBX.out.later hbw).cell 1 rfl;obtain⟨⟨x1',x2⟩,hx⟩:∃ q,m.2.getD n aN=q:=⟨_,rfl⟩;obtain⟨⟨y1',y2⟩,hy⟩:∃ q,m2.2.getD n aN=q:=⟨_,rfl⟩;rw[hx] at h1 h3;rw[hy] at h2 h4;dsimp only at h1 h2 h3 h4;have HQ:=lhid (And.intro hx hy);have HS:Hid (∀ w',Below wr.heap.size wr w'→w'.cell? ⟨ga,1,none⟩=some (.slice (some ⟨g1,0,none⟩) m.2.length c1)∧w'.cell? ⟨gb,1,none⟩=some (.slice (some ⟨g2,0,none⟩) m2.2.length d1)∧w'.cell? ⟨g1,n*2,none⟩=some (.int .i64 x1')∧w'.cell? ⟨g1,n*2+1,none⟩=some (.int .i64 x2)∧w'.cell? ⟨g2,n*2,none⟩=some (.int .i64 y1')∧w'.cell? ⟨g2,n*2+1,none⟩=some (.int .i64 y2)∧Below wr.heap.size wr w'):=lhid (fun w' hb=>⟨cell_later hb x1,cell_later hb y1,cell_later hb h1,cell_later hb h3,cell_later hb h2,cell_later hb h4,hb⟩);clear hx hy hsm hbw h1 h2 h3 h4;by_cases hxy:(x1',x2)=((y1',y2):Int×Int)
       ·have e1:x1'=y1':=congrArg Prod.fst hxy;have e2:x2=y2:=congrArg Prod.snd hxy
        have HN:Hid (∀ j,j<n+1→m.2.getD j aN=m2.2.getD j aN):=lhid (fun j hj=>by
         by_cases e:j=n
         ·rw[e,HQ.out.1,HQ.out.2,hxy]
         ·exact HSm.out j (by omega))
        clear HQ hxy;subst e1;subst e2;(go_upto_region 11 with fail);refine wpk HS [] (by kernel_rfl) fun hB0 hS0=>?_;refine wF 0 ?_;refine wT 1 11 hS0 ?_;refine wF 2 ?_;refine wF 3 ?_;refine wT 4 11 hS0 ?_;refine wF 5 ?_;refine wT 6 11 hS0 ?_;refine wO 7 ?_;refine wO 8 ?_;refine wO 9 ?_;refine wO 10 ?_;refine wD ?_;(go_wp2_with fail);go_roundw
        case rel=>exact⟨n+1,by omega,by go_num,HN.out,aB HBw.out hB0⟩
        case measure=>simp[intOf];omega
       ·have HF:=lhid (HNe.out (.inr ⟨n,by rw[HQ.out.1,HQ.out.2];exact hxy⟩));by_cases e1:x1'=y1'
        ·have e2:¬x2=y2:=fun b=>hxy (by rw[e1,b]);clear HQ hxy;subst e1;(go_upto_region 11 with fail);refine wpk HS [] (by kernel_rfl) fun hB0 hS0=>?_;refine wF 0 ?_;refine wT 1 11 hS0 ?_;refine wF 2 ?_;refine wF 3 ?_;refine wT 4 11 hS0 ?_;refine wF 5 ?_;refine wT 6 11 hS0 ?_;refine wO 7 ?_;refine wO 8 ?_;refine wO 9 ?_;refine wO 10 ?_;refine wD ?_;(go_wp2_with fail);go_ret;exact⟨by rw[HF.out]<;>rfl,aB HAL.out (aB HBw.out hB0)⟩
        ·clear HQ hxy;(go_upto_region 11 with fail);refine wpk HS [] (by kernel_rfl) fun hB0 hS0=>?_;refine wF 0 ?_;refine wT 1 11 hS0 ?_;refine wF 2 ?_;refine wF 3 ?_;refine wT 4 11 hS0 ?_;refine wF 5 ?_;refine wT 6 11 hS0 ?_;refine wO 7 ?_;refine wO 8 ?_;refine wO 9 ?_;refine wO 10 ?_;refine wD ?_;(go_wp2_with fail);go_ret;exact⟨by rw[HF.out]<;>rfl,aB HAL.out (aB HBw.out hB0)⟩
      ·have hne:n=m.2.length:=(by omega);have HF:=lhid (HYe.out HS0.out (by rw[←hne];exact hsm));have hnl2:¬(n:Int)<(m.2.length:Int):=(by omega);have x1:=(HAX.out.later hbw).cell 1 rfl;clear hne hsm hbw;(go_wp2_with fail);go_ret;exact⟨by rw[HF.out]<;>rfl,aB HAL.out HBw.out⟩
  ·have e1:((m.2.length:Int) != (m2.2.length:Int))=true:=by
    rw[bne_iff_ne];omega
   have HF:=lhid (HNo.out (.inr (.inl hl1)));clear hl0 hl1 HYs HNo;(go_wp2_with fail);go_ret;exact⟨by rw[HF.out]<;>rfl,HAL.out⟩
 ·have e0:((m.1.length:Int) != (m2.1.length:Int))=true:=by
   rw[bne_iff_ne];omega
  have HF:=lhid (HNo.out (.inl hl0));clear hl0 HYs HNo;(go_wp2_with fail);go_ret;exact⟨by rw[HF.out]<;>rfl,HAL.out⟩
end
section
open Go.RowKit Go.Lib
section
variable {w:World} {B:Nat} {t:TypeId} {cs:List Value} (hB:aBk w B t cs) (i:Nat) (u:Value)
include hB
theorem bTl {v:Value} {L:List Bool} (h:qW w v L):qW (w.setCell ⟨B,i,none⟩ u) v L:=by
 obtain⟨p,c,rfl,hl,hp⟩:=h;refine⟨p,c,rfl,hl,fun j hj=>?_⟩;obtain⟨g,rfl,hc⟩:=hp j hj;exact⟨g,rfl,jB hc (hB.ne hc (by intros;simp))⟩
theorem bTp {v:Value} {L:List aR} (h:oS w v L):oS (w.setCell ⟨B,i,none⟩ u) v L:=by
 obtain⟨p,c,rfl,hl,hp⟩:=h;refine⟨p,c,rfl,hl,fun j hj=>?_⟩;obtain⟨g,rfl,h0,h1⟩:=hp j hj;have hne:g≠B:=hB.ne h0 (by intros;simp);exact⟨g,rfl,jB h0 hne,jB h1 hne⟩
theorem bTj {v:Value} {m:bK} (h:lI w v m):lI (w.setCell ⟨B,i,none⟩ u) v m:=by
 obtain⟨v0,v1,e,h0,h1⟩:=h;exact⟨v0,v1,e,bTl hB i u h0,bTp hB i u h1⟩
theorem bTg {v:Value} {m:bK} (h:vX w v m):vX (w.setCell ⟨B,i,none⟩ u) v m:=by
 obtain⟨v0,v1,e,⟨p,c,e0,h1,h2,hc⟩,⟨p',c',e0',h1',h2',hc'⟩⟩:=h;refine⟨v0,v1,e,⟨p,c,e0,h1,h2,fun j hj=>?_⟩,⟨p',c',e0',h1',h2',fun j hj=>?_⟩⟩
 ·obtain⟨a,ds,ea,hl,hd,hr⟩:=hc j hj;refine⟨a,ds,ea,hl,fun q x hq=>jB (hd q x hq) (hB.ne (hd q x hq) ?_),hr⟩;have hm:=List.mem_of_getElem? hq;rw[show ds=_ from hr] at hm;simp at hm;subst hm
  intros;simp
 ·obtain⟨a,ds,ea,hl,hd,hr⟩:=hc' j hj;refine⟨a,ds,ea,hl,fun q x hq=>jB (hd q x hq) (hB.ne (hd q x hq) ?_),hr⟩;have hm:=List.mem_of_getElem? hq;rw[show ds=_ from hr] at hm;simp[aZ] at hm;rcases hm with rfl | rfl<;>(intros;simp)
end
theorem bTm {w W1 w2:World} {x0 x1 x2 y0 y1:Value} {h:aI} {m:bK} {p0 p1 p2 r0 r1:Option Addr} {n0 n1 n2 c0 c1 c2 k0 k1 e0 e1:Nat} (hb1:Below w.heap.size w W1) (hB:Blk W1 w.heap.size 25 [x0,x1,x2]) (hx:∀ x∈[x0,x1,x2],∃ p n c,x=Value.slice p n c) (hU:Blk W1 (w.heap.size+1) 29 [y0,y1]) (hy:∀ x∈[y0,y1],∃ p n c,x=Value.slice p n c) (hb:Below W1.heap.size W1 w2)
  (hv:cJ w2 (.agg #[.slice p0 n0 c0,.slice p1 n1 c1,.slice p2 n2 c2]) h) (ha:aBj w2 (.agg #[.slice p0 n0 c0,.slice p1 n1 c1,.slice p2 n2 c2]) h) (wv:lI w2 (.agg #[.slice r0 k0 e0,.slice r1 k1 e1]) m) (wa:vX w2 (.agg #[.slice r0 k0 e0,.slice r1 k1 e1]) m) :
  ∃ WZ,(((((w2.setCell ⟨w.heap.size,0,none⟩ (.slice p0 n0 c0)).setCell ⟨w.heap.size,1,none⟩ (.slice p1 n1 c1)).setCell ⟨w.heap.size,2,none⟩ (.slice p2 n2 c2)).setCell ⟨w.heap.size+1,0,none⟩ (.slice r0 k0 e0)).setCell ⟨w.heap.size+1,1,none⟩ (.slice r1 k1 e1))=WZ ∧
  Blk WZ w.heap.size 25 [.slice p0 n0 c0,.slice p1 n1 c1,.slice p2 n2 c2]∧Blk WZ (w.heap.size+1) 29 [.slice r0 k0 e0,.slice r1 k1 e1] ∧
  cJ WZ (.agg #[.slice p0 n0 c0,.slice p1 n1 c1,.slice p2 n2 c2]) h∧aBj WZ (.agg #[.slice p0 n0 c0,.slice p1 n1 c1,.slice p2 n2 c2]) h∧lI WZ (.agg #[.slice r0 k0 e0,.slice r1 k1 e1]) m∧vX WZ (.agg #[.slice r0 k0 e0,.slice r1 k1 e1]) m∧Below w.heap.size w WZ:=by
 have s0:aBk w2 w.heap.size 25 [x0,x1,x2]:=⟨hB.later hb,hx⟩;have s1:=s0.set 0 p0 n0 c0;have s2:=s1.set 1 p1 n1 c1;have s3:=s2.set 2 p2 n2 c2;have hne:w.heap.size+1≠w.heap.size:=(by omega);have u0:=(((hU.later hb).far (a:=⟨w.heap.size,0,none⟩) hne (.slice p0 n0 c0)).far (a:=⟨w.heap.size,1,none⟩) hne (.slice p1 n1 c1)).far (a:=⟨w.heap.size,2,none⟩) hne (.slice p2 n2 c2);have t0:aBk _ (w.heap.size+1) 29 [y0,y1]:=⟨u0,hy⟩;have t1:=t0.set 0 r0 k0 e0;have t2:=t1.set 1 r1 k1 e1;have hne2:w.heap.size≠w.heap.size+1:=(by omega);refine⟨_,rfl,(s3.1.far (a:=⟨w.heap.size+1,0,none⟩) hne2 _).far (a:=⟨w.heap.size+1,1,none⟩) hne2 _,t2.1,bTv t1 1 _ (bTv t0 0 _ (bTv s2 2 _ (bTv s1 1 _ (bTv s0 0 _ hv)))),bTx t1 1 _ (bTx t0 0 _ (bTx s2 2 _ (bTx s1 1 _ (bTx s0 0 _ ha)))),bTj t1 1 _ (bTj t0 0 _ (bTj s2 2 _ (bTj s1 1 _ (bTj s0 0 _ wv)))),bTg t1 1 _ (bTg t0 0 _ (bTg s2 2 _ (bTg s1 1 _ (bTg s0 0 _ wa)))),?_⟩;exact(((((aB hb1 hb).setCell (by show w.heap.size≤w.heap.size;omega) _).setCell (by show w.heap.size≤w.heap.size;omega) _).setCell (by show w.heap.size≤w.heap.size;omega) _).setCell (by show w.heap.size≤w.heap.size+1;omega) _).setCell (by show w.heap.size≤w.heap.size+1;omega) _
end
section
open Go.ChangeShapes Go.WideShapes Go.ChangeAt Go.RowKit Go.Joins
theorem bTu {h:aI} (hn:bTt h):bTt (bHg h):=by
 intro t ht o ho;obtain⟨u,hu,rfl⟩:=List.mem_map.1 (show t∈(h.2.2.take 45).map tH from ht);exact hn u (List.mem_of_mem_take hu) o (List.mem_of_mem_take (show o∈u.2.2.take 25 from ho))
def bVs (w:World) (cs:List Value) (o:OpM):Prop:=OpR w cs o∧-9223372036854775808≤o.2.2.2∧o.2.2.2≤9223372036854775807
def bVp (w:World) (cs:List Value) (t:bB):Prop:=bKj w cs t∧∀ o∈t.2.2,-9223372036854775808≤o.2.2.2∧o.2.2.2≤9223372036854775807
theorem bVc {α:Type} {size:Nat} {R:World→List Value→α→Prop} {w:World} {v:Value} {L:List α} (h:SlR size R w v L):∀ x∈L,∃ cs,R w cs x:=by
 obtain⟨p,cap,-,-,-,hc⟩:=h;intro x hx;obtain⟨j,hj,rfl⟩:=List.getElem_of_mem hx;obtain⟨a,cs,-,-,-,h2⟩:=hc j hj;exact⟨cs,h2⟩
section
variable {H:Type} {enc:TypeId×Value→H} {w:World} {base:Nat} {spare:Nat→Bool} {held:Bool}
theorem bVn {n:Nat} {cs:List Value} {y:DataW H×List MemPlace} (h:DataW.trod enc Tryz.prog w base spare held n 82 cs=some y):∃ o,bVs w cs o:=by
 have hl:=qV Tryz.underlying82 h;obtain⟨n0,y0,h0⟩:=jD 0 0 4 1 Tryz.underlying82 h rfl rfl rfl (by kernel_rfl);obtain⟨n1,y1,h1⟩:=jD 1 1 3 1 Tryz.underlying82 h rfl rfl rfl (by kernel_rfl);obtain⟨n2,y2,h2⟩:=jD 2 2 57 2 Tryz.underlying82 h rfl rfl rfl (by kernel_rfl);obtain⟨m0,z0,g0⟩:=jD 0 0 3 1 Tryz.underlying57 h2 rfl rfl rfl (by kernel_rfl);obtain⟨m1,z1,g1⟩:=jD 1 1 2 1 Tryz.underlying57 h2 rfl rfl rfl (by kernel_rfl);obtain⟨b,hb,-⟩:=DataW.trod_bool Tryz.underlying4 h0;obtain⟨k,hk,-,-⟩:=DataW.trod_int Tryz.underlying3 h1;obtain⟨vk,hvk,-,-⟩:=DataW.trod_int Tryz.underlying3 g0;obtain⟨vn,hvn,-,wn⟩:=DataW.trod_int Tryz.underlying2 g1;have hr:=bBc wn;rw[show Tryz.prog.cellsOf 82=4 by kernel_rfl] at hl
 match cs,hl with
 | [c0,c1,c2,c3],_=>
  simp at hb hk hvk hvn;exact⟨(b,k,vk,vn),by simp[OpR,nO,hb,hk,hvk,hvn],hr.1,hr.2⟩
theorem bVj {n:Nat} {cs:List Value} {y:DataW H×List MemPlace} (h:DataW.trod enc Tryz.prog w base spare held n 67 cs=some y):∃ t,bVp w cs t:=by
 have hl:=qV Tryz.underlying67 h;obtain⟨n0,y0,h0⟩:=jD 0 0 3 1 Tryz.underlying67 h rfl rfl rfl (by kernel_rfl);obtain⟨n1,y1,h1⟩:=jD 1 1 3 1 Tryz.underlying67 h rfl rfl rfl (by kernel_rfl);obtain⟨n2,y2,h2⟩:=jD 2 2 65 1 Tryz.underlying67 h rfl rfl rfl (by kernel_rfl);obtain⟨s,hs,-,-⟩:=DataW.trod_int Tryz.underlying3 h0;obtain⟨f,hf',-,-⟩:=DataW.trod_int Tryz.underlying3 h1;obtain⟨v,L,hv,hL⟩:∃ v L,_=[v]∧SlR 4 bVs w v L:=tY Tryz.underlying65 (by kernel_rfl) (fun _ _ _ h=>bVn h) h2;rw[show Tryz.prog.cellsOf 67=3 by kernel_rfl] at hl
 match cs,hl with
 | [c0,c1,c2],_=>
  simp at hs hf' hv;refine⟨(s,f,L),⟨v,by rw[hs,hf',hv],SlR.mono hL (fun _ _ _ h=>h.1)⟩,fun o ho=>?_⟩;obtain⟨cs,h⟩:=bVc hL o ho;exact h.2
set_option maxRecDepth 100000 in
theorem open_histN {r:Reach} {b0:Nat} {v:Value} {d:DataW H} {ps:List MemPlace} (hval:Value.okWide Tryz.prog w r b0 25 v) (hd:DataW.Trod enc Tryz.prog w base spare held 25 v d ps):∃ h,aBj w v h∧bTt h:=by
 obtain⟨c0,c1,c2,y0,y1,y2,m,rfl,-,-,h0,h1,h2⟩:=open_agg3 Tryz.underlying25 (by kernel_rfl) (show Tryz.prog.cellsOf 25=3 by kernel_rfl) hval hd;obtain⟨v0,L0,e0,a0⟩:=aEd h0;obtain⟨v1,L1,e1,a1⟩:=aEd h1;obtain⟨v2,L2,e2,a2⟩:∃ v L,_=[v]∧SlR 3 bVp w v L:=tY Tryz.underlying23 (by kernel_rfl) (fun _ _ _ h=>bVj h) h2;simp at e0 e1 e2;subst e0 e1 e2;refine⟨(L0,L1,L2),⟨c0,c1,c2,rfl,a0,a1,SlR.mono a2 (fun _ _ _ h=>h.1)⟩,fun t ht=>?_⟩;obtain⟨cs,h⟩:=bVc a2 t ht;exact h.2
end
end
end Go.Proofs.YtdfegfagedeilaaGreatDoor
