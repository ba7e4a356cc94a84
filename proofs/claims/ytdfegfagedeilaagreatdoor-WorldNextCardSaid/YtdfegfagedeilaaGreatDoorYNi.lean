/-
  Several texts of these walks, joined and squeezed (as templates they lie in wip/tpl): HistJ HistL WoB WoC WoE WoF.
-/
import Derived.Test.YtdfegfagedeilaaGreatDoorYNh
namespace Go.Proofs.YtdfegfagedeilaaGreatDoor
section
open Go.RowKit Go.Lib
theorem aXp:(Tryz.prog.info? 4).map (fun i=>(i.zero,i.size,i.bytes))=some (some (.bool false),1,1):=by kernel_rfl
theorem sJ (n:Nat):(madeCells (Value.cells (.bool false)) (n*1)).toList=jY (List.replicate n false):=by
 rw[Nat.mul_one];show(madeCells #[.bool false] n).toList=_;rw[toList_madeCells_one];simp[jY]
theorem bMp {n:Nat} {a W:World} (hn:n≤a.heap.size) (h:Below n a W) (o:Obj):Below n a (W.alloc o):=h.alloc (Nat.le_trans hn h.size) o
theorem xR (w W:World) (n m:Nat) (hw:w.heap.size+1≤W.heap.size) (hn:n≤1000) (hm:m≤1000) :
  ((W.alloc (.cells (madeCells #[.bool false] n) 4)).alloc (.cells (madeCells #[.bool false] m) 4)).drew.ownsRow (w.heap.size+1) 4 1 (.slice (some ⟨W.heap.size,0,none⟩) n n) n (jY (List.replicate n false)) ∧
  ((W.alloc (.cells (madeCells #[.bool false] n) 4)).alloc (.cells (madeCells #[.bool false] m) 4)).drew.ownsRow (w.heap.size+1) 4 1 (.slice (some ⟨W.heap.size+1,0,none⟩) m m) m (jY (List.replicate m false)):=by
 have h1:=World.ownsRow_lit (base:=w.heap.size+1) (e:=4) (size:=1) W (madeCells #[.bool false] (n*1)) n hw (by unfold maxLen;omega) (by rw[size_madeCells]);have h2:=World.ownsRow_lit (base:=w.heap.size+1) (e:=4) (size:=1) (W.alloc (.cells (madeCells #[.bool false] n) 4)) (madeCells #[.bool false] (m*1)) m (by simp;omega) (by unfold maxLen;omega) (by rw[size_madeCells]);have e1:=sJ n;have e2:=sJ m;simp only[Nat.mul_one] at h1 h2 e1 e2;rw[show Value.cells (.bool false)=#[.bool false] from rfl] at e1 e2;rw[e1] at h1;rw[e2] at h2;simp only[World.size_alloc] at h2;exact⟨(h1.alloc _).drew,h2.drew⟩
theorem bKy (v0 v1 v2 sv:Value) (S K:List (List UInt8)) (t:bB) (gu cu:Nat) (U:List Bool) (base:Nat) (w:World) (h0:bF w v0 S) (h1:bF w v1 K) (h2:∃ p c n,v2=.slice p n c) (hs:qF w sv t.2.2) (hl:t.2.2.length≤1000)
  (hK:K.length≤1000000) (hU:U.length=K.length) (hu:w.ownsRow base 4 1 (.slice (some ⟨gu,0,none⟩) K.length cu) K.length (jY U)) (hne:∀ j,j<t.2.2.length→∀ p n c,sv=.slice (some p) n c→p.block≠gu) :
  Calls Tryz.prog 41 #[.agg #[v0,v1,v2],.agg #[.int .i64 t.1,.int .i64 t.2.1,sv],.slice (some ⟨gu,0,none⟩) K.length cu] w fun e w'=>e=.returned (.bool (bQ S.length t&&t.2.2.all (jS K.length))) ∧
   (w.grownBy w' (some gu)∧∃ U':List Bool,w'.ownsRow base 4 1 (.slice (some ⟨gu,0,none⟩) K.length cu) K.length (jY U')∧U'.length=K.length∧((bQ S.length t&&t.2.2.all (jS K.length))=true→U'=dC U (t.2.2.map (·.2.1)))):=by
 have h:=bFc v0 v1 v2 sv S K t gu cu U base w h0 h1 h2 hs hl hK hU (by rw[hU];exact hu) hne;rw[hU] at h;refine h.mono ?_;rintro e w' ⟨he,hg,U',a,b,c⟩;rw[hU] at a b;exact⟨he,hg,U',a,b,c⟩
theorem sH (w:World) (row:Option Nat):w.grownBy w.drew row:=⟨rfl,rfl,rfl,Nat.le_refl _,fun _ _ _=>rfl⟩
set_option maxRecDepth 100000 in
set_option maxHeartbeats 8000000 in
theorem bFb (v0 v1 v2:Value) (h:aI) (w:World) (h0:bF w v0 h.1) (h1:bF w v1 h.2.1) (h2:kM w v2 h.2.2) (hm:cU h) :
  Calls Tryz.prog 12 #[.agg #[v0,v1,v2]] w fun e w'=>e=.returned (.int .i64 (tI h))∧Below w.heap.size w w':=by
 obtain⟨m1,m2,m3,m4,m5,m6⟩:=hm;have H1:=lhid (fun w' (hw:bF w' v0 h.1)=>aOw w' v0 h.1 hw (by omega) m4);have H2:=lhid (fun w' (hw:bF w' v1 h.2.1)=>aOw w' v1 h.2.1 hw (by omega) m5);have HM6:=lhid m6;have T0:=lhid h0;have T1:=lhid h1;obtain⟨p2,c2,rfl,hp⟩:=h2;obtain⟨p0,c0,rfl,-⟩:=h0;obtain⟨p1,c1,rfl,-⟩:=h1;have HX:=lhid hp;have HF:Hid (mV h=false→tI h=4):=lhid (fun e=>pH (by rw[aNq,e];rfl));have HT:Hid (mV h=true→∀ b,(h.2.2.all (lC h)&&xU h)=b→tI h=if b then 0 else 4):=lhid (fun e b hb=>by unfold tI;rw[aNq,e,Bool.true_and,hb]);have HH:Hid (mV h=(isT h.1&&(isT h.2.1&&(decide (h.1.length≤20)&&(decide (h.2.1.length≤40)&&decide (h.2.2.length≤40)))))):=lhid rfl;generalize isT h.1=I at H1 HH;generalize isT h.2.1=J at H2 HH;have b0:=Blk.new w 25 [.slice p0 h.1.length c0,.slice p1 h.2.1.length c1,.slice p2 h.2.2.length c2];have hb0:Below w.heap.size w (w.alloc (.cells #[.slice p0 h.1.length c0,.slice p1 h.2.1.length c1,.slice p2 h.2.2.length c2] 25)):=(Below.refl _ w).alloc (Nat.le_refl _) _;have HB0:=lhid hb0;have B0:=lhid b0;clear hp m4 m5 m6 b0 hb0
 cases I with
 | false=>
  have HE:=lhid (HF.out (by rw[HH.out];rfl));go_enter Tryz.func12,Tryz.ntmps12;(go_wp2_with fail);refine(H1.out _ (T0.out.below HB0.out)).mono ?_;rintro e w1 ⟨rfl,hb1⟩;have hbw1:=aB HB0.out hb1;have d1:=B0.out.later hb1;have x10:=d1.cell 0 rfl;have x11:=d1.cell 1 rfl;have x12:=d1.cell 2 rfl;have D1:=lhid d1;clear hb1 d1;(go_wp2_with fail);go_ret;rw[HE.out];exact⟨rfl,hbw1⟩
 | true=>
  cases J with
  | false=>
   have HE:=lhid (HF.out (by rw[HH.out];rfl));go_enter Tryz.func12,Tryz.ntmps12;(go_wp2_with fail);refine(H1.out _ (T0.out.below HB0.out)).mono ?_;rintro e w1 ⟨rfl,hb1⟩;have hbw1:=aB HB0.out hb1;have d1:=B0.out.later hb1;have x10:=d1.cell 0 rfl;have x11:=d1.cell 1 rfl;have x12:=d1.cell 2 rfl;have D1:=lhid d1;clear hb1 d1;(go_wp2_with fail);refine(H2.out _ (T1.out.below hbw1)).mono ?_;rintro e w2 ⟨rfl,hb2⟩;have hbw2:=aB hbw1 hb2;have d2:=D1.out.later hb2;have x20:=d2.cell 0 rfl;have x21:=d2.cell 1 rfl;have x22:=d2.cell 2 rfl;have D2:=lhid d2;clear hb2 d2 x10 x11 x12;(go_wp2_with fail);go_ret;rw[HE.out];exact⟨rfl,hbw2⟩
  | true=>
   by_cases g1:20<h.1.length
   ·have HE:=lhid (HF.out (by rw[HH.out,decide_eq_false (show ¬h.1.length≤20 by omega)];rfl));go_enter Tryz.func12,Tryz.ntmps12;(go_wp2_with fail);refine(H1.out _ (T0.out.below HB0.out)).mono ?_;rintro e w1 ⟨rfl,hb1⟩;have hbw1:=aB HB0.out hb1;have d1:=B0.out.later hb1;have x10:=d1.cell 0 rfl;have x11:=d1.cell 1 rfl;have x12:=d1.cell 2 rfl;have D1:=lhid d1;clear hb1 d1;(go_wp2_with fail);refine(H2.out _ (T1.out.below hbw1)).mono ?_;rintro e w2 ⟨rfl,hb2⟩;have hbw2:=aB hbw1 hb2;have d2:=D1.out.later hb2;have x20:=d2.cell 0 rfl;have x21:=d2.cell 1 rfl;have x22:=d2.cell 2 rfl;have D2:=lhid d2;clear hb2 d2 x10 x11 x12;(go_wp2_with fail);go_ret;rw[HE.out];exact⟨rfl,hbw2⟩
   by_cases g2:40<h.2.1.length
   ·have HE:=lhid (HF.out (by rw[HH.out,decide_eq_false (show ¬h.2.1.length≤40 by omega)];simp));go_enter Tryz.func12,Tryz.ntmps12;(go_wp2_with fail);refine(H1.out _ (T0.out.below HB0.out)).mono ?_;rintro e w1 ⟨rfl,hb1⟩;have hbw1:=aB HB0.out hb1;have d1:=B0.out.later hb1;have x10:=d1.cell 0 rfl;have x11:=d1.cell 1 rfl;have x12:=d1.cell 2 rfl;have D1:=lhid d1;clear hb1 d1;(go_wp2_with fail);refine(H2.out _ (T1.out.below hbw1)).mono ?_;rintro e w2 ⟨rfl,hb2⟩;have hbw2:=aB hbw1 hb2;have d2:=D1.out.later hb2;have x20:=d2.cell 0 rfl;have x21:=d2.cell 1 rfl;have x22:=d2.cell 2 rfl;have D2:=lhid d2;clear hb2 d2 x10 x11 x12;(go_wp2_with fail);go_ret;rw[HE.out];exact⟨rfl,hbw2⟩
   by_cases g3:40<h.2.2.length
   ·have HE:=lhid (HF.out (by rw[HH.out,decide_eq_false (show ¬h.2.2.length≤40 by omega)];simp));go_enter Tryz.func12,Tryz.ntmps12;(go_wp2_with fail);refine(H1.out _ (T0.out.below HB0.out)).mono ?_;rintro e w1 ⟨rfl,hb1⟩;have hbw1:=aB HB0.out hb1;have d1:=B0.out.later hb1;have x10:=d1.cell 0 rfl;have x11:=d1.cell 1 rfl;have x12:=d1.cell 2 rfl;have D1:=lhid d1;clear hb1 d1;(go_wp2_with fail);refine(H2.out _ (T1.out.below hbw1)).mono ?_;rintro e w2 ⟨rfl,hb2⟩;have hbw2:=aB hbw1 hb2;have d2:=D1.out.later hb2;have x20:=d2.cell 0 rfl;have x21:=d2.cell 1 rfl;have x22:=d2.cell 2 rfl;have D2:=lhid d2;clear hb2 d2 x10 x11 x12;(go_wp2_with fail);go_ret;rw[HE.out];exact⟨rfl,hbw2⟩
   have HT2:=lhid (HT.out (by rw[HH.out,decide_eq_true (show h.1.length≤20 by omega),decide_eq_true (show h.2.1.length≤40 by omega),decide_eq_true (show h.2.2.length≤40 by omega)];rfl));obtain⟨i0,hi,hz0,hz1,hz2⟩:=info_parts aXp
   have mk:∀ (n:Nat),n≤1000→∀ W:World,(Instr.makeSlice 26 (.int .i64 (n:Int)) (.int .i64 (n:Int))).run Tryz.prog W=.ok (.slice (some ⟨W.heap.size,0,none⟩) n n) (W.alloc (.cells (madeCells (Value.cells (.bool false)) (n*i0.size)) 4)):=fun n hn W=>by
    have hr:=run_make (P:=Tryz.prog) W 26 4 i0 (.bool false) Tryz.underlying26 hi hz0 .i64 .i64 n n (by omega) (Int.le_refl _) (by rw[hz2];omega) (by omega);simpa only [Int.toNat_natCast] using hr
   have mk1:=mk h.2.1.length m2;have mk2:=mk h.1.length m1;rw[hz1] at mk1 mk2;clear mk HF HT HH;go_enter Tryz.func12,Tryz.ntmps12;(go_upto_region 3 with fail);refine(H1.out _ (T0.out.below HB0.out)).mono ?_;rintro e w1 ⟨rfl,hb1⟩;have hbw1:=aB HB0.out hb1;have d1:=B0.out.later hb1;have x10:=d1.cell 0 rfl;have x11:=d1.cell 1 rfl;have x12:=d1.cell 2 rfl;have D1:=lhid d1;clear hb1 d1;(go_upto_region 3 with fail);refine(H2.out _ (T1.out.below hbw1)).mono ?_;rintro e w2 ⟨rfl,hb2⟩;have hbw2:=aB hbw1 hb2;have d2:=D1.out.later hb2;have x20:=d2.cell 0 rfl;have x21:=d2.cell 1 rfl;have x22:=d2.cell 2 rfl;have D2:=lhid d2;have hws:w.heap.size+1≤w2.heap.size:=D2.out.lt;clear hb2 d2 x10 x11 x12;go_upto_region 3 with fail
   go_cut [3,4] (fun s3 s4 wx=>∃ gk gs:Nat,s3=.slice (some ⟨gk,0,none⟩) h.2.1.length h.2.1.length∧s4=.slice (some ⟨gs,0,none⟩) h.1.length h.1.length∧gk≠gs∧wx.ownsRow (w.heap.size+1) 4 1 (.slice (some ⟨gk,0,none⟩) h.2.1.length h.2.1.length) h.2.1.length (jY (List.replicate h.2.1.length false))∧wx.ownsRow (w.heap.size+1) 4 1 (.slice (some ⟨gs,0,none⟩) h.1.length h.1.length) h.1.length (jY (List.replicate h.1.length false))∧Below (w.heap.size+1) w2 wx)
   case first=>
    have HS:Hid (∀ w',Below (w.heap.size+1) w2 w'→(w'.cell? ⟨w.heap.size,0,none⟩=some (.slice p0 h.1.length c0)∧w'.cell? ⟨w.heap.size,1,none⟩=some (.slice p1 h.2.1.length c1)∧Below (w.heap.size+1) w2 w')):=lhid (fun w' hb=>⟨(hb.cell (p:=⟨w.heap.size,0,none⟩) (by show w.heap.size<_;omega)).trans x20,(hb.cell (p:=⟨w.heap.size,1,none⟩) (by show w.heap.size<_;omega)).trans x21,hb⟩)
    go_region_held3 (fun w'=>w'.cell? ⟨w.heap.size,0,none⟩=some (.slice p0 h.1.length c0)∧w'.cell? ⟨w.heap.size,1,none⟩=some (.slice p1 h.2.1.length c1)∧Below (w.heap.size+1) w2 w')
     ((go_split_ands;exact HS.out _ (by(repeat (first | assumption | exact Below.refl _ _ | refine Below.drew ?_ | refine bMp (by omega) ?_ _)))))
     (fail)
    all_goals
     go_split_ands
     (go_wp2_with fail);go_meet
     first
      | exact⟨_,_,rfl,rfl,by omega,(xR _ _ _ _ hws (by omega) (by omega)).1,(xR _ _ _ _ hws (by omega) (by omega)).2,by assumption⟩
      | exact⟨_,_,rfl,rfl,by omega,(xR _ _ _ _ hws (by omega) (by omega)).2,(xR _ _ _ _ hws (by omega) (by omega)).1,by assumption⟩
   case rest=>
    obtain⟨gk,gs,rfl,rfl,hgne,hrk,hrs,hbc⟩:=hcut;have hgk:w.heap.size+1≤gk:=(hrk.lt gk rfl).1;have hgs:w.heap.size+1≤gs:=(hrs.lt gs rfl).1;clear mk1 mk2 x20 x21 x22;have HBW2:=lhid hbw2;go_wp2_with fail
    go_loopw [5] (fun i wr=>∃ k:Nat,k≤h.2.2.length∧i=.int .i64 k∧(∀ j,j<k→lC h (h.2.2.getD j aM)=true)∧wr.ownsRow (w.heap.size+1) 4 1 (.slice (some ⟨gk,0,none⟩) h.2.1.length h.2.1.length) h.2.1.length (jY (dC (List.replicate h.2.1.length false) (aDb h.2.2 k)))∧wr.ownsRow (w.heap.size+1) 4 1 (.slice (some ⟨gs,0,none⟩) h.1.length h.1.length) h.1.length (jY (dC (List.replicate h.1.length false) (pA h.2.2 k)))∧Below (w.heap.size+1) w2 wr) (fun i _=>h.2.2.length-(intOf i).toNat)
    case atStart=>exact⟨0,Nat.zero_le _,rfl,fun j hj=>absurd hj (Nat.not_lt_zero j),hrk,hrs,hbc⟩
    case round=>
     obtain⟨k,hk,rfl,hn,hrk,hrs,hbc⟩:=hrel;have HN:=lhid hn;have dr:=D2.out.below hbc (by omega);have x0:=dr.cell 0 rfl;have x1:=dr.cell 1 rfl;have x2:=dr.cell 2 rfl;have hbwx:Below w.heap.size w wr:=HBW2.out.trans (hbc.mono (by omega));have hwr:w.heap.size<wr.heap.size:=dr.lt;clear dr hn;by_cases hk1:k<h.2.2.length
     ·obtain⟨g,sv,rfl,a1,a2,a3,hops⟩:=HX.out k hk1;have a1':=cell_later hbwx a1;have a2':=cell_later hbwx a2;have a3':=cell_later hbwx a3;have hops':=hops.below hbwx;have hgl:g<w.heap.size:=World.block_lt_of_cell? w ⟨g,k*3,none⟩ a1
      have hmem:h.2.2.getD k aM∈h.2.2:=by
       have:h.2.2.getD k aM=h.2.2[k]:=(by simp[hk1]);rw[this];exact List.getElem_mem hk1
      have hm6:=HM6.out _ hmem;have hkn:=aRv h.2.2 k hk1;have hsn:=aFc h.2.2 k hk1
      have HNo:Hid (lC h (h.2.2.getD k aM)=false→tI h=4):=lhid (fun hf=>HT2.out false (by
       rw[show h.2.2.all (lC h)=false by
        rw[List.all_eq_false]
        exact⟨_,hmem,by rw[hf];exact Bool.false_ne_true⟩]
       rfl))
      have HYes:Hid (lC h (h.2.2.getD k aM)=true→∀ j,j<k+1→lC h (h.2.2.getD j aM)=true):=lhid (fun e j hj=>by
       by_cases hjk:j<k
       ·exact HN.out j hjk
       ·obtain rfl:j=k:=by omega
        exact e)
      have HIn:Hid (lC h (h.2.2.getD k aM)=true→0≤(h.2.2.getD k aM).1∧(h.2.2.getD k aM).1<h.1.length):=lhid (fun e=>by
       simp only[lC,bQ,dV,Bool.and_eq_true,decide_eq_true_eq] at e
       exact e.1.1)
      obtain⟨t,ht⟩:∃ t,h.2.2.getD k aM=t:=⟨_,rfl⟩;rw[ht] at a1' a2' hops' hm6 hkn hsn HNo HYes HIn;have hle:(dC (List.replicate h.2.1.length false) (aDb h.2.2 k)).length=h.2.1.length:=(by rw[jO,List.length_replicate]);have hops2:=hops'.below (w':=wr.drew) (Below.drew (Below.refl _ _))
      have HOps:=lhid (bKy (.slice p0 h.1.length c0) (.slice p1 h.2.1.length c1) (.slice (some ⟨g,0,none⟩) h.2.2.length c2) sv h.1 h.2.1 t gk h.2.1.length _ (w.heap.size+1) wr.drew ((T0.out.below hbwx).below (Below.drew (Below.refl _ _))) ((T1.out.below hbwx).below (Below.drew (Below.refl _ _))) ⟨_,_,_,rfl⟩ hops2 hm6 (by omega) hle hrk.drew (fun j hj p n c e=>by
       obtain⟨q,cq,e2,-,hq⟩:=hops';obtain⟨g3,e3,hc3,-⟩:=hq j hj;rw[e2,e3] at e;injection e with e;injection e with e;subst e
       have hz:g3<w.heap.size:=by
        obtain⟨q5,cq5,e5,-,hq5⟩:=hops;rw[ht] at hq5;obtain⟨g6,e6,hc6,-⟩:=hq5 j hj;rw[e2,e3,e6] at e5;injection e5 with e5;injection e5 with e5;injection e5 with e5;rw[e5];exact World.block_lt_of_cell? w ⟨g6,_,none⟩ hc6
       show g3≠gk
       omega))
      obtain⟨p3,c3,rfl,-⟩:=hops';obtain⟨t1,t2,t3⟩:=t;simp only at a1' a2' a3' HOps HNo HYes HIn hkn hsn hm6;have HKN:=lhid hkn;have HSN:=lhid hsn;have hne0:w.heap.size≠gk:=(by omega);have hne1:g≠gk:=(by omega);have HS:Hid (∀ w',wr.grownBy w' (some gk)→(w'.cell? ⟨w.heap.size,0,none⟩=some (.slice p0 h.1.length c0)∧w'.cell? ⟨w.heap.size,1,none⟩=some (.slice p1 h.2.1.length c1)∧w'.cell? ⟨w.heap.size,2,none⟩=some (.slice (some ⟨g,0,none⟩) h.2.2.length c2)∧w'.cell? ⟨g,k*3,none⟩=some (.int .i64 t1)∧w'.cell? ⟨g,k*3+1,none⟩=some (.int .i64 t2)∧w'.cell? ⟨g,k*3+2,none⟩=some (.slice p3 t3.length c3))):=lhid (fun w' hg=>⟨jG x0 hg hne0,jG x1 hg hne0,jG x2 hg hne0,jG a1' hg hne1,jG a2' hg hne1,jG a3' hg hne1⟩);clear hops hops2 hmem hle a1 a2 a3 ht hkn hsn;obtain⟨b,hb⟩:∃ b,lC h (t1,t2,t3)=b:=⟨_,rfl⟩;rw[show(bQ h.1.length (t1,t2,t3)&&t3.all (jS h.2.1.length))=lC h (t1,t2,t3) from rfl,hb] at HOps;rw[hb] at HNo HYes HIn;clear hb
      cases b with
      | false=>
       have HE:=lhid (HNo.out (by trivial));go_wp2_with fail
       go_region_held3 (fun w'=>w'.cell? ⟨w.heap.size,0,none⟩=some (.slice p0 h.1.length c0)∧w'.cell? ⟨w.heap.size,1,none⟩=some (.slice p1 h.2.1.length c1)∧w'.cell? ⟨w.heap.size,2,none⟩=some (.slice (some ⟨g,0,none⟩) h.2.2.length c2)∧w'.cell? ⟨g,k*3,none⟩=some (.int .i64 t1)∧w'.cell? ⟨g,k*3+1,none⟩=some (.int .i64 t2)∧w'.cell? ⟨g,k*3+2,none⟩=some (.slice p3 t3.length c3))
        ((go_split_ands;exact HS.out _ (by first | exact sH _ _ | exact cV (sH _ _) (by assumption))))
        ((go_at_call 41;refine HOps.out.mono ?_;rintro e w3 ⟨rfl,hr3⟩;obtain⟨hg3,U3,hu3,hl3,hm3⟩:=hr3))
       go_split_ands
       have hbf:Below w.heap.size w w3:=(hbwx.drew).grown hg3 (by show w.heap.size≤wr.heap.size;omega) (fun j e=>by have:=Option.some.inj e;omega);clear hg3 hu3 hl3 hm3;(go_wp2_with fail);go_ret;rw[HE.out];exact⟨rfl,hbf⟩
      | true=>
       obtain⟨hs0,hs1⟩:=HIn.out (by trivial);obtain⟨ns,rfl⟩:=Int.eq_ofNat_of_zero_le hs0;have HY:=lhid (HYes.out (by trivial));go_wp2_with fail
       go_region_held3 (fun w'=>w'.cell? ⟨w.heap.size,0,none⟩=some (.slice p0 h.1.length c0)∧w'.cell? ⟨w.heap.size,1,none⟩=some (.slice p1 h.2.1.length c1)∧w'.cell? ⟨w.heap.size,2,none⟩=some (.slice (some ⟨g,0,none⟩) h.2.2.length c2)∧w'.cell? ⟨g,k*3,none⟩=some (.int .i64 (ns:Int))∧w'.cell? ⟨g,k*3+1,none⟩=some (.int .i64 t2)∧w'.cell? ⟨g,k*3+2,none⟩=some (.slice p3 t3.length c3))
        ((go_split_ands;exact HS.out _ (by first | exact sH _ _ | exact cV (sH _ _) (by assumption))))
        ((go_at_call 41;refine HOps.out.mono ?_;rintro e w3 ⟨rfl,hr3⟩;obtain⟨hg3,U3,hu3,hl3,hm3⟩:=hr3))
       go_split_ands
       have hm3':=hm3 (by trivial);rw[←aYt, ←HKN.out] at hm3';subst hm3';have hrs3:=hrs.drew.kept hg3 (.inr (by simp[Value.ownBlock];omega));have hml:(dC (List.replicate h.1.length false) (pA h.2.2 k)).length=h.1.length:=by rw[jO,List.length_replicate]
       have r1:w3.cell? ⟨gs,ns,none⟩=some (.bool ((dC (List.replicate h.1.length false) (pA h.2.2 k)).getD ns false)):=by
        rw[hrs3.cellAt ns (by omega)];exact sW _ _ (by omega)
       have r2:=hrs3.frozenAt ns;generalize (dC (List.replicate h.1.length false) (pA h.2.2 k)).getD ns false=old at r1;have hst:=hrs3.stored ns (.bool true);rw[aFp,show(dC (List.replicate h.1.length false) (pA h.2.2 k)).set ns true=dC (List.replicate h.1.length false) (pA h.2.2 (k+1)) by rw[HSN.out,aDs];rfl] at hst;have HST:=lhid hst.1;have HKK:=lhid (hu3.kept (aHl w3 gs ns (.bool true)) (.inr (by simp[Value.ownBlock];omega)));have HBC:=lhid (((hbc.drew).grown hg3 (by show w.heap.size+1≤wr.heap.size;omega) (fun j e=>by have:=Option.some.inj e;omega)).setCell (p:=⟨gs,ns,none⟩) (by show w.heap.size+1≤gs;omega) (.bool true));clear hg3 hu3 hl3 hm3 hrs3 hst hrk hrs hbc hbwx;(go_wp2_with fail);go_roundw
       case rel=>exact⟨k+1,by omega,by go_num,HY.out,HKK.out,HST.out,HBC.out⟩
       case measure=>simp[intOf];omega
     ·have hke:k=h.2.2.length:=by omega
      have hallF:h.2.2.all (lC h)=true:=by
       rw[List.all_eq_true];intro x hx;obtain⟨j,hj,e⟩:=List.getElem_of_mem hx;have:=HN.out j (by omega);simpa [hj,e] using this
      have hkeys:aDb h.2.2 k=(bU h).map (·.2.1):=(by rw[hke,aDb,List.take_length];rfl);have hsess:pA h.2.2 k=h.2.2.map (·.1):=(by rw[hke,pA,List.take_length]);rw[hkeys] at hrk;rw[hsess] at hrs
      have eK:=aHy h.2.1.length ((bU h).map (·.2.1)) (fun x hx=>by
       obtain⟨o,ho,rfl⟩:=List.mem_map.1 hx;obtain⟨t,ht,hot⟩:=List.mem_flatMap.1 ho;have:=List.all_eq_true.1 hallF t ht;simp only[lC,Bool.and_eq_true] at this;have:=List.all_eq_true.1 this.2 o hot;simp only[jS,dV,Bool.and_eq_true,decide_eq_true_eq] at this
       exact this.1)
      have eS:=aHy h.1.length (h.2.2.map (·.1)) (fun x hx=>by
       obtain⟨t,ht,rfl⟩:=List.mem_map.1 hx;have:=List.all_eq_true.1 hallF t ht;simp only[lC,bQ,dV,Bool.and_eq_true,decide_eq_true_eq] at this
       exact this.1.1)
      have hlK:(dC (List.replicate h.2.1.length false) ((bU h).map (·.2.1))).length=h.2.1.length:=(by rw[jO,List.length_replicate]);have hlS:(dC (List.replicate h.1.length false) (h.2.2.map (·.1))).length=h.1.length:=by rw[jO,List.length_replicate]
      have hfin:∀ b,(qY (dC (List.replicate h.2.1.length false) ((bU h).map (·.2.1))) h.2.1.length&&qY (dC (List.replicate h.1.length false) (h.2.2.map (·.1))) h.1.length)=b→tI h=if b then 0 else 4:=fun b hb=>HT2.out b (by
       rw[hallF,Bool.true_and, ←hb];have e1:=aLo (dC (List.replicate h.2.1.length false) ((bU h).map (·.2.1)));have e2:=aLo (dC (List.replicate h.1.length false) (h.2.2.map (·.1)));rw[hlK] at e1;rw[hlS] at e2;rw[e1,e2,eK,eS];unfold xU
       exact Bool.and_comm _ _)
      generalize dC (List.replicate h.2.1.length false) ((bU h).map (·.2.1))=UK at *;generalize dC (List.replicate h.1.length false) (h.2.2.map (·.1))=US at *;have HFin:=lhid hfin;have RK:=lhid hrk;have RS:=lhid hrs;have LK:=lhid hlK;have LS:=lhid hlS;clear eK eS hfin hrk hrs hlK hlS hallF hkeys hsess;go_wp2_with fail
      go_loop [6,7] (fun al i=>∃ q:Nat,q≤h.2.1.length∧i=.int .i64 q∧al=.bool (qY UK q)) (fun _ i=>h.2.1.length-(intOf i).toNat)
      case atStart=>exact⟨0,Nat.zero_le _,rfl,by simp[qY]⟩
      case round=>
       obtain⟨q,hq,rfl,rfl⟩:=hrel;by_cases hq1:q<h.2.1.length
       ·have r1:wr.cell? ⟨gk,q,none⟩=some (.bool (UK.getD q false)):=by
         rw[RK.out.cellAt q (by omega)];exact sW _ _ (by rw[LK.out];exact hq1)
        have hnx:=aGy UK q (by rw[LK.out];exact hq1);generalize UK.getD q false=b2 at r1 hnx;generalize qY UK q=b1 at hnx ⊢;have HNX:=lhid hnx;clear hnx;cases b1<;>cases b2
        all_goals
         (go_wp2_with fail);go_round
         case rel=>exact⟨q+1,by omega,by go_num,by rw[HNX.out];rfl⟩
         case measure=>simp[intOf];omega
       ·have hqe:q=h.2.1.length:=(by omega);rw[hqe];have HF1:Hid (∀ b,(qY UK h.2.1.length&&qY US h.1.length)=b→tI h=if b then 0 else 4):=HFin;generalize qY UK h.2.1.length=B1 at HF1 ⊢;clear hqe;obtain rfl:q=h.2.1.length:=(by omega);go_wp2_with fail
        go_loop [6,8] (fun al i=>∃ q:Nat,q≤h.1.length∧i=.int .i64 q∧al=.bool (B1&&qY US q)) (fun _ i=>h.1.length-(intOf i).toNat)
        case atStart=>exact⟨0,Nat.zero_le _,rfl,by simp[qY]⟩
        case round=>
         obtain⟨q,hq,rfl,rfl⟩:=hrel;by_cases hq1:q<h.1.length
         ·have r1:wr.cell? ⟨gs,q,none⟩=some (.bool (US.getD q false)):=by
           rw[RS.out.cellAt q (by omega)];exact sW _ _ (by rw[LS.out];exact hq1)
          have hnx:=aGy US q (by rw[LS.out];exact hq1);generalize US.getD q false=b2 at r1 hnx;have hnx2:(B1&&qY US (q+1))=((B1&&qY US q)&&b2):=(by rw[hnx,Bool.and_assoc]);generalize (B1&&qY US q)=b1 at hnx2 ⊢;have HNX:=lhid hnx2;clear hnx hnx2;cases b1<;>cases b2
          all_goals
           (go_wp2_with fail);go_round
           case rel=>exact⟨q+1,by omega,by go_num,by rw[HNX.out];rfl⟩
           case measure=>simp[intOf];omega
         ·have hqe:q=h.1.length:=(by omega);rw[hqe];have HF2:=lhid (HF1.out _ rfl);generalize (B1&&qY US h.1.length)=B2 at HF2 ⊢;clear hqe;obtain rfl:q=h.1.length:=by omega
          cases B2 with
          | false=>
           (go_wp2_with fail);go_ret;rw[HF2.out];exact⟨rfl,hbwx⟩
          | true=>
           (go_wp2_with fail);go_ret;rw[HF2.out];exact⟨rfl,hbwx⟩
end
section
open Go.RowKit Go.Lib
theorem bUk {w:World} {v:Value} {h:aI} (hv:cJ w v h) (hm:cU h):Calls Tryz.prog 12 #[v] w fun e w'=>e=.returned (.int .i64 (tI h))∧Below w.heap.size w w':=by
 obtain⟨v0,v1,v2,rfl,h0,h1,h2⟩:=hv;exact bFb v0 v1 v2 h w h0 h1 h2 hm
theorem bVb {w:World} {v:Value} {h:aI} (hv:cJ w v h) (hm:cU h) (hT:Lib.Utf8Tabs 1 2 w):Calls Tryz.prog 30 #[v] w fun e w'=>∃ v',e=.returned v'∧qC w' v' (cA aP h)∧Below w.heap.size w w':=by
 obtain⟨v0,v1,v2,rfl,h0,h1,h2⟩:=hv;exact aXs v0 v1 v2 h w h0 h1 h2 hm hT
theorem bUz {w:World} {v:Value} {h:aI} (hv:cJ w v h) (hm:cU h) (hT:Lib.Utf8Tabs 1 2 w):Calls Tryz.prog 42 #[v] w fun e w'=>∃ v',e=.returned v'∧nK w' v' (cY h)∧Below w.heap.size w w':=by
 obtain⟨v0,v1,v2,rfl,h0,h1,h2⟩:=hv;exact bDl v0 v1 v2 h w h0 h1 h2 hm hT
theorem bUv {w:World} {v:Value} {h:aI} (hv:cJ w v h) (hm:cU h):Calls Tryz.prog 26 #[v] w fun e w'=>∃ v',e=.returned v'∧qC w' v' (jH aP h.2.2 h.2.2.length)∧Below w.heap.size w w':=by
 obtain⟨v0,v1,v2,rfl,h0,h1,h2⟩:=hv;exact aTg v0 v1 v2 h w h0 h1 h2 hm
theorem bUp {w:World} {v:Value} {h:aI} (hv:cJ w v h) (hm:cU h):Calls Tryz.prog 27 #[v] w fun e w'=>∃ v',e=.returned v'∧nK w' v' (bY (itH h.2.2 h.2.2.length))∧Below w.heap.size w w':=by
 obtain⟨v0,v1,v2,rfl,h0,h1,h2⟩:=hv;exact aZz v0 v1 v2 h w h0 h1 h2 hm
end
section
open Go.RowKit Go.Lib
set_option maxRecDepth 100000 in
set_option maxHeartbeats 2000000 in
theorem bBd (x:aR) (w:World) :
  Calls Tryz.prog 47 #[.agg #[.int .i64 x.1,.int .i64 x.2]] w fun e w'=>e=.returned (.bool (!cF x))∧Below w.heap.size w w':=by
 obtain⟨k,n⟩:=x;by_cases hk:k=1
 ·subst hk;have hE:cF (1,n)=true:=rfl;rw[hE];clear hE;go_enter Tryz.func47,Tryz.ntmps47
  go_wp2
  go_ret;exact⟨rfl,by go_grown⟩
 ·by_cases h0:k=0
  ·subst h0;by_cases hn:n=0
   ·subst hn;have hE:cF (0,0)=true:=rfl;rw[hE];clear hE hk;go_enter Tryz.func47,Tryz.ntmps47
    go_wp2
    go_ret;exact⟨rfl,by go_grown⟩
   ·have hE:cF (0,n)=false:=(by unfold cF;simpa using hn);rw[hE];have hn2:(n==0)=false:=(by simpa using hn);clear hE hk;go_enter Tryz.func47,Tryz.ntmps47
    go_wp2
    go_ret;exact⟨by first | rfl | simp[hn],by go_grown⟩
  ·have hE:cF (k,n)=false:=(by unfold cF;simp[hk,h0]);rw[hE];have hk2:(k==1)=false:=(by simpa using hk);have h02:(k==0)=false:=(by simpa using h0);clear hE;go_enter Tryz.func47,Tryz.ntmps47
   go_wp2
   go_ret;exact⟨by first | rfl | simp[hk],by go_grown⟩
set_option maxRecDepth 100000 in
set_option maxHeartbeats 2000000 in
theorem aRt (v:Value) (L:List aR) (w:World) (hv:oS w v L) (hL:L.length≤1000000) :
  Calls Tryz.prog 68 #[v,.func (.func 47) #[] #[]] w fun e w'=>∃ i:Int,e=.returned (.int .i64 i)∧decide (0≤i) = !(L.all cF)∧Below w.heap.size w w':=by
 obtain⟨p,c,rfl,-,hp⟩:=hv;have HX:=lhid hp;have en:=enters_of Tryz.func47 (by kernel_rfl) rfl
 have HYes:Hid (∀ k:Nat,k<L.length→cF (L.getD k aN)=false→decide ((0:Int)≤(k:Int)) = !(L.all cF)):=lhid (fun k hk hf=>by
  have:L.all cF=false:=by
   rw[List.all_eq_false];refine⟨L.getD k aN,?_,by rw[hf];exact Bool.false_ne_true⟩;have:L.getD k aN=L[k]:=(by simp[hk]);rw[this];exact List.getElem_mem hk
  rw[this]
  simp)
 have HNo:Hid ((∀ k:Nat,k<L.length→cF (L.getD k aN)=true)→decide ((0:Int)≤-1) = !(L.all cF)):=lhid (fun h=>by
  have:L.all cF=true:=by
   rw[List.all_eq_true];intro x hx;obtain⟨k,hk,e⟩:=List.getElem_of_mem hx;have:=h k hk;simpa [hk,e] using this
  rw[this]
  rfl)
 generalize (!(L.all cF))=R at *;clear hp;go_enter Tryz.func68,Tryz.ntmps68;go_wp2_with fail
 go_loopw [8] (fun i wr=>∃ k:Nat,k≤L.length∧i=.int .i64 k∧(∀ j,j<k→cF (L.getD j aN)=true)∧Below w.heap.size w wr) (fun i _=>L.length-(intOf i).toNat)
 case atStart=>exact⟨0,Nat.zero_le _,rfl,fun j hj=>absurd hj (Nat.not_lt_zero j),Below.refl _ _⟩
 case round=>
  obtain⟨k,hk,rfl,hn,hbw⟩:=hrel;have HN:=lhid hn;clear hn;by_cases hk1:k<L.length
  ·obtain⟨g,rfl,b0,b1⟩:=HX.out k hk1;have a0:=cell_later hbw b0;have a1:=cell_later hbw b1;have HM:=lhid (bBd (L.getD k aN) wr);have HY:=lhid (HYes.out k hk1)
   have HK:Hid (cF (L.getD k aN)=true→∀ j,j<k+1→cF (L.getD j aN)=true):=lhid (fun h j hj=>by
    by_cases hjk:j<k
    ·exact HN.out j hjk
    ·obtain rfl:j=k:=by omega
     exact h)
   obtain⟨b,hb⟩:∃ b,cF (L.getD k aN)=b:=⟨_,rfl⟩;rw[hb] at HM HY HK;obtain⟨⟨t1,t2⟩,ht⟩:∃ t,L.getD k aN=t:=⟨_,rfl⟩;rw[ht] at HM a0 a1;simp only at HM a0 a1;clear b0 b1 hb ht
   cases b with
   | false=>
    (go_wp2_with (first | (go_at_call 47;refine HM.out.mono ?_;rintro e w1 ⟨rfl,hb1⟩)));go_ret;exact⟨_,rfl,HY.out trivial,aB hbw hb1⟩
   | true=>
    (go_wp2_with (first | (go_at_call 47;refine HM.out.mono ?_;rintro e w1 ⟨rfl,hb1⟩)));go_roundw
    case rel=>exact⟨k+1,by omega,by go_num,HK.out trivial,aB hbw hb1⟩
    case measure=>simp[intOf];omega
  ·have hke:k=L.length:=(by omega);subst hke;have H1:=lhid (HNo.out HN.out);(go_wp2_with fail);go_ret;exact⟨_,rfl,H1.out,hbw⟩
set_option maxRecDepth 100000 in
set_option maxHeartbeats 2000000 in
theorem aQo (v:Value) (L:List aR) (w:World) (hv:oS w v L) (hL:L.length≤1000000) :
  Calls Tryz.prog 46 #[v,.func (.func 47) #[] #[]] w fun e w'=>e=.returned (.bool (!(L.all cF)))∧Below w.heap.size w w':=by
 have H1:=lhid (aRt v L w hv hL);generalize (!(L.all cF))=R at *;clear hv hL;go_enter Tryz.func46,Tryz.ntmps46;(go_wp2_with fail);refine H1.out.mono ?_;rintro e w1 ⟨i,rfl,hi,hb1⟩;have HI:=lhid hi;clear hi;(go_wp2_with fail);go_ret;refine⟨?_,hb1⟩;rw[←HI.out];rfl
theorem aVb {h:aI} {m:bK} (hm:cZ h=false):kX h m=false:=by unfold kX;rw[hm];rfl
theorem aNo {h:aI} {m:bK} (hm:m.1.length≠(cA aP h).length):kX h m=false:=by unfold kX;simp[hm]
theorem aNp {h:aI} {m:bK} (hm:m.2.length≠(cY h).length):kX h m=false:=by unfold kX;simp[hm]
theorem aNn {h:aI} {m:bK} (hm:cZ h=true) (h1:m.1.length=(cA aP h).length) (h2:m.2.length=(cY h).length):kX h m=m.2.all cF:=by unfold kX;rw[hm,h1,h2];simp
set_option maxRecDepth 100000 in
set_option maxHeartbeats 2000000 in
theorem bTz {w:World} {v u:Value} {h:aI} {m:bK} (hv:cJ w v h) (hu:lI w u m) (hm:cU h) (h50:m.1.length≤1000000∧m.2.length≤1000000) (hT:Lib.Utf8Tabs 1 2 w) :
  Calls Tryz.prog 20 #[v,u] w fun e w'=>e=.returned (.bool (kX h m))∧Below w.heap.size w w':=by
 have H0:=lhid hv;obtain⟨v0,v1,v2,rfl,⟨p0,c0,rfl,-⟩,⟨p1,c1,rfl,-⟩,⟨p2,c2,rfl,-⟩⟩:=hv;obtain⟨pb,cb,pv,cv,rfl,hb,hvv,-,hcv⟩:=lY hu;obtain⟨h51,h52⟩:=h50;have hal:=((Below.refl w.heap.size w).alloc (Nat.le_refl _) (.cells #[.slice p0 h.1.length c0,.slice p1 h.2.1.length c1,.slice p2 h.2.2.length c2] 25)).alloc (by simp) (.cells #[.slice pb m.1.length cb,.slice pv m.2.length cv] 29);have hbx:=(Blk.new w 25 [.slice p0 h.1.length c0,.slice p1 h.2.1.length c1,.slice p2 h.2.2.length c2]).alloc (.cells #[.slice pb m.1.length cb,.slice pv m.2.length cv] 29);have hbw:=Blk.new (w.alloc (.cells #[.slice p0 h.1.length c0,.slice p1 h.2.1.length c1,.slice p2 h.2.2.length c2] 25)) 29 [.slice pb m.1.length cb,.slice pv m.2.length cv];simp only[World.size_alloc] at hbw;have HMo:=lhid hm;have HVa:=lhid hvv;have HCv:=lhid hcv;have HAL:=lhid hal;have HBX:=lhid hbx;have HBW:=lhid hbw;have HT:=lhid hT;clear hT hm hal hbx hbw hb hvv hcv hu;go_enter Tryz.func20,Tryz.ntmps20;(go_upto_region 1 with fail);obtain⟨W1,hW1⟩:∃ q,(w.alloc (.cells #[.slice p0 h.1.length c0,.slice p1 h.2.1.length c1,.slice p2 h.2.2.length c2] 25)).alloc (.cells #[.slice pb m.1.length cb,.slice pv m.2.length cv] 29)=q:=⟨_,rfl⟩;rw[hW1] at HAL HBX HBW ⊢;clear hW1;have HV1:=lhid (H0.out.below HAL.out);have HVa1:=lhid (HVa.out.below HAL.out);have HMy:=lhid (fun w' (hb:Below W1.heap.size W1 w')=>bUd (HV1.out.below hb) HMo.out (Utf8Tabs_below HT.out (aB HAL.out hb)));have HIn:=lhid (fun w' (hb:Below W1.heap.size W1 w')=>bVb (HV1.out.below hb) HMo.out (Utf8Tabs_below HT.out (aB HAL.out hb)));have HLo:=lhid (fun w' (hb:Below W1.heap.size W1 w')=>bUz (HV1.out.below hb) HMo.out (Utf8Tabs_below HT.out (aB HAL.out hb)));have HS:Hid (∀ w',Below W1.heap.size W1 w'→w'.cell? ⟨w.heap.size,0,none⟩=some (.slice p0 h.1.length c0)∧w'.cell? ⟨w.heap.size,1,none⟩=some (.slice p1 h.2.1.length c1)∧w'.cell? ⟨w.heap.size,2,none⟩=some (.slice p2 h.2.2.length c2)∧w'.cell? ⟨w.heap.size+1,0,none⟩=some (.slice pb m.1.length cb)∧w'.cell? ⟨w.heap.size+1,1,none⟩=some (.slice pv m.2.length cv)∧Below W1.heap.size W1 w'):=lhid (fun w' hb=>⟨(HBX.out.later hb).cell 0 rfl,(HBX.out.later hb).cell 1 rfl,(HBX.out.later hb).cell 2 rfl,(HBW.out.later hb).cell 0 rfl,(HBW.out.later hb).cell 1 rfl,hb⟩);have HFin:=lhid (fun w' (hb:Below W1.heap.size W1 w')=>aB HAL.out hb);clear HMo H0 HVa
 cases hmm:cZ h with
 | false=>
  have HEr:=lhid (pH hmm);have HE:=lhid (@aVb h m hmm);clear hmm;refine wpk HS [] (by kernel_rfl) fun hB0 hS0=>?_;refine wO 0 ?_;refine won 1 rfl fun K hK=>?_;go_simp;refine(HMy.out _ hB0).mono ?_;rintro e w1 ⟨he,hb1⟩;have hB1:=aB hB0 hb1;have hS1:=HS.out _ hB1;rw[HEr.out] at he;subst he;refine hK.out _ _ (fun _ _=>hS1) ?_;clear hK K hS0;(try simp only[Act.put,sq]);refine wO 2 ?_;refine wO 3 ?_;refine wU 4 ?_;refine wU 5 ?_;refine wU 6 ?_;refine wO 7 ?_;refine wO 8 ?_;refine wO 9 ?_;refine wO 10 ?_;refine wO 11 ?_;refine wO 12 ?_;refine wU 13 ?_;refine wU 14 ?_;refine wU 15 ?_;refine wO 16 ?_;refine wO 17 ?_;refine wO 18 ?_;refine wO 19 ?_;refine wO 20 ?_;refine wD ?_;(go_wp2_with fail);go_ret;exact⟨by rw[HE.out]<;>rfl,HFin.out _ hB1⟩
 | true=>
  have HEr:=lhid (kT hmm);have HMM:=lhid hmm;have HWh:Hid (cA aP h=jH aP h.2.2 h.2.2.length):=lhid (jZ _ hmm);have HWl:Hid (cY h=bY (itH h.2.2 h.2.2.length)):=lhid (kF hmm);obtain⟨n1,hn1⟩:∃ n,(cA aP h).length=n:=⟨_,rfl⟩;obtain⟨n2,hn2⟩:∃ n,(cY h).length=n:=⟨_,rfl⟩;have HN1:=lhid hn1;have HN2:=lhid hn2;clear hmm hn1 hn2;by_cases h1:m.1.length=n1
  ·have H1:=lhid h1;have h1b:((m.1.length:Int)==(n1:Int))=true:=beq_iff_eq.2 (by omega);have h1c:((m.1.length:Int) != (n1:Int))=false:=(by simp[h1]);clear h1;refine wpk HS [] (by kernel_rfl) fun hB0 hS0=>?_;refine wO 0 ?_;refine won 1 rfl fun K hK=>?_;go_simp;refine(HMy.out _ hB0).mono ?_;rintro e w1 ⟨he,hb1⟩;have hB1:=aB hB0 hb1;have hS1:=HS.out _ hB1;rw[HEr.out] at he;subst he;refine hK.out _ _ (fun _ _=>hS1) ?_;clear hK K hS0;(try simp only[Act.put,sq]);refine wO 2 ?_;refine wO 3 ?_;refine wF 4 ?_;refine wT 5 21 hS1 ?_;refine wF 6 ?_;refine wO 7 ?_;refine won 8 rfl fun K hK=>?_;go_simp;refine(HIn.out _ hB1).mono ?_;rintro e w2 ⟨vi,rfl,hi,hb2⟩;have hB2:=aB hB1 hb2;have hS2:=HS.out _ hB2;obtain⟨pi,ci,rfl,-⟩:=hi;rw[HN1.out];refine hK.out _ _ (fun _ _=>hS2) ?_;clear hK K hS1;(try simp only[Act.put,sq]);refine wO 9 ?_;refine wO 10 ?_;refine wO 11 ?_;refine wO 12 ?_;refine wF 13 ?_;refine wT 14 21 hS2 ?_;refine wF 15 ?_;refine wO 16 ?_;refine won 17 rfl fun K hK=>?_;go_simp;refine(HLo.out _ hB2).mono ?_;rintro e w3 ⟨vj,rfl,hj,hb3⟩;have hB3:=aB hB2 hb3;have hS3:=HS.out _ hB3;obtain⟨pj,cj,rfl,-⟩:=hj;rw[HN2.out];refine hK.out _ _ (fun _ _=>hS3) ?_;clear hK K hS2;(try simp only[Act.put,sq]);refine wO 18 ?_;refine wO 19 ?_;refine wO 20 ?_;refine wD ?_;by_cases h2:m.2.length=n2
   ·have HE:=lhid (aNn HMM.out (H1.out.trans HN1.out.symm) (h2.trans HN2.out.symm));have h2b:((m.2.length:Int)==(n2:Int))=true:=beq_iff_eq.2 (by omega);have h2c:((m.2.length:Int) != (n2:Int))=false:=(by simp[h2]);subst h2;have HB3:=lhid hB3;have y1:=(HS.out _ hB3).2.2.2.2.1;have HVs:Hid (oS w3 (.slice pv m.2.length cv) m.2):=lhid ⟨pv,cv,rfl,HCv.out,HVa1.out.below hB3⟩;clear hS3 h1b h1c h2b h2c;(go_wp2_with fail);refine(aQo _ m.2 _ HVs.out (by omega)).mono ?_;rintro e w4 ⟨rfl,hb4⟩;(go_wp2_with fail);go_ret;exact⟨by rw[HE.out];simp,HFin.out _ (aB HB3.out hb4)⟩
   ·have HE:=lhid (@aNp h m (fun e=>h2 (e.trans HN2.out)));have h2b:((m.2.length:Int)==(n2:Int))=false:=beq_eq_false_iff_ne.2 (fun e=>h2 (by omega));have h2c:((m.2.length:Int) != (n2:Int))=true:=bne_iff_ne.2 (fun e=>h2 (by omega));clear h2;(go_wp2_with fail);go_ret;exact⟨by rw[HE.out]<;>rfl,HFin.out _ hB3⟩
  ·have HE:=lhid (@aNo h m (fun e=>h1 (e.trans HN1.out)));have h1b:((m.1.length:Int)==(n1:Int))=false:=beq_eq_false_iff_ne.2 (fun e=>h1 (by omega));have h1c:((m.1.length:Int) != (n1:Int))=true:=bne_iff_ne.2 (fun e=>h1 (by omega));clear h1;refine wpk HS [] (by kernel_rfl) fun hB0 hS0=>?_;refine wO 0 ?_;refine won 1 rfl fun K hK=>?_;go_simp;refine(HMy.out _ hB0).mono ?_;rintro e w1 ⟨he,hb1⟩;have hB1:=aB hB0 hb1;have hS1:=HS.out _ hB1;rw[HEr.out] at he;subst he;refine hK.out _ _ (fun _ _=>hS1) ?_;clear hK K hS0;(try simp only[Act.put,sq]);refine wO 2 ?_;refine wO 3 ?_;refine wF 4 ?_;refine wT 5 21 hS1 ?_;refine wF 6 ?_;refine wO 7 ?_;refine won 8 rfl fun K hK=>?_;go_simp;refine(HIn.out _ hB1).mono ?_;rintro e w2 ⟨vi,rfl,hi,hb2⟩;have hB2:=aB hB1 hb2;have hS2:=HS.out _ hB2;obtain⟨pi,ci,rfl,-⟩:=hi;rw[HN1.out];refine hK.out _ _ (fun _ _=>hS2) ?_;clear hK K hS1;(try simp only[Act.put,sq]);refine wO 9 ?_;refine wO 10 ?_;refine wO 11 ?_;refine wO 12 ?_;refine wU 13 ?_;refine wU 14 ?_;refine wU 15 ?_;refine wO 16 ?_;refine wO 17 ?_;refine wO 18 ?_;refine wO 19 ?_;refine wO 20 ?_;refine wD ?_;(go_wp2_with fail);go_ret;exact⟨by rw[HE.out]<;>rfl,HFin.out _ hB2⟩
end
section
open Go.RowKit Go.Lib
set_option maxRecDepth 100000 in
set_option maxHeartbeats 2000000 in
theorem bUw {w:World} {v u:Value} {h:aI} {m:bK} (hv:cJ w v h) (hu:lI w u m) (hm:cU h) (h50:m.1.length≤1000000∧m.2.length≤1000000) :
  Calls Tryz.prog 21 #[v,u] w fun e w'=>e=.returned (.bool (kX h m))∧Below w.heap.size w w':=by
 have H0:=lhid hv;obtain⟨v0,v1,v2,rfl,⟨p0,c0,rfl,-⟩,⟨p1,c1,rfl,-⟩,⟨p2,c2,rfl,-⟩⟩:=hv;obtain⟨pb,cb,pv,cv,rfl,hb,hvv,-,hcv⟩:=lY hu;obtain⟨h51,h52⟩:=h50;have hal:=((Below.refl w.heap.size w).alloc (Nat.le_refl _) (.cells #[.slice p0 h.1.length c0,.slice p1 h.2.1.length c1,.slice p2 h.2.2.length c2] 25)).alloc (by simp) (.cells #[.slice pb m.1.length cb,.slice pv m.2.length cv] 29);have hbx:=(Blk.new w 25 [.slice p0 h.1.length c0,.slice p1 h.2.1.length c1,.slice p2 h.2.2.length c2]).alloc (.cells #[.slice pb m.1.length cb,.slice pv m.2.length cv] 29);have hbw:=Blk.new (w.alloc (.cells #[.slice p0 h.1.length c0,.slice p1 h.2.1.length c1,.slice p2 h.2.2.length c2] 25)) 29 [.slice pb m.1.length cb,.slice pv m.2.length cv];simp only[World.size_alloc] at hbw;have HMo:=lhid hm;have HVa:=lhid hvv;have HCv:=lhid hcv;have HAL:=lhid hal;have HBX:=lhid hbx;have HBW:=lhid hbw;clear hm hal hbx hbw hb hvv hcv hu;go_enter Tryz.func21,Tryz.ntmps21;(go_upto_region 1 with fail);obtain⟨W1,hW1⟩:∃ q,(w.alloc (.cells #[.slice p0 h.1.length c0,.slice p1 h.2.1.length c1,.slice p2 h.2.2.length c2] 25)).alloc (.cells #[.slice pb m.1.length cb,.slice pv m.2.length cv] 29)=q:=⟨_,rfl⟩;rw[hW1] at HAL HBX HBW ⊢;clear hW1;have HV1:=lhid (H0.out.below HAL.out);have HVa1:=lhid (HVa.out.below HAL.out);have HMy:=lhid (fun w' (hb:Below W1.heap.size W1 w')=>bUk (HV1.out.below hb) HMo.out);have HIn:=lhid (fun w' (hb:Below W1.heap.size W1 w')=>bUv (HV1.out.below hb) HMo.out);have HLo:=lhid (fun w' (hb:Below W1.heap.size W1 w')=>bUp (HV1.out.below hb) HMo.out);have HS:Hid (∀ w',Below W1.heap.size W1 w'→w'.cell? ⟨w.heap.size,0,none⟩=some (.slice p0 h.1.length c0)∧w'.cell? ⟨w.heap.size,1,none⟩=some (.slice p1 h.2.1.length c1)∧w'.cell? ⟨w.heap.size,2,none⟩=some (.slice p2 h.2.2.length c2)∧w'.cell? ⟨w.heap.size+1,0,none⟩=some (.slice pb m.1.length cb)∧w'.cell? ⟨w.heap.size+1,1,none⟩=some (.slice pv m.2.length cv)∧Below W1.heap.size W1 w'):=lhid (fun w' hb=>⟨(HBX.out.later hb).cell 0 rfl,(HBX.out.later hb).cell 1 rfl,(HBX.out.later hb).cell 2 rfl,(HBW.out.later hb).cell 0 rfl,(HBW.out.later hb).cell 1 rfl,hb⟩);have HFin:=lhid (fun w' (hb:Below W1.heap.size W1 w')=>aB HAL.out hb);clear HMo H0 HVa
 cases hmm:cZ h with
 | false=>
  have HEr:=lhid (pH hmm);have HE:=lhid (@aVb h m hmm);clear hmm;refine wpk HS [] (by kernel_rfl) fun hB0 hS0=>?_;refine wO 0 ?_;refine won 1 rfl fun K hK=>?_;go_simp;refine(HMy.out _ hB0).mono ?_;rintro e w1 ⟨he,hb1⟩;have hB1:=aB hB0 hb1;have hS1:=HS.out _ hB1;rw[HEr.out] at he;subst he;refine hK.out _ _ (fun _ _=>hS1) ?_;clear hK K hS0;(try simp only[Act.put,sq]);refine wO 2 ?_;refine wO 3 ?_;refine wU 4 ?_;refine wU 5 ?_;refine wU 6 ?_;refine wO 7 ?_;refine wO 8 ?_;refine wO 9 ?_;refine wO 10 ?_;refine wO 11 ?_;refine wO 12 ?_;refine wU 13 ?_;refine wU 14 ?_;refine wU 15 ?_;refine wO 16 ?_;refine wO 17 ?_;refine wO 18 ?_;refine wO 19 ?_;refine wO 20 ?_;refine wD ?_;(go_wp2_with fail);go_ret;exact⟨by rw[HE.out]<;>rfl,HFin.out _ hB1⟩
 | true=>
  have HEr:=lhid (kT hmm);have HMM:=lhid hmm;have HWh:Hid (cA aP h=jH aP h.2.2 h.2.2.length):=lhid (jZ _ hmm);have HWl:Hid (cY h=bY (itH h.2.2 h.2.2.length)):=lhid (kF hmm);obtain⟨n1,hn1⟩:∃ n,(cA aP h).length=n:=⟨_,rfl⟩;obtain⟨n2,hn2⟩:∃ n,(cY h).length=n:=⟨_,rfl⟩;have HN1:=lhid hn1;have HN2:=lhid hn2;clear hmm hn1 hn2;by_cases h1:m.1.length=n1
  ·have H1:=lhid h1;have h1b:((m.1.length:Int)==(n1:Int))=true:=beq_iff_eq.2 (by omega);have h1c:((m.1.length:Int) != (n1:Int))=false:=(by simp[h1]);clear h1;refine wpk HS [] (by kernel_rfl) fun hB0 hS0=>?_;refine wO 0 ?_;refine won 1 rfl fun K hK=>?_;go_simp;refine(HMy.out _ hB0).mono ?_;rintro e w1 ⟨he,hb1⟩;have hB1:=aB hB0 hb1;have hS1:=HS.out _ hB1;rw[HEr.out] at he;subst he;refine hK.out _ _ (fun _ _=>hS1) ?_;clear hK K hS0;(try simp only[Act.put,sq]);refine wO 2 ?_;refine wO 3 ?_;refine wF 4 ?_;refine wT 5 21 hS1 ?_;refine wF 6 ?_;refine wO 7 ?_;refine won 8 rfl fun K hK=>?_;go_simp;refine(HIn.out _ hB1).mono ?_;rintro e w2 ⟨vi,rfl,hi,hb2⟩;have hB2:=aB hB1 hb2;have hS2:=HS.out _ hB2;rw[←HWh.out] at hi;obtain⟨pi,ci,rfl,-⟩:=hi;rw[HN1.out];refine hK.out _ _ (fun _ _=>hS2) ?_;clear hK K hS1;(try simp only[Act.put,sq]);refine wO 9 ?_;refine wO 10 ?_;refine wO 11 ?_;refine wO 12 ?_;refine wF 13 ?_;refine wT 14 21 hS2 ?_;refine wF 15 ?_;refine wO 16 ?_;refine won 17 rfl fun K hK=>?_;go_simp;refine(HLo.out _ hB2).mono ?_;rintro e w3 ⟨vj,rfl,hj,hb3⟩;have hB3:=aB hB2 hb3;have hS3:=HS.out _ hB3;rw[←HWl.out] at hj;obtain⟨pj,cj,rfl,-⟩:=hj;rw[HN2.out];refine hK.out _ _ (fun _ _=>hS3) ?_;clear hK K hS2;(try simp only[Act.put,sq]);refine wO 18 ?_;refine wO 19 ?_;refine wO 20 ?_;refine wD ?_;by_cases h2:m.2.length=n2
   ·have HE:=lhid (aNn HMM.out (H1.out.trans HN1.out.symm) (h2.trans HN2.out.symm));have h2b:((m.2.length:Int)==(n2:Int))=true:=beq_iff_eq.2 (by omega);have h2c:((m.2.length:Int) != (n2:Int))=false:=(by simp[h2]);subst h2;have HB3:=lhid hB3;have y1:=(HS.out _ hB3).2.2.2.2.1;have HVs:Hid (oS w3 (.slice pv m.2.length cv) m.2):=lhid ⟨pv,cv,rfl,HCv.out,HVa1.out.below hB3⟩;clear hS3 h1b h1c h2b h2c;(go_wp2_with fail);obtain⟨w3,hw3⟩:∃ q,w3=q:=⟨_,rfl⟩;obtain⟨L,hL⟩:∃ L,m.2=L:=⟨_,rfl⟩;rw[hL] at HE HVa1 h52 HVs HBW HS y1 ⊢;rw[hw3] at HB3 HVs y1 ⊢;clear hw3
    have HYes:Hid (∀ k:Nat,k<L.length→cF (L.getD k aN)=false→kX h m=false):=lhid (fun k hk hf=>by
     rw[HE.out,List.all_eq_false];refine⟨L.getD k aN,?_,by rw[hf];exact Bool.false_ne_true⟩;have:L.getD k aN=L[k]:=(by simp[hk]);rw[this]
     exact List.getElem_mem hk)
    have HNo:Hid ((∀ k:Nat,k<L.length→cF (L.getD k aN)=true)→kX h m=true):=lhid (fun hh=>by
     rw[HE.out,List.all_eq_true];intro x hx;obtain⟨k,hk,e⟩:=List.getElem_of_mem hx;have:=hh k hk
     simpa [hk,e] using this)
    go_loopw [5] (fun i wr=>∃ k:Nat,k≤L.length∧i=.int .i64 k∧(∀ j,j<k→cF (L.getD j aN)=true)∧Below W1.heap.size W1 wr) (fun i _=>L.length-(intOf i).toNat)
    case atStart=>exact⟨0,Nat.zero_le _,rfl,fun j hj=>absurd hj (Nat.not_lt_zero j),HB3.out⟩
    case round=>
     obtain⟨k,hk,rfl,hn,hbw⟩:=hrel;have HN:=lhid hn;have HBw:=lhid hbw;clear y1 hn;have y1:=(HS.out _ hbw).2.2.2.2.1;by_cases hk1:k<L.length
     ·obtain⟨g,rfl,b0,b1⟩:=HVa1.out k hk1;have a0:=cell_later hbw b0;have a1:=cell_later hbw b1;have HY:=lhid (HYes.out k hk1)
      have HK:Hid (cF (L.getD k aN)=true→∀ j,j<k+1→cF (L.getD j aN)=true):=lhid (fun h j hj=>by
       by_cases hjk:j<k
       ·exact HN.out j hjk
       ·obtain rfl:j=k:=by omega
        exact h)
      obtain⟨⟨t1,t2⟩,ht⟩:∃ t,L.getD k aN=t:=⟨_,rfl⟩;rw[ht] at HY HK a0 a1;simp only at a0 a1;clear b0 b1 ht hbw;by_cases ht1:t1=1
      ·have HK2:=lhid (HK.out (by unfold cF;simp[ht1]));subst ht1;clear HK HY;(go_wp2_with fail);go_roundw
       case rel=>exact⟨k+1,by omega,by go_num,HK2.out,(HBw.out.alloc HBw.out.size _)⟩
       case measure=>simp[intOf];omega
      ·have ht1b:(t1 != 1)=true:=(by simpa using ht1);have ht1c:(t1==1)=false:=(by simpa using ht1);by_cases ht0:t1=0
       ·subst ht0;by_cases hn0:t2=0
        ·have HK2:=lhid (HK.out (by unfold cF;simp[hn0]));subst hn0;clear HK HY;(go_wp2_with fail);go_roundw
         case rel=>exact⟨k+1,by omega,by go_num,HK2.out,(HBw.out.alloc HBw.out.size _)⟩
         case measure=>simp[intOf];omega
        ·have HY2:=lhid (HY.out (by unfold cF;simp[hn0]));have hn0b:(t2 != 0)=true:=(by simpa using hn0);have hn0c:(t2==0)=false:=(by simpa using hn0);clear HK HY;(go_wp2_with fail);go_ret;exact⟨by rw[HY2.out]<;>rfl,HFin.out _ (HBw.out.alloc HBw.out.size _)⟩
       ·have HY2:=lhid (HY.out (by unfold cF;simp[ht1,ht0]));have ht0b:(t1 != 0)=true:=(by simpa using ht0);have ht0c:(t1==0)=false:=(by simpa using ht0);clear HK HY;(go_wp2_with fail);go_ret;exact⟨by rw[HY2.out]<;>rfl,HFin.out _ (HBw.out.alloc HBw.out.size _)⟩
     ·have hke:k=L.length:=(by omega);subst hke;have H1:=lhid (HNo.out HN.out);clear hbw;(go_wp2_with fail);go_ret;exact⟨by rw[H1.out]<;>rfl,HFin.out _ HBw.out⟩
   ·have HE:=lhid (@aNp h m (fun e=>h2 (e.trans HN2.out)));have h2b:((m.2.length:Int)==(n2:Int))=false:=beq_eq_false_iff_ne.2 (fun e=>h2 (by omega));have h2c:((m.2.length:Int) != (n2:Int))=true:=bne_iff_ne.2 (fun e=>h2 (by omega));clear h2;(go_wp2_with fail);go_ret;exact⟨by rw[HE.out]<;>rfl,HFin.out _ hB3⟩
  ·have HE:=lhid (@aNo h m (fun e=>h1 (e.trans HN1.out)));have h1b:((m.1.length:Int)==(n1:Int))=false:=beq_eq_false_iff_ne.2 (fun e=>h1 (by omega));have h1c:((m.1.length:Int) != (n1:Int))=true:=bne_iff_ne.2 (fun e=>h1 (by omega));clear h1;refine wpk HS [] (by kernel_rfl) fun hB0 hS0=>?_;refine wO 0 ?_;refine won 1 rfl fun K hK=>?_;go_simp;refine(HMy.out _ hB0).mono ?_;rintro e w1 ⟨he,hb1⟩;have hB1:=aB hB0 hb1;have hS1:=HS.out _ hB1;rw[HEr.out] at he;subst he;refine hK.out _ _ (fun _ _=>hS1) ?_;clear hK K hS0;(try simp only[Act.put,sq]);refine wO 2 ?_;refine wO 3 ?_;refine wF 4 ?_;refine wT 5 21 hS1 ?_;refine wF 6 ?_;refine wO 7 ?_;refine won 8 rfl fun K hK=>?_;go_simp;refine(HIn.out _ hB1).mono ?_;rintro e w2 ⟨vi,rfl,hi,hb2⟩;have hB2:=aB hB1 hb2;have hS2:=HS.out _ hB2;rw[←HWh.out] at hi;obtain⟨pi,ci,rfl,-⟩:=hi;rw[HN1.out];refine hK.out _ _ (fun _ _=>hS2) ?_;clear hK K hS1;(try simp only[Act.put,sq]);refine wO 9 ?_;refine wO 10 ?_;refine wO 11 ?_;refine wO 12 ?_;refine wU 13 ?_;refine wU 14 ?_;refine wU 15 ?_;refine wO 16 ?_;refine wO 17 ?_;refine wO 18 ?_;refine wO 19 ?_;refine wO 20 ?_;refine wD ?_;(go_wp2_with fail);go_ret;exact⟨by rw[HE.out]<;>rfl,HFin.out _ hB2⟩
end
section
open Go.RowKit Go.Lib
def nI (T:List bB) (k:Nat):Nat:=((T.take k).filter aP).length
theorem aTv (T:List bB) (k:Nat) (hk:k<T.length):T.take (k+1)=T.take k++[T.getD k aM]:=by
 rw[List.take_succ_eq_append_getElem hk];simp[hk]
theorem aKc (T:List bB) (k:Nat) (hk:k<T.length):nI T (k+1)=if aP (T.getD k aM) then nI T k+1 else nI T k:=by
 unfold nI;rw[aTv T k hk,List.filter_append,List.length_append,List.filter_cons];split<;>simp
theorem bJy (T:List bB) (k:Nat):nI T k≤(T.filter aP).length:=by
 unfold nI;exact((List.take_sublist k T).filter aP).length_le
theorem bJz (T:List bB) (k:Nat) (hk:k<T.length) (hp:aP (T.getD k aM)=true):nI T k<(T.filter aP).length:=by
 have h1:=aKc T k hk;rw[if_pos hp] at h1;have:=bJy T (k+1);omega
theorem aXb {α:Type} (c:List α) (k:Nat) (d:α):c.tail.getD k d=c.getD (k+1) d:=by cases c<;>simp
theorem aRd {α:Type} (c:List α) (d:α):c.headD d=c.getD 0 d:=by cases c<;>simp
def yE (T:List bB) (c:List Bool) (k:Nat):Bool:=if (T.getD k aM).2.1=1 then true else if (T.getD k aM).2.1=3 then c.getD (nI T k) false else false
theorem aBz:∀ (T:List bB) (c:List Bool) (k:Nat),k<T.length→(aL T c)[k]? = some (yE T c k)
 | [],_,_,h=>absurd h (Nat.not_lt_zero _)
 | t::r,c,0,_=>by
  unfold aL yE nI;simp only[List.getD_cons_zero,List.take_zero,List.filter_nil,List.length_nil];split
  ·rfl
  ·split
   ·rw[aRd];rfl
   ·rfl
 | t::r,c,k+1,h=>by
  have hk:k<r.length:=(by simpa using h);have e:∀ c',(aL (t::r) c)[k+1]? = (aL r c')[k]?→yE r c' k=yE (t::r) c (k+1)→(aL (t::r) c)[k+1]? = some (yE (t::r) c (k+1)):=fun c' e1 e2=>(by rw[e1,aBz r c' k hk,e2]);by_cases h1:t.2.1=1
  ·refine e c (by rw[aL,if_pos h1];rfl) ?_;unfold yE nI;have hi:aP t=false:=(by unfold aP;simp[h1]);simp[hi]
  ·by_cases h3:t.2.1=3
   ·refine e c.tail (by rw[aL,if_neg h1,if_pos h3];rfl) ?_;unfold yE nI;have hi:aP t=true:=(by unfold aP;simp[h3]);simp only[List.getD_cons_succ,List.take_succ_cons,List.filter_cons,hi,if_true,List.length_cons,aXb]
   ·refine e c (by rw[aL,if_neg h1,if_neg h3];rfl) ?_;unfold yE nI;have hi:aP t=false:=(by unfold aP;simp[h3]);simp[hi]
theorem sC (T:List bB) (c:List Bool) (k:Nat) (hk:k<T.length):(aL T c).take (k+1)=(aL T c).take k++[yE T c k]:=by
 rw[List.take_add_one,aBz T c k hk];rfl
theorem zQ (T:List bB) (c:List Bool):(aL T c).take T.length=aL T c:=by
 conv=>lhs;rw[←lR T c]
 exact List.take_length
def oQ (T:List bB) (c:List Bool) (k:Nat):List Bool:=(aL T c).take k++List.replicate (T.length-k) false
theorem bCb (T:List bB) (c:List Bool) (k:Nat) (hk:k≤T.length):(oQ T c k).length=T.length:=by
 unfold oQ;rw[List.length_append,List.length_take,lR,List.length_replicate];omega
theorem aWt (T:List bB) (c:List Bool):oQ T c 0=List.replicate T.length false:=by simp[oQ]
theorem bCa (T:List bB) (c:List Bool):oQ T c T.length=aL T c:=by
 unfold oQ;rw[zQ,Nat.sub_self];simp
theorem aWq (T:List bB) (c:List Bool) (k:Nat) (hk:k<T.length):oQ T c (k+1)=(oQ T c k).set k (yE T c k):=by
 unfold oQ;have hl:((aL T c).take k).length=k:=(by rw[List.length_take,lR];omega);obtain⟨m,hm⟩:∃ m,T.length-k=m+1:=⟨T.length-k-1,by omega⟩;rw[sC T c k hk,hm,show T.length-(k+1)=m by omega,List.replicate_succ,List.set_append_right _ _ (by omega),hl,Nat.sub_self,List.set_cons_zero,List.append_assoc];rfl
theorem aWs (T:List bB) (c:List Bool) (k:Nat) (hk:k<T.length) (h:yE T c k=false):oQ T c (k+1)=oQ T c k:=by
 unfold oQ;obtain⟨m,hm⟩:∃ m,T.length-k=m+1:=⟨T.length-k-1,by omega⟩;rw[sC T c k hk,hm,show T.length-(k+1)=m by omega,List.replicate_succ,h,List.append_assoc];rfl
end
section
open Go.RowKit Go.Lib
set_option maxRecDepth 100000 in
set_option maxHeartbeats 4000000 in
theorem bUc {w:World} {v:Value} {h:aI} {pb:Option Addr} {cb:Nat} (c:List Bool) (hv:cJ w v h) (hm:cU h) (hb:jA w pb c) (hcb:c.length≤cb∧cb≤maxLen) (hc:c.length=(h.2.2.filter aP).length) :
  Calls Tryz.prog 45 #[v,.slice pb c.length cb] w fun e w'=>∃ v',e=.returned v'∧w'.ownsRow w.heap.size 4 1 v' h.2.2.length (bG (aL h.2.2 c))∧Below w.heap.size w w':=by
 obtain⟨v0,v1,v2,rfl,⟨p0,c0,rfl,-⟩,⟨p1,c1,rfl,-⟩,⟨p2,c2,rfl,k2⟩⟩:=hv;have HX:=lhid k2;have HC:=lhid hb;have HLe:=lhid hc;obtain⟨hcb1,hcb2⟩:=hcb;unfold maxLen at hcb2;have m3:h.2.2.length≤1000:=hm.2.2.1;obtain⟨i0,hi,hz0,hz1,hz2⟩:=info_parts oB
 have mk1:∀ W:World,(Instr.makeSlice 26 (.int .i64 (h.2.2.length:Int)) (.int .i64 (h.2.2.length:Int))).run Tryz.prog W=.ok (.slice (some ⟨W.heap.size,0,none⟩) h.2.2.length h.2.2.length) (W.alloc (.cells (madeCells (Value.cells (.bool false)) (h.2.2.length*1)) 4)):=fun W=>by
  have hr:=run_make (P:=Tryz.prog) W 26 4 i0 (.bool false) Tryz.underlying26 hi hz0 .i64 .i64 h.2.2.length h.2.2.length (by omega) (Int.le_refl _) (by rw[hz2];omega) (by omega);rw[hz1] at hr;simpa only [Int.toNat_natCast] using hr
 have HAL:=lhid ((Below.refl w.heap.size w).alloc (Nat.le_refl _) (.cells #[.slice p0 h.1.length c0,.slice p1 h.2.1.length c1,.slice p2 h.2.2.length c2] 25));have HBX:=lhid (Blk.new w 25 [.slice p0 h.1.length c0,.slice p1 h.2.1.length c1,.slice p2 h.2.2.length c2]);have x2:=HBX.out.cell 2 rfl;clear k2 hb hm hc hi hz0 hz1 hz2;go_enter Tryz.func45,Tryz.ntmps45;(go_upto_region 1 with fail);obtain⟨W1,hW1⟩:∃ q,w.alloc (.cells #[.slice p0 h.1.length c0,.slice p1 h.2.1.length c1,.slice p2 h.2.2.length c2] 25)=q:=⟨_,rfl⟩;rw[hW1] at HAL HBX x2 ⊢;clear hW1
 have hr0:(W1.alloc (.cells (madeCells #[.bool false] h.2.2.length) 4)).ownsRow W1.heap.size 4 1 (.slice (some ⟨W1.heap.size,0,none⟩) h.2.2.length h.2.2.length) h.2.2.length (bG (oQ h.2.2 c 0)):=by
  have h1:=World.ownsRow_lit (base:=W1.heap.size) (e:=4) (size:=1) W1 (madeCells (Value.cells (.bool false)) (h.2.2.length*1)) h.2.2.length (Nat.le_refl _) (by unfold maxLen;omega) (by rw[size_madeCells]);rw[sJ,Nat.mul_one] at h1;rw[aWt];exact h1
 have HR0:=lhid hr0;have HA0:=lhid ((Below.refl W1.heap.size W1).alloc (Nat.le_refl _) (.cells (madeCells #[.bool false] h.2.2.length) 4));have x3:=(HBX.out.later HA0.out).cell 2 rfl;have HFin:=lhid (fun w' (hb:Below W1.heap.size W1 w')=>aB HAL.out hb);have hw1:w.heap.size<W1.heap.size:=HBX.out.lt;clear hr0;(go_wp2_with fail);clear x2 x3 mk1
 go_loopw [1,15] (fun f i wr=>∃ k:Nat,k≤h.2.2.length∧i=.int .i64 k∧(∃ q,f=.slice q (c.length-nI h.2.2 k) (cb-nI h.2.2 k)∧(nI h.2.2 k<c.length→∃ g,pb=some ⟨g,0,none⟩∧q=some ⟨g,nI h.2.2 k,none⟩))∧wr.ownsRow W1.heap.size 4 1 (.slice (some ⟨W1.heap.size,0,none⟩) h.2.2.length h.2.2.length) h.2.2.length (bG (oQ h.2.2 c k))∧Below W1.heap.size W1 wr) (fun _ i _=>h.2.2.length-(intOf i).toNat)
 case atStart=>exact⟨0,Nat.zero_le _,rfl,⟨_,rfl,fun hh=>by obtain⟨g,e,-⟩:=HC.out 0 hh;exact⟨g,e,e⟩⟩,HR0.out,HA0.out⟩
 case round=>
  obtain⟨k,hk,rfl,hf,hrow,hbw⟩:=hrel;by_cases hk1:k<h.2.2.length
  ·have hb0:=HFin.out _ hbw;obtain⟨g,sv,rfl,a1,a2,a3,a4⟩:=HX.out k hk1;have a1:=cell_later hb0 a1;have a2:=cell_later hb0 a2;have a3:=cell_later hb0 a3;have hnx:=aKc h.2.2 k hk1;have hlt:=bJz h.2.2 k hk1;have hcn:=aWq h.2.2 c k hk1;have hcs:=aWs h.2.2 c k hk1;have hct:yE h.2.2 c k=if (h.2.2.getD k aM).2.1=1 then true else if (h.2.2.getD k aM).2.1=3 then c.getD (nI h.2.2 k) false else false:=rfl;obtain⟨⟨ts,tf,tl⟩,htt⟩:∃ q,h.2.2.getD k aM=q:=⟨_,rfl⟩;rw[htt] at a1 a2 a4 hnx hlt hct;dsimp only at a1 a2 a4 hct;obtain⟨p3,c3,rfl,-,-⟩:=a4;have hip:aP (ts,tf,tl)=(tf==3):=(by unfold aP;rfl);rw[hip] at hnx hlt;have hkl:k<(oQ h.2.2 c k).length:=(by rw[bCb _ _ _ hk];exact hk1);have r0:wr.cell? ⟨W1.heap.size,k,none⟩=some (.bool ((oQ h.2.2 c k).getD k false)):=(by rw[hrow.cellAt k (by omega)];exact aBt _ _ hkl);have r1:=hrow.frozenAt k;have hlw:W1.heap.size<wr.heap.size:=(hrow.lt W1.heap.size rfl).2;have HRw:=lhid (hrow.alloc (.cells #[.int .i64 ts,.int .i64 tf,.slice p3 tl.length c3] 67));have HBw:=lhid (hbw.alloc hbw.size (.cells #[.int .i64 ts,.int .i64 tf,.slice p3 tl.length c3] 67));have HBr:=lhid hbw;have HRr:=lhid hrow;have HNx:=lhid hnx;have HLt:=lhid hlt;have HCn:=lhid hcn;have HCs:=lhid hcs;have HCt:=lhid hct;have HF:=lhid hf;clear hrow hbw hnx hlt hcn hcs hct htt hip hb0 hkl hf;by_cases h1:tf=1
   ·subst h1;have HE:Hid (bG (oQ h.2.2 c (k+1))=(bG (oQ h.2.2 c k)).set k (.bool true)):=lhid (by rw[HCn.out,HCt.out,yC];rfl);have HN2:Hid (nI h.2.2 (k+1)=nI h.2.2 k):=lhid HNx.out;clear HCn HCs HCt HNx HLt;(go_wp2_with fail);go_roundw
    case rel=>exact⟨k+1,by omega,by go_num,by rw[HN2.out];exact HF.out,by rw[HE.out];exact((HRr.out.stored k (.bool true)).1).alloc _,(HBr.out.setCell (p:=⟨W1.heap.size,k,none⟩) (Nat.le_refl _) _).alloc (by have:=HBr.out.size;simpa using this) _⟩
    case measure=>simp[intOf];omega
   ·have h1b:(tf==1)=false:=(by simpa using h1);by_cases h3:tf=3
    ·subst h3;have hn:nI h.2.2 k<c.length:=(by rw[HLe.out];exact HLt.out rfl);obtain⟨q,hfe,hq⟩:=HF.out;obtain⟨gc,rfl,rfl⟩:=hq hn;obtain⟨gc',e',hcc⟩:=HC.out _ hn;cases e';have hcc:=cell_later (HFin.out _ HBr.out) hcc;have hgcl:=World.block_lt_of_cell? wr ⟨gc,nI h.2.2 k,none⟩ hcc;dsimp only at hgcl;obtain⟨b,hb⟩:∃ b,c.getD (nI h.2.2 k) false=b:=⟨_,rfl⟩;rw[hb] at hcc HCt;have HE:Hid (bG (oQ h.2.2 c (k+1))=(bG (oQ h.2.2 c k)).set k (.bool b)):=lhid (by rw[HCn.out,HCt.out,yC];rfl);have HN2:Hid (nI h.2.2 (k+1)=nI h.2.2 k+1):=lhid HNx.out;obtain⟨n,hn2⟩:∃ n,nI h.2.2 k=n:=⟨_,rfl⟩;rw[hn2] at hcc HN2 hn hfe;subst hfe;obtain⟨md,hmd⟩:∃ md,c.length=n+md+1:=⟨c.length-n-1,by omega⟩;obtain⟨dd,hdd⟩:∃ dd,cb=n+dd+1:=⟨cb-n-1,by omega⟩;rw[show c.length-n=md+1 by omega,show cb-n=dd+1 by omega];have HMd:=lhid (show c.length-(n+1)=md by omega);have HDd:=lhid (show cb-(n+1)=dd by omega);have hmd2:md≤dd:=(by omega);have hdd2:dd≤9223372036854775807:=(by omega);clear HCn HCs HCt HNx HLt HF hb hn2 hn hmd hdd hq;(go_wp2_with fail);go_roundw
     case rel=>exact⟨k+1,by omega,by go_num,⟨_,by rw[HN2.out,HMd.out,HDd.out],fun hh=>⟨gc,rfl,by
      rw[HN2.out] at hh ⊢;have hz:¬dd=0:=by have:=HMd.out;omega
      first | rfl | (rw[if_neg hz];first | rfl | simp) | simp[hz]⟩⟩,by rw[HE.out];exact((HRr.out.stored k (.bool b)).1).alloc _,(HBr.out.setCell (p:=⟨W1.heap.size,k,none⟩) (Nat.le_refl _) _).alloc (by have:=HBr.out.size;simpa using this) _⟩
     case measure=>simp[intOf];omega
    ·have h3b:(tf==3)=false:=(by simpa using h3);have HE:Hid (oQ h.2.2 c (k+1)=oQ h.2.2 c k):=lhid (HCs.out (by rw[HCt.out,if_neg h1,if_neg h3]));have HN2:Hid (nI h.2.2 (k+1)=nI h.2.2 k):=lhid (by rw[HNx.out,if_neg (by rw[h3b];exact Bool.false_ne_true)]);clear HCn HCs HCt HNx HLt;(go_wp2_with fail);go_roundw
     case rel=>exact⟨k+1,by omega,by go_num,by rw[HN2.out];exact HF.out,by rw[HE.out];exact HRw.out,HBw.out⟩
     case measure=>simp[intOf];omega
  ·have hke:k=h.2.2.length:=(by omega);subst hke;rw[bCa] at hrow;have HRw:=lhid hrow;clear hrow hf;(go_wp2_with fail);go_ret;exact⟨_,rfl,cQ HRw.out (by omega),HFin.out _ hbw⟩
set_option maxRecDepth 100000 in
set_option maxHeartbeats 4000000 in
theorem bUa {w:World} {v u:Value} {h:aI} {m:bK} (hv:cJ w v h) (hu:lI w u m) (hm:cU h) (h50:m.1.length≤1000000∧m.2.length≤1000000) (hc:m.1.length=(h.2.2.filter aP).length) :
  Calls Tryz.prog 22 #[v,u] w fun e w'=>∃ v',e=.returned v'∧w'.ownsRow w.heap.size 4 1 v' h.2.2.length (bG (aL h.2.2 m.1))∧Below w.heap.size w w':=by
 obtain⟨v0,v1,v2,rfl,⟨p0,c0,rfl,-⟩,⟨p1,c1,rfl,-⟩,⟨p2,c2,rfl,k2⟩⟩:=hv;obtain⟨pb,cb,pv,cv,rfl,hb,-,hcb,-⟩:=lY hu;have HX:=lhid k2;have HC:=lhid hb;have HLe:=lhid hc;have h51:=h50.1;have m3:h.2.2.length≤1000:=hm.2.2.1;obtain⟨i0,hi,hz0,hz1,hz2⟩:=info_parts oB;have hal:=((Below.refl w.heap.size w).alloc (Nat.le_refl _) (.cells #[.slice p0 h.1.length c0,.slice p1 h.2.1.length c1,.slice p2 h.2.2.length c2] 25)).alloc (by simp) (.cells #[.slice pb m.1.length cb,.slice pv m.2.length cv] 29);have hbx:=(Blk.new w 25 [.slice p0 h.1.length c0,.slice p1 h.2.1.length c1,.slice p2 h.2.2.length c2]).alloc (.cells #[.slice pb m.1.length cb,.slice pv m.2.length cv] 29);have hbw:=Blk.new (w.alloc (.cells #[.slice p0 h.1.length c0,.slice p1 h.2.1.length c1,.slice p2 h.2.2.length c2] 25)) 29 [.slice pb m.1.length cb,.slice pv m.2.length cv];simp only[World.size_alloc] at hbw;have HAL:=lhid hal;have HBX:=lhid hbx;have HBW:=lhid hbw;clear hm h50 hal hbx hbw hb hcb hu hc k2;go_enter Tryz.func22,Tryz.ntmps22;(go_upto_region 1 with fail);obtain⟨W1,hW1⟩:∃ q,(w.alloc (.cells #[.slice p0 h.1.length c0,.slice p1 h.2.1.length c1,.slice p2 h.2.2.length c2] 25)).alloc (.cells #[.slice pb m.1.length cb,.slice pv m.2.length cv] 29)=q:=⟨_,rfl⟩;rw[hW1] at HAL HBX HBW ⊢;clear hW1;have HR0:Hid ((W1.alloc (.cells #[] 4)).ownsRow W1.heap.size 4 1 (.slice (some ⟨W1.heap.size,0,none⟩) 0 0) 0 []):=lhid (World.ownsRow_made (base:=W1.heap.size) (size:=1) (e:=4) W1 #[] 0 (Nat.le_refl _) (Nat.zero_le _) rfl);have HA0:=lhid ((Below.refl W1.heap.size W1).alloc (Nat.le_refl _) (.cells #[] 4));have HFin:=lhid (fun w' (hb:Below W1.heap.size W1 w')=>aB HAL.out hb);have hw1:w.heap.size≤W1.heap.size:=HAL.out.size;go_wp2_with fail
 go_loopw [5,6,7] (fun o n i wr=>∃ k:Nat,k≤h.2.2.length∧i=.int .i64 k∧n=.int .i64 (nI h.2.2 k)∧wr.ownsRow W1.heap.size 4 1 o k (bG ((aL h.2.2 m.1).take k))∧Below W1.heap.size W1 wr) (fun _ _ i _=>h.2.2.length-(intOf i).toNat)
 case atStart=>exact⟨0,Nat.zero_le _,rfl,rfl,HR0.out,HA0.out⟩
 case round=>
  obtain⟨k,hk,rfl,rfl,hrow,hbw⟩:=hrel;have x2:=(HBX.out.later hbw).cell 2 rfl;by_cases hk1:k<h.2.2.length
  ·have hb0:=HFin.out _ hbw;obtain⟨g,sv,rfl,a1,a2,a3,a4⟩:=HX.out k hk1;have a1:=cell_later hb0 a1;have a2:=cell_later hb0 a2;have y0:=(HBW.out.later hbw).cell 0 rfl;have hnx:=aKc h.2.2 k hk1;have hlt:=bJz h.2.2 k hk1;have hle:=bJy h.2.2 k;have hcn:=sC h.2.2 m.1 k hk1;have hct:yE h.2.2 m.1 k=if (h.2.2.getD k aM).2.1=1 then true else if (h.2.2.getD k aM).2.1=3 then m.1.getD (nI h.2.2 k) false else false:=rfl;obtain⟨⟨ts,tf,tl⟩,htt⟩:∃ q,h.2.2.getD k aM=q:=⟨_,rfl⟩;rw[htt] at a1 a2 hnx hlt hct;dsimp only at a1 a2 hct;have hip:aP (ts,tf,tl)=(tf==3):=(by unfold aP;rfl);rw[hip] at hnx hlt;have HRw:=lhid hrow;have HBw:=lhid hbw;have HNx:=lhid hnx;have HCn:=lhid hcn;have HCt:=lhid hct;have hni:nI h.2.2 k≤1000000:=(by rw[←HLe.out] at hle;omega);clear a3 a4 hrow hbw hnx hcn hct htt hip hb0 hle;by_cases h1:tf=1
   ·subst h1;have HE:Hid ((aL h.2.2 m.1).take (k+1)=(aL h.2.2 m.1).take k++[true]):=lhid (by rw[HCn.out,HCt.out];rfl);have HN2:Hid (nI h.2.2 (k+1)=nI h.2.2 k):=lhid HNx.out;clear HCn HCt HNx hlt y0;obtain⟨p9,c9,rfl⟩:=aF HRw.out;(go_wp2_with (at_builtin;refine wpList_append_own _ rfl _ _ 26 rfl W1.heap.size 4 i0 (.bool false) 1 1 Tryz.underlying26 hi hz0 hz1 hz2 rfl (by decide) _ _ _ rfl (HRw.out.alloc _) ⟨wr.heap.size,0,none⟩ 1 1 [.bool true] rfl rfl (dB _ _ _ _ (by simp)) (by intro u hu;simp at hu;subst hu;rfl) (by unfold maxLen;omega) (by omega) (by have:=HBw.out.size;simp;omega) ?_));intro v4 w4 hown4 hgrow hnil;have HB4:=lhid ((HBw.out.alloc HBw.out.size (.cells #[.bool true] 4)).grown hgrow (by have:=HBw.out.size;simp;omega) (fun q hq=>((HRw.out.alloc (.cells #[.bool true] 4)).lt q hq).1));have HO4:Hid (w4.ownsRow W1.heap.size 4 1 v4 (k+1) (bG ((aL h.2.2 m.1).take (k+1)))):=lhid (by rw[HE.out,show bG ((aL h.2.2 m.1).take k++[true])=bG ((aL h.2.2 m.1).take k)++[.bool true] by simp[bG]];exact hown4);clear hown4 hgrow hnil;(go_wp2_with fail);go_roundw
    case rel=>exact⟨k+1,by omega,by go_num,by rw[HN2.out]<;>first | rfl | go_num,HO4.out,HB4.out⟩
    case measure=>simp[intOf];omega
   ·have h1b:(tf==1)=false:=(by simpa using h1);by_cases h3:tf=3
    ·subst h3;have hn:nI h.2.2 k<m.1.length:=(by rw[HLe.out];exact hlt rfl);obtain⟨gc,rfl,hcc⟩:=HC.out _ hn;have hcc:=cell_later (HFin.out _ HBw.out) hcc;obtain⟨b,hb⟩:∃ b,m.1.getD (nI h.2.2 k) false=b:=⟨_,rfl⟩;rw[hb] at hcc HCt;have HE:Hid ((aL h.2.2 m.1).take (k+1)=(aL h.2.2 m.1).take k++[b]):=lhid (by rw[HCn.out,HCt.out];rfl);have HN2:Hid (nI h.2.2 (k+1)=nI h.2.2 k+1):=lhid HNx.out;obtain⟨n,hn2⟩:∃ n,nI h.2.2 k=n:=⟨_,rfl⟩;rw[hn2] at hcc HN2 hn hni;(try rw[hn2]);clear HCn HCt HNx hlt hb hn2;obtain⟨p9,c9,rfl⟩:=aF HRw.out;(go_wp2_with (at_builtin;refine wpList_append_own _ rfl _ _ 26 rfl W1.heap.size 4 i0 (.bool false) 1 1 Tryz.underlying26 hi hz0 hz1 hz2 rfl (by decide) _ _ _ rfl (HRw.out.alloc _) ⟨wr.heap.size,0,none⟩ 1 1 [.bool b] rfl rfl (dB _ _ _ _ (by simp)) (by intro u hu;simp at hu;subst hu;rfl) (by unfold maxLen;omega) (by omega) (by have:=HBw.out.size;simp;omega) ?_));intro v4 w4 hown4 hgrow hnil;have HB4:=lhid ((HBw.out.alloc HBw.out.size (.cells #[.bool b] 4)).grown hgrow (by have:=HBw.out.size;simp;omega) (fun q hq=>((HRw.out.alloc (.cells #[.bool b] 4)).lt q hq).1));have HO4:Hid (w4.ownsRow W1.heap.size 4 1 v4 (k+1) (bG ((aL h.2.2 m.1).take (k+1)))):=lhid (by rw[HE.out,show bG ((aL h.2.2 m.1).take k++[b])=bG ((aL h.2.2 m.1).take k)++[.bool b] by simp[bG]];exact hown4);clear hown4 hgrow hnil;(go_wp2_with fail);go_roundw
     case rel=>exact⟨k+1,by omega,by go_num,by rw[HN2.out]<;>first | rfl | go_num,HO4.out,HB4.out⟩
     case measure=>simp[intOf];omega
    ·have h3b:(tf==3)=false:=(by simpa using h3);have HE:Hid ((aL h.2.2 m.1).take (k+1)=(aL h.2.2 m.1).take k++[false]):=lhid (by rw[HCn.out,HCt.out,if_neg h1,if_neg h3]);have HN2:Hid (nI h.2.2 (k+1)=nI h.2.2 k):=lhid (by rw[HNx.out,if_neg (by rw[h3b];exact Bool.false_ne_true)]);clear HCn HCt HNx hlt y0;obtain⟨p9,c9,rfl⟩:=aF HRw.out;(go_wp2_with (at_builtin;refine wpList_append_own _ rfl _ _ 26 rfl W1.heap.size 4 i0 (.bool false) 1 1 Tryz.underlying26 hi hz0 hz1 hz2 rfl (by decide) _ _ _ rfl (HRw.out.alloc _) ⟨wr.heap.size,0,none⟩ 1 1 [.bool false] rfl rfl (dB _ _ _ _ (by simp)) (by intro u hu;simp at hu;subst hu;rfl) (by unfold maxLen;omega) (by omega) (by have:=HBw.out.size;simp;omega) ?_));intro v4 w4 hown4 hgrow hnil;have HB4:=lhid ((HBw.out.alloc HBw.out.size (.cells #[.bool false] 4)).grown hgrow (by have:=HBw.out.size;simp;omega) (fun q hq=>((HRw.out.alloc (.cells #[.bool false] 4)).lt q hq).1));have HO4:Hid (w4.ownsRow W1.heap.size 4 1 v4 (k+1) (bG ((aL h.2.2 m.1).take (k+1)))):=lhid (by rw[HE.out,show bG ((aL h.2.2 m.1).take k++[false])=bG ((aL h.2.2 m.1).take k)++[.bool false] by simp[bG]];exact hown4);clear hown4 hgrow hnil;(go_wp2_with fail);go_roundw
     case rel=>exact⟨k+1,by omega,by go_num,by rw[HN2.out]<;>first | rfl | go_num,HO4.out,HB4.out⟩
     case measure=>simp[intOf];omega
  ·have hke:k=h.2.2.length:=(by omega);subst hke;rw[zQ] at hrow;have HRw:=lhid hrow;obtain⟨p9,c9,rfl⟩:=aF hrow;clear hrow;(go_wp2_with fail);go_ret;exact⟨_,rfl,cQ HRw.out hw1,HFin.out _ hbw⟩
end
end Go.Proofs.YtdfegfagedeilaaGreatDoor
