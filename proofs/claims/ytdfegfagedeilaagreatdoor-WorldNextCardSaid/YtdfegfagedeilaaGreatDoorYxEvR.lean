/-
  The walk of layer 7 (event): what a line is read as. Conditions: unicode/utf8's two tables, and event.words, hold what their initialisers lay, internal/bytealg.MaxLen holds a number; texts of at most 1,000,000 bytes.
-/
import Derived.Test.YtdfegfagedeilaaGreatDoorYNd
namespace Go.Proofs.YtdfegfagedeilaaGreatDoor
open Go.RowKit Go.Lib
def aOp (m:Nat) (l0 l1 l2 l3:List UInt8):aV×Bool×Int:=
 if (decide (dN l0≠0)&&(decide (m=if kD (dN l0) then 4 else 2)&&(bA l1&&(!kD (dN l0)||bA l2))))=false then (kE,false,5)
 else if kD (dN l0) then ((gI (dN l0) l1 l2 l3).1,decide ((gI (dN l0) l1 l2 l3).2=0),(gI (dN l0) l1 l2 l3).2)
 else ((dN l0,l1,[],0,0,0),true,0)
theorem aKb (W:List (List UInt8×Nat)) (j:Nat):(W.map (·.1)).getD j []=(W.getD j ([],0)).1:=by
 rw[List.getD_eq_getElem?_getD,List.getD_eq_getElem?_getD,List.getElem?_map];cases W[j]?<;>rfl
theorem bKx (W:List (List UInt8×Nat)):aEt (W.map (·.1))=aOp W.length (W.getD 0 ([],0)).1 (W.getD 1 ([],0)).1 (W.getD 2 ([],0)).1 (W.getD 3 ([],0)).1:=by
 unfold aEt aOp aMp;simp only[aKb,List.length_map]
theorem aSx (l:List UInt8) (h:jJ l=([],0)):dX l=(kE,false,0):=by
 unfold dX;rw[h,if_pos (.inr rfl)];rfl
theorem aZp (l:List UInt8) (h:jJ l=([],5)):dX l=(kE,false,5):=by
 unfold dX;rw[h,if_pos (.inr rfl)];rfl
theorem bIq (l:List UInt8) (W:List (List UInt8×Nat)) (h:jJ l=(W,0)) (h0:W≠[]):dX l=aOp W.length (W.getD 0 ([],0)).1 (W.getD 1 ([],0)).1 (W.getD 2 ([],0)).1 (W.getD 3 ([],0)).1:=by
 unfold dX;rw[h,if_neg (by rintro(h1 | h1);exact h1 rfl;exact h0 h1)];exact bKx W
theorem aLa (l:List UInt8):jJ l=([],5)∨jJ l=([],0)∨∃ W,W≠[]∧jJ l=(W,0):=by
 unfold jJ;split
 ·cases h:aFw (dD l) with
  | nil=>exact .inr (.inl rfl)
  | cons x r=>exact .inr (.inr ⟨_,by simp,rfl⟩)
 ·exact .inl rfl
theorem bGg (l:List UInt8) (j:Nat):((jJ l).1.getD j ([],0)).1.length≤l.length:=by
 by_cases h:j<(jJ l).1.length
 ·have hm:(jJ l).1.getD j ([],0)∈(jJ l).1:=(by simp[h]);generalize (jJ l).1.getD j ([],0)=x at *;unfold jJ at hm;split at hm
  ·obtain⟨r,-,rfl⟩:=List.mem_map.1 hm;refine Nat.le_trans (bCc _ _ _) ?_;rcases xZ l with h1 | ⟨y,h1⟩
   ·rw[h1];exact Nat.le_refl _
   ·have:=congrArg List.length h1;simp at this;omega
  ·cases hm
 ·have:(jJ l).1.getD j ([],0)=([],0):=(by simp[h]);rw[this];exact Nat.zero_le _
section
attribute [local go_sem ↓] aPc aPb bHv aSa aTx
set_option maxRecDepth 100000 in
set_option maxHeartbeats 8000000 in
theorem aQy (l:List UInt8) (hl:l.length≤1000000) (w:World) (hT:Lib.Utf8Tabs 1 2 w) (hm:HasMax w) (hE:EvTab w) :
  Calls Tryz.prog 88 #[.string (bs l)] w fun e w'=>e=.returned (.tuple #[evV (dX l).1,.bool (dX l).2.1,.int .i64 (dX l).2.2])∧Below w.heap.size w w':=by
 have HW:=lhid (fun w' (h:Below w.heap.size w w')=>aTu l hl w' (hm.below h));have T0:=lhid (zG w 116 (.int .i64 0) (.string { data:=#[] }) (.string { data:=#[] }) (.int .i64 0) (.int .i64 0) (.int .i64 0));have HN:=lhid (fun x (hx:x.length≤1000000) w' (h:Below w.heap.size w w')=>vA x hx w' (Utf8Tabs_below hT h));have HKd:=lhid (fun x w' (h:Below w.heap.size w w')=>bDg x w' (hE.below h));have hle:=bGg l;clear hT hm hE;rcases aLa l with h | h | ⟨W,hW0,h⟩
 ·rw[aZp l h];rw[h] at HW;clear h hle HN HKd;go_enter Tryz.func88,Tryz.ntmps88;(go_wp2_with fail);refine(HW.out _ bes).mono ?_;rintro e w1 ⟨v,rfl,hw1,hb1⟩;obtain⟨p,cap,rfl,hcw,-⟩:=hw1;have T1:=bI T0.out hb1;obtain⟨hc1,hf1⟩:=dF hb1;have hz1:=hb1.size;simp at hz1;have hl1:w.heap.size<w1.heap.size:=(by omega);have hbx1:Below w.heap.size w w1:=bes;go_wp21;refine bodyPost_ret ?_ rfl ⟨rfl,?_⟩
  ·simp[results,Tryz.results88,go_sem,hc1,evV,kE];try rfl
  ·exact bes
 ·rw[aSx l h];rw[h] at HW;clear h hle HN HKd;go_enter Tryz.func88,Tryz.ntmps88;(go_wp2_with fail);refine(HW.out _ bes).mono ?_;rintro e w1 ⟨v,rfl,hw1,hb1⟩;obtain⟨p,cap,rfl,hcw,-⟩:=hw1;have T1:=bI T0.out hb1;obtain⟨hc1,hf1⟩:=dF hb1;have hz1:=hb1.size;simp at hz1;have hl1:w.heap.size<w1.heap.size:=(by omega);have hbx1:Below w.heap.size w w1:=bes;go_wp21;refine bodyPost_ret ?_ rfl ⟨rfl,?_⟩
  ·simp[results,Tryz.results88,go_sem,hc1,evV,kE];try rfl
  ·exact bes
 ·rw[bIq l W h hW0];rw[h] at HW hle;have hm0:0<W.length:=List.length_pos_iff.2 hW0;obtain⟨m,hLn⟩:∃ m,W.length=m:=⟨_,rfl⟩;obtain⟨l0,hl0⟩:∃ x,(W.getD 0 ([],0)).1=x:=⟨_,rfl⟩;obtain⟨l1,hl1⟩:∃ x,(W.getD 1 ([],0)).1=x:=⟨_,rfl⟩;obtain⟨l2,hl2⟩:∃ x,(W.getD 2 ([],0)).1=x:=⟨_,rfl⟩;obtain⟨l3,hl3⟩:∃ x,(W.getD 3 ([],0)).1=x:=⟨_,rfl⟩;rw[hLn,hl0,hl1,hl2,hl3];rw[hLn] at hm0;have HLn:=lhid hLn;have HL0:=lhid hl0;have HL1:=lhid hl1;have HL2:=lhid hl2;have HL3:=lhid hl3;have q1:l1.length≤1000000:=(by rw[←hl1];exact Nat.le_trans (hle 1) hl);have q2:l2.length≤1000000:=(by rw[←hl2];exact Nat.le_trans (hle 2) hl);have q3:l3.length≤1000000:=(by rw[←hl3];exact Nat.le_trans (hle 3) hl);have HN1:=lhid (HN.out l1 q1);have HN2:=lhid (HN.out l2 q2);have HK:=lhid (HKd.out l0);have HF:Hid (aOp m l0 l1 l2 l3=if (decide (dN l0≠0)&&(decide (m=if kD (dN l0) then 4 else 2)&&(bA l1&&(!kD (dN l0)||bA l2))))=false then (kE,false,5) else if kD (dN l0) then ((gI (dN l0) l1 l2 l3).1,decide ((gI (dN l0) l1 l2 l3).2=0),(gI (dN l0) l1 l2 l3).2) else ((dN l0,l1,[],0,0,0),true,0)):=lhid rfl;have HV:=lhid (fun w'=>aUd (dN l0) l1 l2 l3 (by omega) w');have HLg:=lhid (fun w'=>aNj (dN l0) w');generalize aOp m l0 l1 l2 l3=R at *;generalize dN l0=K at *;generalize bA l1=N1 at *;generalize bA l2=N2 at *;clear h hle HN HKd hLn hl0 hl1 hl2 hl3 hW0 hl q1 q2 q3;by_cases hK:K=0
  ·subst hK;have hlg:kD 0=false:=rfl;rw[hlg] at HLg;clear hlg;have HR:Hid (R=(kE,false,5)):=lhid (by rw[HF.out];rfl);rw[HR.out];clear HF HR;go_enter Tryz.func88,Tryz.ntmps88;(go_wp2_with fail);refine(HW.out _ bes).mono ?_;rintro e w1 ⟨v,rfl,hw1,hb1⟩;obtain⟨p,cap,rfl,hcw,-⟩:=hw1;have T1:=bI T0.out hb1;obtain⟨hc1,hf1⟩:=dF hb1;have hz1:=hb1.size;simp at hz1;have hl1:w.heap.size<w1.heap.size:=(by omega);have hbx1:Below w.heap.size w w1:=bes;obtain⟨g,rfl,c0,-⟩:=hcw 0 (by rw[HLn.out];omega);rw[HL0.out,Nat.zero_mul] at c0;have hg:g<w1.heap.size:=World.block_lt_of_cell? w1 _ c0;rw[HLn.out];clear hcw;(go_wp2_with fail);refine(HK.out _ hbx1).mono ?_;rintro e wk ⟨rfl,rfl⟩;(go_wp2_with fail);refine(HLg.out _).mono ?_;rintro e wl ⟨rfl,rfl⟩;go_wp21;refine bodyPost_ret ?_ rfl ⟨rfl,?_⟩
   ·simp[results,Tryz.results88,go_sem,hc1,evV,kE];try rfl
   ·exact bes
  ·have hk0:(K==0)=false:=beq_eq_false_iff_ne.2 hK;have hkd:decide (K≠0)=true:=decide_eq_true hK;rw[hkd] at HF;clear hK hkd
   cases hlg:kD K with
   | false=>
    rw[hlg] at HLg HF;clear hlg HV;by_cases hm2:m=2
    ·subst hm2
     cases N1 with
     | false=>
      have HR:Hid (R=(kE,false,5)):=lhid (by rw[HF.out];rfl);rw[HR.out];clear HF HR;go_enter Tryz.func88,Tryz.ntmps88;(go_wp2_with fail);refine(HW.out _ bes).mono ?_;rintro e w1 ⟨v,rfl,hw1,hb1⟩;obtain⟨p,cap,rfl,hcw,-⟩:=hw1;have T1:=bI T0.out hb1;obtain⟨hc1,hf1⟩:=dF hb1;have hz1:=hb1.size;simp at hz1;have hl1:w.heap.size<w1.heap.size:=(by omega);have hbx1:Below w.heap.size w w1:=bes;obtain⟨g,rfl,c0,-⟩:=hcw 0 (by rw[HLn.out];omega);rw[HL0.out,Nat.zero_mul] at c0;have hg:g<w1.heap.size:=World.block_lt_of_cell? w1 _ c0
      have c1:w1.cell? ⟨g,2,none⟩=some (.string (bs l1)):=by
       obtain⟨g',e,c,-⟩:=hcw 1 (by rw[HLn.out];omega);injection e with e;injection e with e;subst e;rw[HL1.out] at c;exact c
      rw[HLn.out];clear hcw;(go_wp2_with fail);refine(HK.out _ hbx1).mono ?_;rintro e wk ⟨rfl,rfl⟩;(go_wp2_with fail);refine(HLg.out _).mono ?_;rintro e wl ⟨rfl,rfl⟩;(go_wp2_with fail);refine(HN1.out _ hbx1).mono ?_;rintro e w2 ⟨rfl,hb2⟩;have T2:=bI T1 hb2;obtain⟨hc2,hf2⟩:=dF hb2;have hz2:=hb2.size;have hl2:w.heap.size<w2.heap.size:=(by omega);have hbx2:Below w.heap.size w w2:=aB hbx1 hb2;have hg2:g<w2.heap.size:=(by omega);go_wp21;refine bodyPost_ret ?_ rfl ⟨rfl,?_⟩
      ·simp[results,Tryz.results88,go_sem,hc1,hc2,hl1,evV,kE];try rfl
      ·exact bes
     | true=>
      have HR:Hid (R=((K,l1,[],0,0,0),true,0)):=lhid (by rw[HF.out];rfl);rw[HR.out];clear HF HR;go_enter Tryz.func88,Tryz.ntmps88;(go_wp2_with fail);refine(HW.out _ bes).mono ?_;rintro e w1 ⟨v,rfl,hw1,hb1⟩;obtain⟨p,cap,rfl,hcw,-⟩:=hw1;have T1:=bI T0.out hb1;obtain⟨hc1,hf1⟩:=dF hb1;have hz1:=hb1.size;simp at hz1;have hl1:w.heap.size<w1.heap.size:=(by omega);have hbx1:Below w.heap.size w w1:=bes;obtain⟨g,rfl,c0,-⟩:=hcw 0 (by rw[HLn.out];omega);rw[HL0.out,Nat.zero_mul] at c0;have hg:g<w1.heap.size:=World.block_lt_of_cell? w1 _ c0
      have c1:w1.cell? ⟨g,2,none⟩=some (.string (bs l1)):=by
       obtain⟨g',e,c,-⟩:=hcw 1 (by rw[HLn.out];omega);injection e with e;injection e with e;subst e;rw[HL1.out] at c;exact c
      rw[HLn.out];clear hcw;(go_wp2_with fail);refine(HK.out _ hbx1).mono ?_;rintro e wk ⟨rfl,rfl⟩;(go_wp2_with fail);refine(HLg.out _).mono ?_;rintro e wl ⟨rfl,rfl⟩;(go_wp2_with fail);refine(HN1.out _ hbx1).mono ?_;rintro e w2 ⟨rfl,hb2⟩;have T2:=bI T1 hb2;obtain⟨hc2,hf2⟩:=dF hb2;have hz2:=hb2.size;have hl2:w.heap.size<w2.heap.size:=(by omega);have hbx2:Below w.heap.size w w2:=aB hbx1 hb2;have hg2:g<w2.heap.size:=(by omega);have th2:=bNk T2;go_wp21;refine bodyPost_ret ?_ rfl ⟨rfl,?_⟩
      ·simp[results,Tryz.results88,go_sem,hc1,hc2,hl2,hl1,evV];try rfl
      ·exact bes
    ·have hmd:decide (m=2)=false:=decide_eq_false hm2;have hmn:((m:Int) != 2)=true:=(by simp;omega);have HR:Hid (R=(kE,false,5)):=lhid (by rw[HF.out];simp only[Bool.false_eq_true,if_false,hmd,Bool.false_and,Bool.and_false,if_true]);rw[HR.out];clear HF HR hm2 hmd;go_enter Tryz.func88,Tryz.ntmps88;(go_wp2_with fail);refine(HW.out _ bes).mono ?_;rintro e w1 ⟨v,rfl,hw1,hb1⟩;obtain⟨p,cap,rfl,hcw,-⟩:=hw1;have T1:=bI T0.out hb1;obtain⟨hc1,hf1⟩:=dF hb1;have hz1:=hb1.size;simp at hz1;have hl1:w.heap.size<w1.heap.size:=(by omega);have hbx1:Below w.heap.size w w1:=bes;obtain⟨g,rfl,c0,-⟩:=hcw 0 (by rw[HLn.out];omega);rw[HL0.out,Nat.zero_mul] at c0;have hg:g<w1.heap.size:=World.block_lt_of_cell? w1 _ c0;rw[HLn.out];clear hcw;(go_wp2_with fail);refine(HK.out _ hbx1).mono ?_;rintro e wk ⟨rfl,rfl⟩;(go_wp2_with fail);refine(HLg.out _).mono ?_;rintro e wl ⟨rfl,rfl⟩;go_wp21;refine bodyPost_ret ?_ rfl ⟨rfl,?_⟩
     ·simp[results,Tryz.results88,go_sem,hc1,evV,kE];try rfl
     ·exact bes
   | true=>
    rw[hlg] at HLg HF;clear hlg;by_cases hm4:m=4
    ·subst hm4
     cases N1 with
     | false=>
      have HR:Hid (R=(kE,false,5)):=lhid (by rw[HF.out];rfl);rw[HR.out];clear HF HR;go_enter Tryz.func88,Tryz.ntmps88;(go_wp2_with fail);refine(HW.out _ bes).mono ?_;rintro e w1 ⟨v,rfl,hw1,hb1⟩;obtain⟨p,cap,rfl,hcw,-⟩:=hw1;have T1:=bI T0.out hb1;obtain⟨hc1,hf1⟩:=dF hb1;have hz1:=hb1.size;simp at hz1;have hl1:w.heap.size<w1.heap.size:=(by omega);have hbx1:Below w.heap.size w w1:=bes;obtain⟨g,rfl,c0,-⟩:=hcw 0 (by rw[HLn.out];omega);rw[HL0.out,Nat.zero_mul] at c0;have hg:g<w1.heap.size:=World.block_lt_of_cell? w1 _ c0
      have c1:w1.cell? ⟨g,2,none⟩=some (.string (bs l1)):=by
       obtain⟨g',e,c,-⟩:=hcw 1 (by rw[HLn.out];omega);injection e with e;injection e with e;subst e;rw[HL1.out] at c;exact c
      rw[HLn.out];clear hcw;(go_wp2_with fail);refine(HK.out _ hbx1).mono ?_;rintro e wk ⟨rfl,rfl⟩;(go_wp2_with fail);refine(HLg.out _).mono ?_;rintro e wl ⟨rfl,rfl⟩;(go_wp2_with fail);refine(HN1.out _ hbx1).mono ?_;rintro e w2 ⟨rfl,hb2⟩;have T2:=bI T1 hb2;obtain⟨hc2,hf2⟩:=dF hb2;have hz2:=hb2.size;have hl2:w.heap.size<w2.heap.size:=(by omega);have hbx2:Below w.heap.size w w2:=aB hbx1 hb2;have hg2:g<w2.heap.size:=(by omega);go_wp21;refine bodyPost_ret ?_ rfl ⟨rfl,?_⟩
      ·simp[results,Tryz.results88,go_sem,hc1,hc2,hl1,evV,kE];try rfl
      ·exact bes
     | true=>
      cases N2 with
      | false=>
       have HR:Hid (R=(kE,false,5)):=lhid (by rw[HF.out];rfl);rw[HR.out];clear HF HR;go_enter Tryz.func88,Tryz.ntmps88;(go_wp2_with fail);refine(HW.out _ bes).mono ?_;rintro e w1 ⟨v,rfl,hw1,hb1⟩;obtain⟨p,cap,rfl,hcw,-⟩:=hw1;have T1:=bI T0.out hb1;obtain⟨hc1,hf1⟩:=dF hb1;have hz1:=hb1.size;simp at hz1;have hl1:w.heap.size<w1.heap.size:=(by omega);have hbx1:Below w.heap.size w w1:=bes;obtain⟨g,rfl,c0,-⟩:=hcw 0 (by rw[HLn.out];omega);rw[HL0.out,Nat.zero_mul] at c0;have hg:g<w1.heap.size:=World.block_lt_of_cell? w1 _ c0
       have c1:w1.cell? ⟨g,2,none⟩=some (.string (bs l1)):=by
        obtain⟨g',e,c,-⟩:=hcw 1 (by rw[HLn.out];omega);injection e with e;injection e with e;subst e;rw[HL1.out] at c;exact c
       have c2:w1.cell? ⟨g,4,none⟩=some (.string (bs l2)):=by
        obtain⟨g',e,c,-⟩:=hcw 2 (by rw[HLn.out];omega);injection e with e;injection e with e;subst e;rw[HL2.out] at c;exact c
       rw[HLn.out];clear hcw;(go_wp2_with fail);refine(HK.out _ hbx1).mono ?_;rintro e wk ⟨rfl,rfl⟩;(go_wp2_with fail);refine(HLg.out _).mono ?_;rintro e wl ⟨rfl,rfl⟩;(go_wp2_with fail);refine(HN1.out _ hbx1).mono ?_;rintro e w2 ⟨rfl,hb2⟩;have T2:=bI T1 hb2;obtain⟨hc2,hf2⟩:=dF hb2;have hz2:=hb2.size;have hl2:w.heap.size<w2.heap.size:=(by omega);have hbx2:Below w.heap.size w w2:=aB hbx1 hb2;have hg2:g<w2.heap.size:=(by omega);(go_wp2_with fail);refine(HN2.out _ hbx2).mono ?_;rintro e w3 ⟨rfl,hb3⟩;have T3:=bI T2 hb3;obtain⟨hc3,hf3⟩:=dF hb3;have hz3:=hb3.size;have hl3:w.heap.size<w3.heap.size:=(by omega);have hbx3:Below w.heap.size w w3:=aB hbx2 hb3;have hg3:g<w3.heap.size:=(by omega);go_wp21;refine bodyPost_ret ?_ rfl ⟨rfl,?_⟩
       ·simp[results,Tryz.results88,go_sem,hc1,hc2,hl2,hc3,hl1,evV,kE];try rfl
       ·exact bes
      | true=>
       obtain⟨⟨⟨a1,a2,a3,a4,a5,a6⟩,ve⟩,hve⟩:∃ x,gI K l1 l2 l3=x:=⟨_,rfl⟩;rw[hve] at HV HF;unfold evV at HV;dsimp only at HV;have HR:Hid (R=((a1,a2,a3,a4,a5,a6),decide (ve=0),ve)):=lhid (by rw[HF.out];rfl);rw[HR.out];clear HF HR hve;go_enter Tryz.func88,Tryz.ntmps88;(go_wp2_with fail);refine(HW.out _ bes).mono ?_;rintro e w1 ⟨v,rfl,hw1,hb1⟩;obtain⟨p,cap,rfl,hcw,-⟩:=hw1;have T1:=bI T0.out hb1;obtain⟨hc1,hf1⟩:=dF hb1;have hz1:=hb1.size;simp at hz1;have hl1:w.heap.size<w1.heap.size:=(by omega);have hbx1:Below w.heap.size w w1:=bes;obtain⟨g,rfl,c0,-⟩:=hcw 0 (by rw[HLn.out];omega);rw[HL0.out,Nat.zero_mul] at c0;have hg:g<w1.heap.size:=World.block_lt_of_cell? w1 _ c0
       have c1:w1.cell? ⟨g,2,none⟩=some (.string (bs l1)):=by
        obtain⟨g',e,c,-⟩:=hcw 1 (by rw[HLn.out];omega);injection e with e;injection e with e;subst e;rw[HL1.out] at c;exact c
       have c2:w1.cell? ⟨g,4,none⟩=some (.string (bs l2)):=by
        obtain⟨g',e,c,-⟩:=hcw 2 (by rw[HLn.out];omega);injection e with e;injection e with e;subst e;rw[HL2.out] at c;exact c
       have c3:w1.cell? ⟨g,6,none⟩=some (.string (bs l3)):=by
        obtain⟨g',e,c,-⟩:=hcw 3 (by rw[HLn.out];omega);injection e with e;injection e with e;subst e;rw[HL3.out] at c;exact c
       rw[HLn.out];clear hcw;(go_wp2_with fail);refine(HK.out _ hbx1).mono ?_;rintro e wk ⟨rfl,rfl⟩;(go_wp2_with fail);refine(HLg.out _).mono ?_;rintro e wl ⟨rfl,rfl⟩;(go_wp2_with fail);refine(HN1.out _ hbx1).mono ?_;rintro e w2 ⟨rfl,hb2⟩;have T2:=bI T1 hb2;obtain⟨hc2,hf2⟩:=dF hb2;have hz2:=hb2.size;have hl2:w.heap.size<w2.heap.size:=(by omega);have hbx2:Below w.heap.size w w2:=aB hbx1 hb2;have hg2:g<w2.heap.size:=(by omega);(go_wp2_with fail);refine(HN2.out _ hbx2).mono ?_;rintro e w3 ⟨rfl,hb3⟩;have T3:=bI T2 hb3;obtain⟨hc3,hf3⟩:=dF hb3;have hz3:=hb3.size;have hl3:w.heap.size<w3.heap.size:=(by omega);have hbx3:Below w.heap.size w w3:=aB hbx2 hb3;have hg3:g<w3.heap.size:=(by omega);have T9:=lhid (zG w3 116 (.int .i64 K) (.string (bs l1)) (.string { data:=#[] }) (.int .i64 0) (.int .i64 0) (.int .i64 0));have d1:=cell_later hb3 (cell_later hb2 c1);have d2:=cell_later hb3 (cell_later hb2 c2);have d3:=cell_later hb3 (cell_later hb2 c3)
       have HS:Hid (∀ w',Below ((w3.alloc (.cells #[.int .i64 K,.string (bs l1),.string { data:=#[] },.int .i64 0,.int .i64 0,.int .i64 0] 116))).heap.size ((w3.alloc (.cells #[.int .i64 K,.string (bs l1),.string { data:=#[] },.int .i64 0,.int .i64 0,.int .i64 0] 116))) w'→(w'.cell? ⟨g,2,none⟩=some (.string (bs l1))∧w'.cell? ⟨g,4,none⟩=some (.string (bs l2))∧w'.cell? ⟨g,6,none⟩=some (.string (bs l3))∧Below ((w3.alloc (.cells #[.int .i64 K,.string (bs l1),.string { data:=#[] },.int .i64 0,.int .i64 0,.int .i64 0] 116))).heap.size ((w3.alloc (.cells #[.int .i64 K,.string (bs l1),.string { data:=#[] },.int .i64 0,.int .i64 0,.int .i64 0] 116))) w')):=lhid (fun w' hb=>by
        have hb':Below w3.heap.size w3 w':=((Below.refl _ _).alloc (Nat.le_refl _) _).trans (hb.mono (by simp))
        exact⟨cell_later hb' d1,cell_later hb' d2,cell_later hb' d3,hb⟩)
       have hb13:Below (w.heap.size+1) (w.alloc (.cells #[.int .i64 0,.string { data:=#[] },.string { data:=#[] },.int .i64 0,.int .i64 0,.int .i64 0] 116)) w3:=by
        have:=aB (aB hb1 hb2) hb3;simpa using this
       have HB13:=lhid hb13;clear hb13;go_upto_region 13 with fail
       go_cut [6] (fun s6 wx=>s6=.int .i64 ve∧wx.rangeAt w3.heap.size 0 [.int .i64 a1,.string (bs a2),.string (bs a3),.int .i64 a4,.int .i64 a5,.int .i64 a6]∧Below (w.heap.size+1) (w.alloc (.cells #[.int .i64 0,.string { data:=#[] },.string { data:=#[] },.int .i64 0,.int .i64 0,.int .i64 0] 116)) wx)
       case first=>
        refine wp_region_late (fun w'=>w'.cell? ⟨g,2,none⟩=some (.string (bs l1))∧w'.cell? ⟨g,4,none⟩=some (.string (bs l2))∧w'.cell? ⟨g,6,none⟩=some (.string (bs l3))∧Below ((w3.alloc (.cells #[.int .i64 K,.string (bs l1),.string { data:=#[] },.int .i64 0,.int .i64 0,.int .i64 0] 116))).heap.size ((w3.alloc (.cells #[.int .i64 K,.string (bs l1),.string { data:=#[] },.int .i64 0,.int .i64 0,.int .i64 0] 116))) w') [15,16,17,18] (by kernel_rfl) ?_;have hB0:Below ((w3.alloc (.cells #[.int .i64 K,.string (bs l1),.string { data:=#[] },.int .i64 0,.int .i64 0,.int .i64 0] 116))).heap.size ((w3.alloc (.cells #[.int .i64 K,.string (bs l1),.string { data:=#[] },.int .i64 0,.int .i64 0,.int .i64 0] 116))) ((w3.alloc (.cells #[.int .i64 K,.string (bs l1),.string { data:=#[] },.int .i64 0,.int .i64 0,.int .i64 0] 116))).drew:=Below.drew (Below.refl _ _);have hS0:=HS.out _ hB0;refine gP 0 19 (v:=?_) rfl (by kernel_rfl) (by kernel_rfl) (by kernel_rfl) (by kernel_rfl) (by kernel_rfl) (fun _ _ _ h=>h) (Or.inl ⟨by rfl,?_⟩) hS0 ?_;rotate_left
        ·intro w' hw';(try dsimp only at hw');go_simp;try with_reducible rfl
        (try simp only[Act.put,sq]);refine gP 1 19 (v:=?_) rfl (by kernel_rfl) (by kernel_rfl) (by kernel_rfl) (by kernel_rfl) (by kernel_rfl) (fun _ _ _ h=>h) (Or.inl ⟨by rfl,?_⟩) hS0 ?_;rotate_left
        ·intro w' hw';(try dsimp only at hw');go_simp;try with_reducible rfl
        (try simp only[Act.put,sq]);refine gP 2 19 (v:=?_) rfl (by kernel_rfl) (by kernel_rfl) (by kernel_rfl) (by kernel_rfl) (by kernel_rfl) (fun _ _ _ h=>h) (Or.inl ⟨by rfl,?_⟩) hS0 ?_;rotate_left
        ·intro w' hw';(try dsimp only at hw');go_simp;try with_reducible rfl
        (try simp only[Act.put,sq]);refine gP 3 19 (v:=?_) rfl (by kernel_rfl) (by kernel_rfl) (by kernel_rfl) (by kernel_rfl) (by kernel_rfl) (fun _ _ _ h=>h) (Or.inl ⟨by rfl,?_⟩) hS0 ?_;rotate_left
        ·intro w' hw';(try dsimp only at hw');go_simp;try with_reducible rfl
        (try simp only[Act.put,sq]);refine gP 4 19 (v:=?_) rfl (by kernel_rfl) (by kernel_rfl) (by kernel_rfl) (by kernel_rfl) (by kernel_rfl) (fun _ _ _ h=>h) (Or.inl ⟨by rfl,?_⟩) hS0 ?_;rotate_left
        ·intro w' hw';(try dsimp only at hw');go_simp;try with_reducible rfl
        (try simp only[Act.put,sq]);refine gP 5 19 (v:=?_) rfl (by kernel_rfl) (by kernel_rfl) (by kernel_rfl) (by kernel_rfl) (by kernel_rfl) (fun _ _ _ h=>h) (Or.inl ⟨by rfl,?_⟩) hS0 ?_;rotate_left
        ·intro w' hw';(try dsimp only at hw');go_simp;try with_reducible rfl
        (try simp only[Act.put,sq]);refine gP 6 19 (v:=?_) rfl (by kernel_rfl) (by kernel_rfl) (by kernel_rfl) (by kernel_rfl) (by kernel_rfl) (fun _ _ _ h=>h) (Or.inl ⟨by rfl,?_⟩) hS0 ?_;rotate_left
        ·intro w' hw';(try dsimp only at hw');go_simp;try with_reducible rfl
        (try simp only[Act.put,sq]);refine gP 7 19 (v:=?_) rfl (by kernel_rfl) (by kernel_rfl) (by kernel_rfl) (by kernel_rfl) (by kernel_rfl) (fun _ _ _ h=>h) (Or.inl ⟨by rfl,?_⟩) hS0 ?_;rotate_left
        ·intro w' hw';(try dsimp only at hw');go_simp;try with_reducible rfl
        (try simp only[Act.put,sq]);refine gP 8 19 (v:=?_) rfl (by kernel_rfl) (by kernel_rfl) (by kernel_rfl) (by kernel_rfl) (by kernel_rfl) (fun _ _ _ h=>h) (Or.inl ⟨by rfl,?_⟩) hS0 ?_;rotate_left
        ·intro w' hw';(try dsimp only at hw');go_simp;try with_reducible rfl
        (try simp only[Act.put,sq]);refine lO 9 rfl (by kernel_rfl) (fun K hK=>?_);go_simp;refine hK.out _ _ (fun _=>hS0) ?_;clear hK K;(try simp only[Act.put,sq]);refine lO 10 rfl (by kernel_rfl) (fun K hK=>?_);go_simp;refine hK.out _ _ (fun _=>hS0) ?_;clear hK K;(try simp only[Act.put,sq]);refine lO 11 rfl (by kernel_rfl) (fun K hK=>?_);go_simp;refine hK.out _ _ (fun _=>hS0) ?_;clear hK K;(try simp only[Act.put,sq]);refine gP 12 19 (v:=?_) rfl (by kernel_rfl) (by kernel_rfl) (by kernel_rfl) (by kernel_rfl) (by kernel_rfl) (fun _ _ _ h=>h) (Or.inl ⟨by rfl,?_⟩) hS0 ?_;rotate_left
        ·intro w' hw';(try dsimp only at hw');go_simp;try with_reducible rfl
        (try simp only[Act.put,sq]);refine lO 13 rfl (by kernel_rfl) (fun K hK=>?_);go_simp;refine(HV.out _).mono ?_;rintro e w4 ⟨rfl,hb4⟩;have hB1:=aB hB0 hb4;have hS1:=HS.out _ hB1;refine hK.out _ _ (fun _=>hS1) ?_;clear hK K hS0;(try simp only[Act.put,sq]);refine lO 14 rfl (by kernel_rfl) (fun K hK=>?_);go_simp;refine hK.out _ _ (fun _=>hS1) ?_;clear hK K;(try simp only[Act.put,sq]);refine aAc 15 (v:=?_) rfl (by kernel_rfl) (by kernel_rfl) (by kernel_rfl) (by kernel_rfl) (fun _ _ _ h=>h) (Or.inl ⟨by rfl,?_⟩) ?_;rotate_left
        ·intro w' hw';go_simp;try with_reducible rfl
        (try simp only[Act.put,sq]);refine aAc 16 (v:=?_) rfl (by kernel_rfl) (by kernel_rfl) (by kernel_rfl) (by kernel_rfl) (fun _ _ _ h=>h) (Or.inl ⟨by rfl,?_⟩) ?_;rotate_left
        ·intro w' hw';go_simp;try with_reducible rfl
        (try simp only[Act.put,sq]);have th4:w4.there w3.heap.size 0 6:=bI T9.out hB1;have th5:w4.there w.heap.size 0 6:=bI (bNk T3 _) hB1;refine lO 17 rfl (by kernel_rfl) (fun K hK=>?_);refine wp_store_mid _ _ _ rfl w3.heap.size 0 #[.int .i64 a1,.string (bs a2),.string (bs a3),.int .i64 a4,.int .i64 a5,.int .i64 a6] rfl rfl th4 (by kernel_rfl) (by simp[Value.oneCell']) ?_;refine hK.out _ _ (fun h=>absurd h (by decide)) ?_;clear hK K;(try simp only[Act.put]);refine lO 18 rfl (by kernel_rfl) (fun K hK=>?_);go_simp;refine hK.out _ _ (fun h=>absurd h (by decide)) ?_;clear hK K;(try simp only[Act.put,sq]);refine aPx (by kernel_rfl) ?_ _;(try simp only[Act.put,sq]);have hb34:Below w3.heap.size w3 w4:=((Below.refl _ _).alloc (Nat.le_refl _) _).trans (hB1.mono (by simp));have R9:=lhid (World.rangeAt_setCells_same w4 w3.heap.size 0 [.int .i64 a1,.string (bs a2),.string (bs a3),.int .i64 a4,.int .i64 a5,.int .i64 a6] th4);have R5:Hid (Below (w.heap.size+1) (w.alloc (.cells #[.int .i64 0,.string { data:=#[] },.string { data:=#[] },.int .i64 0,.int .i64 0,.int .i64 0] 116)) (w4.setCells w3.heap.size 0 [.int .i64 a1,.string (bs a2),.string (bs a3),.int .i64 a4,.int .i64 a5,.int .i64 a6])):=lhid (HB13.out.trans ((tF hb34 (Nat.le_refl _) _ _).mono (by omega)));clear hS1 hB0 hB1 th4 th5 hb34;(go_wp2_with fail);go_meet;exact⟨rfl,R9.out,R5.out⟩
       case rest=>
        obtain⟨rfl,hr9,hbx⟩:=hcut;have f0:=hr9 0 _ rfl;have f1:=hr9 1 _ rfl;have f2:=hr9 2 _ rfl;have f3:=hr9 3 _ rfl;have f4:=hr9 4 _ rfl;have f5:=hr9 5 _ rfl;simp only[Nat.zero_add] at f0 f1 f2 f3 f4 f5;have hcx:∀ o,wc.cell? ⟨w.heap.size,o,none⟩=(w.alloc (.cells #[.int .i64 0,.string { data:=#[] },.string { data:=#[] },.int .i64 0,.int .i64 0,.int .i64 0] 116)).cell? ⟨w.heap.size,o,none⟩:=fun o=>hbx.cell (p:=⟨w.heap.size,o,none⟩) (by show w.heap.size<w.heap.size+1;omega);have hfx:∀ o,wc.frozen? ⟨w.heap.size,o,none⟩=(w.alloc (.cells #[.int .i64 0,.string { data:=#[] },.string { data:=#[] },.int .i64 0,.int .i64 0,.int .i64 0] 116)).frozen? ⟨w.heap.size,o,none⟩:=fun o=>hbx.frozen (p:=⟨w.heap.size,o,none⟩) (by show w.heap.size<w.heap.size+1;omega);have HBX:Hid (Below w.heap.size w wc):=lhid (((Below.refl _ _).alloc (Nat.le_refl _) _).trans (hbx.mono (by omega)));clear hr9 hbx hc1 hf1 hc2 hf2 hc3 hf3 c0 c1 c2 c3 d1 d2 d3;go_wp21;refine bodyPost_ret ?_ rfl ⟨rfl,?_⟩
        ·simp[results,Tryz.results88,go_sem,hcx,evV];try rfl
        ·have hbf:=HBX.out
         (repeat' (first | (with_reducible exact Below.refl _ _) | (with_reducible assumption) | (refine aB ?_ (by with_reducible assumption)) | (with_reducible refine Below.setCell ?_ ?_ _) | (with_reducible refine Below.alloc ?_ ?_ _) | (with_reducible refine Below.drew ?_) | (with_reducible refine below_drewN ?_ _) | omega | (simp;done) | (simp;omega)))
    ·have hmd:decide (m=4)=false:=decide_eq_false hm4;have hmn:((m:Int) != 4)=true:=(by simp;omega);have HR:Hid (R=(kE,false,5)):=lhid (by rw[HF.out];simp only[if_true,hmd,Bool.false_and,Bool.and_false]);rw[HR.out];clear HF HR hm4 hmd;go_enter Tryz.func88,Tryz.ntmps88;(go_wp2_with fail);refine(HW.out _ bes).mono ?_;rintro e w1 ⟨v,rfl,hw1,hb1⟩;obtain⟨p,cap,rfl,hcw,-⟩:=hw1;have T1:=bI T0.out hb1;obtain⟨hc1,hf1⟩:=dF hb1;have hz1:=hb1.size;simp at hz1;have hl1:w.heap.size<w1.heap.size:=(by omega);have hbx1:Below w.heap.size w w1:=bes;obtain⟨g,rfl,c0,-⟩:=hcw 0 (by rw[HLn.out];omega);rw[HL0.out,Nat.zero_mul] at c0;have hg:g<w1.heap.size:=World.block_lt_of_cell? w1 _ c0;rw[HLn.out];clear hcw;(go_wp2_with fail);refine(HK.out _ hbx1).mono ?_;rintro e wk ⟨rfl,rfl⟩;(go_wp2_with fail);refine(HLg.out _).mono ?_;rintro e wl ⟨rfl,rfl⟩;go_wp21;refine bodyPost_ret ?_ rfl ⟨rfl,?_⟩
     ·simp[results,Tryz.results88,go_sem,hc1,evV,kE];try rfl
     ·exact bes
end
end Go.Proofs.YtdfegfagedeilaaGreatDoor
