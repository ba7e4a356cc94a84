/-
  value.Less walked, and the order that value.Sorted hands to the sort: what they return, that they leave all memory that was there as it was, and that they only draw on. No conditions.
-/
import Derived.Test.YtdfegfagedeilaaGreatDoorYNj
namespace Go.Proofs.YtdfegfagedeilaaGreatDoor
open Go.RowKit Go.Lib Go.Sort
attribute [local go_sem] aJn oU wY pG aQk aAw oT yA qZ
def nW (w w':World):Prop:=Below w.heap.size w w'∧w.drawn≤w'.drawn
theorem nW.form {w w':World} (h:nW w w'):∃ q os,w'=grow (w.drewN q) os:=by
 obtain⟨hb,hd⟩:=h;refine⟨w'.drawn-w.drawn,w'.heap.extract w.heap.size w'.heap.size,?_⟩
 have e1:w'.heap=w.heap++w'.heap.extract w.heap.size w'.heap.size:=by
  apply Array.ext_getElem?;intro i;rw[Array.getElem?_append];have hs:=hb.size;split
  ·rename_i hi;exact hb.block i hi
  ·rename_i hi;rw[Array.getElem?_extract];split
   ·congr 1;omega
   ·exact Array.getElem?_eq_none (by omega)
 have e2:w'.drawn=w.drawn+(w'.drawn-w.drawn):=(by omega);obtain⟨ho,ht,hp,-,-⟩:=hb;cases w';simp only at *;unfold grow World.drewN;simp only[World.mk.injEq];exact⟨e1,ht,e2,ho,hp⟩
theorem wR (k n:Int) (w:World):Calls Tryz.prog 78 #[.agg #[.int .i64 k,.int .i64 n]] w fun e w'=>e=.returned (.bool (kW k n))∧nW w w':=by
 rcases qL k n with ⟨rfl,h⟩ | ⟨rfl,rfl,h⟩ | ⟨rfl,rfl,h⟩ | ⟨rfl,h1,h2,h⟩ | ⟨rfl,h1,h2,h⟩ | ⟨h1,h2,h3,h4,h⟩<;>rw[h]<;>clear h
 all_goals
  go_enter Tryz.func78,Tryz.ntmps78
  go_wp2
  go_ret;exact⟨rfl,by go_grown,Nat.le_refl _⟩
def mX (k n:Int):Value:=if k=1 then .iface 2 (.int .i64 n) else if k=2 then .iface 166 (.agg #[]) else .nilIface
theorem aNu (k n:Int) (w:World):Calls Tryz.prog 97 #[.agg #[.int .i64 k,.int .i64 n]] w fun e w'=>e=.returned (.agg #[mX k n])∧nW w w':=by
 have hc:(k=1∧mX k n=.iface 2 (.int .i64 n))∨(k=2∧mX k n=.iface 166 (.agg #[]))∨((k==1)=false∧(k==2)=false∧mX k n=.nilIface):=by
  by_cases h1:k=1
  ·exact .inl ⟨h1,by simp[mX,h1]⟩
  ·by_cases h2:k=2
   ·exact .inr (.inl ⟨h2,by simp[mX,h2]⟩)
   ·exact .inr (.inr ⟨by simpa using h1,by simpa using h2,by simp[mX,h1,h2]⟩)
 rcases hc with ⟨rfl,h⟩ | ⟨rfl,h⟩ | ⟨h1,h2,h⟩<;>rw[h]<;>clear h
 all_goals
  go_enter Tryz.func97,Tryz.ntmps97
  go_wp2
  go_returns;exact⟨rfl,by go_grown,Nat.le_refl _⟩
theorem aDt (n:Int) (w:World):Calls Tryz.prog 153 #[.agg #[.iface 2 (.int .i64 n)]] w fun e w'=>e=.returned (.int .i64 n)∧nW w w':=by
 go_enter Tryz.func153,Tryz.ntmps153
 go_wp2
 go_ret;exact⟨rfl,by go_grown,Nat.le_refl _⟩
theorem sQ (v:Value) (q:Int) (hv:(v=.nilIface∧q=0)∨(∃ n,v=.iface 2 (.int .i64 n)∧q=1)∨(v=.iface 166 (.agg #[])∧q=2)) (w:World):Calls Tryz.prog 152 #[.agg #[v]] w fun e w'=>e=.returned (.tuple #[.int .i64 q,.bool true])∧nW w w':=by
 rcases hv with ⟨rfl,rfl⟩ | ⟨n,rfl,rfl⟩ | ⟨rfl,rfl⟩
 all_goals
  go_enter Tryz.func152,Tryz.ntmps152
  go_wp2
  go_returns;exact⟨rfl,by go_grown,Nat.le_refl _⟩
set_option maxRecDepth 100000 in
set_option maxHeartbeats 4000000 in
theorem aQp (n n':Int) (w:World):Calls Tryz.prog 126 #[.agg #[.iface 2 (.int .i64 n)],.agg #[.iface 2 (.int .i64 n')]] w fun e w'=>e=.returned (.bool (decide (n<n')))∧nW w w':=by
 have HR1:=lhid (sQ (.iface 2 (.int .i64 n)) 1 (.inr (.inl ⟨n,rfl,rfl⟩)));have HR2:=lhid (sQ (.iface 2 (.int .i64 n')) 1 (.inr (.inl ⟨n',rfl,rfl⟩)));have HM1:=lhid (aDt n);have HM2:=lhid (aDt n');have HAL:=lhid (((Below.refl w.heap.size w).alloc (Nat.le_refl _) (.cells #[.iface 2 (.int .i64 n)] 138)).alloc (by simp) (.cells #[.iface 2 (.int .i64 n')] 138));have HBX:=lhid ((Blk.new w 138 [.iface 2 (.int .i64 n)]).alloc (.cells #[.iface 2 (.int .i64 n')] 138));have hbu:=Blk.new (w.alloc (.cells #[.iface 2 (.int .i64 n)] 138)) 138 [.iface 2 (.int .i64 n')];simp only[World.size_alloc] at hbu;have HBU:=lhid hbu;clear hbu;go_enter Tryz.func126,Tryz.ntmps126;(go_upto_region 1 with fail);obtain⟨W0,hW0⟩:∃ q,(w.alloc (.cells #[.iface 2 (.int .i64 n)] 138)).alloc (.cells #[.iface 2 (.int .i64 n')] 138)=q:=⟨_,rfl⟩;have HD0:Hid (W0.drawn=w.drawn):=lhid (by rw[←hW0];rfl);rw[hW0] at HAL HBX HBU ⊢;clear hW0;have x1:=HBX.out.cell 0 rfl;(go_wp2_with fail);refine(HR1.out _).mono ?_;rintro e w1 ⟨rfl,hb1,hd1⟩;have HB1:=lhid (aB HAL.out hb1);have HX1:=lhid (HBX.out.later hb1);have HU1:=lhid (HBU.out.later hb1);clear x1 hb1;have x2:=HU1.out.cell 0 rfl;(go_wp2_with fail);refine(HR2.out _).mono ?_;rintro e W1 ⟨rfl,hb2,hd2⟩;have HB2:=lhid (aB HB1.out hb2);have HX2:=lhid (HX1.out.later hb2);have HU2:=lhid (HU1.out.later hb2);clear x2 hb2;have HS:Hid (∀ w',Below W1.heap.size W1 w'→w'.cell? ⟨w.heap.size,0,none⟩=some (.iface 2 (.int .i64 n))∧w'.cell? ⟨w.heap.size+1,0,none⟩=some (.iface 2 (.int .i64 n'))∧Below W1.heap.size W1 w'):=lhid (fun w' hb=>⟨(HX2.out.later hb).cell 0 rfl,(HU2.out.later hb).cell 0 rfl,hb⟩);(go_upto_region 7 with fail);refine wpk HS [] (by kernel_rfl) fun hB0 hS0=>?_;refine wO 0 ?_;refine wO 1 ?_;refine wO 2 ?_;refine wT 3 10 hS0 ?_;refine wT 5 10 hS0 ?_;refine won 4 rfl fun K hK=>?_;go_simp;refine(HM1.out _).mono ?_;rintro e w1 ⟨rfl,hb1,hd1⟩;have hB1:=aB hB0 hb1;have hS1:=HS.out _ hB1;refine hK.out _ _ (fun _ _=>hS1) ?_;clear hK K hS0;(try simp only[Act.put,sq]);refine won 6 rfl fun K hK=>?_;go_simp;refine(HM2.out _).mono ?_;rintro e w2 ⟨rfl,hb2,hd2⟩;have hB2:=aB hB1 hb2;have hS2:=HS.out _ hB2;refine hK.out _ _ (fun _ _=>hS2) ?_;clear hK K hS1;(try simp only[Act.put,sq]);refine wO 7 ?_;refine wO 8 ?_;refine wO 9 ?_;refine wD ?_;have hdw:W1.drawn≤W1.drew.drawn:=Nat.le_succ _;(go_wp2_with fail);go_ret;exact⟨rfl,aB HB2.out hB2,by have:=HD0.out;omega⟩
set_option maxRecDepth 100000 in
set_option maxHeartbeats 4000000 in
theorem aLu (v u:Value) (q q':Int) (hv:(v=.nilIface∧q=0)∨(∃ n,v=.iface 2 (.int .i64 n)∧q=1)∨(v=.iface 166 (.agg #[])∧q=2)) (hu:(u=.nilIface∧q'=0)∨(∃ n,u=.iface 2 (.int .i64 n)∧q'=1)∨(u=.iface 166 (.agg #[])∧q'=2)) (hne:¬(q=1∧q'=1)) (w:World) :
  Calls Tryz.prog 126 #[.agg #[v],.agg #[u]] w fun e w'=>e=.returned (.bool (decide (q<q')))∧nW w w':=by
 have HR1:=lhid (sQ v q hv);have HR2:=lhid (sQ u q' hu);have hq:(q=0∨q=1∨q=2):=(by rcases hv with ⟨-,h⟩ | ⟨_,-,h⟩ | ⟨-,h⟩<;>simp[h]);have hq':(q'=0∨q'=1∨q'=2):=(by rcases hu with ⟨-,h⟩ | ⟨_,-,h⟩ | ⟨-,h⟩<;>simp[h]);have hv1:v.oneCell'=true:=(by rcases hv with ⟨rfl,-⟩ | ⟨_,rfl,-⟩ | ⟨rfl,-⟩<;>rfl);have hu1:u.oneCell'=true:=(by rcases hu with ⟨rfl,-⟩ | ⟨_,rfl,-⟩ | ⟨rfl,-⟩<;>rfl);clear hv hu;have HAL:=lhid (((Below.refl w.heap.size w).alloc (Nat.le_refl _) (.cells #[v] 138)).alloc (by simp) (.cells #[u] 138));have HBX:=lhid ((Blk.new w 138 [v]).alloc (.cells #[u] 138));have hbu:=Blk.new (w.alloc (.cells #[v] 138)) 138 [u];simp only[World.size_alloc] at hbu;have HBU:=lhid hbu;clear hbu;rcases hq with rfl | rfl | rfl<;>rcases hq' with rfl | rfl | rfl
 all_goals
  first
   | exact absurd ⟨rfl,rfl⟩ hne
   | (clear hne
      go_enter Tryz.func126,Tryz.ntmps126;(go_upto_region 1 with fail);obtain⟨W0,hW0⟩:∃ q,(w.alloc (.cells #[v] 138)).alloc (.cells #[u] 138)=q:=⟨_,rfl⟩;have HD0:Hid (W0.drawn=w.drawn):=lhid (by rw[←hW0];rfl);rw[hW0] at HAL HBX HBU ⊢;clear hW0;have x1:=HBX.out.cell 0 rfl;(go_wp2_with fail);refine(HR1.out _).mono ?_;rintro e w1 ⟨rfl,hb1,hd1⟩;have HB1:=lhid (aB HAL.out hb1);have HU1:=lhid (HBU.out.later hb1);clear x1 hb1;have x2:=HU1.out.cell 0 rfl;(go_wp2_with fail);refine(HR2.out _).mono ?_;rintro e W1 ⟨rfl,hb2,hd2⟩;have HB2:=lhid (aB HB1.out hb2);clear x2 hb2;go_wp2_with fail
      first
       | (go_ret;exact⟨rfl,HB2.out,by have:=HD0.out;omega⟩)
       | (go_quiet (fail);go_wp2;go_ret;exact⟨rfl,Go.below_drewN HB2.out _,by have:=HD0.out;show w.drawn≤W1.drawn+_;omega⟩))
def oE (a b:bZ):Bool:=okV a&&okV b&&ltV a b
theorem aLt (a b:bZ) (ha:okV a=true) (hb:okV b=true) (w:World):Calls Tryz.prog 126 #[.agg #[mX a.1 a.2],.agg #[mX b.1 b.2]] w fun e w'=>e=.returned (.bool (ltV a b))∧nW w w':=by
 rw[aVj] at ha hb;obtain⟨k,n⟩:=a;obtain⟨k',n'⟩:=b;simp only at ha hb ⊢;by_cases h1:k=1∧k'=1
 ·obtain⟨rfl,rfl⟩:=h1;have e1:∀ m,mX 1 m=.iface 2 (.int .i64 m):=fun m=>(by simp[mX]);rw[e1,e1,show ltV (1,n) (1,n')=decide (n<n') by simp[ltV]];exact aQp n n' w
 ·have hk:∀ (k n:Int),(k=1∨(k=0∨k=2)∧n=0)→(mX k n=.nilIface∧k=0)∨(∃ n',mX k n=.iface 2 (.int .i64 n')∧k=1)∨(mX k n=.iface 166 (.agg #[])∧k=2):=by
   intro k n h;rcases h with rfl | ⟨rfl | rfl,-⟩
   ·exact .inr (.inl ⟨n,by simp[mX],rfl⟩)
   ·exact .inl ⟨by simp[mX],rfl⟩
   ·exact .inr (.inr ⟨by simp[mX],rfl⟩)
  have e:ltV (k,n) (k',n')=decide (k<k'):=by
   unfold ltV;by_cases h:k=k'
   ·subst h;have:¬k=1:=fun e=>h1 ⟨e,e⟩;simp[this]
   ·simp[h]
  rw[e];exact aLu _ _ k k' (hk k n ha) (hk k' n' hb) h1 w
set_option maxRecDepth 100000 in
set_option maxHeartbeats 4000000 in
theorem zZ (k n k' n':Int) (w:World):Calls Tryz.prog 103 #[.agg #[.int .i64 k,.int .i64 n],.agg #[.int .i64 k',.int .i64 n']] w fun e w'=>e=.returned (.bool (oE (k,n) (k',n')))∧nW w w':=by
 have HM1:=lhid (wR k n);have HM2:=lhid (wR k' n');have HO1:=lhid (aNu k n);have HO2:=lhid (aNu k' n');have HAL:=lhid (((Below.refl w.heap.size w).alloc (Nat.le_refl _) (.cells #[.int .i64 k,.int .i64 n] 57)).alloc (by simp) (.cells #[.int .i64 k',.int .i64 n'] 57));have HBX:=lhid ((Blk.new w 57 [.int .i64 k,.int .i64 n]).alloc (.cells #[.int .i64 k',.int .i64 n'] 57));have hbu:=Blk.new (w.alloc (.cells #[.int .i64 k,.int .i64 n] 57)) 57 [.int .i64 k',.int .i64 n'];simp only[World.size_alloc] at hbu;have HBU:=lhid hbu;clear hbu;go_enter Tryz.func103,Tryz.ntmps103;(go_upto_region 1 with fail);obtain⟨W1,hW1⟩:∃ q,(w.alloc (.cells #[.int .i64 k,.int .i64 n] 57)).alloc (.cells #[.int .i64 k',.int .i64 n'] 57)=q:=⟨_,rfl⟩;have HDr:Hid (W1.drew.drawn=w.drawn+1):=lhid (by rw[←hW1];rfl);rw[hW1] at HAL HBX HBU ⊢;clear hW1;have HS:Hid (∀ w',Below W1.heap.size W1 w'→w'.cell? ⟨w.heap.size,0,none⟩=some (.int .i64 k)∧w'.cell? ⟨w.heap.size,1,none⟩=some (.int .i64 n)∧w'.cell? ⟨w.heap.size+1,0,none⟩=some (.int .i64 k')∧w'.cell? ⟨w.heap.size+1,1,none⟩=some (.int .i64 n')∧Below W1.heap.size W1 w'):=lhid (fun w' hb=>⟨(HBX.out.later hb).cell 0 rfl,(HBX.out.later hb).cell 1 rfl,(HBU.out.later hb).cell 0 rfl,(HBU.out.later hb).cell 1 rfl,hb⟩)
 cases h1:kW k n with
 | false=>
  have HE:Hid (oE (k,n) (k',n')=false):=lhid (by simp[oE,okV,h1]);rw[h1] at HM1;clear h1;refine wpk HS [] (by kernel_rfl) fun hB0 hS0=>?_;refine wO 0 ?_;refine won 1 rfl fun K hK=>?_;go_simp;refine(HM1.out _).mono ?_;rintro e w1 ⟨rfl,hb1,hd1⟩;have hB1:=aB hB0 hb1;have hS1:=HS.out _ hB1;refine hK.out _ _ (fun _ _=>hS1) ?_;clear hK K hS0;(try simp only[Act.put,sq]);refine wO 2 ?_;refine wO 3 ?_;refine wO 4 ?_;refine wO 5 ?_;refine wO 6 ?_;refine wU 7 ?_;refine wU 8 ?_;refine wO 9 ?_;refine wO 10 ?_;refine wO 11 ?_;refine wO 12 ?_;refine wO 13 ?_;refine wD ?_;have hdw:w.drawn≤W1.drew.drawn:=(by rw[HDr.out];exact Nat.le_succ _);(go_wp2_with fail);go_ret;exact⟨by rw[HE.out]<;>rfl,aB HAL.out hB1,by omega⟩
 | true=>
  rw[h1] at HM1
  cases h2:kW k' n' with
  | false=>
   have HE:Hid (oE (k,n) (k',n')=false):=lhid (by simp[oE,okV,h2]);rw[h2] at HM2;clear h1 h2;refine wpk HS [] (by kernel_rfl) fun hB0 hS0=>?_;refine wO 0 ?_;refine won 1 rfl fun K hK=>?_;go_simp;refine(HM1.out _).mono ?_;rintro e w1 ⟨rfl,hb1,hd1⟩;have hB1:=aB hB0 hb1;have hS1:=HS.out _ hB1;refine hK.out _ _ (fun _ _=>hS1) ?_;clear hK K hS0;(try simp only[Act.put,sq]);refine wO 2 ?_;refine wO 3 ?_;refine won 4 rfl fun K hK=>?_;go_simp;refine(HM2.out _).mono ?_;rintro e w2 ⟨rfl,hb2,hd2⟩;have hB2:=aB hB1 hb2;have hS2:=HS.out _ hB2;refine hK.out _ _ (fun _ _=>hS2) ?_;clear hK K hS1;(try simp only[Act.put,sq]);refine wO 5 ?_;refine wO 6 ?_;refine wU 7 ?_;refine wU 8 ?_;refine wO 9 ?_;refine wO 10 ?_;refine wO 11 ?_;refine wO 12 ?_;refine wO 13 ?_;refine wD ?_;have hdw:w.drawn≤W1.drew.drawn:=(by rw[HDr.out];exact Nat.le_succ _);(go_wp2_with fail);go_ret;exact⟨by rw[HE.out]<;>rfl,aB HAL.out hB2,by omega⟩
  | true=>
   have HE:Hid (oE (k,n) (k',n')=ltV (k,n) (k',n')):=lhid (by simp[oE,okV,h1,h2]);have HL:=lhid (aLt (k,n) (k',n') h1 h2);rw[h2] at HM2;clear h1 h2;obtain⟨x,hx⟩:∃ x,ltV (k,n) (k',n')=x:=⟨_,rfl⟩;rw[hx] at HL HE;clear hx;dsimp only at HL;refine wpk HS [] (by kernel_rfl) fun hB0 hS0=>?_;refine wO 0 ?_;refine won 1 rfl fun K hK=>?_;go_simp;refine(HM1.out _).mono ?_;rintro e w1 ⟨rfl,hb1,hd1⟩;have hB1:=aB hB0 hb1;have hS1:=HS.out _ hB1;refine hK.out _ _ (fun _ _=>hS1) ?_;clear hK K hS0;(try simp only[Act.put,sq]);refine wO 2 ?_;refine wO 3 ?_;refine won 4 rfl fun K hK=>?_;go_simp;refine(HM2.out _).mono ?_;rintro e w2 ⟨rfl,hb2,hd2⟩;have hB2:=aB hB1 hb2;have hS2:=HS.out _ hB2;refine hK.out _ _ (fun _ _=>hS2) ?_;clear hK K hS1;(try simp only[Act.put,sq]);refine wO 5 ?_;refine wO 6 ?_;refine wT 7 14 hS2 ?_;refine wT 9 14 hS2 ?_;refine won 8 rfl fun K hK=>?_;go_simp;refine(HO1.out _).mono ?_;rintro e w3 ⟨rfl,hb3,hd3⟩;have hB3:=aB hB2 hb3;have hS3:=HS.out _ hB3;refine hK.out _ _ (fun _ _=>hS3) ?_;clear hK K hS2;(try simp only[Act.put,sq]);refine won 10 rfl fun K hK=>?_;go_simp;refine(HO2.out _).mono ?_;rintro e w4 ⟨rfl,hb4,hd4⟩;have hB4:=aB hB3 hb4;have hS4:=HS.out _ hB4;refine hK.out _ _ (fun _ _=>hS4) ?_;clear hK K hS3;(try simp only[Act.put,sq]);refine won 11 rfl fun K hK=>?_;go_simp;refine(HL.out _).mono ?_;rintro e w5 ⟨rfl,hb5,hd5⟩;have hB5:=aB hB4 hb5;have hS5:=HS.out _ hB5;refine hK.out _ _ (fun _ _=>hS5) ?_;clear hK K hS4;(try simp only[Act.put,sq]);refine wO 12 ?_;refine wO 13 ?_;refine wD ?_;have hdw:w.drawn≤W1.drew.drawn:=(by rw[HDr.out];exact Nat.le_succ _);(go_wp2_with fail);go_ret;exact⟨by rw[HE.out]<;>rfl,aB HAL.out hB5,by omega⟩
def bBy (a b:bZ):Int:=if ltV a b=true then -1 else if ltV b a=true then 1 else 0
set_option maxRecDepth 100000 in
set_option maxHeartbeats 4000000 in
theorem aWp (a b:bZ) (ha:okV a=true) (hb:okV b=true) (w:World):Calls Tryz.prog 102 #[.agg #[.int .i64 a.1,.int .i64 a.2],.agg #[.int .i64 b.1,.int .i64 b.2]] w fun e w'=>e=.returned (.int .i64 (bBy a b))∧nW w w':=by
 have e1:oE a b=ltV a b:=(by simp[oE,ha,hb]);have e2:oE b a=ltV b a:=(by simp[oE,ha,hb]);have H1:=zZ a.1 a.2 b.1 b.2;have H2:=zZ b.1 b.2 a.1 a.2;rw[show((a.1,a.2):bZ)=a from rfl,show((b.1,b.2):bZ)=b from rfl] at H1 H2;rw[e1] at H1;rw[e2] at H2;clear e1 e2 ha hb;obtain⟨k,n⟩:=a;obtain⟨k',n'⟩:=b;dsimp only at H1 H2 ⊢;have HAL:=lhid (((Below.refl w.heap.size w).alloc (Nat.le_refl _) (.cells #[.int .i64 k,.int .i64 n] 57)).alloc (by simp) (.cells #[.int .i64 k',.int .i64 n'] 57));have HBX:=lhid ((Blk.new w 57 [.int .i64 k,.int .i64 n]).alloc (.cells #[.int .i64 k',.int .i64 n'] 57));have hbu:=Blk.new (w.alloc (.cells #[.int .i64 k,.int .i64 n] 57)) 57 [.int .i64 k',.int .i64 n'];simp only[World.size_alloc] at hbu;have HBU:=lhid hbu;clear hbu;obtain⟨p,hp⟩:∃ p,bBy (k,n) (k',n')=p:=⟨_,rfl⟩;have hp':=hp;unfold bBy at hp;rw[hp'];clear hp';obtain⟨x,hx⟩:∃ x,ltV (k,n) (k',n')=x:=⟨_,rfl⟩;obtain⟨y,hy⟩:∃ y,ltV (k',n') (k,n)=y:=⟨_,rfl⟩;rw[hx] at H1 hp;rw[hy] at H2 hp;have HL1:=lhid H1;have HL2:=lhid H2;have HP:=lhid hp;clear H1 H2 hx hy hp;go_enter Tryz.func102,Tryz.ntmps102;(go_upto_region 1 with fail);obtain⟨W0,hW0⟩:∃ q,(w.alloc (.cells #[.int .i64 k,.int .i64 n] 57)).alloc (.cells #[.int .i64 k',.int .i64 n'] 57)=q:=⟨_,rfl⟩;have HD0:Hid (W0.drawn=w.drawn):=lhid (by rw[←hW0];rfl);rw[hW0] at HAL HBX HBU ⊢;clear hW0;have x0:=HBX.out.cell 0 rfl;have x1:=HBX.out.cell 1 rfl;have y0:=HBU.out.cell 0 rfl;have y1:=HBU.out.cell 1 rfl;(go_wp2_with fail);refine(HL1.out _).mono ?_;rintro e w1 ⟨rfl,hb1,hd1⟩;have HB1:=lhid (aB HAL.out hb1);have HX1:=lhid (HBX.out.later hb1);have HU1:=lhid (HBU.out.later hb1);clear x0 x1 y0 y1 hb1
 cases x with
 | true=>
  (go_wp2_with fail);go_ret;exact⟨by rw[←HP.out]<;>rfl,HB1.out,by have:=HD0.out;omega⟩
 | false=>
  have x0:=HX1.out.cell 0 rfl;have x1:=HX1.out.cell 1 rfl;have y0:=HU1.out.cell 0 rfl;have y1:=HU1.out.cell 1 rfl;(go_wp2_with fail);refine(HL2.out _).mono ?_;rintro e w2 ⟨rfl,hb2,hd2⟩;have HB2:=lhid (aB HB1.out hb2);clear x0 x1 y0 y1 hb2
  cases y with
  | true=>
   (go_wp2_with fail);go_ret;exact⟨by rw[←HP.out]<;>rfl,HB2.out,by have:=HD0.out;omega⟩
  | false=>
   (go_wp2_with fail);go_ret;exact⟨by rw[←HP.out]<;>rfl,HB2.out,by have:=HD0.out;omega⟩
end Go.Proofs.YtdfegfagedeilaaGreatDoor
