/-
  Several texts of these walks, joined and squeezed (as templates they lie in wip/tpl): WlV WlY.
-/
import Derived.Test.YtdfegfagedeilaaGreatDoorYxWlS
import Derived.Test.YtdfegfagedeilaaGreatDoorYxWlN
import Derived.Test.YtdfegfagedeilaaGreatDoorYxWlT
namespace Go.Proofs.YtdfegfagedeilaaGreatDoor
section
open Go.RowKit Go.Lib
theorem bQw:∀ i k,aBq (i+1) k=aBq i k++[(k / 2 ^ i % 2==1)]
 | 0,k=>by simp[aBq]
 | i+1,k=>by
  rw[aBq,bQw i (k / 2),aBq,List.cons_append,Nat.div_div_eq_div_mul,Nat.pow_succ,Nat.mul_comm 2]
def bQx (M k i:Nat):List Bool:=aBq i k++List.replicate (M-i) false
theorem bRj (M k i:Nat) (h:i≤M):(bQx M k i).length=M:=by unfold bQx;rw[List.length_append,aWg,List.length_replicate];omega
theorem bRd (M k i:Nat) (h:i<M):(bQx M k i).set i (k / 2 ^ i % 2==1)=bQx M k (i+1):=by
 unfold bQx;rw[bQw,List.set_append,if_neg (by rw[aWg];omega),aWg,Nat.sub_self,show M-i=M-(i+1)+1 by omega,List.replicate_succ,List.append_assoc];rfl
theorem bRg (M k:Nat):bQx M k M=aBq M k:=by unfold bQx;rw[Nat.sub_self];simp
theorem bRp (W:World) (n:Nat):Blk (W.alloc (.cells (madeCells #[.bool false] n) 4)) W.heap.size 4 (bG (List.replicate n false)):=by
 have e:bG (List.replicate n false)=(madeCells #[Value.bool false] n).toList:=by
  rw[toList_madeCells_one];simp[bG]
 rw[e];exact Blk.new W 4 _
theorem bRo {w:World} {g:Nat} {L:List Bool} (h:Blk w g 4 (bG L)):jA w (some ⟨g,0,none⟩) L:=fun j hj=>⟨g,rfl,h.cell _ (aBt L j hj)⟩
def bQy (h:aI) (M k:Nat):Nat:=nN (((List.range k).map fun j=>dI (bD h (aBq M j))).sum)
theorem bRa (h:aI) (M k:Nat):min (bQy h M k+nN (dI (bD h (aBq M k)))) 1000000=bQy h M (k+1):=by
 unfold bQy;rw[List.range_succ,List.map_append,List.sum_append];simp only[List.map_cons,List.map_nil,List.sum_cons,List.sum_nil,Nat.add_zero];rw[←bMu, ←bLy];rfl
theorem bRb {h:aI} (hm:cZ h=true):bQy h (cA aP h).length (2 ^ (cA aP h).length)=bMy h:=by
 unfold bQy bMy;rw[if_pos hm,aIx _ (fun c=>dI (bD h c)), ←bLl hm,bGu]
theorem bRn (h:aI) (M k:Nat):bQy h M k≤1000000:=by unfold bQy nN;omega
def bQz (LL:List (List aR)) (i:Nat):Nat:=nN (dI (LL.take i))
theorem bRk (LL:List (List aR)) (i:Nat) (hi:i<LL.length):min (bQz LL i*(LL.getD i []).length) 1000000=bQz LL (i+1):=by
 unfold bQz;rw[zY LL [] i hi,size_append];show nN (nN _*_)=_;rw[bGy];simp[dI]
theorem bRm (LL:List (List aR)) (i:Nat):bQz LL i≤1000000:=by unfold bQz nN;omega
theorem bRl (LL:List (List aR)):bQz LL LL.length=nN (dI LL):=by unfold bQz;rw[List.take_length]
set_option maxRecDepth 100000 in
set_option maxHeartbeats 8000000 in
theorem bRc {w:World} {v:Value} {h:aI} (hv:cJ w v h) (hm:cU h) (hmm:cZ h=true) (h6:(cA aP h).length≤6) :
  Calls Tryz.prog 16 #[v] w fun e w'=>e=.returned (.int .i64 (bMy h:Nat))∧Below w.heap.size w w':=by
 have H0:=lhid hv;obtain⟨v0,v1,v2,rfl,⟨p0,c0,rfl,-⟩,⟨p1,c1,rfl,-⟩,⟨p2,c2,rfl,-⟩⟩:=hv;have hal:=(Below.refl w.heap.size w).alloc (Nat.le_refl _) (.cells #[.slice p0 h.1.length c0,.slice p1 h.2.1.length c1,.slice p2 h.2.2.length c2] 25);have hbx:=Blk.new w 25 [.slice p0 h.1.length c0,.slice p1 h.2.1.length c1,.slice p2 h.2.2.length c2];have hin:=bUv (H0.out.below hal) hm;have e0:cA aP h=jH aP h.2.2 h.2.2.length:=(by unfold cA;rw[if_pos hmm]);rw[←e0] at hin;have HIn:=lhid hin;have HBg0:=lhid (fun c (hc:c.length=(cA aP h).length) w' (hb:Below w.heap.size w w') gb cb (hh:jA w' (some ⟨gb,0,none⟩) c)=>bPz (cb:=cb) c (H0.out.below hb) hm hmm hh (by rw[hc,jZ _ hmm,uR]))
 have HTr0:=lhid (fun c (hc:c.length=(cA aP h).length) w' u (hb:Below w.heap.size w w') (hu:lI w' u (sA h c))=>bPc (H0.out.below hb) hu hm ⟨by show c.length≤_;omega,by
  show((bD h c).map _).length≤_;rw[List.length_map,qU];have:=aDn hmm
  omega⟩ hmm (by show c.length=_;rw[hc,jZ _ hmm,uR]))
 have HAll:=lhid (bRb hmm);have HSn:=lhid (bRa h)
 have HBig:Hid (∀ c,(bD h c).length≤800∧∀ n,n<(bD h c).length→((bD h c).getD n []).length≤1002):=lhid (fun c=>⟨by rw[qU];exact aDn hmm,fun n hn=>by
  have e:(bD h c).getD n []∈bD h c:=wB _ n [] hn;obtain⟨p,-,e2⟩:=List.mem_map.1 e;rw[←e2]
  exact bJb hm p _⟩)
 obtain⟨M,hM⟩:∃ q,(cA aP h).length=q:=⟨_,rfl⟩;rw[hM] at HBg0 HTr0 HAll h6
 have hin2:Hid (Calls Tryz.prog 26 #[.agg #[.slice p0 h.1.length c0,.slice p1 h.2.1.length c1,.slice p2 h.2.2.length c2]] (w.alloc (.cells #[.slice p0 h.1.length c0,.slice p1 h.2.1.length c1,.slice p2 h.2.2.length c2] 25)) fun e w2=>(∃ p c,e=.returned (.slice p M c))∧Below (w.alloc (.cells #[.slice p0 h.1.length c0,.slice p1 h.2.1.length c1,.slice p2 h.2.2.length c2] 25)).heap.size (w.alloc (.cells #[.slice p0 h.1.length c0,.slice p1 h.2.1.length c1,.slice p2 h.2.2.length c2] 25)) w2):=lhid (HIn.out.mono fun e w2 ⟨v',h1,h2,h3⟩=>⟨by
  obtain⟨p,c,h4,-⟩:=h2
  exact⟨p,c,by rw[h1,h4,hM]⟩,h3⟩)
 have hmk:=aKa M (by omega);have HAL:=lhid hal;have HBX:=lhid hbx
 have hpw:2 ^ M≤64:=by
  have h1:2 ^ M≤2 ^ 6:=Nat.pow_le_pow_right (by omega) h6;exact h1
 clear H0 hm hal hbx hin e0 HIn hM hmm;go_enter Tryz.func16,Tryz.ntmps16;(go_upto_region 1 with fail);obtain⟨W1,hW1⟩:∃ q,w.alloc (.cells #[.slice p0 h.1.length c0,.slice p1 h.2.1.length c1,.slice p2 h.2.2.length c2] 25)=q:=⟨_,rfl⟩;rw[hW1] at HAL HBX hin2 ⊢;clear hW1;obtain⟨gh,hgh⟩:∃ q,w.heap.size=q:=⟨_,rfl⟩;(try simp only[hgh]);rw[hgh] at HBX;clear hgh;have x0:=HBX.out.cell 0 rfl;have x1:=HBX.out.cell 1 rfl;have x2:=HBX.out.cell 2 rfl;have d19:decide ((M:Int) > 19)=false:=(by simp;omega);(go_wp2_with fail);refine hin2.out.mono ?_;rintro e w2 ⟨⟨p4,c4,rfl⟩,hb2⟩;have HB2:=lhid (aB HAL.out hb2);have HBX2:=lhid (HBX.out.later hb2);clear hb2 hin2 HAL HBX x0 x1 x2;(go_wp2_with fail);clear d19
 go_loopw [5,6] (fun s i wr=>∃ a:Nat,a≤M∧i=.int .i64 a∧s=.int .i64 (2 ^ a:Nat)∧wr=w2) (fun _ i _=>M-(intOf i).toNat)
 case atStart=>exact⟨0,Nat.zero_le _,rfl,rfl,rfl⟩
 case round=>
  obtain⟨a,ha,rfl,rfl,hww⟩:=hrel;subst hww;by_cases hlt:a<M
  ·have hpa:2 ^ (a+1)≤64:=Nat.le_trans (Nat.pow_le_pow_right (by omega) (by omega:a+1≤6)) (by decide);obtain⟨P,hP⟩:∃ q,2 ^ a=q:=⟨_,rfl⟩;obtain⟨P2,hP2⟩:∃ q,2 ^ (a+1)=q:=⟨_,rfl⟩;have hpp:P2=2*P:=(by rw[←hP, ←hP2,Nat.pow_succ];omega);rw[hP2] at hpa;have HP2:=lhid hP2;have ew:IntKind.i64.wrap (2*(P:Int))=(P2:Int):=(by rw[IntKind.wrap_i64];omega);rw[hP];clear hP hP2 hpp hpw;(go_wp2_with fail);go_roundw
   case rel=>exact⟨a+1,by omega,by go_num,by rw[HP2.out],by first | rfl | trivial⟩
   case measure=>simp[intOf];omega
  ·have hne:a=M:=(by omega);subst hne;obtain⟨PM,hPM⟩:∃ q,2 ^ a=q:=⟨_,rfl⟩;rw[hPM] at hpw HAll;rw[hPM];clear hPM hlt;obtain⟨w2,rfl⟩:∃ q,q=wr:=⟨_,rfl⟩;go_wp2_with fail
   go_loopw [3,7] (fun n i wr=>∃ k:Nat,k≤PM∧i=.int .i64 k∧n=.int .i64 (bQy h a k:Nat)∧Below w2.heap.size w2 wr) (fun _ i _=>PM-(intOf i).toNat)
   case atStart=>exact⟨0,Nat.zero_le _,rfl,by first | rfl | simp[bQy,nN],Below.refl _ _⟩
   case round=>
    obtain⟨k,hk,rfl,rfl,hbw⟩:=hrel;have HBw:=lhid hbw;by_cases hlk:k<PM
    ·have HA3:=lhid (hbw.alloc hbw.size (.cells (madeCells #[.bool false] a) 4));have HC3:=lhid (bRp wr a);have hgcl:w2.heap.size≤wr.heap.size:=hbw.size;have HSk:=lhid (HSn.out a k);have HS1:=lhid (bRn h a k);have HS2:=lhid (bRn h a (k+1));obtain⟨SA,hSA⟩:∃ q,bQy h a k=q:=⟨_,rfl⟩;obtain⟨SB,hSB⟩:∃ q,bQy h a (k+1)=q:=⟨_,rfl⟩;rw[hSA,hSB] at HSk;rw[hSA] at HS1 ⊢;rw[hSB] at HS2;have HSB:=lhid hSB;clear hbw hSA hSB;(go_upto_region 13 with fail);obtain⟨W3,hW3⟩:∃ q,wr.alloc (.cells (madeCells #[.bool false] a) 4)=q:=⟨_,rfl⟩;rw[hW3] at HA3 HC3;(try rw[hW3]);obtain⟨gc,hgc⟩:∃ q,wr.heap.size=q:=⟨_,rfl⟩;rw[hgc] at HC3 hgcl;(try simp only[hgc]);have HGc:=lhid hgcl;clear hW3 hgc hgcl;(go_wp2_with fail);obtain⟨wo,rfl⟩:∃ q,q=wr:=⟨_,rfl⟩
     go_loopw [9,10] (fun x i wx=>∃ j:Nat,j≤a∧i=.int .i64 j∧x=.int .i64 (k / 2 ^ j:Nat)∧Blk wx gc 4 (bG (bQx a k j))∧Below w2.heap.size w2 wx) (fun _ i _=>a-(intOf i).toNat)
     case atStart=>exact⟨0,Nat.zero_le _,rfl,by simp,by simpa [bQx,aBq] using HC3.out,HA3.out⟩
     case round=>
      obtain⟨j,hj,rfl,rfl,hbl,hbw⟩:=hrel;have HBl:=lhid hbl;have HBx:=lhid hbw;by_cases hlj:j<a
      ·have hX64:k / 2 ^ j≤64:=Nat.le_trans (Nat.div_le_self _ _) (by omega);have hX2:k / 2 ^ (j+1)=k / 2 ^ j / 2:=(by rw[Nat.pow_succ,Nat.div_div_eq_div_mul]);have hcl:=hbl.cell j (aBt _ j (by rw[bRj a k j hj];exact hlj));have hfz:=hbl.frozen j;have hnx:=bRd a k j hlj;obtain⟨X,hX⟩:∃ q,k / 2 ^ j=q:=⟨_,rfl⟩;rw[hX] at hX64 hX2 hnx;rw[hX];have er:(X:Int).tmod 2=((X % 2:Nat):Int):=(by rw[Int.tmod_eq_emod_of_nonneg (by omega)];omega);have eq:(X:Int).tdiv 2=((X / 2:Nat):Int):=(by rw[Int.tdiv_eq_ediv_of_nonneg (by omega)];omega);have er2:IntKind.i64.wrap ((X:Int).tmod 2)=((X % 2:Nat):Int):=(by rw[er,IntKind.wrap_i64];omega);have eq2:IntKind.i64.wrap ((X:Int).tdiv 2)=((X / 2:Nat):Int):=(by rw[eq,IntKind.wrap_i64];omega);have HNx:=lhid hnx;have HX2:=lhid hX2;clear hbl hbw hX hnx hX2;by_cases hb:X % 2=1
       ·have eb:((X:Int) % 2==1)=true:=by
         rw[show(X:Int) % 2=1 by omega];rfl
        have HT9:Hid (Blk (wr.setCell ⟨gc,j,none⟩ (.bool true)) gc 4 (bG (bQx a k (j+1)))):=lhid (by
         have h9:=HBl.out.set j (.bool true);rw[←yC] at h9;rw[←HNx.out,show(X % 2==1)=true by simp[hb]]
         exact h9)
        have HB9:Hid (Below w2.heap.size w2 (wr.setCell ⟨gc,j,none⟩ (.bool true))):=lhid (HBx.out.setCell HGc.out _);clear hb;(go_wp2_with fail);go_roundw
        case rel=>exact⟨j+1,by omega,by go_num,by rw[HX2.out]<;>first | rfl | go_num | simp,HT9.out,HB9.out⟩
        case measure=>simp[intOf];omega
       ·have eb:((X:Int) % 2==1)=false:=by
         rw[show(X:Int) % 2=0 by omega];rfl
        have HT9:Hid (Blk (wr.setCell ⟨gc,j,none⟩ (.bool false)) gc 4 (bG (bQx a k (j+1)))):=lhid (by
         have h9:=HBl.out.set j (.bool false);rw[←yC] at h9;rw[←HNx.out,show(X % 2==1)=false by simp[hb]]
         exact h9)
        have HB9:Hid (Below w2.heap.size w2 (wr.setCell ⟨gc,j,none⟩ (.bool false))):=lhid (HBx.out.setCell HGc.out _);clear hb;(go_wp2_with fail);go_roundw
        case rel=>exact⟨j+1,by omega,by go_num,by rw[HX2.out]<;>first | rfl | go_num | simp,HT9.out,HB9.out⟩
        case measure=>simp[intOf];omega
      ·have hje:j=a:=(by omega);subst hje;rw[bRg] at hbl;have hcn:(aBq j k).length=j:=aWg j k;have hbgq:=HBg0.out (aBq j k) hcn;have htrq:=HTr0.out (aBq j k) hcn;have hbig:=HBig.out (aBq j k);rw[hcn] at hbgq;obtain⟨CL,hCL⟩:∃ q,aBq j k=q:=⟨_,rfl⟩;rw[hCL] at hbl hbgq htrq HSk hbig;have HBg:Hid (∀ w',Below wr.heap.size wr w'→Calls Tryz.prog 39 #[.agg #[.slice p0 h.1.length c0,.slice p1 h.2.1.length c1,.slice p2 h.2.2.length c2],.slice (some ⟨gc,0,none⟩) j j] w' fun e w2=>∃ v',e=.returned v'∧lI w2 v' (sA h CL)∧Below w'.heap.size w' w2):=lhid (fun w' hb=>hbgq w' (aB HB2.out (aB hbw hb)) gc j (bRo (hbl.later hb)));have HTr:Hid (∀ w' u,Below wr.heap.size wr w'→lI w' u (sA h CL)→Calls Tryz.prog 23 #[.agg #[.slice p0 h.1.length c0,.slice p1 h.2.1.length c1,.slice p2 h.2.2.length c2],u] w' fun e w2=>∃ v',e=.returned v'∧bOb w2 w'.heap.size v' (bD h CL)∧Below w'.heap.size w' w2):=lhid (fun w' u hb hu=>htrq w' u (aB HB2.out (aB hbw hb)) hu);obtain⟨LL,hLL⟩:∃ q,bD h CL=q:=⟨_,rfl⟩;rw[hLL] at HTr HSk hbig;have HBig2:=lhid hbig;have HBX3:=lhid (HBX2.out.later hbw);have HS:Hid (∀ w',Below wr.heap.size wr w'→w'.cell? ⟨gh,0,none⟩=some (.slice p0 h.1.length c0)∧w'.cell? ⟨gh,1,none⟩=some (.slice p1 h.2.1.length c1)∧w'.cell? ⟨gh,2,none⟩=some (.slice p2 h.2.2.length c2)∧Below wr.heap.size wr w'):=lhid (fun w' hb=>⟨(HBX3.out.later hb).cell 0 rfl,(HBX3.out.later hb).cell 1 rfl,(HBX3.out.later hb).cell 2 rfl,hb⟩);clear hbl hbw hcn hbgq htrq hCL hLL hbig HBl hlj;(go_upto_region 18 with fail);refine wpk HS [] (by kernel_rfl) fun hB0 hS0=>?_;refine wT 0 7 hS0 ?_;refine wT 1 7 hS0 ?_;refine wO 2 ?_;refine won 3 rfl fun K hK=>?_;go_simp;refine(HBg.out _ hB0).mono ?_;rintro e w1 ⟨vb,rfl,hw1,hb1⟩;have hB1:=aB hB0 hb1;have hS1:=HS.out _ hB1;have HW:=lhid hw1;obtain⟨q0,k0,q1,k1,rfl,-,-,-,-⟩:=lY hw1;clear hw1;refine hK.out _ _ (fun _ _=>hS1) ?_;clear hK K hS0;(try simp only[Act.put,sq]);refine won 4 rfl fun K hK=>?_;go_simp;refine(HTr.out _ _ hB1 HW.out).mono ?_;rintro e w2 ⟨vt,rfl,ht2,hb2⟩;have hB2:=aB hB1 hb2;have hS2:=HS.out _ hB2;have HT:=lhid ht2.tries;obtain⟨pt,ct,rfl,-⟩:=ht2.tries.form;clear ht2;refine hK.out _ _ (fun _ _=>hS2) ?_;clear hK K hS1;(try simp only[Act.put,sq]);refine wO 5 ?_;refine wO 6 ?_;refine wD ?_;have HB18:=lhid (aB HBx.out hB2);obtain⟨W18,rfl⟩:∃ q,q=w2:=⟨_,rfl⟩;have hl8:=HBig2.out.1;clear hB2 hB0 hS2 HS HBg HTr HW hB1;go_wp2_with fail
       go_loopw [12,13] (fun s i wx=>∃ n:Nat,n≤LL.length∧i=.int .i64 n∧s=.int .i64 (bQz LL n:Nat)∧wx=W18) (fun _ i _=>LL.length-(intOf i).toNat)
       case atStart=>exact⟨0,Nat.zero_le _,rfl,by first | rfl | simp[bQz,dI,nN],rfl⟩
       case round=>
        obtain⟨n,hn,rfl,rfl,hww⟩:=hrel;subst hww;by_cases hln:n<LL.length
        ·obtain⟨gt,ct',u,eqt,hcu,hvt⟩:=HT.out.get n hln;injection eqt with eqt _ eqt3;subst eqt;subst eqt3
         obtain⟨gu,cu,rfl,-,-⟩:=hvt.at
         have hnx:=bRk LL n hln;have h1:=bRm LL n;have hbg:=HBig2.out.2 n hln;obtain⟨O1,hO1⟩:∃ q,bQz LL n=q:=⟨_,rfl⟩;obtain⟨O2,hO2⟩:∃ q,bQz LL (n+1)=q:=⟨_,rfl⟩;obtain⟨TN,hTN⟩:∃ q,(LL.getD n []).length=q:=⟨_,rfl⟩;rw[hO1,hO2,hTN] at hnx;rw[hO1] at h1 ⊢;rw[hTN] at hbg hcu;have hml:O1*TN≤1000000*1002:=Nat.mul_le_mul h1 hbg;have ec:((O1*TN:Nat):Int)=(O1:Int)*(TN:Int):=(by simp);have ew:IntKind.i64.wrap ((O1:Int)*(TN:Int))=(O1:Int)*(TN:Int):=(by rw[←ec,IntKind.wrap_i64];omega);have em:min ((O1:Int)*(TN:Int)) 1000000=(O2:Int):=by rw[←ec];omega
         have en:(if (1000000:Int)<(O1:Int)*(TN:Int) then (1000000:Int) else (O1:Int)*(TN:Int))=(O2:Int):=by
          rw[←ec];split<;>omega
         have HO2:=lhid hO2;clear hvt hnx hO1 hO2 hTN hml ec;(go_wp2_with fail);go_roundw
         case rel=>exact⟨n+1,by omega,by go_num,by rw[HO2.out],by first | rfl | trivial⟩
         case measure=>simp[intOf];omega
        ·have hne:n=LL.length:=(by omega);subst hne;rw[bRl];have hnx:=HSk.out;have h1:=HS1.out;have h2:=HS2.out;obtain⟨O1,hO1⟩:∃ q,nN (dI LL)=q:=⟨_,rfl⟩;have h3:O1≤1000000:=(by rw[←hO1];unfold nN;omega);rw[hO1] at hnx ⊢;have ew:IntKind.i64.wrap ((SA:Int)+(O1:Int))=(SA:Int)+(O1:Int):=(by rw[IntKind.wrap_i64];omega);have em:min ((SA:Int)+(O1:Int)) 1000000=(SB:Int):=(by omega);have en:(if (1000000:Int)<(SA:Int)+(O1:Int) then (1000000:Int) else (SA:Int)+(O1:Int))=(SB:Int):=by split<;>omega
         clear hO1 hnx;(go_wp2_with fail);go_roundw
         case rel=>exact⟨k+1,by omega,by go_num,by rw[HSB.out],HB18.out⟩
         case measure=>simp[intOf];omega
    ·have hke:k=PM:=(by omega);subst hke;rw[HAll.out];clear hlk hbw;(go_wp2_with fail);go_ret;exact⟨rfl,aB HB2.out HBw.out⟩
end
section
open Go.RowKit Go.Lib
set_option maxRecDepth 100000 in
theorem bSw:wJ [98,101,103,105,110,32,115,10,105,110,102,111,32,115]=(([[115]],[],[(0,3,[])]),0,0):=by decide +kernel
theorem bSs:cU ([[115]],[],[(0,3,[])]):=⟨by decide,by decide,by decide,by decide,by decide,by decide⟩
theorem bSv:yM ([[115]],[],[(0,3,[])])=([false],[]):=by decide +kernel
theorem bSt (b:Bool):nX ([[115]],[],[(0,3,[])]) ([b],[]):=(bQp _ _).1 (by cases b<;>decide +kernel)
theorem bSx (b:Bool):goE aN (bD ([[115]],[],[(0,3,[])])) [b] []=if b then (([],[]),false) else (([true],[]),true):=by cases b<;>decide +kernel
theorem bSz:mB ([[115]],[],[(0,3,[])]) ([false],[])=(([true],[]),true):=(bDs (bSt false)).trans (bSx false)
theorem bSy:mB ([[115]],[],[(0,3,[])]) ([true],[])=(([],[]),false):=(bDs (bSt true)).trans (bSx true)
theorem bSu:bMy ([[115]],[],[(0,3,[])])=2:=by decide +kernel
theorem bTa:tI ([[115]],[],[(0,3,[])])=0:=by decide +kernel
set_option maxRecDepth 100000 in
set_option maxHeartbeats 8000000 in
theorem bTb (w:World) (hT:Lib.Utf8Tabs 1 2 w) (hm:HasMax w) (hE:EvTab w) :
  Calls Tryz.prog 14 #[] w fun e w'=>e=.returned (.bool true)∧Below w.heap.size w w':=by
 have H1:=lhid (bUu [98,101,103,105,110,32,115,10,105,110,102,111,32,115] (by decide) w hT hm hE);rw[bSw] at H1
 have hno:∀ o∈bU ([[115]],[],[(0,3,[])]),-9223372036854775808≤o.2.2.2∧o.2.2.2≤9223372036854775807:=fun o ho=>by
  have e:bU ([[115]],[],[(0,3,[])])=[]:=(by decide);rw[e] at ho;cases ho
 have HFi:=lhid (fun w' v (hv:cJ w' v ([[115]],[],[(0,3,[])])) hT=>bJn hv bSs hno hT);rw[bSv,bTa] at HFi;have HN1:=lhid (fun w' v u (hv:cJ w' v ([[115]],[],[(0,3,[])])) (hu:lI w' u ([false],[])) hT=>bKd hv hu bSs (by decide) hno hT);rw[bSz] at HN1;have HN2:=lhid (fun w' v u (hv:cJ w' v ([[115]],[],[(0,3,[])])) (hu:lI w' u ([true],[])) hT=>bKd hv hu bSs (by decide) hno hT);rw[bSy] at HN2;have HCt:=lhid (fun w' v (hv:cJ w' v ([[115]],[],[(0,3,[])])) hT=>bNx hv bSs hno hT);rw[bSu] at HCt;have HTb:=lhid (fun w' (hb:Below w.heap.size w w')=>Utf8Tabs_below hT hb);clear hT hm hE hno;go_enter Tryz.func14,Tryz.ntmps14;(go_wp2_with fail);refine H1.out.mono ?_;rintro e w1 ⟨hv,rfl,hh,hb1⟩;obtain⟨p0,c0,p1,c1,p2,c2,rfl⟩:=bTy hh;have HV:=lhid hh;have HB1:=lhid hb1;(try dsimp only[List.length_cons,List.length_nil]);clear hh hb1 H1;have HA1:=lhid ((Below.refl w1.heap.size w1).alloc (Nat.le_refl _) (.cells #[.slice p0 1 c0,.slice p1 0 c1,.slice p2 1 c2] 25));have HH:=lhid (Blk.new w1 25 [.slice p0 1 c0,.slice p1 0 c1,.slice p2 1 c2]);(go_upto_region 2 with fail);obtain⟨W1,hW1⟩:∃ q,w1.alloc (.cells #[.slice p0 1 c0,.slice p1 0 c1,.slice p2 1 c2] 25)=q:=⟨_,rfl⟩;have hW1':=hW1;(try dsimp only[List.length_cons,List.length_nil,Nat.zero_add] at hW1');rw[hW1] at HA1 HH;(try rw[hW1']);obtain⟨gh,hgh⟩:∃ q,w1.heap.size=q:=⟨_,rfl⟩;rw[hgh] at HH;(try simp only[hgh]);have HV1:=lhid (HV.out.below HA1.out);have HB2:=lhid (aB HB1.out HA1.out);clear hW1 hW1' hgh HV HB1 HA1;have h0:=HH.out.cell 0 rfl;have h1:=HH.out.cell 1 rfl;have h2:=HH.out.cell 2 rfl;(go_wp2_with fail);refine(HFi.out _ _ HV1.out (HTb.out _ HB2.out)).mono ?_;rintro e w2 ⟨u1,rfl,hu1,hb2⟩;obtain⟨a1,b1,d1,e1,rfl,-,-,-,-⟩:=lY hu1;have HU:=lhid hu1;have HB3:=lhid (aB HB2.out hb2);have HH2:=lhid (HH.out.later hb2);have HV2:=lhid (HV1.out.below hb2);(try dsimp only[List.length_cons,List.length_nil]);clear hu1 hb2 HB2 HH HV1 HFi h0 h1 h2;have HA2:=lhid ((Below.refl w2.heap.size w2).alloc (Nat.le_refl _) (.cells #[.slice a1 1 b1,.slice d1 0 e1] 29));have HX1:=lhid (Blk.new w2 29 [.slice a1 1 b1,.slice d1 0 e1]);(go_upto_region 3 with fail);obtain⟨W2,hW2⟩:∃ q,w2.alloc (.cells #[.slice a1 1 b1,.slice d1 0 e1] 29)=q:=⟨_,rfl⟩;rw[hW2] at HA2 HX1;(try rw[hW2]);obtain⟨g1,hg1⟩:∃ q,w2.heap.size=q:=⟨_,rfl⟩;rw[hg1] at HX1;(try simp only[hg1]);have HB4:=lhid (aB HB3.out HA2.out);have HH3:=lhid (HH2.out.later HA2.out);have HV3:=lhid (HV2.out.below HA2.out);have HU3:=lhid (HU.out.below HA2.out);clear hW2 hg1 HB3 HH2 HV2 HU HA2;have h0:=HH3.out.cell 0 rfl;have h1:=HH3.out.cell 1 rfl;have h2:=HH3.out.cell 2 rfl;have x0:=HX1.out.cell 0 rfl;have x1:=HX1.out.cell 1 rfl;(go_wp2_with fail);refine(HN1.out _ _ _ HV3.out HU3.out (HTb.out _ HB4.out)).mono ?_;rintro e w3 ⟨u2,rfl,hu2,hb3⟩;obtain⟨a2,b2,d2,e2,rfl,-,-,-,-⟩:=lY hu2;have HU2:=lhid hu2;have HB5:=lhid (aB HB4.out hb3);have HH4:=lhid (HH3.out.later hb3);have HV4:=lhid (HV3.out.below hb3);have HX4:=lhid (HX1.out.later hb3);have HU4:=lhid (HU3.out.below hb3);(try dsimp only[List.length_cons,List.length_nil]);clear hu2 hb3 HB4 HH3 HV3 HX1 HU3 HN1 h0 h1 h2 x0 x1;have HA3:=lhid ((Below.refl w3.heap.size w3).alloc (Nat.le_refl _) (.cells #[.slice a2 1 b2,.slice d2 0 e2] 29));have HX2:=lhid (Blk.new w3 29 [.slice a2 1 b2,.slice d2 0 e2]);(go_upto_region 4 with fail);obtain⟨W3,hW3⟩:∃ q,w3.alloc (.cells #[.slice a2 1 b2,.slice d2 0 e2] 29)=q:=⟨_,rfl⟩;rw[hW3] at HA3 HX2;(try rw[hW3]);obtain⟨g2,hg2⟩:∃ q,w3.heap.size=q:=⟨_,rfl⟩;rw[hg2] at HX2;(try simp only[hg2]);have HB6:=lhid (aB HB5.out HA3.out);have HH5:=lhid (HH4.out.later HA3.out);have HV5:=lhid (HV4.out.below HA3.out);have HX5:=lhid (HX4.out.later HA3.out);have HU5:=lhid (HU4.out.below HA3.out);have HU6:=lhid (HU2.out.below HA3.out);clear hW3 hg2 HB5 HH4 HV4 HX4 HU4 HU2 HA3;have h0:=HH5.out.cell 0 rfl;have h1:=HH5.out.cell 1 rfl;have h2:=HH5.out.cell 2 rfl;have y0:=HX2.out.cell 0 rfl;have y1:=HX2.out.cell 1 rfl;(go_wp2_with fail);refine(HN2.out _ _ _ HV5.out HU6.out (HTb.out _ HB6.out)).mono ?_;rintro e w4 ⟨u3,rfl,hu3,hb4⟩;obtain⟨a3,b3,d3,e3,rfl,-,-,-,-⟩:=lY hu3;(try dsimp only[List.length_cons,List.length_nil]);have HA4:=lhid ((Below.refl w4.heap.size w4).alloc (Nat.le_refl _) (.cells #[.slice a3 0 b3,.slice d3 0 e3] 29));have HB7:=lhid (aB HB6.out hb4);have HC4:=lhid hb4;clear hu3 hb4 HN2 h0 h1 h2 y0 y1;(go_upto_region 5 with fail);obtain⟨W4,hW4⟩:∃ q,w4.alloc (.cells #[.slice a3 0 b3,.slice d3 0 e3] 29)=q:=⟨_,rfl⟩;rw[hW4] at HA4;(try rw[hW4]);have HK:=lhid (aB HC4.out HA4.out);have HB8:=lhid (aB HB7.out HA4.out);have HV8:=lhid (HV5.out.below HK.out);have h0:=(HH5.out.later HK.out).cell 0 rfl;have h1:=(HH5.out.later HK.out).cell 1 rfl;have h2:=(HH5.out.later HK.out).cell 2 rfl;have x0:=(HX5.out.later HK.out).cell 0 rfl;have y0:=(HX2.out.later HK.out).cell 0 rfl;obtain⟨v0,v1,ew,⟨pz,cz,ez,-,hz⟩,-⟩:=HU5.out.below HK.out;injection ew with ew;have ew':[_,_]=[v0,v1]:=congrArg Array.toList ew;injection ew' with ew1 _;subst ew1;injection ez with ez _ _;subst ez;obtain⟨k1,rfl,z1⟩:=hz 0 (by simp);obtain⟨v2,v3,ew,⟨pz,cz,ez,-,hz⟩,-⟩:=HU6.out.below HK.out;injection ew with ew;have ew':[_,_]=[v2,v3]:=congrArg Array.toList ew;injection ew' with ew1 _;subst ew1;injection ez with ez _ _;subst ez;obtain⟨k2,rfl,z2⟩:=hz 0 (by simp);have z1:W4.cell? ⟨k1,0,none⟩=some (.bool false):=z1;have z2:W4.cell? ⟨k2,0,none⟩=some (.bool true):=z2;clear hW4;(go_wp2_with fail);refine(HCt.out _ _ HV8.out (HTb.out _ HB8.out)).mono ?_;rintro e w5 ⟨rfl,hb5⟩;have HB9:=lhid (aB HB8.out hb5);clear hb5 h0 h1 h2 x0 y0 z1 z2 HCt;(go_wp2_with fail);go_ret;exact⟨rfl,HB9.out⟩
end
end Go.Proofs.YtdfegfagedeilaaGreatDoor
