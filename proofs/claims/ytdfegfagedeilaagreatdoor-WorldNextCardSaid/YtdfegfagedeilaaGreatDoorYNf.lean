/-
  Several texts of these walks, joined and squeezed (as templates they lie in wip/tpl): PaR TabB TabC PaS TabE PaU HistA HistB DecH ErD.
-/
import Derived.Test.YtdfegfagedeilaaGreatDoorYxPaQ
import Derived.Deep.CutBlock
namespace Go.Proofs.YtdfegfagedeilaaGreatDoor
section
open Go.RowKit Go.Lib Go.Maps
theorem aZc:bW [] []=fun _=>none:=by
 funext l;unfold bW;exact if_neg (by simp)
theorem bKs (w:World):MkI ((((w.alloc (.map #[] 0)).alloc (.map #[] 0)).alloc (.map #[] 0)).alloc (.cells #[.slice none 0 0,.map (some w.heap.size),.map (some (w.heap.size+1)),.map (some (w.heap.size+2))] 127)) w.heap.size (w.heap.size+3) [] 0 (.slice none 0 0) w.heap.size (w.heap.size+1) (w.heap.size+2) []:=by
 have s1:(w.alloc (.map #[] 0)).heap.size=w.heap.size+1:=(by simp);have s2:((w.alloc (.map #[] 0)).alloc (.map #[] 0)).heap.size=w.heap.size+2:=(by simp);have s3:(((w.alloc (.map #[] 0)).alloc (.map #[] 0)).alloc (.map #[] 0)).heap.size=w.heap.size+3:=(by simp);have a1:=bIl w;have a2:=aUs (w.alloc (.map #[] 0));have a3:=aUs ((w.alloc (.map #[] 0)).alloc (.map #[] 0));have a4:=Blk.new (((w.alloc (.map #[] 0)).alloc (.map #[] 0)).alloc (.map #[] 0)) 127 [.slice none 0 0,.map (some w.heap.size),.map (some (w.heap.size+1)),.map (some (w.heap.size+2))];rw[s1] at a2;rw[s2] at a3;rw[s3] at a4;refine⟨a4,⟨by omega,by omega,by omega,by omega⟩,⟨by omega,by omega,by omega⟩,World.ownsRow_nil _ _ _ _,rfl,?_,⟨[],a2.at ?_,List.nodup_nil,fun x=>by simp[gR]⟩,⟨[],a3.at ?_,List.nodup_nil,fun x=>by simp[dT]⟩,fun i h=>absurd h (Nat.not_lt_zero i),fun i j _ h=>absurd h (Nat.not_lt_zero j),fun i j _ h=>absurd h (Nat.not_lt_zero j),fun i j _ h=>absurd h (Nat.not_lt_zero j)⟩
 ·rw[aZc];refine a1.at ?_;rw[cW _ _ (by simp;omega),cW _ _ (by simp;try omega),cW _ _ (by simp)]
 ·rw[cW _ _ (by simp;try omega),cW _ _ (by simp)]
 ·rw[cW _ _ (by simp)]
theorem aYq (L:List aV) (k:Nat) (hk:k<L.length) (Lk:List aH):kJ (L.drop k) Lk=if (kL Lk (L.getD k kE)).2=0 then kJ (L.drop (k+1)) (kL Lk (L.getD k kE)).1 else ((kL Lk (L.getD k kE)).1,(L.getD k kE).2.2.2.2.2,(kL Lk (L.getD k kE)).2):=by
 have e:L.drop k=L.getD k kE::L.drop (k+1):=(by rw[List.drop_eq_getElem_cons hk];simp[hk]);rw[e];rfl
set_option maxRecDepth 100000 in
set_option maxHeartbeats 4000000 in
theorem aSg {w:World} (v:Value) (L:List aV) (hv:aLk w v L) (hL:L.length≤1000) (hM:∀ x∈L,x.2.1.length≤1000000∧x.2.2.1.length≤1000000) (hT:Lib.Utf8Tabs 1 2 w) :
  Calls Tryz.prog 89 #[v] w fun e w'=>∃ gm lv bo bz bk E,e=.returned (.tuple #[.pointer (some ⟨gm,0,none⟩),.int .i64 (kJ L []).2.1,.int .i64 (kJ L []).2.2])∧MkI w' w.heap.size gm (kJ L []).1 L.length lv bo bz bk E∧Below w.heap.size w w':=by
 obtain⟨p,c,rfl,hp⟩:=hv;have HX:=lhid hp;have HM:=lhid (fun k (hk:k<L.length)=>hM _ (show L.getD k kE∈L by rw[show L.getD k kE=L[k] by simp[hk]];exact List.getElem_mem hk));have HT:=lhid hT;have HN:=lhid (bKs w);have HB:=lhid ((((((Below.refl w.heap.size w).alloc (Nat.le_refl _) (.map #[] 0)).alloc (by simp) (.map #[] 0)).alloc (by simp;omega) (.map #[] 0))).alloc (by simp;omega) (.cells #[.slice none 0 0,.map (some w.heap.size),.map (some (w.heap.size+1)),.map (some (w.heap.size+2))] 127));clear hp hT hM;obtain⟨B,hBe⟩:∃ B,w.heap.size=B:=⟨_,rfl⟩;have hmm:=@run_makeMap Tryz.prog;go_enter Tryz.func89,Tryz.ntmps89;(go_wp2_with fail);rw[hBe] at HN HB;(try simp only[hBe]);obtain⟨gm,hgm⟩:∃ g,B+3=g:=⟨_,rfl⟩;obtain⟨bz,hbz⟩:∃ g,B+1=g:=⟨_,rfl⟩;obtain⟨bk,hbk⟩:∃ g,B+2=g:=⟨_,rfl⟩;rw[hgm,hbz,hbk] at HN;rw[hbz,hbk] at HB;have hbk2:bz+1=bk:=(by omega);have hgm2:bk+1=gm:=(by omega);(try simp only[hbz,hbk2,hgm2]);clear hmm;generalize (((w.alloc (.map #[] 0)).alloc (.map #[] 0)).alloc (.map #[] 0)).alloc (.cells #[.slice none 0 0,.map (some B),.map (some bz),.map (some bk)] 127)=W at *
 go_loopw [16] (fun i wr=>∃ (k:Nat) (lv:Value) (E:List bV) (Lk:List aH),k≤L.length∧i=.int .i64 k∧MkI wr B gm Lk k lv B bz bk E∧mJ Lk∧kJ L []=kJ (L.drop k) Lk∧Below B w wr) (fun i _=>L.length-(intOf i).toNat)
 case atStart=>exact⟨0,_,_,_,Nat.zero_le _,rfl,HN.out,aMm,rfl,HB.out⟩
 case round=>
  obtain⟨k,lv,E,Lk,hk,rfl,hmi,hG,hP,hbw⟩:=hrel;have hbz':=hbw.size;by_cases hk1:k<L.length
  ·obtain⟨g,rfl,hcell⟩:=HX.out k hk1;obtain⟨q1,q2⟩:=HM.out k hk1;rw[aYq L k hk1] at hP;obtain⟨t,ht⟩:∃ t,L.getD k kE=t:=⟨_,rfl⟩;rw[ht] at hP hcell q1 q2;obtain⟨x1,x2,x3,x4,x5,x6⟩:=t;have hbw':Below w.heap.size w wr:=(by rw[hBe];exact hbw);have a0:=cell_later hbw' (hcell 0 _ rfl);have a1:=cell_later hbw' (hcell 1 _ rfl);have a2:=cell_later hbw' (hcell 2 _ rfl);have a3:=cell_later hbw' (hcell 3 _ rfl);have a4:=cell_later hbw' (hcell 4 _ rfl);have a5:=cell_later hbw' (hcell 5 _ rfl);simp only[Nat.add_zero] at a0;obtain⟨⟨L',f⟩,hp⟩:∃ r,kL Lk (x1,x2,x3,x4,x5,x6)=r:=⟨_,rfl⟩;have hG':=aEq hG (x1,x2,x3,x4,x5,x6);rw[hp] at hP hG';dsimp only at hP hG' q1 q2;have hal:=(Below.refl wr.heap.size wr).alloc (Nat.le_refl _) (.cells #[.int .i64 x1,.string (bs x2),.string (bs x3),.int .i64 x4,.int .i64 x5,.int .i64 x6] 116);have HPut:=lhid (aZx (w:=wr.alloc (.cells #[.int .i64 x1,.string (bs x2),.string (bs x3),.int .i64 x4,.int .i64 x5,.int .i64 x6] 116)) x1 x4 x5 x6 x2 x3 (hmi.below hal) hG (by omega) q1 q2 (by simp;omega) (Utf8Tabs_below HT.out (by rw[hBe];exact hbw.trans (hal.mono (by omega)))));rw[hp] at HPut;have hty:Ty (wr.alloc (.cells #[.int .i64 x1,.string (bs x2),.string (bs x3),.int .i64 x4,.int .i64 x5,.int .i64 x6] 116)) wr.heap.size 116:=(Blk.new wr _ [.int .i64 x1,.string (bs x2),.string (bs x3),.int .i64 x4,.int .i64 x5,.int .i64 x6]).ty;have HBW:=lhid (hbw.trans (hal.mono (by omega)));clear ht hp hcell q1 q2 hbw' hG hmi hal;(go_wp2_with fail);refine HPut.out.mono ?_;rintro e w3 ⟨lv',E',rfl,hmi',hb3,hev⟩;have hx5:w3.cell? ⟨wr.heap.size,5,none⟩=some (.int .i64 x6):=((Blk.new wr 116 [.int .i64 x1,.string (bs x2),.string (bs x3),.int .i64 x4,.int .i64 x5,.int .i64 x6]).at (hev _ hty)).cell 5 rfl;have hb03:=HBW.out.trans hb3;clear HPut hty hev HBW hb3 a0 a1 a2 a3 a4 a5;dsimp only at hmi' ⊢;by_cases hf:f=0
   ·subst hf;rw[if_pos rfl] at hP;(go_wp2_with fail);go_roundw
    case rel=>exact⟨k+1,lv',E',L',by omega,by go_num,hmi',hG',hP,hb03⟩
    case measure=>simp[intOf];omega
   ·have hfb:(f != 0)=true:=(by simpa using hf);rw[if_neg hf] at hP;have HP:=lhid hP;clear hP hf;(go_wp2_with fail);obtain⟨gy,hgy⟩:∃ g,wr.heap.size=g:=⟨_,rfl⟩;rw[hgy] at hx5;(try simp only[hgy]);have HS:Hid (∀ w',Below w3.heap.size w3 w'→(w'.cell? ⟨gy,5,none⟩=some (.int .i64 x6)∧Below w3.heap.size w3 w')):=lhid (fun w' hb=>⟨cell_later hb hx5,hb⟩);refine wpk HS [] (by kernel_rfl) fun hB0 hS0=>?_;refine wF 0 ?_;refine wF 1 ?_;refine wT 2 7 hS0 ?_;refine wF 3 ?_;refine wO 4 ?_;refine wO 5 ?_;refine wO 6 ?_;refine wD ?_;go_wp2_with fail
    go_ret3
    rw[HP.out];rw[hBe];exact⟨gm,lv',B,bz,bk,E',rfl,(hmi'.mono (show k+1≤L.length by omega)).below hB0,hb03.trans (hB0.mono (by have:=hb03.size;omega))⟩
  ·have hke:k=L.length:=(by omega);subst hke;rw[List.drop_length] at hP;have HP:=lhid (show kJ L []=(Lk,0,0) from hP);clear hP;go_wp2_with fail
   go_ret3
   rw[HP.out];rw[hBe];exact⟨gm,lv,B,bz,bk,E,rfl,hmi,hbw⟩
end
section
open Go.RowKit Go.Lib
set_option maxRecDepth 100000 in
set_option maxHeartbeats 1000000 in
theorem aXo (w:World) (v:Value) (L:List (List UInt8)) (s:List UInt8) (hv:bF w v L) (hL:L.length≤1000000) :
  Calls Tryz.prog 115 #[v,.string (bs s)] w fun e w'=>e=.returned (.int .i64 (yO L s))∧w=w':=by
 obtain⟨p,c,rfl,hp⟩:=hv;have HX:=lhid hp;have HA:=lhid (bHo L s);have HZ:=lhid (aXm L s);obtain⟨R,hR⟩:∃ R,yO L s=R:=⟨_,rfl⟩;rw[hR] at HA HZ ⊢;clear hp hR;go_enter Tryz.func115,Tryz.ntmps115;go_wp2_with fail
 go_loopw [8] (fun i wr=>∃ k:Nat,k≤L.length∧i=.int .i64 k∧wr=w∧∀ j,j<k→L.getD j []≠s) (fun i _=>L.length-(intOf i).toNat)
 case atStart=>exact⟨0,Nat.zero_le _,rfl,rfl,fun j hj=>absurd hj (Nat.not_lt_zero j)⟩
 case round=>
  obtain⟨k,hk,rfl,rfl,hn⟩:=hrel;have HN:=lhid hn;clear hn;by_cases hlt:k<L.length
  ·obtain⟨g,rfl,hc⟩:=HX.out k hlt;by_cases he:L.getD k []=s
   ·have H1:=lhid (HA.out k hlt he HN.out);rw[he] at hc;clear he;(go_wp2_with fail);go_ret;exact⟨by rw[H1.out];rfl,rfl⟩
   ·obtain⟨x,hx⟩:∃ x,L.getD k []=x:=⟨_,rfl⟩;have he0:L.getD k []≠s:=he
    have H1:Hid (∀ j,j<k+1→L.getD j []≠s):=lhid (by
     intro j hj;by_cases hjk:j<k
     ·exact HN.out j hjk
     ·obtain rfl:j=k:=by omega
      exact he0)
    rw[hx] at hc he;have e1:(s==x)=false:=beq_eq_false_iff_ne.2 fun e=>he e.symm;clear he0 he hx;(go_wp2_with fail);go_roundw
    case rel=>exact⟨k+1,by omega,by go_num,trivial,H1.out⟩
    case measure=>simp[intOf];omega
  ·have hke:k=L.length:=(by omega);subst hke;have H1:=lhid (HZ.out HN.out);(go_wp2_with fail);go_ret;exact⟨by rw[H1.out];rfl,rfl⟩
theorem xB (L:List (List UInt8)) (k:Nat) (hs:∀ x∈L,x.length≤1000000):(L.getD k []).length≤1000000:=by
 by_cases h:k<L.length
 ·exact hs _ (aMl L k h)
 ·rw[List.getD_eq_getElem?_getD,List.getElem?_eq_none (by omega)];simp
set_option maxRecDepth 100000 in
set_option maxHeartbeats 2000000 in
theorem aKu (w:World) (v:Value) (L:List (List UInt8)) (hv:bF w v L) (hL:L.length≤1000000) (hs:∀ x∈L,x.length≤1000000) (hT:Lib.Utf8Tabs 1 2 w) :
  Calls Tryz.prog 74 #[v] w fun e w'=>e=.returned (.bool (isT L))∧Below w.heap.size w w':=by
 obtain⟨p,c,rfl,hp⟩:=hv;have HX:=lhid hp;have HS:=lhid hs;have HT:=lhid hT;have HA:=lhid (bDc L);have HZ:=lhid (aAz L);obtain⟨R,hR⟩:∃ R,isT L=R:=⟨_,rfl⟩;rw[hR] at HA HZ ⊢;clear hp hs hT hR;go_enter Tryz.func74,Tryz.ntmps74;go_wp2_with fail
 go_loopw [7] (fun i wr=>∃ k:Nat,k≤L.length∧i=.int .i64 k∧(∀ j,j<k→oX L j=true)∧Below w.heap.size w wr) (fun i _=>L.length-(intOf i).toNat)
 case atStart=>exact⟨0,Nat.zero_le _,rfl,fun j hj=>absurd hj (Nat.not_lt_zero j),Below.refl _ _⟩
 case round=>
  obtain⟨k,hk,rfl,hn,hbw⟩:=hrel;have HN:=lhid hn;clear hn;by_cases hlt:k<L.length
  ·have HTr:=lhid (Utf8Tabs_below HT.out hbw)
   have hstep:oX L k=true→∀ j,j<k+1→oX L j=true:=fun hg j hj=>by
    by_cases hjk:j<k
    ·exact HN.out j hjk
    ·obtain rfl:j=k:=(by omega);exact hg
   have HStep:=lhid hstep;have HNo:=lhid (HA.out k hlt);clear hstep
   cases k with
   | zero=>
    obtain⟨g,rfl,hc⟩:=HX.out 0 hlt;have hc':=cell_later hbw hc;have HI:=lhid (vA (L.getD 0 []) (xB L 0 HS.out));have hg0:=sG L;obtain⟨x,hx⟩:∃ x,L.getD 0 []=x:=⟨_,rfl⟩;rw[hx] at hc' HI hg0;clear hc hx
    cases hnx:bA x with
    | false=>
     rw[hnx] at HI hg0;have H1:=lhid (HNo.out hg0);clear hnx hg0;(go_wp2_with fail);refine(HI.out _ HTr.out).mono ?_;rintro e w1 ⟨rfl,hb1⟩;(go_wp2_with fail);go_ret;exact⟨by rw[H1.out];rfl,aB hbw hb1⟩
    | true=>
     rw[hnx] at HI hg0;have H1:=lhid (HStep.out hg0);clear hnx hg0;(go_wp2_with fail);refine(HI.out _ HTr.out).mono ?_;rintro e w1 ⟨rfl,hb1⟩;(go_wp2_with fail);go_roundw
     case rel=>exact⟨1,by omega,rfl,H1.out,aB hbw hb1⟩
     case measure=>simp[intOf];omega
   | succ q=>
    obtain⟨g,rfl,hc⟩:=HX.out (q+1) hlt;obtain⟨g',hg',hd⟩:=HX.out q (by omega);obtain rfl:g=g':=(by simpa using hg');have hc':=cell_later hbw hc;have HI:=lhid (vA (L.getD (q+1) []) (xB L (q+1) HS.out));have HL:=lhid (aYy (L.getD q []) (L.getD (q+1) []) (xB L q HS.out) (xB L (q+1) HS.out));have hg0:=qJ L q;have hlt0:ltN (L.getD q []) (L.getD (q+1) [])=bE (aQ (L.getD q [])) (aQ (L.getD (q+1) [])):=rfl;obtain⟨x,hx⟩:∃ x,L.getD (q+1) []=x:=⟨_,rfl⟩;obtain⟨y,hy⟩:∃ y,L.getD q []=y:=⟨_,rfl⟩;rw[hx] at hc' HI HL hg0 hlt0;rw[hy] at hd HL hg0 hlt0;rw[←hlt0] at HL;have hd':=cell_later hbw hd;have c3:(0:Int)<(q:Int)+1:=(by omega);clear hc hx hy hlt0 hg'
    cases hnx:bA x with
    | false=>
     rw[hnx] at HI hg0;have H1:=lhid (HNo.out hg0);clear hnx hg0;(go_wp2_with fail);refine(HI.out _ HTr.out).mono ?_;rintro e w1 ⟨rfl,hb1⟩;(go_wp2_with fail);go_ret;exact⟨by rw[H1.out];rfl,aB hbw hb1⟩
    | true=>
     rw[hnx,Bool.true_and] at hg0;rw[hnx] at HI
     cases hl:ltN y x with
     | false=>
      rw[hl] at HL hg0;have H1:=lhid (HNo.out hg0);clear hnx hg0 hl;(go_wp2_with fail);refine(HI.out _ HTr.out).mono ?_;rintro e w1 ⟨rfl,hb1⟩;have hb2:=aB hbw hb1;have hd2:=cell_later hb2 hd;clear hd' hc' hd hb1;(go_wp2_with fail);refine(HL.out _).mono ?_;rintro e w2 ⟨rfl,hb3⟩;(go_wp2_with fail);go_ret;exact⟨by rw[H1.out];rfl,aB hb2 hb3⟩
     | true=>
      rw[hl] at HL hg0;have H1:=lhid (HStep.out hg0);clear hnx hg0 hl;(go_wp2_with fail);refine(HI.out _ HTr.out).mono ?_;rintro e w1 ⟨rfl,hb1⟩;have hb2:=aB hbw hb1;have hd2:=cell_later hb2 hd;clear hd' hc' hd hb1;(go_wp2_with fail);refine(HL.out _).mono ?_;rintro e w2 ⟨rfl,hb3⟩;(go_wp2_with fail);go_roundw
      case rel=>exact⟨q+1+1,by omega,by go_num,H1.out,aB hb2 hb3⟩
      case measure=>simp[intOf];omega
  ·have hke:k=L.length:=(by omega);subst hke;have H1:=lhid (HZ.out HN.out);(go_wp2_with fail);go_ret;exact⟨by rw[H1.out];rfl,hbw⟩
end
section
open Go.RowKit Go.Lib
set_option maxRecDepth 100000 in
set_option maxHeartbeats 1000000 in
theorem bDm (w:World) (v:Value) (L:List (List UInt8)) (h:bF w v L) (hL:L.length≤100000) (hs:∀ x∈L,x.length≤1000000) (hT:Lib.Utf8Tabs 1 2 w) :
  Calls Tryz.prog 114 #[v] w fun e w'=>∃ v',e=.returned v'∧bF w' v' (aX L)∧aWa w.heap.size v'∧Below w.heap.size w w':=by
 have H1:=lhid (aNt w v L h hL hs hT);clear h hL hs hT;obtain⟨R,hR⟩:∃ R,aX L=R:=⟨_,rfl⟩;rw[hR] at H1 ⊢;clear hR;go_enter Tryz.func114,Tryz.ntmps114;(go_wp2_with fail);refine H1.out.mono ?_;rintro e w1 ⟨v1,rfl,ht,hn,hb⟩;(go_wp2_with fail);go_ret;exact⟨_,rfl,ht,hn,hb⟩
set_option maxRecDepth 100000 in
set_option maxHeartbeats 1000000 in
theorem aCp (w:World) (v:Value) (L:List (List UInt8)) (s:List UInt8) (hv:bF w v L) (hL:L.length≤1000000) (hs:∀ x∈L,x.length≤1000000) (hT:Lib.Utf8Tabs 1 2 w) :
  Calls Tryz.prog 91 #[v,.string (bs s)] w fun e w'=>e=.returned (.tuple #[.int .i64 ((dS L s).1:Nat),.bool (dS L s).2])∧Below w.heap.size w w':=by
 have H1:=lhid (aKu w v L hv hL hs hT);have H2:=lhid (fun w' (h:bF w' v L)=>aXo w' v L s h hL);have HV:=lhid hv;obtain⟨r1,r2⟩:=aRj L s
 cases ht:isT L with
 | false=>
  rw[ht] at H1;have HF:=lhid (bCo L s ht);generalize dS L s=F at *;clear hv hL hs hT ht r1 r2;go_enter Tryz.func91,Tryz.ntmps91;(go_wp2_with fail);refine H1.out.mono ?_;rintro e w1 ⟨rfl,hb⟩;go_wp2_with fail
  go_ret2
  exact⟨by rw[HF.out];rfl,hb⟩
 | true=>
  rw[ht] at H1;have hF:=bCn L s ht;generalize dS L s=F at *;generalize yO L s=I at *;subst hF;clear hv hs hT ht;by_cases h0:0≤I
  ·have e1:decide (0≤I)=true:=decide_eq_true h0;have e2:(max I 0:Int)=I:=(by omega);have e3:((max I 0).toNat:Int)=I:=(by omega);simp only[e3,e1];clear e1 e3;go_enter Tryz.func91,Tryz.ntmps91;(go_wp2_with fail);refine H1.out.mono ?_;rintro e w1 ⟨rfl,hb⟩;have HV1:=lhid (HV.out.below hb);(go_wp2_with fail);refine(H2.out _ HV1.out).mono ?_;rintro e w2 ⟨rfl,rfl⟩;go_wp2_with fail
   go_ret2
   exact⟨rfl,hb⟩
  ·have e1:decide (0≤I)=false:=decide_eq_false h0;have e2:(max I 0:Int)=0:=(by omega);have e3:((max I 0).toNat:Int)=0:=(by omega);simp only[e3,e1];have E1:=lhid e1;clear e1 e3;go_enter Tryz.func91,Tryz.ntmps91;(go_wp2_with fail);refine H1.out.mono ?_;rintro e w1 ⟨rfl,hb⟩;have HV1:=lhid (HV.out.below hb);(go_wp2_with fail);refine(H2.out _ HV1.out).mono ?_;rintro e w2 ⟨rfl,rfl⟩;go_wp2_with fail
   go_ret2
   refine⟨?_,hb⟩;show Ending.returned (.tuple #[.int .i64 0,.bool (decide (0≤I))])=_;rw[E1.out]
end
section
open Go.RowKit Go.Lib Go.Maps Go.WideMaps
theorem aUy {key:Value} {kl:Lit} (h:keyOf Tryz.prog 9 key=some kl):∃ l,key=.string (bs l)∧kl=.string l:=by
 obtain⟨s,rfl,rfl,_⟩:=string_of_keyOf Tryz.underlying9 h;exact⟨s.data.toList,by simp[bs],rfl⟩
theorem bGx {a b:List UInt8} (h:bs a=bs b):a=b:=by
 simpa [bs] using h
section
variable {w:World} {ops:Array Oper} {rest:List Oper} {o:Oper} {a:Act} {Q:Exit→Act→World→Prop}
theorem aAs {β:Type} (hg:o.guard=none) (it:Operand) (hop:o.op=Op.next it false) (R:Value→Option (DataW Unit×List MemPlace)) (mkV:β→Value) (invV:∀ v y,R v=some y→∃ c,v=mkV c) (b r n:Nat) (D:DataW Unit) (left:Lit→Bool) (cnt:Nat)
  (hit:a.eval it=.pointer (some ⟨r,0,none⟩)) (h:w.ranges Tryz.prog 9 R b r n D left cnt)
  (hDone:cnt=0→(∀ kl,left kl=false)→wpList Tryz.prog ops Q rest (a.put o.dst (.tuple #[.bool false])) w)
  (hMore:∀ (l:List UInt8) (c:β) (w':World) (cnt':Nat),left (.string l)=true→w'.ranges Tryz.prog 9 R b r n D (fun z=>left z && !z.sameKey (.string l)) cnt'→cnt'<cnt →
   w.grownBy w' (some r)→w'.heap.size=w.heap.size→(Instr.entry (.pointer (some ⟨r,0,none⟩))).run Tryz.prog w'=.ok (.tuple #[.string (bs l),mkV c]) w'→wpList Tryz.prog ops Q rest (a.put o.dst (.tuple #[.bool true,.string (bs l),mkV c])) w') :
  wpList Tryz.prog ops Q (o::rest) a w:=
 wpList_next_ranges w hg it hop 9 sI R (fun l=>.string (bs l)) mkV (fun key kl hk=>by obtain⟨l,h1,_⟩:=aUy hk;exact⟨l,h1⟩) invV b r n D left cnt hit h hDone
  (fun l c kl y w' cnt' hkey hlk _ _ hrg hlt hgr hsz hen=>by
   obtain⟨l',e1,rfl⟩:=aUy hkey;injection e1 with e1;obtain rfl:=bGx e1
   exact hMore l c w' cnt' hlk hrg hlt hgr hsz hen)
end
theorem bFd (a b:List UInt8):(Lit.string a).sameKey (.string b)=decide (a=b):=by
 by_cases h:a=b
 ·subst h;rw[WideAt.sameKey_self (show WideAt.IsKeyLit (.string a) from trivial),decide_eq_true rfl]
 ·rw[Maps.sameKey_ne (by simpa using h),decide_eq_false h]
def aLl (ks done:List (List UInt8)) (left:Lit→Bool):Prop:=∀ l,left (.string l)=decide (l∈ks∧l∉done)
theorem aRx {D:DataW Unit} {ks:List (List UInt8)} (h:∀ l,Maps.has D (.string l)=decide (l∈ks)):aLl ks [] (Maps.has D):=fun l=>by rw[h];simp
theorem aYj {ks done:List (List UInt8)} {left:Lit→Bool} (h:aLl ks done left) (l:List UInt8) (hl:left (.string l)=true):aLl ks (done++[l]) (fun z=>left z && !z.sameKey (.string l))∧l∈ks∧l∉done:=by
 rw[h l] at hl;refine⟨fun x=>?_,of_decide_eq_true hl⟩;show(left (.string x) && !(Lit.string x).sameKey (.string l))=_;rw[h x,bFd];by_cases e:x=l
 ·subst e;simp
 ·simp[e]
theorem aYg {ks done:List (List UInt8)} {left:Lit→Bool} (h:aLl ks done left) (h0:∀ kl,left kl=false) (hd:∀ x∈done,x∈ks) (x:List UInt8):x∈done↔x∈ks:=by
 refine⟨hd x,fun hx=>?_⟩;have h1:=h x;rw[h0] at h1;have h2:=of_decide_eq_false h1.symm;exact Decidable.byContradiction fun h3=>h2 ⟨hx,h3⟩
theorem aSo {done:List (List UInt8)} {l:List UInt8} (h:done.Nodup) (hl:l∉done):(done++[l]).Nodup:=
 List.nodup_append.2 ⟨h,by simp,fun a ha b hb e=>by rw[List.mem_singleton] at hb;subst hb;subst e;exact hl ha⟩
theorem aTw (w:World) (l:List UInt8) (e:TypeId):∀ (j:Nat) (u:Value),([.string (bs l)]:List Value)[j]? = some u→(w.alloc (.cells #[.string (bs l)] e)).cell? ((⟨w.heap.size,0,none⟩:Addr).add j)=some u:=by
 intro j u hj
 match j,hj with
 | 0,hj=>simp at hj;subst hj;simp[Addr.add]
theorem bKv (l:List UInt8):∀ u∈([.string (bs l)]:List Value),u.oneCell'=true:=by
 intro u hu;simp at hu;subst hu;rfl
set_option maxRecDepth 100000 in
set_option maxHeartbeats 2000000 in
theorem aIc {w:World} {b N:Nat} {ks:List (List UInt8)} (M:List (List UInt8)) (h:oP w b ks N) (hd:ks.Nodup) (hm:∀ x,x∈ks↔x∈M) (hN:ks.length≤1000) (hs:∀ x∈ks,x.length≤1000000) (hT:Lib.Utf8Tabs 1 2 w) :
  Calls Tryz.prog 90 #[.map (some b)] w fun e w'=>∃ v',e=.returned v'∧bF w' v' (aX M)∧aWa w.heap.size v'∧Below w.heap.size w w':=by
 obtain⟨D,h1,h2,h3,-⟩:=h;have HO:=lhid h1;have HL:=lhid (aRx h3);have HD:=lhid hd;have HM:=lhid hm;have HS:=lhid hs;have HT:=lhid hT;obtain⟨i0,hi,hz0,hz1,hz2⟩:=info_parts tL;clear h1 h2 h3 hd hm hs hT;go_enter Tryz.func90,Tryz.ntmps90;go_wp2_with (first | (at_range;refine wpList_range_own _ rfl _ 125 rfl 9 3 sI Tryz.underlying125 (plainElem Tryz.prog 3) b _ D rfl HO.out ?_;intro w0 hrg0 hg0 hs0) | go_in)
 go_frame
 obtain⟨r,hr⟩:∃ r,w.heap.size=r:=⟨_,rfl⟩;rw[hr] at hrg0 hs0;try simp only[hr]
 go_loopw [3] (fun v wr=>∃ (left:Lit→Bool) (cnt:Nat) (done:List (List UInt8)),wr.ranges Tryz.prog 9 (plainElem Tryz.prog 3) b r (Maps.size D) D left cnt∧aLl ks done left∧done.Nodup∧(∀ x∈done,x∈ks)∧wr.ownsRow (r+1) 9 1 v done.length (lM done)∧Below r w wr∧r+1≤wr.heap.size) (fun _ wr=>wr.rangeLeft b r)
 case atStart=>exact⟨_,_,[],hrg0,HL.out,List.nodup_nil,fun x hx=>(by cases hx),World.ownsRow_nil _ _ _ _,(Below.refl r w).grown hg0 (by omega) (fun k hk=>by cases hk),by omega⟩
 case round=>
  obtain⟨left,cnt,done,hrg,hlf,hdn,hdk,hown,hbw,hsz⟩:=hrel;have hcount:=tX done ks hdn hdk;go_wp2_with (first | (at_next;refine aAs rfl _ rfl (plainElem Tryz.prog 3) (Value.int .i64) (fun v y hv=>by obtain⟨c,rfl,_⟩:=plainElem_int_inv Tryz.underlying3 hv;exact⟨c,rfl⟩) b r _ D left cnt rfl hrg ?_ ?_) | go_in)
  ·intro _ hl0;have HE:=lhid (xO done M (fun y=>(aYg hlf hl0 hdk y).trans (HM.out y)));have HX:=lhid (qQ hown);have HK:=lhid hdk;have HB:=lhid hbw;clear hrg hlf hdn hdk hown hl0 hbw;(go_wp2_with fail);refine(bDm wr _ done HX.out (by omega) (fun x hx=>HS.out x (HK.out x hx)) (Utf8Tabs_below HT.out (by rw[hr];exact HB.out))).mono ?_;rintro e w4 ⟨v',rfl,ht,hn4,hb4⟩;(go_wp2_with fail);go_ret;exact⟨v',rfl,by rw[←HE.out];exact ht,(fun g e=>Nat.le_trans (by omega) (hn4 g e)),(by rw[hr];exact HB.out.trans (hb4.mono (by omega)))⟩
  ·intro l c w1 cnt1 hll hrg1 hlt hg1 hs1 hen;obtain⟨hlf1,hlk,hld⟩:=aYj hlf l hll;have hdn1:=aSo hdn hld;have hlen:=tX _ ks hdn1 (fun x hx=>by rw[List.mem_append,List.mem_singleton] at hx;exact hx.elim (hdk x) (fun e=>by rw[e];exact hlk));rw[List.length_append,List.length_singleton] at hlen;have hown1:=jL hown (fun q hq=>hg1.block q (gV hown hq) (fun e=>by have:=(hown.lt q hq).1;injection e with e;omega));have hb1:Below r w w1:=hbw.grown hg1 (by omega) (fun k hk=>by injection hk with hk;omega);have hrlt:=hrg1.lt;have hsz1:r+1≤w1.heap.size:=(by omega);clear hg1 hown hbw hll hs1;(go_wp2_with (at_builtin;refine wpList_append_own _ rfl _ _ 22 rfl (r+1) 9 i0 (.string ByteArray.empty) 1 16 Tryz.underlying22 hi hz0 hz1 hz2 rfl (by decide) _ done.length (lM done) rfl (hown1.alloc _) ⟨w1.heap.size,0,none⟩ 1 1 [.string (bs l)] rfl rfl (aTw _ _ _) (bKv _) (by unfold maxLen;omega) (by omega) (by simp;omega) ?_));intro v4 w4 hown4 hgrow4 hnil4;have hne:some r≠Value.ownBlock _:=fun e=>(by have:=(hown1.lt r e.symm).1;omega);have hrg4:=(hrg1.alloc _).kept hgrow4 (fun e=>(aSm hrg1.owns (aW hown1 e.symm)) rfl) hne;have hb4:Below r w w4:=(hb1.alloc (by omega) _).grown hgrow4 (by simp;omega) (fun k hk=>by have:=(hown1.lt k hk).1;omega);have hsz4:r+1≤w4.heap.size:=Nat.le_trans (by simp;omega) hgrow4.size;rw[nU] at hown4;(go_wp2_with fail);go_roundw
   case rel=>exact⟨_,cnt1,done++[l],hrg4,hlf1,hdn1,(fun x hx=>by rw[List.mem_append,List.mem_singleton] at hx;exact hx.elim (hdk x) (fun e=>by rw[e];exact hlk)),by rw[List.length_append];exact hown4,hb4,hsz4⟩
   case measure=>rw[hrg4.left_eq,hrg.left_eq];omega
end
section
open Go.RowKit Go.Lib
def oY (fr M:List (List UInt8)) (k:Nat):List Int:=(fr.take k).map (aDz M)++List.replicate (fr.length-k) 0
theorem aZv (fr M:List (List UInt8)) (k:Nat) (hk:k≤fr.length):(oY fr M k).length=fr.length:=by
 unfold oY;simp only[List.length_append,List.length_map,List.length_take,List.length_replicate];omega
theorem aSy (fr M:List (List UInt8)) (k:Nat) (hk:k<fr.length):(oY fr M k).set k (aDz M (fr.getD k []))=oY fr M (k+1):=by
 unfold oY;have hl:((fr.take k).map (aDz M)).length=k:=(by simp;omega);obtain⟨r,hr⟩:∃ r,fr.length-k=r+1:=⟨fr.length-k-1,by omega⟩;have hr2:fr.length-(k+1)=r:=(by omega);rw[hr,hr2,List.set_append_right _ _ (by omega),hl,Nat.sub_self,List.replicate_succ,List.set_cons_zero,List.take_add_one,List.map_append];simp[hk]
theorem aZu (fr M:List (List UInt8)):oY fr M fr.length=aAp fr M:=by simp[oY,aAp]
theorem aYp (n:Nat):(madeCells (Value.cells (.int .i64 0)) (n*1)).toList=mG (List.replicate n 0):=by
 rw[Nat.mul_one];show(madeCells #[.int .i64 0] n).toList=_;rw[toList_madeCells_one];simp[mG]
set_option maxRecDepth 100000 in
set_option maxHeartbeats 2000000 in
theorem aVa (w:World) (v v':Value) (F L:List (List UInt8)) (hf:bF w v F) (hv:bF w v' L) (hF:F.length≤10000) (hL:L.length≤10000) (hs:∀ x∈L,x.length≤1000000) (hT:Lib.Utf8Tabs 1 2 w) :
  Calls Tryz.prog 92 #[v,v'] w fun e w'=>∃ v4,e=.returned v4∧qC w' v4 (aAp F L)∧aWa w.heap.size v4∧Below w.heap.size w w':=by
 obtain⟨p,c,rfl,hp⟩:=hf;have HX:=lhid hp;have HV:=lhid hv;have HT:=lhid hT;have HS:=lhid hs;obtain⟨i0,hi,hz0,hz1,hz2⟩:=info_parts xD;obtain⟨w1,hmk,hown,hgrow⟩:=run_make_full (P:=Tryz.prog) w w.heap.size 49 3 i0 (.int .i64 0) 1 Tryz.underlying49 hi hz0 hz1 .i64 .i64 F.length (by rw[hz2];omega) (by unfold maxLen;omega) (Nat.le_refl _);rw[aYp] at hown;have hb1:Below w.heap.size w w1:=(Below.refl _ _).grown hgrow (Nat.le_refl _) (fun k hk=>by cases hk);have e0:List.replicate F.length (0:Int)=oY F L 0:=(by simp[oY]);rw[e0] at hown;have HO:=lhid hown;clear hown hgrow e0 hp hv hT hs;go_enter Tryz.func92,Tryz.ntmps92;go_wp2_with fail
 go_loopw [15] (fun i wr=>∃ k:Nat,k≤F.length∧i=.int .i64 k∧wr.ownsRow w.heap.size 3 1 (.slice (some ⟨w.heap.size,0,none⟩) F.length F.length) F.length (mG (oY F L k))∧Below w.heap.size w wr) (fun i _=>F.length-(intOf i).toNat)
 case atStart=>exact⟨0,Nat.zero_le _,rfl,HO.out,hb1⟩
 case round=>
  obtain⟨k,hk,rfl,hown,hbw⟩:=hrel;by_cases hlt:k<F.length
  ·obtain⟨g,rfl,hc⟩:=HX.out k hlt;have hnx:=aSy F L k hlt;have hlen:=aZv F L k hk;obtain⟨x,hx⟩:∃ x,F.getD k []=x:=⟨_,rfl⟩;rw[hx] at hc hnx;have H1:=lhid (fun w' (h:bF w' v' L) (hT':Lib.Utf8Tabs 1 2 w')=>aCp w' v' L x h (by omega) HS.out hT');have hc':=cell_later hbw hc;have HV1:=lhid (HV.out.below hbw);have HT1:=lhid (Utf8Tabs_below HT.out hbw);have HN:=lhid hnx;unfold aDz at hnx;have HFx:Hid (aDz L x=if (dS L x).2=true then ((dS L x).1:Int) else -1):=lhid rfl;clear hx hc hnx;generalize dS L x=Z at *;obtain⟨a,b⟩:=Z
   cases b with
   | false=>
    have HE:Hid (aDz L x=-1):=lhid (by rw[HFx.out];rfl);(go_wp2_with fail);refine(H1.out _ HV1.out HT1.out).mono ?_;rintro e w2 ⟨rfl,hb2⟩;have hown2:=sO hown hb2;have hbw2:=aB hbw hb2
    have q1:w2.cell? ⟨w.heap.size,k,none⟩=some (.int .i64 ((oY F L k).getD k 0)):=by
     rw[hown2.cellAt k (by omega)];simp[mG,hlen,hlt]
    have q2:=hown2.frozenAt k;generalize (oY F L k).getD k 0=old at q1;clear hown hb2 hbw HV1 HT1;(go_wp2_with fail);go_roundw
    case rel=>
     have st:=hown2.stored k (.int .i64 (-1));rw[aJj, ←HE.out,HN.out] at st;exact⟨k+1,by omega,by go_num,by rw[←HE.out];exact st.1,hbw2.grown (by rw[←HE.out];exact st.2) hbw2.size (fun j hj=>by cases hj;exact Nat.le_refl _)⟩
    case measure=>simp[intOf];omega
   | true=>
    have HE:Hid (aDz L x=(a:Int)):=lhid (by rw[HFx.out];rfl);(go_wp2_with fail);refine(H1.out _ HV1.out HT1.out).mono ?_;rintro e w2 ⟨rfl,hb2⟩;have hown2:=sO hown hb2;have hbw2:=aB hbw hb2
    have q1:w2.cell? ⟨w.heap.size,k,none⟩=some (.int .i64 ((oY F L k).getD k 0)):=by
     rw[hown2.cellAt k (by omega)];simp[mG,hlen,hlt]
    have q2:=hown2.frozenAt k;generalize (oY F L k).getD k 0=old at q1;clear hown hb2 hbw HV1 HT1;(go_wp2_with fail);go_roundw
    case rel=>
     have st:=hown2.stored k (.int .i64 (a:Int));rw[aJj, ←HE.out,HN.out] at st;exact⟨k+1,by omega,by go_num,by rw[←HE.out];exact st.1,hbw2.grown (by rw[←HE.out];exact st.2) hbw2.size (fun j hj=>by cases hj;exact Nat.le_refl _)⟩
    case measure=>simp[intOf];omega
  ·have hke:k=F.length:=(by omega);subst hke;rw[aZu] at hown;have HO2:Hid (qC wr (.slice (some ⟨w.heap.size,0,none⟩) F.length F.length) (aAp F L)):=lhid (bUb (L:=aAp F L) (by simpa [aAp] using hown));clear hown;(go_wp2_with fail);go_ret;exact⟨_,rfl,HO2.out,(fun g' e=>by simp[Value.ownBlock] at e;omega),hbw⟩
end
section
open Go.RowKit Go.Lib Go.Maps Go.WideMaps
def bNg (K:List (List UInt8)) (d:aH) (j:Nat):List OpM:=(d.ops.take j).zipWith (opK K) (d.ks.take j)++d.ops.drop j
theorem aYx (K:List (List UInt8)) (d:aH):bNg K d 0=d.ops:=by simp[bNg]
theorem bDo (K:List (List UInt8)) (d:aH) (h:d.ks.length=d.ops.length):bNg K d d.ops.length=d.ops.zipWith (opK K) d.ks:=by
 unfold bNg;rw[List.take_length, ←h,List.take_length,h,List.drop_length,List.append_nil]
theorem aYw (K:List (List UInt8)) (d:aH) (h:d.ks.length=d.ops.length) (j:Nat) (hj:j<d.ops.length) :
  ((bNg K d j).flatMap opc).set (j*4+1) (.int .i64 ((dS K (d.ks.getD j [])).1:Int))=(bNg K d (j+1)).flatMap opc:=by
 have hj2:j<d.ks.length:=(by omega);have e1:d.ops.drop j=d.ops[j]::d.ops.drop (j+1):=List.drop_eq_getElem_cons hj;have e2:d.ops.take (j+1)=d.ops.take j++[d.ops[j]]:=(by rw[List.take_succ_eq_append_getElem hj]);have e3:d.ks.take (j+1)=d.ks.take j++[d.ks[j]]:=(by rw[List.take_succ_eq_append_getElem hj2]);have e4:d.ks.getD j []=d.ks[j]:=(by simp[hj2]);have hl:(d.ops.take j).length=(d.ks.take j).length:=(by simp;omega);unfold bNg;rw[e1,e2,e3,e4,List.zipWith_append hl];have h1:=bCq opc 4 aVm ((d.ops.take j).zipWith (opK K) (d.ks.take j)) (d.ops.drop (j+1)) d.ops[j] (opK K d.ops[j] d.ks[j]) 1 (.int .i64 ((dS K d.ks[j]).1:Int)) (by decide) rfl;have hz:((d.ops.take j).zipWith (opK K) (d.ks.take j)).length=j:=(by simp;omega);rw[hz] at h1;rw[h1];simp
theorem aXw {L:List aH} (hG:mJ L) (i:Nat) (hi:i<L.length) (k:List UInt8) (hk:k∈(L.getD i noD).ks):aDz (aX (dT L)) k=((dS (aX (dT L)) k).1:Int):=by
 have h1:(dS (aX (dT L)) k).2=true:=by
  unfold dS;rw[if_pos ⟨aTs _,((gH _).2 k).2 ⟨(aDc L k).2 ⟨i,hi,hk⟩,(hG.all _ (qI L i hi)).ks k hk⟩⟩]
 unfold aDz;rw[if_pos h1]
theorem bDz {L:List aH} {E:List bV} (hG:mJ L) (_hl:E.length=L.length) (hne:∀ i j,i<j→j<L.length→(E.getD i bM).1≠(E.getD j bM).1) (i:Nat) (hi:i<L.length) :
  ((L.getD i noD).op=true→bW L E (L.getD i noD).nm=some (E.getD i bM).1)∧((L.getD i noD).op=false→bW L E (L.getD i noD).nm≠some (E.getD i bM).1):=by
 refine⟨fun ho=>?_,fun ho=>?_⟩
 ·have hlt:atD L (L.getD i noD).nm<L.length:=by
   refine Decidable.byContradiction fun h=>?_;have:=aLp L _ h i hi;unfold tD at this;rw[ho] at this;simp at this
  obtain⟨o1,o2⟩:=nY L _ hlt
  have e:atD L (L.getD i noD).nm=i:=by
   rcases Nat.lt_trichotomy (atD L (L.getD i noD).nm) i with h | h | h
   ·exact absurd o2 (hG.one _ _ h hi o1 ho)
   ·exact h
   ·exact absurd o2.symm (hG.one _ _ h hlt ho o1)
  unfold bW;rw[if_pos hlt,e]
 ·unfold bW;by_cases hlt:atD L (L.getD i noD).nm<L.length
  ·rw[if_pos hlt];obtain⟨o1,o2⟩:=nY L _ hlt;intro e;injection e with e;rcases Nat.lt_trichotomy (atD L (L.getD i noD).nm) i with h | h | h
   ·exact hne _ _ h hi e
   ·rw[h] at o1;rw[o1] at ho;cases ho
   ·exact hne _ _ h hlt e.symm
  ·rw[if_neg hlt];intro e;cases e
def txc (S:List (List UInt8)) (p:aH×bV):List Value:=[.int .i64 ((dS S p.1.nm).1:Int),.int .i64 p.1.fate,p.2.2.2]
theorem bJc (S:List (List UInt8)) (p:aH×bV):(txc S p).length=3:=rfl
def noP:aH×bV:=(noD,bM)
theorem bGm (L:List aH) (E:List bV) (hl:E.length=L.length) (i:Nat) (hi:i<L.length):(L.zip E).getD i noP=(L.getD i noD,E.getD i bM):=by
 have h2:i<E.length:=(by omega);have h3:i<(L.zip E).length:=(by simp;omega);have e:(L.zip E).getD i noP=(L.zip E)[i]:=(by simp[List.getD,List.getElem?_eq_getElem h3]);rw[e,List.getElem_zip];simp[hi,h2]
theorem bGn (L:List aH) (E:List bV) (hl:E.length=L.length) (i:Nat) (hi:i<L.length):(L.zip E).take (i+1)=(L.zip E).take i++[(L.getD i noD,E.getD i bM)]:=by
 have h3:i<(L.zip E).length:=(by simp;omega);have e:(L.zip E).getD i noP=(L.zip E)[i]:=(by simp[List.getD,List.getElem?_eq_getElem h3]);rw[List.take_succ_eq_append_getElem h3, ←bGm L E hl i hi,e]
def wX (w:World) (v:Value) (T:List (List UInt8)) (gh n0:Nat):Prop:=∀ w',(∀ k,n0≤k→k≠gh→k<w.heap.size→w'.heap[k]? = w.heap[k]?)→bF w' v T
theorem qS {wi w:World} {v:Value} {T:List (List UInt8)} {gh n0 nb:Nat} (h:bF wi v T) (hn:aWa nb v) (hgh:gh<nb∨wi.heap.size≤gh) (h0:n0≤nb) (hb:∀ k,k<wi.heap.size→k≠gh→w.heap[k]? = wi.heap[k]?) (hs:wi.heap.size≤w.heap.size):wX w v T gh n0:=by
 intro w' hw;obtain⟨p,c,rfl,ht⟩:=h;refine⟨p,c,rfl,fun j hj=>?_⟩;obtain⟨g,rfl,hc⟩:=ht j hj;refine⟨g,rfl,?_⟩;have hg:=hn g rfl
 have hlt:g<wi.heap.size:=by
  refine Decidable.byContradiction fun h=>?_;rw[World.cell?] at hc;simp[Array.getElem?_eq_none (by omega:wi.heap.size≤g)] at hc
 have hne:g≠gh:=(by omega);have e:w'.heap[g]? = wi.heap[g]?:=(hw g (by omega) hne (by omega)).trans (hb g hlt hne);rw[World.cell?_of_block (a:=⟨g,j,none⟩) e];exact hc
structure lP (w1 w5 w:World) (B gh i:Nat) (L:List aH) (E:List bV) (S K:List (List UInt8)) (sv kv vt:Value):Prop where
 far:∀ k,k<w5.heap.size→k≠gh→(∀ j,j<i→k≠(E.getD j bM).1∧(E.getD j bM).2.2.ownBlock≠some k)→w.heap[k]? = w5.heap[k]?
 sz:w5.heap.size≤w.heap.size
 ops:∀ j,j<i→w.ownsRow B 82 4 (E.getD j bM).2.2 (L.getD j noD).ops.length ((bNg K (L.getD j noD) (L.getD j noD).ops.length).flatMap opc)
 hb:Blk w gh 25 [sv,kv,vt]
 row:w.ownsRow B 67 3 vt i (((L.zip E).take i).flatMap (txc S))
 bel:Below B w1 w
 shut:∀ j,j<i→(L.getD j noD).op=false
theorem lP.below {w1 w5 w w':World} {B gh i:Nat} {L:List aH} {E:List bV} {S K:List (List UInt8)} {sv kv vt:Value} (h:lP w1 w5 w B gh i L E S K sv kv vt) (hb:Below w.heap.size w w') (hB:B≤w1.heap.size):lP w1 w5 w' B gh i L E S K sv kv vt:=
 ⟨fun k hk h1 h2=>(hb.block k (Nat.lt_of_lt_of_le hk h.sz)).trans (h.far k hk h1 h2),Nat.le_trans h.sz hb.size,fun j hj=>aS (h.ops j hj) hb,h.hb.later hb,aS h.row hb,h.bel.trans (hb.mono (Nat.le_trans hB h.bel.size)),h.shut⟩
structure tC (w1 w5 w:World) (B gh i:Nat) (L:List aH) (E:List bV) (S K:List (List UInt8)) (sv kv vt:Value) (s:Int) (j:Nat):Prop where
 far:∀ k,k<w5.heap.size→k≠gh→(∀ j,j<i+1→k≠(E.getD j bM).1∧(E.getD j bM).2.2.ownBlock≠some k)→w.heap[k]? = w5.heap[k]?
 sz:w5.heap.size≤w.heap.size
 ops:∀ j,j<i→w.ownsRow B 82 4 (E.getD j bM).2.2 (L.getD j noD).ops.length ((bNg K (L.getD j noD) (L.getD j noD).ops.length).flatMap opc)
 hb:Blk w gh 25 [sv,kv,vt]
 row:w.ownsRow B 67 3 vt i (((L.zip E).take i).flatMap (txc S))
 bel:Below B w1 w
 shut:∀ j,j<i→(L.getD j noD).op=false
 dr:Blk w (E.getD i bM).1 130 [.string (bs (L.getD i noD).nm),(E.getD i bM).2.1,.int .i64 (L.getD i noD).ln,.int .i64 s,.int .i64 (L.getD i noD).fate,(E.getD i bM).2.2]
 opi:w.ownsRow B 82 4 (E.getD i bM).2.2 (L.getD i noD).ops.length ((bNg K (L.getD i noD) j).flatMap opc)
theorem tC.below {w1 w5 w w':World} {B gh i j:Nat} {s:Int} {L:List aH} {E:List bV} {S K:List (List UInt8)} {sv kv vt:Value} (h:tC w1 w5 w B gh i L E S K sv kv vt s j) (hb:Below w.heap.size w w') (hB:B≤w1.heap.size):tC w1 w5 w' B gh i L E S K sv kv vt s j:=
 ⟨fun k hk h1 h2=>(hb.block k (Nat.lt_of_lt_of_le hk h.sz)).trans (h.far k hk h1 h2),Nat.le_trans h.sz hb.size,fun j hj=>aS (h.ops j hj) hb,h.hb.later hb,aS h.row hb,h.bel.trans (hb.mono (Nat.le_trans hB h.bel.size)),h.shut,h.dr.later hb,aS h.opi hb⟩
structure nF (w5:World) (B gm gh N bo bz bk:Nat) (L:List aH) (lv:Value) (E:List bV):Prop where
 mi:MkI w5 B gm L N lv bo bz bk E
 gh:Ty w5 gh 25
theorem nF.e1 {w5:World} {B gm gh N bo bz bk:Nat} {L:List aH} {lv:Value} {E:List bV} (h:nF w5 B gm gh N bo bz bk L lv E) (i j:Nat) (hij:i≠j) (hi:i<L.length) (hj:j<L.length):(E.getD i bM).1≠(E.getD j bM).1:=by
 rcases Nat.lt_or_gt_of_ne hij with h1 | h1
 ·exact h.mi.ne i j h1 hj
 ·exact(h.mi.ne j i h1 hi).symm
theorem nF.e2 {w5:World} {B gm gh N bo bz bk:Nat} {L:List aH} {lv:Value} {E:List bV} (h:nF w5 B gm gh N bo bz bk L lv E) (i j:Nat) (hij:i≠j) (hi:i<L.length) (hj:j<L.length) (g:Nat) (h1:(E.getD i bM).2.2.ownBlock=some g):(E.getD j bM).2.2.ownBlock≠some g:=by
 rcases Nat.lt_or_gt_of_ne hij with h2 | h2
 ·exact h.mi.neo i j h2 hj g h1
 ·exact fun h3=>h.mi.neo j i h2 hi g h3 h1
theorem nF.ty {w5:World} {B gm gh N bo bz bk:Nat} {L:List aH} {lv:Value} {E:List bV} (h:nF w5 B gm gh N bo bz bk L lv E) {k:Nat} {t:TypeId} (hk:Ty w5 k t) (h1:t≠130) (h2:t≠82) (n:Nat) (hn:n≤L.length):∀ j,j<n→k≠(E.getD j bM).1∧(E.getD j bM).2.2.ownBlock≠some k:=fun j hj=>by
 have d:=h.mi.dr j (by omega);exact⟨hk.ne d.blk.ty h1,fun e=>(hk.ne (aW d.ops e) h2) rfl⟩
theorem lP.mid {w1 w5 w:World} {B gm gh i N bo bz bk:Nat} {L:List aH} {lv:Value} {E:List bV} {S K:List (List UInt8)} {sv kv vt:Value} (ha:nF w5 B gm gh N bo bz bk L lv E) (h:lP w1 w5 w B gh i L E S K sv kv vt) (hi:i<L.length):tC w1 w5 w B gh i L E S K sv kv vt 0 0:=by
 have d:=ha.mi.dr i hi;refine⟨fun k hk h1 h2=>h.far k hk h1 (fun j hj=>h2 j (by omega)),h.sz,h.ops,h.hb,h.row,h.bel,h.shut,d.blk.at (h.far _ d.blk.lt (d.blk.ty.ne ha.gh (by decide)) (fun j hj=>⟨ha.e1 i j (by omega) hi (by omega),fun e=>(d.blk.ty.ne (aW (ha.mi.dr j (by omega)).ops e) (by decide)) rfl⟩)),?_⟩;rw[aYx];exact jL d.ops (fun k hk=>h.far k (gV d.ops hk) ((aW d.ops hk).ne ha.gh (by decide)) (fun j hj=>⟨(aW d.ops hk).ne (ha.mi.dr j (by omega)).blk.ty (by decide),ha.e2 i j (by omega) hi (by omega) k hk⟩))
theorem tC.sess {w1 w5 w:World} {B gm gh i j N bo bz bk:Nat} {s:Int} {L:List aH} {lv:Value} {E:List bV} {S K:List (List UInt8)} {sv kv vt:Value} (ha:nF w5 B gm gh N bo bz bk L lv E) (h:tC w1 w5 w B gh i L E S K sv kv vt s j) (hi:i<L.length) (u:Int) :
  tC w1 w5 (w.setCell ⟨(E.getD i bM).1,3,none⟩ (.int .i64 u)) B gh i L E S K sv kv vt u j:=by
 have d:=ha.mi.dr i hi;have old:∀ k,k≠(E.getD i bM).1→(w.setCell ⟨(E.getD i bM).1,3,none⟩ (.int .i64 u)).heap[k]? = w.heap[k]?:=fun k h1=>Below.heap_setCell _ _ _ _ h1;refine⟨fun k hk h1 h2=>(old k (h2 i (by omega)).1).trans (h.far k hk h1 h2),by rw[mD];exact h.sz,fun j hj=>aD (h.ops j hj) h.dr (by decide) 3 _,h.hb.at (old gh (h.hb.ty.ne h.dr.ty (by decide))),aD h.row h.dr (by decide) 3 _,h.bel.setCell d.base _,h.shut,h.dr.set 3 _,aD h.opi h.dr (by decide) 3 _⟩
theorem tC.op {w1 w5 w:World} {B gm gh i j N bo bz bk go cp:Nat} {s:Int} {L:List aH} {lv:Value} {E:List bV} {S K:List (List UInt8)} {sv kv vt:Value} (ha:nF w5 B gm gh N bo bz bk L lv E) (h:tC w1 w5 w B gh i L E S K sv kv vt s j) (hi:i<L.length)
  (hv:(E.getD i bM).2.2=.slice (some ⟨go,0,none⟩) (L.getD i noD).ops.length cp) (hl:(L.getD i noD).ks.length=(L.getD i noD).ops.length) (hj:j<(L.getD i noD).ops.length) :
  tC w1 w5 (w.setCell ⟨go,j*4+1,none⟩ (.int .i64 ((dS K ((L.getD i noD).ks.getD j [])).1:Int))) B gh i L E S K sv kv vt s (j+1):=by
 have d:=ha.mi.dr i hi;have hown:(E.getD i bM).2.2.ownBlock=some go:=(by rw[hv];rfl);have hty:=aW h.opi hown;have old:∀ k,k≠go→(w.setCell ⟨go,j*4+1,none⟩ (.int .i64 ((dS K ((L.getD i noD).ks.getD j [])).1:Int))).heap[k]? = w.heap[k]?:=fun k h1=>Below.heap_setCell _ _ _ _ h1;have hst:=h.opi;rw[hv] at hst;have hst2:=(hst.stored (j*4+1) (.int .i64 ((dS K ((L.getD i noD).ks.getD j [])).1:Int))).1;rw[aYw K _ hl j hj] at hst2;refine⟨fun k hk h1 h2=>(old k (fun e=>(h2 i (by omega)).2 (by rw[e];exact hown))).trans (h.far k hk h1 h2),by rw[mD];exact h.sz,fun q hq=>jL (h.ops q hq) (fun k hk=>old k (fun e=>?_)),h.hb.at (old gh (h.hb.ty.ne hty (by decide))),jL h.row (fun k hk=>old k ((aW h.row hk).ne hty (by decide))),h.bel.setCell (d.ops.lt go hown).1 _,h.shut,h.dr.at (old _ (h.dr.ty.ne hty (by decide))),by rw[hv];exact hst2⟩;subst e;exact ha.e2 i q (by omega) hi (by omega) k hown hk
theorem tC.done {w1 w5 w w4:World} {B gm gh i N bo bz bk:Nat} {L:List aH} {lv:Value} {E:List bV} {S K:List (List UInt8)} {sv kv vt v4:Value} {ob:Obj} (_ha:nF w5 B gm gh N bo bz bk L lv E) (hlen:E.length=L.length) (h:tC w1 w5 w B gh i L E S K sv kv vt ((dS S (L.getD i noD).nm).1:Int) (L.getD i noD).ops.length) (hi:i<L.length)
  (ho:(L.getD i noD).op=false) (hg5:B≤gh) (hB:B≤w1.heap.size) (hvt:∀ k,vt.ownBlock=some k→w5.heap.size≤k)
  (hown:w4.ownsRow B 67 3 v4 (i+1) (((L.zip E).take i).flatMap (txc S)++txc S (L.getD i noD,E.getD i bM))) (hg:(w.alloc ob).grownBy w4 vt.ownBlock) (hat:v4.ownBlock=vt.ownBlock∨v4.ownBlock=some (w.alloc ob).heap.size) :
  Blk w4 gh 25 [sv,kv,vt]∧lP w1 w5 (w4.setCell ⟨gh,2,none⟩ v4) B gh (i+1) L E S K sv kv v4∧∀ k,v4.ownBlock=some k→w5.heap.size≤k:=by
 have old:∀ k,k<w.heap.size→vt.ownBlock≠some k→w4.heap[k]? = w.heap[k]?:=fun k hk hne=>by
  rw[hg.block k (by simp;omega) (fun e=>hne e.symm),cW _ _ hk]
 have hb4:=h.hb.at (old gh h.hb.lt (fun e=>(h.hb.ty.ne (aW h.row e) (by decide)) rfl))
 have old5:∀ k,k<w.heap.size→vt.ownBlock≠some k→k≠gh→(w4.setCell ⟨gh,2,none⟩ v4).heap[k]? = w.heap[k]?:=fun k hk hne h1=>by
  rw[Below.heap_setCell _ _ _ _ h1];exact old k hk hne
 have hsz:w.heap.size≤w4.heap.size:=Nat.le_trans (by simp) hg.size;have keep:∀ {n:Nat} {v:Value} {xs:List Value},w.ownsRow B 82 4 v n xs→(w4.setCell ⟨gh,2,none⟩ v4).ownsRow B 82 4 v n xs:=fun hv=>jL hv (fun k hk=>old5 k (gV hv hk) (fun e=>((aW hv hk).ne (aW h.row e) (by decide)) rfl) ((aW hv hk).ne h.hb.ty (by decide)));refine⟨hb4,⟨fun k hk h1 h2=>(old5 k (Nat.lt_of_lt_of_le hk h.sz) (fun e=>by have:=hvt k e;omega) h1).trans (h.far k hk h1 h2),by rw[mD];exact Nat.le_trans h.sz hsz,fun j hj=>?_,hb4.set 2 v4,?_,?_,fun j hj=>?_⟩,fun k hk=>?_⟩
 ·rcases Nat.lt_or_ge j i with h1 | h1
  ·exact keep (h.ops j h1)
  ·have e:j=i:=(by omega);subst e;exact keep h.opi
 ·rw[bGn L E hlen i hi, ←yN];exact aD hown hb4 (by decide) 2 v4
 ·have hBw:=Nat.le_trans hB h.bel.size;exact((h.bel.alloc hBw ob).grown hg (by simp;omega) (fun k hk=>(h.row.lt k hk).1)).setCell hg5 _
 ·rcases Nat.lt_or_ge j i with h1 | h1
  ·exact h.shut j h1
  ·have e:j=i:=(by omega);subst e;exact ho
 ·rcases hat with hat | hat
  ·rw[hat] at hk;exact hvt k hk
  ·rw[hat] at hk;injection hk with hk;simp at hk;have:=h.sz;omega
theorem lP.start {w1 w5:World} {B gh:Nat} {L:List aH} {E:List bV} {S K:List (List UInt8)} {sv kv:Value} (hb:Blk w5 gh 25 [sv,kv,.slice none 0 0]) (hw:Below B w1 w5):lP w1 w5 w5 B gh 0 L E S K sv kv (.slice none 0 0):=
 ⟨fun _ _ _ _=>rfl,Nat.le_refl _,fun j hj=>absurd hj (Nat.not_lt_zero j),hb,by rw[List.take_zero];exact World.ownsRow_nil _ _ _ _,hw,fun j hj=>absurd hj (Nat.not_lt_zero j)⟩
theorem lP.ptrs {w1 w5 w:World} {B gm gh i N bo bz bk:Nat} {L:List aH} {lv:Value} {E:List bV} {S K:List (List UInt8)} {sv kv vt:Value} (ha:nF w5 B gm gh N bo bz bk L lv E) (h:lP w1 w5 w B gh i L E S K sv kv vt) (hi:i≤L.length):SlS ptc 1 bM w lv E:=
 aKm (f:=ptc) (s:=1) bM (fun _=>rfl) (jL (w':=w) ha.mi.row (fun q hq=>h.far q (gV ha.mi.row hq) ((aW ha.mi.row hq).ne ha.gh (by decide)) (ha.ty (aW ha.mi.row hq) (by decide) (by decide) i hi)))
theorem lP.bx {w1 w5 w:World} {B gm gh i N bo bz bk:Nat} {L:List aH} {lv:Value} {E:List bV} {S K:List (List UInt8)} {sv kv vt:Value} (ha:nF w5 B gm gh N bo bz bk L lv E) (h:lP w1 w5 w B gh i L E S K sv kv vt) (hi:i≤L.length):Blk w gm 127 [lv,.map (some bo),.map (some bz),.map (some bk)]:=
 ha.mi.bx.at (h.far gm ha.mi.bx.lt (ha.mi.bx.ty.ne ha.gh (by decide)) (ha.ty ha.mi.bx.ty (by decide) (by decide) i hi))
theorem lP.opn {w1 w5 w:World} {B gm gh i N bo bz bk:Nat} {L:List aH} {lv:Value} {E:List bV} {S K:List (List UInt8)} {sv kv vt:Value} (ha:nF w5 B gm gh N bo bz bk L lv E) (h:lP w1 w5 w B gh i L E S K sv kv vt) (hi:i≤L.length):nC w bo (bW L E) N:=
 ha.mi.opn.at (h.far bo ha.mi.opn.lt (ha.mi.opn.ty ha.gh) (fun j hj=>⟨ha.mi.opn.ty (ha.mi.dr j (by omega)).blk.ty,fun e=>ha.mi.opn.ty (aW (ha.mi.dr j (by omega)).ops e) rfl⟩))
theorem lP.other {w1 w5 w:World} {B gm gh i N bo bz bk g':Nat} {L:List aH} {lv:Value} {E:List bV} {S K:List (List UInt8)} {sv kv vt:Value} (ha:nF w5 B gm gh N bo bz bk L lv E) (h:lP w1 w5 w B gh i L E S K sv kv vt) (_hi:i<L.length) (ho:(L.getD i noD).op=false) (hF:bW L E (L.getD i noD).nm=some g'):∃ cs,Blk w g' 130 cs:=by
 unfold bW at hF;by_cases hlt:atD L (L.getD i noD).nm<L.length
 ·rw[if_pos hlt] at hF;injection hF with hF;obtain⟨o1,o2⟩:=nY L _ hlt
  have hgt:i<atD L (L.getD i noD).nm:=by
   rcases Nat.lt_trichotomy (atD L (L.getD i noD).nm) i with h1 | h1 | h1
   ·rw[h.shut _ h1] at o1;cases o1
   ·rw[h1,ho] at o1;cases o1
   ·exact h1
  have d:=ha.mi.dr _ hlt;rw[←hF];exact⟨_,d.blk.at (h.far _ d.blk.lt (d.blk.ty.ne ha.gh (by decide)) (fun j hj=>⟨ha.e1 _ j (by omega) hlt (by omega),fun e=>(d.blk.ty.ne (aW (ha.mi.dr j (by omega)).ops e) (by decide)) rfl⟩))⟩
 ·rw[if_neg hlt] at hF;cases hF
theorem bDt (L:List (List UInt8)):L.flatMap nmc=lM L:=by
 induction L with
 | nil=>rfl
 | cons a L ih=>rw[List.flatMap_cons,ih];rfl
theorem tC.keys {w1 w5 w:World} {B gm gh i j N bo bz bk:Nat} {s:Int} {L:List aH} {lv:Value} {E:List bV} {S K:List (List UInt8)} {sv kv vt:Value} (ha:nF w5 B gm gh N bo bz bk L lv E) (h:tC w1 w5 w B gh i L E S K sv kv vt s j) (hi:i<L.length):bF w (E.getD i bM).2.1 (L.getD i noD).ks:=by
 have d:=ha.mi.dr i hi;have:=jL (w':=w) d.ks (fun q hq=>h.far q (gV d.ks hq) ((aW d.ks hq).ne ha.gh (by decide)) (ha.ty (aW d.ks hq) (by decide) (by decide) (i+1) hi));rw[bDt] at this;exact qQ this
def bLw (L:List aH) (E:List bV) (n0:Nat):Prop:=∀ j,j<L.length→(E.getD j bM).1<n0∧∀ g,(E.getD j bM).2.2.ownBlock=some g→g<n0
theorem bKp {w:World} {B gm N bo bz bk:Nat} {L:List aH} {lv:Value} {E:List bV} (h:MkI w B gm L N lv bo bz bk E):bLw L E w.heap.size:=fun j hj=>⟨(h.dr j hj).blk.lt,fun _g hg=>gV (h.dr j hj).ops hg⟩
theorem xQ {w w5:World} {v:Value} {T:List (List UInt8)} {gh n0 i:Nat} {L:List aH} {E:List bV} (h:wX w5 v T gh n0) (hl:bLw L E n0) (hi:i≤L.length) (hf:∀ k,k<w5.heap.size→k≠gh→(∀ j,j<i→k≠(E.getD j bM).1∧(E.getD j bM).2.2.ownBlock≠some k)→w.heap[k]? = w5.heap[k]?):bF w v T:=
 h w (fun k h0 h1 h2=>hf k h2 h1 (fun j hj=>⟨fun e=>by have:=(hl j (by omega)).1;omega,fun e=>by have:=(hl j (by omega)).2 k e;omega⟩))
theorem bJg {w:World} {B:Nat} {L:List aH} {E:List bV} {S K:List (List UInt8)} {vt:Value} (hr:w.ownsRow B 67 3 vt L.length (((L.zip E).take L.length).flatMap (txc S)))
  (hops:∀ j,j<L.length→w.ownsRow B 82 4 (E.getD j bM).2.2 (L.getD j noD).ops.length ((bNg K (L.getD j noD) (L.getD j noD).ops.length).flatMap opc)) (hl:E.length=L.length) (hG:mJ L):kM w vt (L.map (bAu S K)):=by
 have hz:(L.zip E).length=L.length:=(by simp;omega);rw[List.take_of_length_le (by omega)] at hr;rw[←hz] at hr;obtain⟨p,cap,hv,hc⟩:=aKm noP (bJc S) hr;refine⟨p,cap,by rw[hv];simp;omega,fun j hj=>?_⟩;rw[List.length_map] at hj;obtain⟨g,hp,h1⟩:=hc j (by omega);rw[bGm L E hl j hj] at h1;have hd:(L.map (bAu S K)).getD j aM=bAu S K (L.getD j noD):=(by simp[hj]);rw[hd];refine⟨g,(E.getD j bM).2.2,hp,h1 0 _ rfl,h1 1 _ rfl,h1 2 _ rfl,?_⟩;have hg:=hG.all _ (qI L j hj);have ho:=hops j hj;rw[bDo K _ hg.len] at ho;have hlo:((L.getD j noD).ops.zipWith (opK K) (L.getD j noD).ks).length=(L.getD j noD).ops.length:=(by rw[List.length_zipWith,hg.len,Nat.min_self]);rw[←hlo] at ho;obtain⟨p2,cap2,hv2,hc2⟩:=aKm cG aVm ho;refine⟨p2,cap2,hv2,bEl ho hv2,fun q hq=>?_⟩;obtain⟨g2,hp2,h2⟩:=hc2 q hq;exact⟨g2,hp2,h2 0 _ rfl,h2 1 _ rfl,h2 2 _ rfl,h2 3 _ rfl⟩
end
section
open Go.RowKit Go.Lib
section
attribute [local go_sem] aJn oU wY aAw oT qZ
set_option maxHeartbeats 2000000 in
theorem bFy (k n:Int) (w:World) :
  Calls Tryz.prog 78 #[.agg #[.int .i64 k,.int .i64 n]] w fun e w'=>e=.returned (.bool (kW k n))∧Below w.heap.size w w':=by
 rcases qL k n with ⟨rfl,h⟩ | ⟨rfl,rfl,h⟩ | ⟨rfl,rfl,h⟩ | ⟨rfl,h1,h2,h⟩ | ⟨rfl,h1,h2,h⟩ | ⟨h1,h2,h3,h4,h⟩<;>rw[h]<;>clear h
 all_goals
  go_enter Tryz.func78,Tryz.ntmps78
  go_wp2
  go_ret;exact⟨rfl,by go_grown⟩
set_option maxHeartbeats 2000000 in
theorem bAb (k n:Int) (w:World) :
  Calls Tryz.prog 62 #[.agg #[.int .i64 k,.int .i64 n]] w fun e w'=>e=.returned (.bool (kW k n))∧Below w.heap.size w w':=by
 rcases qL k n with ⟨rfl,h⟩ | ⟨rfl,rfl,h⟩ | ⟨rfl,rfl,h⟩ | ⟨rfl,h1,h2,h⟩ | ⟨rfl,h1,h2,h⟩ | ⟨h1,h2,h3,h4,h⟩<;>rw[h]<;>clear h
 all_goals
  go_enter Tryz.func62,Tryz.ntmps62
  go_wp2
  go_ret;exact⟨rfl,by go_grown⟩
end
set_option maxHeartbeats 1000000 in
theorem aFu (n:Int) (p:Option Addr) (m c:Nat) (w:World) :
  Calls Tryz.prog 76 #[.int .i64 n,.slice p m c] w fun e w'=>e=.returned (.bool (dV n m))∧w=w':=by
 unfold dV;by_cases h:0≤n
 ·have e1:decide (0≤n)=true:=decide_eq_true h;rw[e1,Bool.true_and];go_enter Tryz.func76,Tryz.ntmps76
  go_wp2
  go_ret;exact⟨rfl,rfl⟩
 ·have e1:decide (0≤n)=false:=decide_eq_false h;rw[e1,Bool.false_and];go_enter Tryz.func76,Tryz.ntmps76
  go_wp2
  go_ret;exact⟨rfl,rfl⟩
set_option maxRecDepth 100000 in
set_option maxHeartbeats 2000000 in
theorem bJd (v0 v1 v2 sv:Value) (S:List (List UInt8)) (t:bB) (w:World) (h0:bF w v0 S) (hs:qF w sv t.2.2) :
  Calls Tryz.prog 54 #[.agg #[v0,v1,v2],.agg #[.int .i64 t.1,.int .i64 t.2.1,sv]] w fun e w'=>e=.returned (.bool (bQ S.length t))∧Below w.heap.size w w':=by
 obtain⟨p0,c0,rfl,-⟩:=h0;obtain⟨ps,cs,rfl,-⟩:=hs;obtain⟨s,f,l⟩:=t;simp only[bQ];have HW:=lhid (aFu s p0 S.length c0);generalize l.length=q;generalize dV s S.length=I at *
 cases I with
 | false=>
  go_enter Tryz.func54,Tryz.ntmps54;(go_wp2_with (first | (go_at_call 76;refine(HW.out _).mono ?_;rintro e w1 ⟨rfl,rfl⟩)));go_ret;exact⟨rfl,by go_grown⟩
 | true=>
  by_cases h1:1≤f
  ·have e1:decide (1≤f)=true:=decide_eq_true h1;by_cases h2:f≤3
   ·have e2:decide (f≤3)=true:=decide_eq_true h2;rw[e1,e2];go_enter Tryz.func54,Tryz.ntmps54;(go_wp2_with (first | (go_at_call 76;refine(HW.out _).mono ?_;rintro e w1 ⟨rfl,rfl⟩)));go_ret;exact⟨by simp;try omega,by go_grown⟩
   ·have e2:decide (f≤3)=false:=decide_eq_false h2;rw[e1,e2];go_enter Tryz.func54,Tryz.ntmps54;(go_wp2_with (first | (go_at_call 76;refine(HW.out _).mono ?_;rintro e w1 ⟨rfl,rfl⟩)));go_ret;exact⟨rfl,by go_grown⟩
  ·have e1:decide (1≤f)=false:=decide_eq_false h1;rw[e1];go_enter Tryz.func54,Tryz.ntmps54;(go_wp2_with (first | (go_at_call 76;refine(HW.out _).mono ?_;rintro e w1 ⟨rfl,rfl⟩)));go_ret;exact⟨rfl,by go_grown⟩
theorem aHa {w w2:World} {A B:Obj} (h:Below (w.heap.size+1+1) ((w.alloc A).alloc B) w2):Below w.heap.size w w2:=
 aB (((Below.refl _ _).alloc (Nat.le_refl _) A).alloc (by simp) B) (by simpa using h)
set_option maxRecDepth 100000 in
set_option maxHeartbeats 2000000 in
theorem bKw (v0 v1 v2:Value) (K:List (List UInt8)) (o:OpM) (w:World) (h1:bF w v1 K) :
  Calls Tryz.prog 56 #[.agg #[v0,v1,v2],.agg #[.bool o.1,.int .i64 o.2.1,.int .i64 o.2.2.1,.int .i64 o.2.2.2]] w fun e w'=>e=.returned (.bool (jS K.length o))∧Below w.heap.size w w':=by
 obtain⟨p1,c1,rfl,-⟩:=h1;obtain⟨b,k,kd,n⟩:=o;simp only[jS];have HW:=lhid (aFu k p1 K.length c1);have HM:=lhid (bFy kd n);generalize dV k K.length=I at *;generalize kW kd n=M at *
 cases I with
 | false=>
  go_enter Tryz.func56,Tryz.ntmps56;(go_wp2_with (first | (go_at_call 76;refine(HW.out _).mono ?_;rintro e w1 ⟨rfl,rfl⟩)));go_ret;exact⟨rfl,by go_grown⟩
 | true=>
  cases M with
  | false=>
   go_enter Tryz.func56,Tryz.ntmps56;(go_wp2_with (first | (go_at_call 76;refine(HW.out _).mono ?_;rintro e w1 ⟨rfl,rfl⟩) | (go_at_call 78;refine(HM.out _).mono ?_;rintro e w2 ⟨rfl,hb2⟩)));go_ret;exact⟨rfl,bel⟩
  | true=>
   have ext:∀ (w2:World) (hb2:Below (w.heap.size+1+1) ((w.alloc (.cells #[v0,.slice p1 K.length c1,v2] 25)).alloc (.cells #[.bool b,.int .i64 k,.int .i64 kd,.int .i64 n] 82)) w2),w2.cell? ⟨w.heap.size+1,0,none⟩=some (.bool b)∧w2.cell? ⟨w.heap.size+1,2,none⟩=some (.int .i64 kd):=fun w2 hb2=>by
    have e0:=hb2.cell (p:=⟨w.heap.size+1,0,none⟩) (by show w.heap.size+1<w.heap.size+1+1;omega);have e2:=hb2.cell (p:=⟨w.heap.size+1,2,none⟩) (by show w.heap.size+1<w.heap.size+1+1;omega);rw[e0,e2];have hr:=heap_alloc_new (w.alloc (.cells #[v0,.slice p1 K.length c1,v2] 25)) (.cells #[.bool b,.int .i64 k,.int .i64 kd,.int .i64 n] 82);rw[show(w.alloc (.cells #[v0,.slice p1 K.length c1,v2] 25)).heap.size=w.heap.size+1 by simp] at hr;exact⟨by rw[cell_of_row _ _ 0 _ _ (0,0) hr];rfl,by rw[cell_of_row _ _ 2 _ _ (0,0) hr];rfl⟩
   cases b with
   | false=>
    go_enter Tryz.func56,Tryz.ntmps56;(go_wp2_with (first | (go_at_call 76;refine(HW.out _).mono ?_;rintro e w1 ⟨rfl,rfl⟩) | (go_at_call 78;refine(HM.out _).mono ?_;rintro e w2 ⟨rfl,hb2⟩;try simp at hb2;obtain⟨x1,x2⟩:=ext w2 hb2)));go_ret;exact⟨rfl,aHa hb2⟩
   | true=>
    go_enter Tryz.func56,Tryz.ntmps56;(go_wp2_with (first | (go_at_call 76;refine(HW.out _).mono ?_;rintro e w1 ⟨rfl,rfl⟩) | (go_at_call 78;refine(HM.out _).mono ?_;rintro e w2 ⟨rfl,hb2⟩;try simp at hb2;obtain⟨x1,x2⟩:=ext w2 hb2)));go_ret;exact⟨by simp,aHa hb2⟩
end
section
open Go.RowKit Go.Lib
def cU (h:aI):Prop:=h.1.length≤1000∧h.2.1.length≤1000∧h.2.2.length≤1000∧(∀ x∈h.1,x.length≤1000000)∧(∀ x∈h.2.1,x.length≤1000000)∧∀ t∈h.2.2,t.2.2.length≤1000
def nG (w:World) (B:Nat) (v0 v1 v2:Value):Prop:=w.cell? ⟨B,0,none⟩=some v0∧w.cell? ⟨B,1,none⟩=some v1∧w.cell? ⟨B,2,none⟩=some v2
theorem nG.below {w w':World} {B:Nat} {v0 v1 v2:Value} (h:nG w B v0 v1 v2) (hb:Below w.heap.size w w'):nG w' B v0 v1 v2:=⟨cell_later hb h.1,cell_later hb h.2.1,cell_later hb h.2.2⟩
theorem qT (w:World) (v0 v1 v2:Value) (t:TypeId):nG (w.alloc (.cells #[v0,v1,v2] t)) w.heap.size v0 v1 v2:=by
 have hr:=heap_alloc_new w (.cells #[v0,v1,v2] t);exact⟨by rw[cell_of_row _ _ 0 _ _ (0,0) hr];rfl,by rw[cell_of_row _ _ 1 _ _ (0,0) hr];rfl,by rw[cell_of_row _ _ 2 _ _ (0,0) hr];rfl⟩
set_option maxRecDepth 100000 in
set_option maxHeartbeats 2000000 in
theorem aXd (v0 v1 v2:Value) (h:aI) (w:World) (h0:bF w v0 h.1) (h1:bF w v1 h.2.1) (h2:kM w v2 h.2.2) (hm:cU h) (hT:Lib.Utf8Tabs 1 2 w) :
  Calls Tryz.prog 51 #[.agg #[v0,v1,v2]] w fun e w'=>e=.returned (.bool (mV h))∧Below w.heap.size w w':=by
 obtain⟨m1,m2,-,m3,m4,-⟩:=hm;have H1:=lhid (fun w' (hw:bF w' v0 h.1) hT'=>aKu w' v0 h.1 hw (by omega) m3 hT');have H2:=lhid (fun w' (hw:bF w' v1 h.2.1) hT'=>aKu w' v1 h.2.1 hw (by omega) m4 hT');have HT:=lhid hT;have T0:=lhid h0;have T1:=lhid h1;obtain⟨p0,c0,e0,-⟩:=h0;obtain⟨p1,c1,e1,-⟩:=h1;obtain⟨p2,c2,e2,-⟩:=h2;unfold mV;generalize h.1.length=n0 at *;generalize h.2.1.length=n1 at *;generalize h.2.2.length=n2 at *;generalize isT h.1=I at *;generalize isT h.2.1=J at *;have E0:=lhid e0;have E1:=lhid e1;have E2:=lhid e2;clear e0 e1 e2;have hal:=(Below.refl w.heap.size w).alloc (Nat.le_refl _) (.cells #[v0,v1,v2] 25);have h3:=qT w v0 v1 v2 25;have HA:=lhid hal;have H3:=lhid h3;clear m3 m4 hT hal h3
 cases I with
 | false=>
  go_enter Tryz.func51,Tryz.ntmps51;(go_wp2_with fail);refine(H1.out _ (T0.out.below HA.out) (Utf8Tabs_below HT.out HA.out)).mono ?_;rintro e w1 ⟨rfl,hb1⟩;(go_wp2_with fail);go_ret;exact⟨rfl,aB HA.out hb1⟩
 | true=>
  cases J with
  | false=>
   go_enter Tryz.func51,Tryz.ntmps51;(go_wp2_with fail);refine(H1.out _ (T0.out.below HA.out) (Utf8Tabs_below HT.out HA.out)).mono ?_;rintro e w1 ⟨rfl,hb1⟩;obtain⟨q0,q1,q2⟩:=H3.out.below hb1;have hbw:=aB HA.out hb1;clear hb1;(go_wp2_with fail);refine(H2.out _ (T1.out.below hbw) (Utf8Tabs_below HT.out hbw)).mono ?_;rintro e w2 ⟨rfl,hb2⟩;(go_wp2_with fail);go_ret;exact⟨rfl,aB hbw hb2⟩
  | true=>
   by_cases c1:n0≤20
   ·by_cases c2:n1≤40
    ·have d1:decide (n0≤20)=true:=decide_eq_true c1;have i1:decide ((n0:Int)≤20)=true:=decide_eq_true (by omega);have d2:decide (n1≤40)=true:=decide_eq_true c2;have i2:decide ((n1:Int)≤40)=true:=decide_eq_true (by omega);rw[d1,d2];go_enter Tryz.func51,Tryz.ntmps51;(go_wp2_with fail);refine(H1.out _ (T0.out.below HA.out) (Utf8Tabs_below HT.out HA.out)).mono ?_;rintro e w1 ⟨rfl,hb1⟩;obtain⟨q0,q1,q2⟩:=H3.out.below hb1;have hbw:=aB HA.out hb1;have H4:=lhid (H3.out.below hb1);clear hb1;(go_wp2_with fail);refine(H2.out _ (T1.out.below hbw) (Utf8Tabs_below HT.out hbw)).mono ?_;rintro e w2 ⟨rfl,hb2⟩;obtain⟨r0,r1,r2⟩:=H4.out.below hb2;have e0:=E0.out;have e1:=E1.out;have e2:=E2.out;subst e0 e1 e2;have hbw2:=aB hbw hb2;clear hb2 q0 q1 q2 hbw;(go_wp2_with fail);go_ret;exact⟨by simp;try omega,hbw2⟩
    ·have d1:decide (n0≤20)=true:=decide_eq_true c1;have i1:decide ((n0:Int)≤20)=true:=decide_eq_true (by omega);have d2:decide (n1≤40)=false:=decide_eq_false c2;have i2:decide ((n1:Int)≤40)=false:=decide_eq_false (by omega);rw[d1,d2];go_enter Tryz.func51,Tryz.ntmps51;(go_wp2_with fail);refine(H1.out _ (T0.out.below HA.out) (Utf8Tabs_below HT.out HA.out)).mono ?_;rintro e w1 ⟨rfl,hb1⟩;obtain⟨q0,q1,q2⟩:=H3.out.below hb1;have hbw:=aB HA.out hb1;have H4:=lhid (H3.out.below hb1);clear hb1;(go_wp2_with fail);refine(H2.out _ (T1.out.below hbw) (Utf8Tabs_below HT.out hbw)).mono ?_;rintro e w2 ⟨rfl,hb2⟩;obtain⟨r0,r1,r2⟩:=H4.out.below hb2;have e0:=E0.out;have e1:=E1.out;have e2:=E2.out;subst e0 e1 e2;have hbw2:=aB hbw hb2;clear hb2 q0 q1 q2 hbw;(go_wp2_with fail);go_ret;exact⟨rfl,hbw2⟩
   ·have d1:decide (n0≤20)=false:=decide_eq_false c1;have i1:decide ((n0:Int)≤20)=false:=decide_eq_false (by omega);rw[d1];go_enter Tryz.func51,Tryz.ntmps51;(go_wp2_with fail);refine(H1.out _ (T0.out.below HA.out) (Utf8Tabs_below HT.out HA.out)).mono ?_;rintro e w1 ⟨rfl,hb1⟩;obtain⟨q0,q1,q2⟩:=H3.out.below hb1;have hbw:=aB HA.out hb1;have H4:=lhid (H3.out.below hb1);clear hb1;(go_wp2_with fail);refine(H2.out _ (T1.out.below hbw) (Utf8Tabs_below HT.out hbw)).mono ?_;rintro e w2 ⟨rfl,hb2⟩;obtain⟨r0,r1,r2⟩:=H4.out.below hb2;have e0:=E0.out;have e1:=E1.out;have e2:=E2.out;subst e0 e1 e2;have hbw2:=aB hbw hb2;clear hb2 q0 q1 q2 hbw;(go_wp2_with fail);go_ret;exact⟨rfl,hbw2⟩
set_option maxRecDepth 100000 in
set_option maxHeartbeats 1000000 in
theorem bDn (v0 v1 v2 sv:Value) (S:List (List UInt8)) (t:bB) (B:Nat) (w:World) (hB:nG w B v0 v1 v2) (h0:bF w v0 S) (hs:qF w sv t.2.2) :
  Calls Tryz.prog 53 #[.agg #[.int .i64 t.1,.int .i64 t.2.1,sv],.pointer (some ⟨B,0,none⟩)] w fun e w'=>e=.returned (.bool (!bQ S.length t))∧Below w.heap.size w w':=by
 have H1:=lhid (fun w' (a:bF w' v0 S) (b:qF w' sv t.2.2)=>bJd v0 v1 v2 sv S t w' a b);have hal:=(Below.refl w.heap.size w).alloc (Nat.le_refl _) (.cells #[.int .i64 t.1,.int .i64 t.2.1,sv] 67);have HA:=lhid hal;have T0:=lhid h0;have TS:=lhid hs;obtain⟨q0,q1,q2⟩:=hB.below hal;obtain⟨a,b,l⟩:=t;simp only at H1 TS HA ⊢;clear h0 hs hB hal;go_enter Tryz.func53,Tryz.ntmps53;(go_wp2_with fail);refine(H1.out _ (T0.out.below HA.out) (TS.out.below HA.out)).mono ?_;rintro e w1 ⟨rfl,hb1⟩;(go_wp2_with fail);go_ret;exact⟨rfl,aB HA.out hb1⟩
set_option maxRecDepth 100000 in
set_option maxHeartbeats 2000000 in
theorem aGn (v0 v1 v2 v:Value) (S:List (List UInt8)) (L:List bB) (B:Nat) (w:World) (hB:nG w B v0 v1 v2) (h0:bF w v0 S) (hv:kM w v L) (hL:L.length≤1000) :
  Calls Tryz.prog 75 #[v,.func (.func 53) #[] #[.pointer (some ⟨B,0,none⟩)]] w fun e w'=>∃ i:Int,e=.returned (.int .i64 i)∧decide (0≤i) = !(L.all (bQ S.length))∧Below w.heap.size w w':=by
 obtain⟨p,c,rfl,hp⟩:=hv;have HX:=lhid hp;have H3:=lhid hB;have T0:=lhid h0;have en:=enters_of Tryz.func53 (by kernel_rfl) rfl
 have HYes:Hid (∀ k:Nat,k<L.length→bQ S.length (L.getD k aM)=false→decide ((0:Int)≤(k:Int)) = !(L.all (bQ S.length))):=lhid (fun k hk hf=>by
  have:L.all (bQ S.length)=false:=by
   rw[List.all_eq_false];refine⟨L.getD k aM,?_,by rw[hf];exact Bool.false_ne_true⟩;have:L.getD k aM=L[k]:=(by simp[hk]);rw[this];exact List.getElem_mem hk
  rw[this]
  simp)
 have HNo:Hid ((∀ k:Nat,k<L.length→bQ S.length (L.getD k aM)=true)→decide ((0:Int)≤-1) = !(L.all (bQ S.length))):=lhid (fun h=>by
  have:L.all (bQ S.length)=true:=by
   rw[List.all_eq_true];intro x hx;obtain⟨k,hk,e⟩:=List.getElem_of_mem hx;have:=h k hk;simpa [hk,e] using this
  rw[this]
  rfl)
 generalize (!(L.all (bQ S.length)))=R at *;clear hp hB h0;go_enter Tryz.func75,Tryz.ntmps75;go_wp2_with fail
 go_loopw [8] (fun i wr=>∃ k:Nat,k≤L.length∧i=.int .i64 k∧(∀ j,j<k→bQ S.length (L.getD j aM)=true)∧Below w.heap.size w wr) (fun i _=>L.length-(intOf i).toNat)
 case atStart=>exact⟨0,Nat.zero_le _,rfl,fun j hj=>absurd hj (Nat.not_lt_zero j),Below.refl _ _⟩
 case round=>
  obtain⟨k,hk,rfl,hn,hbw⟩:=hrel;have HN:=lhid hn;clear hn;by_cases hk1:k<L.length
  ·obtain⟨g,sv,rfl,a1,a2,a3,a4⟩:=HX.out k hk1;have a1':=cell_later hbw a1;have a2':=cell_later hbw a2;have a3':=cell_later hbw a3;have HM:=lhid (bDn v0 v1 v2 sv S (L.getD k aM) B wr (H3.out.below hbw) (T0.out.below hbw) (a4.below hbw));have HY:=lhid (HYes.out k hk1)
   have HK:Hid (bQ S.length (L.getD k aM)=true→∀ j,j<k+1→bQ S.length (L.getD j aM)=true):=lhid (fun h j hj=>by
    by_cases hjk:j<k
    ·exact HN.out j hjk
    ·obtain rfl:j=k:=by omega
     exact h)
   obtain⟨b,hb⟩:∃ b,bQ S.length (L.getD k aM)=b:=⟨_,rfl⟩;rw[hb] at HM HY HK;obtain⟨t,ht⟩:∃ t,L.getD k aM=t:=⟨_,rfl⟩;rw[ht] at HM a1' a2';obtain⟨t1,t2,t3⟩:=t;simp only at HM a1' a2';clear a1 a2 a3 a4 hb ht
   cases b with
   | false=>
    (go_wp2_with (first | (go_at_call 53;refine HM.out.mono ?_;rintro e w1 ⟨rfl,hb1⟩)));go_ret;exact⟨_,rfl,HY.out trivial,aB hbw hb1⟩
   | true=>
    (go_wp2_with (first | (go_at_call 53;refine HM.out.mono ?_;rintro e w1 ⟨rfl,hb1⟩)));go_roundw
    case rel=>exact⟨k+1,by omega,by go_num,HK.out trivial,aB hbw hb1⟩
    case measure=>simp[intOf];omega
  ·have hke:k=L.length:=(by omega);subst hke;have H1:=lhid (HNo.out HN.out);(go_wp2_with fail);go_ret;exact⟨_,rfl,H1.out,hbw⟩
set_option maxRecDepth 100000 in
set_option maxHeartbeats 1000000 in
theorem yF (v0 v1 v2 v:Value) (S:List (List UInt8)) (L:List bB) (B:Nat) (w:World) (hB:nG w B v0 v1 v2) (h0:bF w v0 S) (hv:kM w v L) (hL:L.length≤1000) :
  Calls Tryz.prog 52 #[v,.func (.func 53) #[] #[.pointer (some ⟨B,0,none⟩)]] w fun e w'=>e=.returned (.bool (!(L.all (bQ S.length))))∧Below w.heap.size w w':=by
 have H1:=lhid (aGn v0 v1 v2 v S L B w hB h0 hv hL);generalize (!(L.all (bQ S.length)))=R at *;clear hB h0 hv hL;go_enter Tryz.func52,Tryz.ntmps52;(go_wp2_with fail);refine H1.out.mono ?_;rintro e w1 ⟨i,rfl,hi,hb1⟩;have HI:=lhid hi;clear hi;(go_wp2_with fail);go_ret;refine⟨?_,hb1⟩;rw[←HI.out];rfl
end
section
instance decOp:DecidableEq OpM:=fun a b=>(inferInstance:Decidable (a=b))
instance decTxn:DecidableEq bB:=fun a b=>(inferInstance:Decidable (a=b))
instance decTxns:DecidableEq (List bB):=instDecidableEqList
instance decHist:DecidableEq aI:=fun a b=>(inferInstance:Decidable (a=b))
end
section
open Go.RowKit Go.Lib
theorem jT {w w':World} {base size n:Nat} {e:TypeId} {v:Value} {xs:List Value} {row:Option Nat} (h:w.ownsRow base e size v n xs) (hg:w.grownBy w' row) (hne:∀ k,v.ownBlock=some k→row≠some k):w'.ownsRow base e size v n xs:=by
 refine h.kept hg ?_
 cases hv:v.ownBlock with
 | none=>
  rcases h.2 with ⟨rfl,-⟩ | ⟨g,cap,cur,rfl,-⟩
  ·exact .inl rfl
  ·cases hv
 | some k=>exact .inr (fun e=>hne k hv e.symm)
end
end Go.Proofs.YtdfegfagedeilaaGreatDoor
