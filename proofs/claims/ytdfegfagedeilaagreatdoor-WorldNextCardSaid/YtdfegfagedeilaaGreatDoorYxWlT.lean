/-
  Layer 16 (world), the document: where the lost values stand among those that are tried, and whether a world is tried, walked. No conditions.
-/
import Derived.Test.YtdfegfagedeilaaGreatDoorYxWlQ
import Derived.Test.YtdfegfagedeilaaGreatDoorYNn
namespace Go.Proofs.YtdfegfagedeilaaGreatDoor
open Go.RowKit Go.Lib
def bQc (LL:List (List aR)) (vs:List aR):List Int:=(List.range LL.length).map fun i=>aJw (LL.getD i []) (vs.getD i aN)
theorem bQd (LL:List (List aR)) (vs:List aR):(bQc LL vs).length=LL.length:=by simp[bQc]
theorem bQg (LL:List (List aR)) (vs:List aR) (n:Nat) (h:n<LL.length):(bQc LL vs).take (n+1)=(bQc LL vs).take n++[aJw (LL.getD n []) (vs.getD n aN)]:=by
 rw[zY (bQc LL vs) 0 n (by rw[bQd];exact h)];simp[bQc,h]
theorem bQj (L:List aR) (x:aR):-1≤aJw L x∧aJw L x<L.length+1:=by
 unfold aJw;split
 ·rename_i hm;have:=zN.2 hm;omega
 ·omega
def AtW (L:List aR) (x:aR) (k:Nat) (a:Int):Prop:=(a=-1∧∀ j,j<k→L.getD j aN≠x)∨(0≤a∧a=aJw L x)
theorem AtW.start (L:List aR) (x:aR):AtW L x 0 (-1):=.inl ⟨rfl,fun j hj=>absurd hj (Nat.not_lt_zero j)⟩
theorem AtW.done {L:List aR} {x:aR} {a:Int} (h:AtW L x L.length a):a=aJw L x:=by
 rcases h with ⟨h1,h2⟩ | ⟨-,h⟩
 ·rw[h1,bHq h2]
 ·exact h
set_option maxRecDepth 100000 in
set_option maxHeartbeats 4000000 in
theorem bQk {w:World} {v u:Value} {h:aI} {m:bK} (hv:cJ w v h) (hu:lI w u m) (hm:cU h) (h50:m.1.length≤1000000∧m.2.length≤1000000) (hmm:cZ h=true) (hf:m.1.length=(h.2.2.filter aP).length) (hl:m.2.length=(cY h).length) :
  Calls Tryz.prog 38 #[v,u] w fun e w'=>∃ v',e=.returned v'∧qC w' v' (bQc (bD h m.1) m.2)∧Below w.heap.size w w':=by
 have H0:=lhid hv;have U0:=lhid hu;obtain⟨v0,v1,v2,rfl,⟨p0,c0,rfl,-⟩,⟨p1,c1,rfl,-⟩,⟨p2,c2,rfl,-⟩⟩:=hv;obtain⟨pb,cb,pv,cv,rfl,-,hvv,-,-⟩:=lY hu;have hal:=((Below.refl w.heap.size w).alloc (Nat.le_refl _) (.cells #[.slice p0 h.1.length c0,.slice p1 h.2.1.length c1,.slice p2 h.2.2.length c2] 25)).alloc (by simp) (.cells #[.slice pb m.1.length cb,.slice pv m.2.length cv] 29);have hbx:=(Blk.new w 25 [.slice p0 h.1.length c0,.slice p1 h.2.1.length c1,.slice p2 h.2.2.length c2]).alloc (.cells #[.slice pb m.1.length cb,.slice pv m.2.length cv] 29);have hwx:=Blk.new (w.alloc (.cells #[.slice p0 h.1.length c0,.slice p1 h.2.1.length c1,.slice p2 h.2.2.length c2] 25)) 29 [.slice pb m.1.length cb,.slice pv m.2.length cv];simp only[World.size_alloc] at hwx;have HTr:=lhid (bPc (H0.out.below hal) (U0.out.below hal) hm h50 hmm hf);have HVv:=lhid (fun n (hn:n<m.2.length)=>hvv n hn);have hl8:=aDn hmm;have HLn:Hid (m.2.length=(bD h m.1).length):=lhid (by rw[hl,qU]);have hl9:(bD h m.1).length≤800:=by rw[qU];exact hl8
 have HBig:Hid (∀ n,n<(bD h m.1).length→((bD h m.1).getD n []).length≤1002):=lhid (fun n hn=>by
  have e:(bD h m.1).getD n []∈bD h m.1:=wB _ n [] hn;obtain⟨p,-,e2⟩:=List.mem_map.1 e;rw[←e2]
  exact bJb hm p _)
 have HPn:=lhid (fun n hn=>bQg (bD h m.1) m.2 n hn);have HPa:Hid ((bQc (bD h m.1) m.2).take (bD h m.1).length=bQc (bD h m.1) m.2):=lhid (List.take_of_length_le (by rw[bQd];exact Nat.le_refl _));have HPl:=lhid (bQd (bD h m.1) m.2);obtain⟨PL,hPL⟩:∃ q,bQc (bD h m.1) m.2=q:=⟨_,rfl⟩;rw[hPL] at HPn HPa HPl ⊢;obtain⟨LL,hLL⟩:∃ q,bD h m.1=q:=⟨_,rfl⟩;rw[hLL] at HTr HLn hl9 HBig HPn HPa HPl;obtain⟨i1,hj,hj0,hj1,hj2⟩:=info_parts xD;have HAL:=lhid hal;have HBX:=lhid hbx;have HWX:=lhid hwx;clear H0 U0 hu hal hbx hwx hvv hPL;clear hLL hl8 hl hf h50 hm hmm;go_enter Tryz.func38,Tryz.ntmps38;(go_upto_region 1 with fail);obtain⟨W1,hW1⟩:∃ q,(w.alloc (.cells #[.slice p0 h.1.length c0,.slice p1 h.2.1.length c1,.slice p2 h.2.2.length c2] 25)).alloc (.cells #[.slice pb m.1.length cb,.slice pv m.2.length cv] 29)=q:=⟨_,rfl⟩;rw[hW1] at HAL HBX HWX HTr ⊢;clear hW1;obtain⟨gw,hgw⟩:∃ q,w.heap.size+1=q:=⟨_,rfl⟩;obtain⟨gh,hgh⟩:∃ q,w.heap.size=q:=⟨_,rfl⟩;(try simp only[hgw]);(try simp only[hgw] at HWX);(try simp only[hgh]);rw[hgh] at HBX;clear hgh hgw;have x0:=HBX.out.cell 0 rfl;have x1:=HBX.out.cell 1 rfl;have x2:=HBX.out.cell 2 rfl;have y0:=HWX.out.cell 0 rfl;have y1:=HWX.out.cell 1 rfl;(go_wp2_with fail);refine HTr.out.mono ?_;rintro e w2 ⟨vt,rfl,hto,hb2⟩;have HT2:=lhid hto.tries;have HB2:=lhid (aB HAL.out hb2);have HW2:=lhid (HWX.out.later hb2);obtain⟨pt,ct,rfl,-⟩:=hto.tries.form;obtain⟨W2,rfl⟩:∃ q,q=w2:=⟨_,rfl⟩;have HR2:=lhid (World.ownsRow_lit (base:=W2.heap.size) (size:=1) (e:=3) W2 #[] 0 (Nat.le_refl _) (by unfold maxLen;omega) rfl);have HB3:=lhid ((Below.refl W2.heap.size W2).alloc (Nat.le_refl _) (.cells #[] 3));clear hto hb2 HTr HAL HBX HWX x0 x1 x2 y0 y1;go_wp2_with fail
 go_loopw [6,7] (fun l i wr=>∃ n:Nat,n≤LL.length∧i=.int .i64 n∧wr.ownsRow W2.heap.size 3 1 l n (mG (PL.take n))∧Below W2.heap.size W2 wr) (fun _ i _=>LL.length-(intOf i).toNat)
 case atStart=>exact⟨0,Nat.zero_le _,rfl,HR2.out,HB3.out⟩
 case round=>
  obtain⟨n,hn,rfl,hrw,hbw⟩:=hrel;obtain⟨pl,cl,rfl⟩:=aF hrw;have HRw:=lhid hrw;have HBw:=lhid hbw;by_cases hlt:n<LL.length
  ·obtain⟨gt,ct',u,eq,hcu,hvt⟩:=(HT2.out.below hbw).get n hlt;injection eq with eq _ eq3;subst eq;subst eq3
   obtain⟨gu,cu,rfl,-,hvu⟩:=hvt.at
   obtain⟨gv,rfl,q1,q2⟩:=HVv.out n (by rw[HLn.out];exact hlt);have q1:=cell_later (aB HB2.out hbw) q1;have q2:=cell_later (aB HB2.out hbw) q2;have hbg:=HBig.out n hlt;have hpn:=HPn.out n hlt;obtain⟨TL,hTL⟩:∃ q,LL.getD n []=q:=⟨_,rfl⟩;rw[hTL] at hvu hbg hpn;(try rw[hTL] at hcu);obtain⟨⟨x1,x2⟩,hx⟩:∃ q,m.2.getD n aN=q:=⟨_,rfl⟩;rw[hx] at q1 q2 hpn;dsimp only at q1 q2;have HPx:=lhid hpn;have HVu:=lhid hvu;have HCs:=lhid (show ∀ w',Below wr.heap.size wr w'→w'.cell? ⟨gt,n,none⟩=some (.slice (some ⟨gu,0,none⟩) TL.length cu)∧w'.cell? ⟨gv,n*2,none⟩=some (.int .i64 x1)∧w'.cell? ⟨gv,n*2+1,none⟩=some (.int .i64 x2) from fun w' hb=>⟨cell_later hb hcu,cell_later hb q1,cell_later hb q2⟩);have HWr:=lhid (HW2.out.later hbw);have hnv:n<m.2.length:=(by rw[HLn.out];exact hlt);clear hrw hbw hvt hvu hpn hTL hx q1 q2 hcu;(go_wp2_with fail);obtain⟨wo,rfl⟩:∃ q,q=wr:=⟨_,rfl⟩
   go_loopw [8,9] (fun s i wx=>∃ (k:Nat) (a:Int),k≤TL.length∧i=.int .i64 k∧s=.int .i64 a∧AtW TL (x1,x2) k a∧Below wo.heap.size wo wx) (fun _ i _=>TL.length-(intOf i).toNat)
   case atStart=>exact⟨0,-1,Nat.zero_le _,rfl,rfl,AtW.start _ _,Below.refl _ _⟩
   case round=>
    obtain⟨k,a,hk,rfl,rfl,hat,hbx⟩:=hrel;obtain⟨wx,rfl⟩:∃ q,q=wr:=⟨_,rfl⟩;have hb9:=bQj TL (x1,x2);obtain⟨z1,z2,z3⟩:=HCs.out _ hbx;have HBx:=lhid hbx;by_cases hkl:k<TL.length
    ·have ek:decide ((k:Int)<(TL.length:Int))=true:=(by simp;omega);by_cases ha:a<0
     ·have ea:decide (a<0)=true:=by simpa using ha
      have hbf:a=-1∧∀ j,j<k→TL.getD j aN≠(x1,x2):=by
       rcases hat with q | q
       ·exact q
       ·omega
      obtain⟨rfl,hbf⟩:=hbf;have HBf:=lhid hbf;obtain⟨q1,q2⟩:=HVu.out k hkl;have q1:=cell_later hbx q1;have q2:=cell_later hbx q2;obtain⟨⟨y1,y2⟩,hy⟩:∃ q,TL.getD k aN=q:=⟨_,rfl⟩;rw[hy] at q1 q2;dsimp only at q1 q2;have g0:=(HWr.out.later hbx).cell 0 rfl;have g1:=(HWr.out.later hbx).cell 1 rfl;have HY:=lhid hy;have HS:Hid (∀ w',Below wx.heap.size wx w'→w'.cell? ⟨gw,0,none⟩=some (.slice pb m.1.length cb)∧w'.cell? ⟨gw,1,none⟩=some (.slice (some ⟨gv,0,none⟩) m.2.length cv)∧w'.cell? ⟨gt,n,none⟩=some (.slice (some ⟨gu,0,none⟩) TL.length cu)∧w'.cell? ⟨gu,k*2,none⟩=some (.int .i64 y1)∧w'.cell? ⟨gu,k*2+1,none⟩=some (.int .i64 y2)∧w'.cell? ⟨gv,n*2,none⟩=some (.int .i64 x1)∧w'.cell? ⟨gv,n*2+1,none⟩=some (.int .i64 x2)∧Below wx.heap.size wx w'):=lhid (fun w' hb=>⟨cell_later hb g0,cell_later hb g1,cell_later hb z1,cell_later hb q1,cell_later hb q2,cell_later hb z2,cell_later hb z3,hb⟩);clear hat hy hbf hbx q1 q2 g0 g1 z2 z3 hb9 ha ek ea;by_cases hxy:(x1,x2)=((y1,y2):Int×Int)
      ·have e1:x1=y1:=congrArg Prod.fst hxy;have e2:x2=y2:=congrArg Prod.snd hxy;subst e1;subst e2;have HAn:Hid (AtW TL (x1,x2) (k+1) ((k:Nat):Int)):=lhid (.inr ⟨by omega,(bHp hkl HBf.out HY.out).symm⟩);clear hxy;(go_wp2_with fail);refine wpk HS [] (by kernel_rfl) fun hB0 hS0=>?_;refine wF 0 ?_;refine wF 1 ?_;refine wF 2 ?_;refine wT 3 13 hS0 ?_;refine wF 4 ?_;refine wF 5 ?_;refine wT 6 13 hS0 ?_;refine wF 7 ?_;refine wT 8 13 hS0 ?_;refine wO 9 ?_;refine wO 10 ?_;refine wO 11 ?_;refine wO 12 ?_;refine wD ?_;(go_wp2_with fail);go_roundw
       case rel=>exact⟨k+1,((k:Nat):Int),by omega,by go_num,by first | rfl | trivial,HAn.out,aB HBx.out hB0⟩
       case measure=>simp[intOf];omega
      ·have HAn:Hid (AtW TL (x1,x2) (k+1) (-1)):=lhid (.inl ⟨rfl,fun j hj=>by
        by_cases e:j=k
        ·rw[e,HY.out];exact fun q=>hxy q.symm
        ·exact HBf.out j (by omega)⟩)
       by_cases e1:x1=y1
       ·have e2:¬x2=y2:=fun b=>hxy (by rw[e1,b]);have e3:¬y2=x2:=fun b=>e2 b.symm;subst e1;clear hxy;(go_wp2_with fail);refine wpk HS [] (by kernel_rfl) fun hB0 hS0=>?_;refine wF 0 ?_;refine wF 1 ?_;refine wF 2 ?_;refine wT 3 13 hS0 ?_;refine wF 4 ?_;refine wF 5 ?_;refine wT 6 13 hS0 ?_;refine wF 7 ?_;refine wT 8 13 hS0 ?_;refine wO 9 ?_;refine wO 10 ?_;refine wO 11 ?_;refine wO 12 ?_;refine wD ?_;(go_wp2_with fail);go_roundw
        case rel=>exact⟨k+1,-1,by omega,by go_num,by first | rfl | trivial,HAn.out,aB HBx.out hB0⟩
        case measure=>simp[intOf];omega
       ·have e3:¬y1=x1:=fun b=>e1 b.symm;clear hxy;(go_wp2_with fail);refine wpk HS [] (by kernel_rfl) fun hB0 hS0=>?_;refine wF 0 ?_;refine wF 1 ?_;refine wF 2 ?_;refine wT 3 13 hS0 ?_;refine wF 4 ?_;refine wF 5 ?_;refine wT 6 13 hS0 ?_;refine wF 7 ?_;refine wT 8 13 hS0 ?_;refine wO 9 ?_;refine wO 10 ?_;refine wO 11 ?_;refine wO 12 ?_;refine wD ?_;(go_wp2_with fail);go_roundw
        case rel=>exact⟨k+1,-1,by omega,by go_num,by first | rfl | trivial,HAn.out,aB HBx.out hB0⟩
        case measure=>simp[intOf];omega
     ·have ea:decide (a<0)=false:=by simpa using ha
      have HAe:Hid (a=aJw TL (x1,x2)):=lhid (by
       rcases hat with q | q
       ·omega
       ·exact q.2)
      clear hat hbx z2 z3 hb9;have RW:=lhid ((aS HRw.out HBx.out).alloc (.cells #[.int .i64 a] 3));have HB7:=lhid ((HBw.out.trans (HBx.out.mono HBw.out.size)).alloc (Nat.le_trans HBw.out.size HBx.out.size) (.cells #[.int .i64 a] 3));have hs7:W2.heap.size≤wx.heap.size:=Nat.le_trans HBw.out.size HBx.out.size;go_wp2_with (at_builtin;refine wpList_append_own _ rfl _ _ 49 rfl W2.heap.size 3 i1 (.int .i64 0) 1 8 Tryz.underlying49 hj hj0 hj1 hj2 rfl (by decide) _ _ _ rfl RW.out ⟨wx.heap.size,0,none⟩ 1 1 [.int .i64 a] rfl rfl (dB wx [.int .i64 a] _ _ rfl) (by intro u hu;simp at hu;subst hu;rfl) ?_ ?_ ?_ ?_)
      ·unfold maxLen;omega
      ·omega
      ·first | omega | (simp;omega)
      intro v8 w8 hown8 hgr8 hnil8;have HB8:=lhid (HB7.out.grown hgr8 HB7.out.size (fun q hq=>(RW.out.lt q hq).1))
      have HO8:Hid (w8.ownsRow W2.heap.size 3 1 v8 (n+1) (mG (PL.take (n+1)))):=lhid (by
       rw[HPx.out, ←HAe.out];rw[show mG (PL.take n++[a])=mG (PL.take n)++[.int .i64 a] by simp[mG]]
       exact hown8)
      obtain⟨p8,c8,rfl⟩:=aF hown8;clear hown8 hgr8 hnil8 RW HB7;(go_wp2_with fail);go_roundw
      case rel=>exact⟨n+1,by omega,by go_num,HO8.out,HB8.out⟩
      case measure=>simp[intOf];omega
    ·have hke:k=TL.length:=(by omega);subst hke;have ek:decide ((TL.length:Int)<(TL.length:Int))=false:=(by simp);have HAe:Hid (a=aJw TL (x1,x2)):=lhid hat.done;clear hat hbx z2 z3 hb9;have RW:=lhid ((aS HRw.out HBx.out).alloc (.cells #[.int .i64 a] 3));have HB7:=lhid ((HBw.out.trans (HBx.out.mono HBw.out.size)).alloc (Nat.le_trans HBw.out.size HBx.out.size) (.cells #[.int .i64 a] 3));have hs7:W2.heap.size≤wx.heap.size:=Nat.le_trans HBw.out.size HBx.out.size;go_wp2_with (at_builtin;refine wpList_append_own _ rfl _ _ 49 rfl W2.heap.size 3 i1 (.int .i64 0) 1 8 Tryz.underlying49 hj hj0 hj1 hj2 rfl (by decide) _ _ _ rfl RW.out ⟨wx.heap.size,0,none⟩ 1 1 [.int .i64 a] rfl rfl (dB wx [.int .i64 a] _ _ rfl) (by intro u hu;simp at hu;subst hu;rfl) ?_ ?_ ?_ ?_)
     ·unfold maxLen;omega
     ·omega
     ·first | omega | (simp;omega)
     intro v8 w8 hown8 hgr8 hnil8;have HB8:=lhid (HB7.out.grown hgr8 HB7.out.size (fun q hq=>(RW.out.lt q hq).1))
     have HO8:Hid (w8.ownsRow W2.heap.size 3 1 v8 (n+1) (mG (PL.take (n+1)))):=lhid (by
      rw[HPx.out, ←HAe.out];rw[show mG (PL.take n++[a])=mG (PL.take n)++[.int .i64 a] by simp[mG]]
      exact hown8)
     obtain⟨p8,c8,rfl⟩:=aF hown8;clear hown8 hgr8 hnil8 RW HB7;(go_wp2_with fail);go_roundw
     case rel=>exact⟨n+1,by omega,by go_num,HO8.out,HB8.out⟩
     case measure=>simp[intOf];omega
  ·have hne:n=LL.length:=(by omega);subst hne
   have hrf:wr.ownsRow W2.heap.size 3 1 (.slice pl LL.length cl) PL.length (mG PL):=by
    rw[HPl.out];have h9:=HRw.out;rw[HPa.out] at h9;exact h9
   have HRf:=lhid (bUb hrf);clear hrw hbw hrf;(go_wp2_with fail);go_ret;exact⟨_,rfl,HRf.out,aB HB2.out HBw.out⟩
def bQl (h:aI) (m:bK):Bool:=kX h m&&(bQc (bD h m.1) m.2).all fun a=>decide (0≤a)
theorem bQp (h:aI) (m:bK):bQl h m=true↔nX h m:=by
 unfold bQl nX;rw[Bool.and_eq_true];refine and_congr_right fun hw=>?_
 have hl:m.2.length=(bD h m.1).length:=by
  have hmm:=(dA h).2 ((jP h m).1 hw).m;rw[qU,((jP h m).1 hw).l,kF hmm,yY];rfl
 rw[aJx hl,List.all_eq_true];unfold bQc;constructor
 ·intro h1 i hi;have h2:=h1 _ (List.mem_map.2 ⟨i,List.mem_range.2 hi,rfl⟩);refine Classical.byContradiction fun q=>?_;unfold aJw at h2;rw[if_neg q] at h2;simp at h2
 ·intro h1 a ha;obtain⟨i,hi,rfl⟩:=List.mem_map.1 ha;unfold aJw;rw[if_pos (h1 i (List.mem_range.1 hi))];simp
theorem bQn {h:aI} {m:bK} {n:Nat} (hn:n<(bQc (bD h m.1) m.2).length) (h0:(bQc (bD h m.1) m.2).getD n 0<0):bQl h m=false:=by
 cases hq:bQl h m with
 | false=>rfl
 | true=>
  unfold bQl at hq;rw[Bool.and_eq_true] at hq;have h9:=of_decide_eq_true (List.all_eq_true.1 hq.2 _ (wB (bQc (bD h m.1) m.2) n 0 hn));omega
theorem bQm {h:aI} {m:bK} (hw:kX h m=true) (h0:∀ n,n<(bQc (bD h m.1) m.2).length→0≤(bQc (bD h m.1) m.2).getD n 0):bQl h m=true:=by
 unfold bQl;rw[hw,Bool.true_and,List.all_eq_true];intro a ha;obtain⟨i,hi,rfl⟩:=List.getElem_of_mem ha;have:=h0 i hi;rw[show(bQc (bD h m.1) m.2).getD i 0=(bQc (bD h m.1) m.2)[i] by simp[hi]] at this;simpa using this
set_option maxRecDepth 100000 in
set_option maxHeartbeats 4000000 in
theorem bQo {w:World} {v u:Value} {h:aI} {m:bK} (hv:cJ w v h) (hu:lI w u m) (hm:cU h) (h50:m.1.length≤1000000∧m.2.length≤1000000) :
  Calls Tryz.prog 17 #[v,u] w fun e w'=>e=.returned (.bool (bQl h m))∧Below w.heap.size w w':=by
 have H0:=lhid hv;have U0:=lhid hu;obtain⟨v0,v1,v2,rfl,⟨p0,c0,rfl,-⟩,⟨p1,c1,rfl,-⟩,⟨p2,c2,rfl,-⟩⟩:=hv;obtain⟨pb,cb,pv,cv,rfl,-,hvv,-,-⟩:=lY hu;have hal:=((Below.refl w.heap.size w).alloc (Nat.le_refl _) (.cells #[.slice p0 h.1.length c0,.slice p1 h.2.1.length c1,.slice p2 h.2.2.length c2] 25)).alloc (by simp) (.cells #[.slice pb m.1.length cb,.slice pv m.2.length cv] 29);have hbx:=(Blk.new w 25 [.slice p0 h.1.length c0,.slice p1 h.2.1.length c1,.slice p2 h.2.2.length c2]).alloc (.cells #[.slice pb m.1.length cb,.slice pv m.2.length cv] 29);have hwx:=Blk.new (w.alloc (.cells #[.slice p0 h.1.length c0,.slice p1 h.2.1.length c1,.slice p2 h.2.2.length c2] 25)) 29 [.slice pb m.1.length cb,.slice pv m.2.length cv];simp only[World.size_alloc] at hwx;clear hvv;have HMy:=lhid (bUw (H0.out.below hal) (U0.out.below hal) hm h50)
 have HPl0:=lhid (fun (hw:kX h m=true) w' (hb:Below w.heap.size w w')=>bQk (H0.out.below hb) (U0.out.below hb) hm h50 ((dA h).2 ((jP h m).1 hw).m) ((jP h m).1 hw).c (by
  have hmm:=(dA h).2 ((jP h m).1 hw).m;rw[((jP h m).1 hw).l,kF hmm,yY]
  rfl))
 have HBig:Hid (kX h m=true→(bQc (bD h m.1) m.2).length≤800):=lhid (fun hw=>by
  rw[bQd,qU]
  exact aDn ((dA h).2 ((jP h m).1 hw).m))
 have HNo:=lhid (fun n hn h0=>bQn (h:=h) (m:=m) (n:=n) hn h0);have HYes:=lhid (fun hw h0=>bQm (h:=h) (m:=m) hw h0);have HNw:Hid (kX h m=false→bQl h m=false):=lhid (fun hw=>by unfold bQl;rw[hw];rfl);obtain⟨TB,hTB⟩:∃ q,bQl h m=q:=⟨_,rfl⟩;rw[hTB] at HNo HYes HNw ⊢;obtain⟨PL,hPL⟩:∃ q,bQc (bD h m.1) m.2=q:=⟨_,rfl⟩;rw[hPL] at HPl0 HBig HNo HYes;have HAL:=lhid hal;have HBX:=lhid hbx;have HWX:=lhid hwx;clear hTB hPL H0 U0 hu hal hbx hwx h50 hm;go_enter Tryz.func17,Tryz.ntmps17;(go_upto_region 1 with fail);obtain⟨W1,hW1⟩:∃ q,(w.alloc (.cells #[.slice p0 h.1.length c0,.slice p1 h.2.1.length c1,.slice p2 h.2.2.length c2] 25)).alloc (.cells #[.slice pb m.1.length cb,.slice pv m.2.length cv] 29)=q:=⟨_,rfl⟩;rw[hW1] at HAL HBX HWX HMy ⊢;clear hW1;obtain⟨gw,hgw⟩:∃ q,w.heap.size+1=q:=⟨_,rfl⟩;obtain⟨gh,hgh⟩:∃ q,w.heap.size=q:=⟨_,rfl⟩;(try simp only[hgw]);(try simp only[hgw] at HWX);(try simp only[hgh]);rw[hgh] at HBX;clear hgh hgw;have x0:=HBX.out.cell 0 rfl;have x1:=HBX.out.cell 1 rfl;have x2:=HBX.out.cell 2 rfl;have y0:=HWX.out.cell 0 rfl;have y1:=HWX.out.cell 1 rfl
 cases hw:kX h m with
 | false=>
  rw[hw] at HMy;have HF:=lhid (HNw.out hw);clear hw HYes HNo HBig HPl0;(go_wp2_with fail);refine HMy.out.mono ?_;rintro e w1 ⟨rfl,hb1⟩;have HB1:=lhid (aB HAL.out hb1);clear hb1 HMy HAL HBX HWX x0 x1 x2 y0 y1;(go_wp2_with fail);go_ret;exact⟨by rw[HF.out]<;>rfl,HB1.out⟩
 | true=>
  rw[hw] at HMy;have HPl:=lhid (HPl0.out hw);have hbig:=HBig.out hw;have HYe:=lhid (HYes.out hw);clear hw HPl0 HBig HYes HNw;(go_wp2_with fail);refine HMy.out.mono ?_;rintro e w1 ⟨rfl,hb1⟩;have HB1:=lhid (aB HAL.out hb1);have HBX1:=lhid (HBX.out.later hb1);have HWX1:=lhid (HWX.out.later hb1);clear hb1 HMy HAL HBX HWX x0 x1 x2 y0 y1;have x0:=HBX1.out.cell 0 rfl;have x1:=HBX1.out.cell 1 rfl;have x2:=HBX1.out.cell 2 rfl;have y0:=HWX1.out.cell 0 rfl;have y1:=HWX1.out.cell 1 rfl;(go_wp2_with fail);refine(HPl.out _ HB1.out).mono ?_;rintro e w2 ⟨vl,rfl,⟨pl,cl,rfl,hpl⟩,hb2⟩;have HB2:=lhid (aB HB1.out hb2);have HIn:=lhid hpl;clear hb2 hpl HPl HB1 HBX1 HWX1 x0 x1 x2 y0 y1;go_wp2_with fail
  go_loopw [6] (fun i wr=>∃ n:Nat,n≤PL.length∧i=.int .i64 n∧(∀ j,j<n→0≤PL.getD j 0)∧wr=w2) (fun i _=>PL.length-(intOf i).toNat)
  case atStart=>exact⟨0,Nat.zero_le _,rfl,fun j hj=>absurd hj (Nat.not_lt_zero j),rfl⟩
  case round=>
   obtain⟨n,hn,rfl,hge,hww⟩:=hrel;subst hww;by_cases hlt:n<PL.length
   ·obtain⟨gl,rfl,hc⟩:=HIn.out n hlt;have hno:=HNo.out n hlt;by_cases h0:PL.getD n 0<0
    ·have HF:=lhid (hno h0);obtain⟨a,ha⟩:∃ q,PL.getD n 0=q:=⟨_,rfl⟩;rw[ha] at hc h0;have e0:decide (a<0)=true:=(by simpa using h0);clear hge hno ha h0;(go_wp2_with fail);go_ret;exact⟨by rw[HF.out]<;>rfl,HB2.out⟩
    ·have HG:=lhid (show ∀ j,j<n+1→0≤PL.getD j 0 from fun j hj=>by
      by_cases e:j=n
      ·rw[e];omega
      ·exact hge j (by omega))
     obtain⟨a,ha⟩:∃ q,PL.getD n 0=q:=⟨_,rfl⟩;rw[ha] at hc h0;have e0:decide (a<0)=false:=(by simpa using h0);clear hge hno ha h0;(go_wp2_with fail);go_roundw
     case rel=>exact⟨n+1,by omega,by go_num,HG.out,by first | rfl | trivial⟩
     case measure=>simp[intOf];omega
   ·have hne:n=PL.length:=(by omega);subst hne;have HF:=lhid (HYe.out hge);clear hge;(go_wp2_with fail);go_ret;exact⟨by rw[HF.out]<;>rfl,HB2.out⟩
end Go.Proofs.YtdfegfagedeilaaGreatDoor
