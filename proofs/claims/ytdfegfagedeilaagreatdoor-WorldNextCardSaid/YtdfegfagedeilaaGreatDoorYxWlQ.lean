/-
  Layer 16 (world), the program: how many worlds there are, walked. No conditions but that unicode/utf8's two tables are as their initialisers lay them.
-/
import Derived.Test.YtdfegfagedeilaaGreatDoorYNm
namespace Go.Proofs.YtdfegfagedeilaaGreatDoor
open Go.RowKit Go.Lib
def TrC (h:aI) (ps:List dK) (g:Nat→Nat):Prop:=∀ t,g t≤1000000∧max (g t) 1=if (h.2.2.getD t aM).2.1=2 then 1 else nN (dI ((ps.filter fun p=>p.1==t).map fun p=>nB h p true))
theorem bPo {ps:List dK} {p:dK} {t:Nat} (e:¬p.1=t):(ps++[p]).filter (fun q=>q.1==t)=ps.filter (fun q=>q.1==t):=by
 rw[List.filter_append,List.filter_cons,if_neg (by simpa using e),List.filter_nil,List.append_nil]
theorem TrC.start (h:aI):TrC h [] (fun _=>0):=fun t=>⟨Nat.zero_le _,by split<;>rfl⟩
theorem TrC.fail {h:aI} {ps:List dK} {g:Nat→Nat} (hg:TrC h ps g) {p:dK} (hp:(h.2.2.getD p.1 aM).2.1=2):TrC h (ps++[p]) g:=fun t=>by
 refine⟨(hg t).1,?_⟩;rw[(hg t).2];by_cases e:p.1=t
 ·subst e;rw[if_pos hp,if_pos hp]
 ·rw[bPo e]
theorem TrC.more {h:aI} {ps:List dK} {g:Nat→Nat} (hg:TrC h ps g) {p:dK} (hp:(h.2.2.getD p.1 aM).2.1≠2):TrC h (ps++[p]) (fun t=>if t=p.1 then min (max (g p.1) 1*(nB h p true).length) 1000000 else g t):=fun t=>by
 by_cases e:t=p.1
 ·subst e;have h1:=(hg p.1).2;have hn:0<(nB h p true).length:=List.length_pos_iff.2 (aTz h p true);rw[if_neg hp] at h1;dsimp only;rw[if_pos rfl,if_neg hp,h1,List.filter_append,List.filter_cons,if_pos (by simp),List.filter_nil,List.map_append,List.map_cons,List.map_nil,size_append,dI,dI,Nat.mul_one, ←bGy];obtain⟨S,hS⟩:∃ S,nN (dI ((ps.filter fun q=>q.1==p.1).map fun q=>nB h q true))=S:=⟨_,rfl⟩;rw[hS] at h1 ⊢;have hS1:1≤S:=(by omega);have h2:1≤S*(nB h p true).length:=Nat.le_trans hS1 (Nat.le_mul_of_pos_right _ hn);unfold nN;omega
 ·refine⟨by dsimp only;rw[if_neg e];exact(hg t).1,?_⟩;dsimp only;rw[if_neg e,(hg t).2,bPo fun q=>e q.symm]
theorem bNn (T:List bB) (t:Nat):∀ n,(bY (itH T n)).filter (fun p=>p.1==t)=if t<n then zX T t else []
 | 0=>by simp[itH,bY]
 | n+1=>by
  rw[aYo,List.filter_append,bNn T t n];by_cases e:n=t
  ·subst e;rw[if_neg (by omega),if_pos (by omega),List.nil_append,List.filter_eq_self.2];intro p hp;rw[aYn hp];simp
  ·rw[(List.filter_eq_nil_iff (l:=zX T n)).2 (by
    intro p hp;rw[aYn hp]
    simpa using e),List.append_nil]
   by_cases q:t<n
   ·rw[if_pos q,if_pos (by omega)]
   ·rw[if_neg q,if_neg (by omega)]
theorem TrC.done {h:aI} {g:Nat→Nat} (hm:cZ h=true) (hg:TrC h (cY h) g) {t:Nat} (ht:t<h.2.2.length):max (g t) 1=if (h.2.2.getD t aM).2.1=2 then 1 else nN (bFz h t):=by
 have h1:=(hg t).2;rw[kF hm,bNn,if_pos ht] at h1;exact h1
def bNo (h:aI) (n:Nat):Nat:=nN (aVo ((aFt h).take n))
theorem bNq (h:aI) {n:Nat} (hn:n<h.2.2.length):(aFt h).take (n+1)=(aFt h).take n++[((h.2.2.getD n aM).2.1,bFz h n)]:=by
 rw[List.take_add_one];simp[aFt,hn]
theorem bNv (h:aI) (i:Nat):0<bFz h i:=by
 unfold bFz
 induction zX h.2.2 i with
 | nil=>simp[dI]
 | cons p l ih=>
  rw[List.map_cons,dI];exact Nat.mul_pos (List.length_pos_iff.2 (aTz h p true)) ih
theorem bNs (h:aI) (n:Nat):0<aVo ((aFt h).take n):=by
 have h1:∀ x∈(aFt h).take n,0<aVz x:=fun x hx=>by
  obtain⟨i,-,rfl⟩:=List.mem_map.1 (List.mem_of_mem_take hx);unfold aVz;have:=bNv h i;split
  ·exact this
  ·split<;>omega
 unfold aVo;revert h1;generalize (aFt h).take n=l;intro h1
 induction l with
 | nil=>simp
 | cons x l ih=>
  rw[List.map_cons,List.prod_cons];exact Nat.mul_pos (h1 x (List.mem_cons_self ..)) (ih fun y hy=>h1 y (List.mem_cons_of_mem _ hy))
theorem bNt {h:aI} (hm:cZ h=true) {n:Nat} (hn:n<h.2.2.length) {m:Nat} (hk:m=if (h.2.2.getD n aM).2.1=2 then 1 else nN (bFz h n)):min (bNo h n*(if (h.2.2.getD n aM).2.1=3 then m+1 else m)) 1000000=bNo h (n+1):=by
 have hf:=((dA h).1 hm).txn (h.2.2.getD n aM) (by
  rw[show h.2.2.getD n aM=h.2.2[n] by simp[hn]]
  exact List.getElem_mem hn)
 unfold bQ at hf;simp only[Bool.and_eq_true,decide_eq_true_eq] at hf;unfold bNo;rw[bNq h hn]
 have e1:aVo ((aFt h).take n++[((h.2.2.getD n aM).2.1,bFz h n)])=aVo ((aFt h).take n)*aVz ((h.2.2.getD n aM).2.1,bFz h n):=by
  unfold aVo;rw[List.map_append,List.prod_append];simp
 have hp:=bNs h n;rw[e1];obtain⟨A,hA⟩:∃ A,aVo ((aFt h).take n)=A:=⟨_,rfl⟩;obtain⟨f,hfq⟩:∃ f,(h.2.2.getD n aM).2.1=f:=⟨_,rfl⟩;rw[hA] at hp ⊢;rw[hfq] at hf hk ⊢;show nN (nN A*_)=_;rw[bGy];unfold aVz;dsimp only;by_cases h1:f=1
 ·rw[if_pos h1,if_neg (by omega),hk,if_neg (by omega),bLz]
 ·rw[if_neg h1];by_cases h3:f=3
  ·rw[if_pos h3,if_pos h3,hk,if_neg (by omega),bMa _ _ hp]
  ·rw[if_neg h3,if_neg h3,hk,if_pos (by omega)]
theorem bNw {h:aI} (hm:cZ h=true):bNo h h.2.2.length=bMy h:=by
 unfold bNo bMy;rw[if_pos hm,List.take_of_length_le (by simp[aFt])]
theorem bPn (h:aI) (n:Nat):bNo h n≤1000000:=by unfold bNo nN;omega
theorem bNu {h:aI} (hm:cZ h=false):bMy h=0:=by unfold bMy;rw[if_neg (by rw[hm];simp)]
theorem bJb {h:aI} (hm:cU h) (p:dK) (c:Bool):(nB h p c).length≤1002:=by
 have h1:=uF (aN::dW h.2.2 p.1 (gW h p) h.2.2.length);have h2:=yT h.2.2 p.1 (gW h p) h.2.2.length;have h3:=hm.2.2.1;rw[List.length_cons] at h1
 have h4:(jE h p).length≤1001:=by
  rw[show jE h p=cH (aN::dW h.2.2 p.1 (gW h p) h.2.2.length) from rfl];omega
 unfold nB;split
 ·rw[List.length_append];split
  ·simp
  ·simp;omega
 ·simp
theorem bNp {w:World} {b n i:Nat} {f:Int→Int} (h:mW w b n f):w.cell? ⟨b,i,none⟩=none:=by
 obtain⟨D,⟨es,clock,hb,r⟩,h2⟩:=h;simp[World.cell?,hb]
theorem row_kept16 {w w':World} {base size n x:Nat} {e t:TypeId} {v:Value} {xs cs:List Value} (h:w.ownsRow base e size v n xs) (hx:Blk w x t cs) (hne:e≠t) (hg:w.grownBy w' (some x)):w'.ownsRow base e size v n xs:=by
 refine pW h hg fun k hk he=>?_;injection he with he;subst he;rcases h.2 with ⟨rfl,-⟩ | ⟨g,cap,cur,rfl,-,hw,-⟩
 ·cases hk
 ·have e1:g=x:=(by simpa [Value.ownBlock] using hk);subst e1;have hs':w.heap[g]? = some (.cells cs.toArray t (0,0)):=hx;rw[hw] at hs';injection hs' with hs';injection hs' with _ hs';exact hne hs'
theorem aLs {w:World} {a b:Nat} {s t:TypeId} {cs ds:List Value} (h:Blk w a s cs) (k:Blk w b t ds) (hne:s≠t):a≠b:=fun e=>by
 subst e;have h1:w.heap[a]? = some (.cells cs.toArray s (0,0)):=h;have h2:w.heap[a]? = some (.cells ds.toArray t (0,0)):=k;rw[h1] at h2;injection h2 with h2;injection h2 with _ h2;exact hne h2
set_option maxRecDepth 100000 in
set_option maxHeartbeats 4000000 in
theorem bNx {w:World} {v:Value} {h:aI} (hv:cJ w v h) (hm:cU h) (hN:∀ o∈bU h,-9223372036854775808≤o.2.2.2∧o.2.2.2≤9223372036854775807) (hT:Lib.Utf8Tabs 1 2 w) :
  Calls Tryz.prog 13 #[v] w fun e w'=>e=.returned (.int .i64 (bMy h:Nat))∧Below w.heap.size w w':=by
 have H0:=lhid hv;obtain⟨v0,v1,v2,rfl,⟨p0,c0,rfl,-⟩,⟨p1,c1,rfl,-⟩,⟨p2,c2,rfl,k2⟩⟩:=hv;have HX:=lhid k2;have hal:=(Below.refl w.heap.size w).alloc (Nat.le_refl _) (.cells #[.slice p0 h.1.length c0,.slice p1 h.2.1.length c1,.slice p2 h.2.2.length c2] 25);have hbx:=Blk.new w 25 [.slice p0 h.1.length c0,.slice p1 h.2.1.length c1,.slice p2 h.2.2.length c2];have HMy:=lhid (bUd (H0.out.below hal) hm (Utf8Tabs_below hT hal));have HLo0:=lhid (fun w' (hb:Below w.heap.size w w')=>bUz (H0.out.below hb) hm (Utf8Tabs_below hT hb));have HTr0:=lhid (fun (hmm:cZ h=true) p (hp:p∈cY h) w' (hb:Below w.heap.size w w')=>bAs p true (H0.out.below hb) hm hmm (aDo hmm hp) hN (Utf8Tabs_below hT hb));have HTl:=lhid (fun p=>bJb hm p true);have HPl:=lhid (fun (hmm:cZ h=true) p (hp:p∈cY h)=>(aDo hmm hp).lt);have h1000:h.2.2.length≤1000:=hm.2.2.1;have hrm:=@run_makeMap Tryz.prog;have HAL:=lhid hal;have HBX:=lhid hbx;clear H0 hm hT hal hbx k2 hN;go_enter Tryz.func13,Tryz.ntmps13
 cases hmm:cZ h with
 | false=>
  rw[pH hmm] at HMy;have HCn:=lhid (bNu hmm);clear HTr0 HLo0 hmm;(go_wp2_with fail);refine HMy.out.mono ?_;rintro e w1 ⟨rfl,hb1⟩;have HB1:=lhid (aB HAL.out hb1);clear hb1 HMy HAL HBX;(go_wp2_with fail);go_ret;exact⟨by rw[HCn.out]<;>rfl,HB1.out⟩
 | true=>
  rw[kT hmm] at HMy;have HLf:=lhid (aDn hmm);have HTd:=lhid (fun g (hg:TrC h (cY h) g) t (ht:t<h.2.2.length)=>hg.done hmm ht);have HNx:=lhid (fun n (hn:n<h.2.2.length) m hk=>bNt hmm hn (m:=m) hk);have HAll:=lhid (bNw hmm);have HTr1:=lhid (HTr0.out hmm);have HPl1:=lhid (HPl.out hmm);clear hmm HTr0 HPl;(go_wp2_with fail);refine HMy.out.mono ?_;rintro e w1 ⟨rfl,hb1⟩;have HB1:=lhid (aB HAL.out hb1);have HBX1:=lhid (HBX.out.later hb1);have hbe:w.heap.size≤w1.heap.size:=HB1.out.size;have HB2:=lhid (HB1.out.alloc hbe (.map #[] 0));have HBX2:=lhid (HBX1.out.alloc (.map #[] 0));have HM2:=lhid (bMm w1);clear hb1 HMy HAL HBX HB1 HBX1;(go_upto_region 4 with fail);obtain⟨W2,hW2⟩:∃ q,w1.alloc (.map #[] 0)=q:=⟨_,rfl⟩;rw[hW2] at HB2 HBX2 HM2;(try rw[hW2]);obtain⟨bm,hbm⟩:∃ q,w1.heap.size=q:=⟨_,rfl⟩;obtain⟨gh,hgh⟩:∃ q,w.heap.size=q:=⟨_,rfl⟩;rw[hbm] at HM2 hbe;(try simp only[hbm]);rw[hgh] at HBX2;try simp only[hgh]
  have HNe:Hid (w.heap.size≤bm∧gh≠bm):=lhid (by
   refine⟨hbe,fun e=>?_⟩;have h1:=HBX2.out.cell 0 rfl;rw[e,bNp HM2.out] at h1
   cases h1)
  clear hrm hW2 hbm hbe;have HGq:=lhid hgh;clear hgh;have x0:=HBX2.out.cell 0 rfl;have x1:=HBX2.out.cell 1 rfl;have x2:=HBX2.out.cell 2 rfl;(go_wp2_with fail);refine(HLo0.out _ HB2.out).mono ?_;rintro e W3 ⟨v3,rfl,hpl,hb3⟩;have HB3:=lhid (aB HB2.out hb3);have HBX3:=lhid (HBX2.out.later hb3);have HM3:=lhid (HM2.out.later hb3);obtain⟨pp,cp,rfl,hpp⟩:=hpl;have HPp:=lhid hpp;obtain⟨LP,hLP⟩:∃ q,cY h=q:=⟨_,rfl⟩;rw[hLP] at HPp HLf HTd HTr1 HPl1;(try rw[hLP]);have hlf:=HLf.out;clear hb3 hpp hLP HLo0 HB2 HBX2 HM2 x0 x1 x2;go_wp2_with fail
  go_loopw [17] (fun i wr=>∃ n:Nat,n≤LP.length∧i=.int .i64 n∧(∃ c f g,mW wr bm c f∧c≤n∧(∀ t:Nat,f (t:Int)=((g t:Nat):Int))∧TrC h (LP.take n) g)∧W3.grownBy wr (some bm)) (fun i _=>LP.length-(intOf i).toNat)
  case atStart=>exact⟨0,Nat.zero_le _,rfl,⟨0,_,fun _=>0,HM3.out,Nat.zero_le _,fun _=>rfl,TrC.start h⟩,⟨rfl,rfl,rfl,Nat.le_refl _,fun _ _ _=>rfl⟩⟩
  case round=>
   obtain⟨n,hn,rfl,⟨c,f,g,him,hc,hfg,htr⟩,hgr⟩:=hrel
   have HBr:Hid (Below w.heap.size w wr):=lhid (HB3.out.grown hgr HB3.out.size (fun q hq=>by
    injection hq with hq;have:=HNe.out.1
    omega))
   have HBXr:=lhid (HBX3.out.kept hgr (fun e=>HNe.out.2 (by injection e)));by_cases hlt:n<LP.length
   ·obtain⟨gp,rfl,q1,q2⟩:=HPp.out n hlt
    have hgp:gp≠bm:=fun e=>by
     rw[e,bNp HM3.out] at q1;cases q1
    have q1:=jG q1 hgr hgp;have q2:=jG q2 hgr hgp;have hmem:=wB LP n (0,0) hlt;have hnx:=zY LP (0,0) n hlt;have hTr1:=HTr1.out (LP.getD n (0,0)) hmem;have htn:=HPl1.out (LP.getD n (0,0)) hmem;have htl:=HTl.out (LP.getD n (0,0));have hmore:=fun q=>htr.more (p:=LP.getD n (0,0)) q;have hfail:=fun q=>htr.fail (p:=LP.getD n (0,0)) q;have hpos:0<(nB h (LP.getD n (0,0)) true).length:=List.length_pos_iff.2 (aTz _ _ _);obtain⟨⟨t,k⟩,hp⟩:∃ q,LP.getD n (0,0)=q:=⟨_,rfl⟩;rw[hp] at q1 q2 hnx hTr1 htn htl hmore hfail hpos;dsimp only at q1 q2 htn hmore hfail;obtain⟨gt,sv,rfl,-,a2,-,-⟩:=HX.out t htn;have a2:=cell_later HBr.out a2;obtain⟨TL,hTL⟩:∃ q,nB h (t,k) true=q:=⟨_,rfl⟩;rw[hTL] at hTr1 htl hmore hpos;obtain⟨⟨ts,tf,tl⟩,htx⟩:∃ q,h.2.2.getD t aM=q:=⟨_,rfl⟩;rw[htx] at a2 hmore hfail;dsimp only at a2 hmore hfail;have hft:=hfg t;have hzb:=(htr t).1;have hzn:f (t:Int)=((g t:Nat):Int):=hft;have HNx1:=lhid hnx;have HMo:=lhid hmore;have HFa:=lhid hfail;have HTr2:=lhid hTr1;have HM5a:=lhid (him.alloc (.cells #[.int .i64 (t:Nat),.int .i64 (k:Nat)] 70));have HFg:=lhid hfg;have HTc:=lhid htr;have HA5:=lhid ((Below.refl wr.heap.size wr).alloc (Nat.le_refl _) (.cells #[.int .i64 (t:Nat),.int .i64 (k:Nat)] 70));have HG5:=lhid (hgr.trans (kQ HA5.out (row:=some bm)));have HPx0:=lhid (Blk.new wr 70 [.int .i64 (t:Nat),.int .i64 (k:Nat)]);have HBX5:=lhid (HBXr.out.alloc (.cells #[.int .i64 (t:Nat),.int .i64 (k:Nat)] 70));have HB50:=lhid (HBr.out.alloc HBr.out.size (.cells #[.int .i64 (t:Nat),.int .i64 (k:Nat)] 70));have ht6:t≤1000:=(by omega);have x2:=HBX5.out.cell 2 rfl;have x2b:=HBXr.out.cell 2 rfl;clear hmem hp hTL htx hnx hTr1 him hfg htr hgr hmore hfail HBXr;(go_upto_region 7 with fail);obtain⟨W5,hW5⟩:∃ q,wr.alloc (.cells #[.int .i64 (t:Nat),.int .i64 (k:Nat)] 70)=q:=⟨_,rfl⟩;have a5:W5.cell? ⟨gt,t*3+1,none⟩=some (.int .i64 tf):=(by rw[←hW5];exact cell_later HA5.out a2);rw[hW5] at HM5a HG5 HPx0 HBX5 HB50 x2 ⊢;obtain⟨gb,hgb⟩:∃ q,wr.heap.size=q:=⟨_,rfl⟩;rw[hgb] at HPx0;(try simp only[hgb]);have y0:=HPx0.out.cell 0 rfl;have y1:=HPx0.out.cell 1 rfl;clear hW5 HA5 q1 q2 a2 x2b hgb;by_cases h2:tf=2
    ·have e0:(tf != 2)=false:=(by simp[h2]);have HFb:=lhid (HFa.out h2);clear h2 hpos htl HMo HFa HTr2 hft hzn hzb;(go_wp2_with fail);go_roundw
     case rel=>exact⟨n+1,by omega,by go_num,⟨c,f,g,HM5a.out,by omega,HFg.out,by rw[HNx1.out];exact HFb.out⟩,HG5.out⟩
     case measure=>simp[intOf];omega
    ·have e0:(tf != 2)=true:=(by simp[h2]);have HMb:=lhid (HMo.out h2);clear h2 HMo HFa;obtain⟨zg,hzg⟩:∃ q,g t=q:=⟨_,rfl⟩;rw[hzg] at hzn hzb HMb;obtain⟨z,hz⟩:∃ q:Int,((zg:Nat):Int)=q:=⟨_,rfl⟩;obtain⟨zm,hzm⟩:∃ q:Nat,max zg 1=q:=⟨_,rfl⟩;have hmx:zm≤1000000∧1≤zm:=(by omega);have hml:zm*TL.length≤1000000*1002:=Nat.mul_le_mul hmx.1 htl;rw[hzm] at HMb;obtain⟨zk,hzk⟩:∃ q:Nat,min (zm*TL.length) 1000000=q:=⟨_,rfl⟩;rw[hzk] at HMb;obtain⟨zn,hznq⟩:∃ q:Int,((zk:Nat):Int)=q:=⟨_,rfl⟩;have HZn:Hid (-9223372036854775808≤zn∧zn≤9223372036854775807):=lhid (by omega);have e1:max z 1=((zm:Nat):Int):=(by omega);have e1b:(if z<1 then (1:Int) else z)=((zm:Nat):Int):=by split<;>omega
     have e2:IntKind.i64.wrap (((zm:Nat):Int)*((TL.length:Nat):Int))=((zm*TL.length:Nat):Int):=by
      rw[show((zm:Nat):Int)*((TL.length:Nat):Int)=((zm*TL.length:Nat):Int) by simp,IntKind.wrap_i64];omega
     have e3:min ((zm*TL.length:Nat):Int) 1000000=zn:=(by omega);have e3b:(if (1000000:Int)<((zm*TL.length:Nat):Int) then (1000000:Int) else ((zm*TL.length:Nat):Int))=zn:=by split<;>omega
     have ec:((zm*TL.length:Nat):Int)=(zm:Int)*(TL.length:Int):=(by simp);rw[ec] at e2 e3 e3b;have HZk:=lhid hznq;have HCb:Hid (c<maxLen):=lhid (by unfold maxLen;omega);have HLk:=lhid (fun w' (hb:Below W5.heap.size W5 w')=>bLn (HM5a.out.later hb) (t:Int) (by omega) (by omega));rw[hzn,hz] at HLk;have HM5:=HM5a;have HTr:=lhid (fun w' (hb:Below W5.heap.size W5 w')=>HTr2.out w' (aB HB50.out hb));have HS:Hid (∀ w',Below W5.heap.size W5 w'→w'.cell? ⟨gh,0,none⟩=some (.slice p0 h.1.length c0)∧w'.cell? ⟨gh,1,none⟩=some (.slice p1 h.2.1.length c1)∧w'.cell? ⟨gh,2,none⟩=some (.slice (some ⟨gt,0,none⟩) h.2.2.length c2)∧w'.cell? ⟨gb,0,none⟩=some (.int .i64 (t:Nat))∧w'.cell? ⟨gb,1,none⟩=some (.int .i64 (k:Nat))∧(Instr.lookup 68 (.map (some bm)) (.int .i64 (t:Nat)) false).run Tryz.prog w'=.ok (.int .i64 z) w'∧Below W5.heap.size W5 w'):=lhid (fun w' hb=>⟨(HBX5.out.later hb).cell 0 rfl,(HBX5.out.later hb).cell 1 rfl,(HBX5.out.later hb).cell 2 rfl,(HPx0.out.later hb).cell 0 rfl,(HPx0.out.later hb).cell 1 rfl,HLk.out w' hb,hb⟩)
     have HFn:Hid (∀ t':Nat,(if (t':Int)=((t:Nat):Int) then zn else f (t':Int))=(((if t'=t then zk else g t'):Nat):Int)):=lhid (fun t'=>by
      by_cases e:t'=t
      ·rw[if_pos (by rw[e]),if_pos e,hznq]
      ·rw[if_neg (by omega),if_neg e,HFg.out])
     clear hzg hz hzm hzk hznq hzn hft hzb HM5a HTr2 HLk hmx hml ec;(go_wp2_with fail);refine wpk HS [14] (by kernel_rfl) fun hB0 hS0=>?_;refine wF 0 ?_;refine wF 1 ?_;refine wT 2 15 hS0 ?_;refine wF 3 ?_;refine wF 4 ?_;refine wT 5 15 hS0 ?_;refine wT 6 15 hS0 ?_;refine wF 7 ?_;refine wT 8 15 hS0 ?_;refine wO 9 ?_;refine won 10 rfl fun K hK=>?_;go_simp;refine(HTr.out _ hB0).mono ?_;rintro e w1 ⟨vt,rfl,ht1,hb1⟩;have hB1:=aB hB0 hb1;have hS1:=HS.out _ hB1;obtain⟨pt,ct,rfl⟩:=aF ht1;clear ht1;refine hK.out _ _ (fun _ _=>hS1) ?_;clear hK K hS0;(try simp only[Act.put,sq]);refine wO 11 ?_;refine wO 12 ?_;refine wO 13 ?_;obtain⟨W6,hput,him6,htn⟩:=bMn (HM5.out.later hB1) HCb.out (t:Nat) zn (by omega) (by omega) HZn.out.1 HZn.out.2;have HM6:=lhid him6;have HTn:=lhid htn;clear him6 htn;refine wL 14 ?_;refine wD ?_;(go_wp2_with fail);go_roundw
     case rel=>exact⟨n+1,by omega,by go_num,⟨c+1,_,_,HM6.out,by omega,HFn.out,by rw[HNx1.out];exact HMb.out⟩,(HG5.out.trans (kQ hB1 (row:=some bm))).trans HTn.out.grown⟩
     case measure=>simp[intOf];omega
   ·have hne:n=LP.length:=(by omega);subst hne;rw[List.take_length] at htr;have HTe:=lhid (HTd.out g htr);have HGb:=lhid (fun t=>(htr t).1);have HFg:=lhid hfg;have HIm:=lhid him;have x2:=HBXr.out.cell 2 rfl;clear htr hfg him hgr hlt;obtain⟨W4,rfl⟩:∃ q,q=wr:=⟨_,rfl⟩;(go_wp2_with fail);clear x2
    go_loopw [6,47] (fun s i wx=>∃ m:Nat,m≤h.2.2.length∧i=.int .i64 m∧s=.int .i64 (bNo h m:Nat)∧Below W4.heap.size W4 wx) (fun _ i _=>h.2.2.length-(intOf i).toNat)
    case atStart=>exact⟨0,Nat.zero_le _,rfl,by first | rfl | (simp[bNo,aVo,nN]),Below.refl _ _⟩
    case round=>
     obtain⟨m,hm,rfl,rfl,hbx⟩:=hrel;by_cases hlm:m<h.2.2.length
     ·obtain⟨gt,sv,rfl,a1,a2,a3,a4⟩:=HX.out m hlm;have HBx:=lhid (aB HBr.out hbx);have a1:=cell_later HBx.out a1;have a2:=cell_later HBx.out a2;have a3:=cell_later HBx.out a3;have hte:=HTe.out m hlm;have hnx:=HNx.out m hlm _ hte;have hgb:=HGb.out m;have hfg:=HFg.out m;have hcl:=bPn h m;obtain⟨A,hA⟩:∃ q,bNo h m=q:=⟨_,rfl⟩;obtain⟨B,hB⟩:∃ q,bNo h (m+1)=q:=⟨_,rfl⟩;obtain⟨K,hK⟩:∃ q,max (g m) 1=q:=⟨_,rfl⟩;have hKb:K≤1000000∧1≤K:=(by omega);rw[hA,hB,hK] at hnx;rw[hA] at hcl;obtain⟨z,hz⟩:∃ q:Int,f (m:Int)=q:=⟨_,rfl⟩;have hlk:=fun w' (hb:Below W4.heap.size W4 w')=>bLn (HIm.out.later hb) (m:Int) (by omega) (by omega);rw[hz] at hlk hfg;have e1:max z 1=((K:Nat):Int):=(by omega);have e1b:(if z<1 then (1:Int) else z)=((K:Nat):Int):=by split<;>omega
      obtain⟨⟨ts,tf,tl⟩,htx⟩:∃ q,h.2.2.getD m aM=q:=⟨_,rfl⟩;rw[htx] at a1 a2 a4 hnx;dsimp only at a1 a2 a4 hnx;obtain⟨p3,c3,rfl,-,-⟩:=a4;have HA5:=lhid (hbx.alloc hbx.size (.cells #[.int .i64 ts,.int .i64 tf,.slice p3 tl.length c3] 67));have HTx:=lhid (Blk.new wr 67 [.int .i64 ts,.int .i64 tf,.slice p3 tl.length c3]);have HBq:=lhid hB;have hlk5:=hlk _ HA5.out;clear hte hgb hfg hK hz htx hlk hbx;(go_upto_region 14 with fail);obtain⟨W5,hW5⟩:∃ q,wr.alloc (.cells #[.int .i64 ts,.int .i64 tf,.slice p3 tl.length c3] 67)=q:=⟨_,rfl⟩;rw[hW5] at HA5 HTx hlk5;(try rw[hW5]);clear hW5 a1 a2 a3;have t1:=HTx.out.cell 1 rfl;by_cases h3:tf=3
      ·have e0:(tf==3)=true:=(by simp[h3]);rw[if_pos h3] at hnx;have hAk:A*(K+1)≤1000000*1000001:=Nat.mul_le_mul hcl (by omega);have e2:IntKind.i64.wrap (((K:Nat):Int)+1)=((K+1:Nat):Int):=by rw[IntKind.wrap_i64];omega
       have e3:IntKind.i64.wrap (((A:Nat):Int)*((K+1:Nat):Int))=((A*(K+1):Nat):Int):=by
        rw[show((A:Nat):Int)*((K+1:Nat):Int)=((A*(K+1):Nat):Int) by simp,IntKind.wrap_i64];omega
       have e4:min ((A*(K+1):Nat):Int) 1000000=((B:Nat):Int):=(by omega);have e4b:(if (1000000:Int)<((A*(K+1):Nat):Int) then (1000000:Int) else ((A*(K+1):Nat):Int))=((B:Nat):Int):=by split<;>omega
       have ec:((A*(K+1):Nat):Int)=(A:Int)*((K:Int)+1):=(by simp);have ed:((K+1:Nat):Int)=(K:Int)+1:=(by simp);rw[ec] at e3 e4 e4b;rw[ed] at e2 e3;clear h3 hnx hAk ec ed;(go_wp2_with fail);go_roundw
       case rel=>exact⟨m+1,by omega,by go_num,by rw[HBq.out],HA5.out⟩
       case measure=>simp[intOf];omega
      ·have e0:(tf==3)=false:=(by simp[h3]);rw[if_neg h3] at hnx;have hAk:A*K≤1000000*1000000:=Nat.mul_le_mul hcl hKb.1
       have e3:IntKind.i64.wrap (((A:Nat):Int)*((K:Nat):Int))=((A*K:Nat):Int):=by
        rw[show((A:Nat):Int)*((K:Nat):Int)=((A*K:Nat):Int) by simp,IntKind.wrap_i64];omega
       have e4:min ((A*K:Nat):Int) 1000000=((B:Nat):Int):=(by omega);have e4b:(if (1000000:Int)<((A*K:Nat):Int) then (1000000:Int) else ((A*K:Nat):Int))=((B:Nat):Int):=by split<;>omega
       have ec:((A*K:Nat):Int)=(A:Int)*(K:Int):=(by simp);rw[ec] at e3 e4 e4b;clear h3 hnx hAk ec;(go_wp2_with fail);go_roundw
       case rel=>exact⟨m+1,by omega,by go_num,by rw[HBq.out],HA5.out⟩
       case measure=>simp[intOf];omega
     ·have hme:m=h.2.2.length:=(by omega);subst hme;have HF:=lhid HAll.out;have HBx:=lhid (aB HBr.out hbx);clear hbx;(go_wp2_with fail);go_ret;exact⟨by rw[HF.out]<;>rfl,HBx.out⟩
end Go.Proofs.YtdfegfagedeilaaGreatDoor
