/-
  Several texts of these walks, joined and squeezed (as templates they lie in wip/tpl): ShA HistC HistD HistE HistF InP HArg HistVa InK WhA.
-/
import Derived.Test.YtdfegfagedeilaaGreatDoorYxPaX
namespace Go.Proofs.YtdfegfagedeilaaGreatDoor
section
open Go.RowKit Go.Lib
theorem aVp {w:World} {b:Nat} {v0 v1 v2:Value} (tmps:Array Value) (v3 v4:Value) (h:Blk w b 25 [v0,v1,v2]) (h2:tmps.getD 2 undef=.pointer (some ⟨b,0,none⟩)) (h3:tmps.getD 3 undef=v3) (h4:tmps.getD 4 undef=v4) :
  (results Tryz.f44 tmps).run Tryz.prog w=.ok (.tuple #[.agg #[v0,v1,v2],v3,v4]) w:=by
 have hr:w.rangeAt b 0 [v0,v1,v2]:=fun j v hj=>(by rw[Nat.zero_add];exact h.cell j hj);have hl:=run_loadVar_mid (P:=Tryz.prog) w b 0 25 [v0,v1,v2] _ hr Tryz.underlying25 rfl (by kernel_rfl);rw[←h3, ←h4];exact uB Tryz.results44 tmps _ w _ _ h2 hl
theorem bBw {w:World} {gr:Nat} {v0 v1 v2:Value} {h:aI} (hB:aBk w gr 25 [.slice none 0 0,.slice none 0 0,.slice none 0 0]) (hv:cJ w (.agg #[v0,v1,v2]) h) :
  cJ (((w.setCell ⟨gr,0,none⟩ v0).setCell ⟨gr,1,none⟩ v1).setCell ⟨gr,2,none⟩ v2) (.agg #[v0,v1,v2]) h:=by
 obtain⟨q0,c0,q1,c1,q2,c2,e⟩:=bTy hv;injection e with e;have e':[v0,v1,v2]=[.slice q0 h.1.length c0,.slice q1 h.2.1.length c1,.slice q2 h.2.2.length c2]:=congrArg Array.toList e;injection e' with e0 e';injection e' with e1 e';injection e' with e2 _;subst e0 e1 e2;have b1:=hB.set 0 q0 h.1.length c0;have b2:=b1.set 1 q1 h.2.1.length c1;exact bTv b2 2 _ (bTv b1 1 _ (bTv hB 0 _ hv))
set_option maxRecDepth 100000 in
set_option maxHeartbeats 2000000 in
theorem bUu (l:List UInt8) (hl:l.length≤1000000) (w:World) (hT:Lib.Utf8Tabs 1 2 w) (hm:HasMax w) (hE:EvTab w) :
  Calls Tryz.prog 44 #[.string (bs l)] w fun e w'=>∃ hv,e=.returned (.tuple #[hv,.int .i64 (wJ l).2.1,.int .i64 (wJ l).2.2])∧cJ w' hv (wJ l).1∧Below w.heap.size w w':=by
 have hal:=(Below.refl w.heap.size w).alloc (Nat.le_refl _) (.cells #[.slice none 0 0,.slice none 0 0,.slice none 0 0] 25);have HLg:=lhid (bHx l hl (w.alloc (.cells #[.slice none 0 0,.slice none 0 0,.slice none 0 0] 25)) (Utf8Tabs_below hT hal) (hm.below hal) (hE.below hal));have HT:=lhid hT;have HG:=lhid (aIp l);have HSh:=lhid (aTc l);have HErr:=lhid (fun (L:List aV) n e (h:mL l=(L,n,e)) (he:e≠0)=>aOd h he);have HOk:=lhid (fun (L:List aV) n (h:mL l=(L,n,0))=>aSv h);have HAL:=lhid hal;have HR1:=lhid (Blk.new w 25 [.slice none 0 0,.slice none 0 0,.slice none 0 0]);obtain⟨⟨L,n,er⟩,hr⟩:∃ r,mL l=r:=⟨_,rfl⟩;rw[hr] at HLg HG HSh HErr HOk;clear hr hT hm hE hal;go_enter Tryz.func44,Tryz.ntmps44;(go_wp2_with fail);refine HLg.out.mono ?_;rintro e w1 ⟨v,rfl,hev,hb1⟩;have hbw1:=aB HAL.out hb1;have HR2:=lhid (HR1.out.later hb1);have HB1:=lhid hbw1;clear hb1 HLg HR1 HAL;dsimp only at hev HG HSh ⊢;obtain⟨gr,hgr⟩:∃ g,w.heap.size=g:=⟨_,rfl⟩;rw[hgr] at HR2 HB1;(try simp only[hgr]);by_cases her:er=0
 ·subst her;have hP:=HOk.out _ _ rfl;have HH:=lhid (aRg v L hev HG.out.1 HSh.out (Utf8Tabs_below HT.out (show Below w.heap.size w w1 by rw[hgr];exact HB1.out)));obtain⟨⟨h,n',e'⟩,hh⟩:∃ r,sZ L=r:=⟨_,rfl⟩;rw[hh] at HH hP;have HP:=lhid hP;clear hh hev HErr HOk hP;(go_wp2_with fail);refine HH.out.mono ?_;rintro e w2 ⟨hv,rfl,hhv,hb2⟩;(try dsimp only at hhv);have HR3:=lhid (HR2.out.later hb2);have hb3:Below gr w w2:=HB1.out.trans (hb2.mono (by have:=HB1.out.size;omega));obtain⟨p0,c0,p1,c1,p2,c2,rfl⟩:=bTy hhv;have HS:=lhid (bBw (gr:=gr) ⟨HR3.out,by intro x hx;simp at hx;exact⟨none,0,0,hx⟩⟩ hhv);have r0:=HR3.out.cell 0 rfl;have r1:=HR3.out.cell 1 rfl;have r2:=HR3.out.cell 2 rfl;have f0:=HR3.out.frozen 0;have f1:=HR3.out.frozen 1;have f2:=HR3.out.frozen 2;have HRS:=lhid (((HR3.out.set 0 (.slice p0 h.1.length c0)).set 1 (.slice p1 h.2.1.length c1)).set 2 (.slice p2 h.2.2.length c2));have HB3:=lhid (((hb3.setCell (p:=⟨gr,0,none⟩) (Nat.le_refl _) (.slice p0 h.1.length c0)).setCell (p:=⟨gr,1,none⟩) (Nat.le_refl _) (.slice p1 h.2.1.length c1)).setCell (p:=⟨gr,2,none⟩) (Nat.le_refl _) (.slice p2 h.2.2.length c2));clear hhv hb2 hb3 HH;go_wp21;rw[HP.out];refine bodyPost_ret (aVp _ _ _ HRS.out rfl rfl rfl) rfl ⟨_,rfl,HS.out,?_⟩;rw[hgr];exact HB3.out
 ·have hfb:(er != 0)=true:=(by simpa using her);have HE:=lhid (HErr.out _ _ _ rfl her);have r0:=HR2.out.cell 0 rfl;have r1:=HR2.out.cell 1 rfl;have r2:=HR2.out.cell 2 rfl;have f0:=HR2.out.frozen 0;have f1:=HR2.out.frozen 1;have f2:=HR2.out.frozen 2;have HRS:=lhid (((HR2.out.set 0 (.slice none 0 0)).set 1 (.slice none 0 0)).set 2 (.slice none 0 0));have hb3:=HB1.out;clear her hev HErr HOk;go_wp21;rw[HE.out];refine bodyPost_ret (aVp _ _ _ HRS.out rfl rfl rfl) rfl ⟨_,rfl,aCu _,?_⟩;rw[hgr];exact((hb3.setCell (Nat.le_refl _) _).setCell (Nat.le_refl _) _).setCell (Nat.le_refl _) _
end
section
open Go.RowKit Go.Shelf Go.Lib
abbrev vW:=(Nat×Nat)×OpM
def aWw (x:vW):Array Value:=#[.agg #[.int .i64 (x.1.1:Nat),.int .i64 (x.1.2:Nat)],.agg #[.bool x.2.1,.int .i64 x.2.2.1,.int .i64 x.2.2.2.1,.int .i64 x.2.2.2.2]]
def itT (i:Nat) (l:List OpM) (k:Nat):List vW:=(List.range k).map fun j=>((i,j),l.getD j cG)
def itH (L:List bB) (i:Nat):List vW:=(List.range i).flatMap fun a=>itT a (L.getD a aM).2.2 (L.getD a aM).2.2.length
theorem xF (i:Nat) (l:List OpM) (k:Nat):itT i l (k+1)=itT i l k++[((i,k),l.getD k cG)]:=by simp[itT,List.range_succ]
theorem oD (L:List bB) (i:Nat):itH L (i+1)=itH L i++itT i (L.getD i aM).2.2 (L.getD i aM).2.2.length:=by simp[itH,List.range_succ]
theorem aRs (i:Nat) (l:List OpM) (k m:Nat) (h:k≤m):itT i l k <+: itT i l m:=by
 induction m with
 | zero=>
  obtain rfl:k=0:=(by omega);exact List.prefix_rfl
 | succ m ih=>
  by_cases hk:k≤m
  ·rw[xF];exact(ih hk).trans (List.prefix_append _ _)
  ·obtain rfl:k=m+1:=(by omega);exact List.prefix_rfl
theorem aRq (L:List bB) (i m:Nat) (h:i≤m):itH L i <+: itH L m:=by
 induction m with
 | zero=>
  obtain rfl:i=0:=(by omega);exact List.prefix_rfl
 | succ m ih=>
  by_cases hk:i≤m
  ·rw[oD];exact(ih hk).trans (List.prefix_append _ _)
  ·obtain rfl:i=m+1:=(by omega);exact List.prefix_rfl
theorem aHo (L:List bB) (i k:Nat) (hi:i<L.length) (hk:k≤(L.getD i aM).2.2.length):itH L i++itT i (L.getD i aM).2.2 k <+: itH L L.length:=by
 refine List.IsPrefix.trans ?_ (aRq L (i+1) L.length hi);rw[oD];exact List.prefix_append_right_inj _ |>.2 (aRs i _ k _ hk)
theorem bMo (L:List bB) (i k:Nat) (hi:i<L.length) (hk:k<(L.getD i aM).2.2.length):(itH L i++itT i (L.getD i aM).2.2 k).length<(itH L L.length).length:=by
 have h:=(aHo L i (k+1) hi hk).length_le;rw[xF, ←List.append_assoc,List.length_append] at h;simp only[List.length_cons,List.length_nil] at h;omega
attribute [local go_sem] Oper.semAt_some
set_option maxHeartbeats 1000000 in
theorem aSs (F:Fence) (n:Nat) (hF:F.fn 55) (hro:F.round=none) (v0 v1 v2:Value) (w:World) :
  CallsIn F n Tryz.prog 55 #[.agg #[v0,v1,v2]] w fun e w'=>e=.returned (.func (.func 77) #[] #[.pointer (some ⟨w.heap.size,0,none⟩)])∧w'=w.alloc (.cells #[v0,v1,v2] 25):=by
 refine callsIn_of_wp Tryz.func55 rfl hF ?_ hro;simp only[Tryz.ntmps55,List.size_toArray,List.length_cons,List.length_nil,Nat.reduceAdd,Nat.reduceSub,Array.replicate_succ,Array.replicate_zero,List.push_toArray,List.append_toArray,List.nil_append,List.cons_append]
 gi_wp2
 go_ret;exact⟨rfl,rfl⟩
set_option maxRecDepth 100000 in
set_option maxHeartbeats 4000000 in
theorem bIm (F:Fence) (n:Nat) (hF:F.fn 77) (hro:F.round=none) (hn:1≤n) (l B:Nat) (w0:World) (v0 v1 v2:Value) (L:List bB) (hL:L.length≤1000) (ht:kM w0 v2 L) (hLo:∀ t∈L,t.2.2.length≤1000)
  (J Jx:List vW→World→Prop)
  (hA:∀ pre W o,J pre W→J pre (W.alloc o))
  (hY:∀ pre x W,J pre W→pre++[x] <+: itH L L.length→YieldAt F (n-1) Tryz.prog l (aWw x) W fun e W'=>
   (e=.returned (.bool true)∧J (pre++[x]) W'∧Below w0.heap.size W W')∨(e=.returned (.bool false)∧Jx (pre++[x]) W'))
  (W:World) (hbW:Below w0.heap.size w0 W) (h3:nG W B v0 v1 v2) (h0:J [] W) :
  CallsIn F n Tryz.prog 77 #[.func (.yield l) #[] #[],.pointer (some ⟨B,0,none⟩)] W fun e W'=>(∃ v,e=.returned v) ∧
   ((∃ ys,ys=itH L L.length∧J ys W')∨(∃ pre,pre <+: itH L L.length∧Jx pre W')):=by
 obtain⟨p,c,rfl,hp⟩:=ht;have HX:=lhid hp;have HY:=lhid hY;have HA:=lhid hA;have HLo:=lhid hLo;obtain⟨q0,q1,q2⟩:=h3;clear hp hY hA hLo;refine callsIn_of_wp Tryz.func77 rfl hF ?_ hro;simp only[Tryz.ntmps77,List.size_toArray,List.length_cons,List.length_nil,Nat.reduceAdd,Nat.reduceSub,Array.replicate_succ,Array.replicate_zero,List.push_toArray,List.append_toArray,List.nil_append,List.cons_append]
 gi_wp2
 gi_loopw [10] (fun i wr=>∃ k:Nat,k≤L.length∧i=.int .i64 k∧J (itH L k) wr∧Below w0.heap.size w0 wr) (fun i _=>L.length-(intOf i).toNat)
 case atStart=>exact⟨0,Nat.zero_le _,rfl,h0,hbW⟩
 case round=>
  obtain⟨i,hi,rfl,hJs,hbw⟩:=hrel;by_cases hlt:i<L.length
  ·obtain⟨g,sv,rfl,a1,a2,a3,⟨p2,c2,rfl,-,hops⟩⟩:=HX.out i hlt;have a1':=cell_later hbw a1;have a2':=cell_later hbw a2;have a3':=cell_later hbw a3
   have hm:(L.getD i aM).2.2.length≤1000:=HLo.out _ (by
    have:L.getD i aM=L[i]:=(by simp[hlt]);rw[this]
    exact List.getElem_mem hlt)
   have HO:=lhid hops;have HS:=lhid (oD L i);have HP:=lhid (fun k=>aHo L i k hlt);obtain⟨t,htt⟩:∃ t,L.getD i aM=t:=⟨_,rfl⟩;rw[htt] at a1' a2' a3' hm HO HS HP;obtain⟨ts,tf,tl⟩:=t;simp only at a1' a2' a3' hm HO HS HP;obtain⟨pre0,hpre0⟩:∃ q,itH L i=q:=⟨_,rfl⟩;rw[hpre0] at hJs HS HP;clear a1 a2 a3 hops htt hpre0
   gi_wp2
   gi_loopw [18] (fun j ws=>∃ k:Nat,k≤tl.length∧j=.int .i64 k∧J (pre0++itT i tl k) ws∧Below w0.heap.size w0 ws) (fun j _=>tl.length-(intOf j).toNat)
   case atStart=>exact⟨0,Nat.zero_le _,rfl,by simpa [itT] using HA.out _ _ _ hJs,hbw.alloc hbw.size _⟩
   case round=>
    obtain⟨k,hk,rfl,hJk,hbk⟩:=hrel;by_cases hlt2:k<tl.length
    ·obtain⟨g2,rfl,b1,b2,b3,b4⟩:=HO.out k hlt2;have b1':=cell_later hbk b1;have b2':=cell_later hbk b2;have b3':=cell_later hbk b3;have b4':=cell_later hbk b4;have HS2:=lhid (xF i tl k);have hpf:=HP.out (k+1) hlt2;obtain⟨o,ho⟩:∃ o,tl.getD k cG=o:=⟨_,rfl⟩;rw[ho] at b1' b2' b3' b4' HS2;rw[HS2.out, ←List.append_assoc] at hpf;obtain⟨ow,ok,od,on⟩:=o;simp only at b1' b2' b3' b4' HS2 hpf;have HPf:=lhid hpf;clear b1 b2 b3 b4 ho;have hbk2:=hbk.alloc hbk.size (.cells #[.bool ow,.int .i64 ok,.int .i64 od,.int .i64 on] 82);obtain⟨fn,tmps,assign,body,hy,hR⟩:=HY.out _ ((i,k),(ow,ok,od,on)) (wr.alloc (.cells #[.bool ow,.int .i64 ok,.int .i64 od,.int .i64 on] 82)) (HA.out _ _ _ hJk) hpf;simp only[aWw] at hy;clear hpf
     gi_wp2
     refine hR.mono ?_;rintro e W3 (⟨rfl,hJ3,hk3⟩ | ⟨rfl,hJx3⟩)
     ·gi_wp2
      go_roundw
      case rel=>exact⟨k+1,by omega,by go_num,by rw[HS2.out, ←List.append_assoc];exact hJ3,hbk2.trans hk3⟩
      case measure=>simp[intOf];omega
     ·gi_wp2
      refine bodyPost_ret (results_none rfl _ _ _) rfl ?_;exact⟨⟨_,rfl⟩,.inr ⟨_,HPf.out,hJx3⟩⟩
    ·obtain rfl:k=tl.length:=by omega
     gi_wp2
     go_roundw
     case rel=>exact⟨i+1,by omega,by go_num,by rw[HS.out];exact hJk,hbk⟩
     case measure=>simp[intOf];omega
  ·obtain rfl:i=L.length:=by omega
   gi_wp2
   go_end0
   exact⟨⟨_,rfl⟩,.inl ⟨_,rfl,hJs⟩⟩
theorem aIo {α:Type} {a:List α} {x:α} {b:List α} (h:a++[x] <+: b):a.length<b.length:=by
 have:=h.length_le;rw[List.length_append] at this;simp only[List.length_cons,List.length_nil] at this;omega
theorem aTa {α:Type} {a:List α} {x:α} {b:List α} (h:a++[x] <+: b):x∈b:=h.subset (by simp)
theorem zB (p:vW→Prop) (F:Fence) (n:Nat) (hF:F.fn 77) (hro:F.round=none) (hn:1≤n) (B:Nat) (w0:World) (v0 v1 v2:Value) (L:List bB) (hL:L.length≤1000) (ht:kM w0 v2 L) (hLo:∀ t∈L,t.2.2.length≤1000)
  (hp:∀ x∈itH L L.length,p x) (w:World) (hbw:Below w0.heap.size w0 w) (h3:nG w B v0 v1 v2) :
  SeqStopsK F n Tryz.prog 77 #[.pointer (some ⟨B,0,none⟩)] (fun x:{ x:vW // p x }=>aWw x.1) (Below w0.heap.size) (fun ys=>ys.map (·.1)=itH L L.length) (fun pre=>pre.map (·.1) <+: itH L L.length) (itH L L.length).length w:=fun l J Jx W hW hJ _ hY h0=>by
 refine(bIm F n hF hro hn l B w0 v0 v1 v2 L hL ht hLo (fun pre W=>∃ q:List { x:vW // p x },q.map (·.1)=pre∧J q W) (fun pre W=>∃ q:List { x:vW // p x },q.map (·.1)=pre∧Jx q W)
  (fun pre W o ⟨q,e,h⟩=>⟨q,e,hJ q W _ none h (World.grownBy_alloc W o none) (fun r e=>by cases e)⟩) ?_ W (aB hbw hW) (h3.below hW) ⟨[],rfl,h0⟩).mono ?_
 ·rintro pre x W' ⟨q,rfl,hj⟩ hpf;obtain⟨fn,tmps,assign,body,hy,hR⟩:=hY q ⟨x,hp x (aTa hpf)⟩ W' hj (by have:=aIo hpf;simpa using this);refine⟨fn,tmps,assign,body,hy,hR.mono ?_⟩;rintro e W3 (⟨he,h1,h2⟩ | ⟨he,h1⟩)
  ·exact .inl ⟨he,⟨_,by simp,h1⟩,h2⟩
  ·exact .inr ⟨he,⟨_,by simp,h1⟩⟩
 ·rintro e W' ⟨he,⟨ys,rfl,q,hq,hj⟩ | ⟨pre,hpf,q,rfl,hj⟩⟩
  ·exact⟨he,.inl ⟨q,hq,hj⟩⟩
  ·exact⟨he,.inr ⟨q,hpf,hj⟩⟩
end
section
open Go.RowKit Go.Shelf Go.Lib
attribute [local go_sem] Oper.semAt_some
def wV (D:DataW Unit) (l:List Int):Prop:=Maps.Tidy D∧Maps.size D=(dY l).length∧∀ x:Int,(Lit.int .i64 x).wf=true→Maps.has D (.int .i64 x)=l.contains x
theorem aPm (l:List Int) (x:Int):(dY (l++[x])).length=if l.contains x then (dY l).length else (dY l).length+1:=by
 by_cases h:l.contains x=true
 ·rw[if_pos h];have hx:x∈l:=(by simpa using h);apply Nat.le_antisymm
  ·refine nS _ _ (jX _) fun y hy=>?_;rw[dZ] at hy ⊢;rcases List.mem_append.1 hy with h | h
   ·exact h
   ·obtain rfl:y=x:=(by simpa using h);exact hx
  ·refine nS _ _ (jX _) fun y hy=>?_;rw[dZ] at hy ⊢;exact List.mem_append_left _ hy
 ·rw[if_neg h];have hx:x∉l:=(by simpa using h);have hn:(x::dY l).Nodup:=List.nodup_cons.2 ⟨fun h=>hx ((dZ _ _).1 h),jX l⟩;apply Nat.le_antisymm
  ·have:=nS _ (x::dY l) (jX (l++[x])) fun y hy=>by
    rw[dZ] at hy;rcases List.mem_append.1 hy with h | h
    ·exact List.mem_cons_of_mem _ ((dZ _ _).2 h)
    ·obtain rfl:y=x:=(by simpa using h);exact List.mem_cons_self ..
   simpa using this
  ·have:=nS (x::dY l) (dY (l++[x])) hn fun y hy=>by
    rw[dZ];rcases List.mem_cons.1 hy with h | h
    ·subst h;simp
    ·exact List.mem_append_left _ ((dZ _ _).1 h)
   simpa using this
theorem aMw:wV (.map []) []:=⟨⟨[],rfl,by simp⟩,rfl,fun _ _=>rfl⟩
theorem aMx {D:DataW Unit} {l:List Int} (h:wV D l) (x:Int) (hx:(Lit.int .i64 x).wf=true) (d:DataW Unit):wV (D.put (.int .i64 x) d) (l++[x]):=by
 obtain⟨h1,h2,h3⟩:=h;have hk:WideAt.IsKeyLit (.int .i64 x):=(by trivial);refine⟨h1.put hk d,?_,?_⟩
 ·rw[Maps.size_put h1,h3 x hx,h2,aPm]
 ·intro y hy;by_cases e:y=x
  ·subst e;rw[Maps.has_put_same h1.isMap hk];simp
  ·rw[Maps.has_put_other (by intro e2;cases e2;exact e rfl),h3 y hy];simp[e]
def pA (L:List bB) (k:Nat):List Int:=(L.take k).map (·.1)
theorem aFc (L:List bB) (k:Nat) (hk:k<L.length):pA L (k+1)=pA L k++[(L.getD k aM).1]:=by
 unfold pA;rw[List.take_add_one,List.map_append];congr 1;simp[hk]
theorem mR (L:List bB):(itH L L.length).map (·.2)=L.flatMap (·.2.2):=by
 have h1:∀ (i:Nat) (l:List OpM),(itT i l l.length).map (·.2)=l:=by
  intro i l;apply List.ext_getElem
  ·simp[itT]
  ·intro n h1 h2;simp[itT,h2]
 have h2:∀ n,n≤L.length→(itH L n).map (·.2)=(L.take n).flatMap (·.2.2):=by
  intro n
  induction n with
  | zero=>intro _;simp[itH]
  | succ n ih=>
   intro hn;rw[oD,List.map_append,ih (by omega),h1,List.take_add_one,List.flatMap_append];congr 1;simp[show n<L.length by omega]
 have:=h2 L.length (Nat.le_refl _)
 rwa [List.take_length] at this
theorem aBb (L:List bB) (hL:∀ t∈L,t.2.2.length≤1000):∀ n,n≤L.length→(itH L n).length≤n*1000
 | 0,_=>by simp[itH]
 | n+1,h=>by
  have ih:=aBb L hL n (by omega)
  have hm:=hL (L.getD n aM) (by
   have:L.getD n aM=L[n]:=(by simp[show n<L.length by omega]);rw[this]
   exact List.getElem_mem (by omega))
  rw[oD,List.length_append];have:(itT n (L.getD n aM).2.2 (L.getD n aM).2.2.length).length=(L.getD n aM).2.2.length:=(by simp[itT]);omega
theorem aQd (w:World):(zeroValue 3).run Tryz.prog w=.ok (.int .i64 0) w:=by kernel_rfl
theorem pB {w w':World} {B:Nat} {row:Option Nat} {v0 v1 v2:Value} (h:nG w B v0 v1 v2) (hg:w.grownBy w' row) (hne:some B≠row):nG w' B v0 v1 v2:=
 ⟨hg.cell h.1 hne,hg.cell h.2.1 hne,hg.cell h.2.2 hne⟩
theorem lX {w:World} {B:Nat} {v0 v1 v2:Value} (h:nG w B v0 v1 v2) (o:Obj):nG (w.alloc o) B v0 v1 v2:=pB h (World.grownBy_alloc w o none) (by simp)
set_option maxRecDepth 100000 in
set_option maxHeartbeats 4000000 in
theorem bJj (F:Fence) (n:Nat) (hF:F.fn 57) (hF2:F.fn 55) (hF3:F.fn 77) (hro:F.round=none) (hn:3≤n) (v0 v1 v2:Value) (h:aI) (w:World) (h0:bF w v0 h.1) (h1:bF w v1 h.2.1) (h2:kM w v2 h.2.2) (hm:cU h)
  (hs:∀ t∈h.2.2,0≤t.1∧t.1<h.1.length) (hk:∀ o∈bU h,0≤o.2.1∧o.2.1<h.2.1.length) :
  CallsIn F n Tryz.prog 57 #[.agg #[v0,v1,v2]] w fun e w'=>e=.returned (.bool (xU h))∧Below w.heap.size w w':=by
 have h1n:1≤n:=(by omega);obtain⟨m1,m2,m3,-,-,m4⟩:=hm;have T0:=lhid h0;have T1:=lhid h1;have T2:=lhid h2;obtain⟨p2,c2,rfl,hp⟩:=h2;obtain⟨p0,c0,rfl,-⟩:=h0;obtain⟨p1,c1,rfl,-⟩:=h1;have HX:=lhid hp;have HM4:=lhid m4;have HS:=lhid hs;have HK:=lhid hk;clear hp m4 hs hk;have hmm:=@run_makeMap Tryz.prog;have hm1:=World.ownsMap_made (w.alloc (.cells #[.slice p0 h.1.length c0,.slice p1 h.2.1.length c1,.slice p2 h.2.2.length c2] 25)) Tryz.prog 3 (plainElem (H:=Unit) Tryz.prog 3);have hm2:=World.ownsMap_made ((w.alloc (.cells #[.slice p0 h.1.length c0,.slice p1 h.2.1.length c1,.slice p2 h.2.2.length c2] 25)).alloc (.map #[] 0)) Tryz.prog 3 (plainElem (H:=Unit) Tryz.prog 3);refine callsIn_of_wp_marks Tryz.func57 rfl hF ?_ hro;simp only[Tryz.ntmps57,List.size_toArray,List.length_cons,List.length_nil,Nat.reduceAdd,Nat.reduceSub,Array.replicate_succ,Array.replicate_zero,List.push_toArray,List.append_toArray,List.nil_append,List.cons_append]
 gi_wp2
 have t0:=lX (lX (lX (qT w (.slice p0 h.1.length c0) (.slice p1 h.2.1.length c1) (.slice p2 h.2.2.length c2) 25) (.map #[] 0)) (.map #[] 0)) (.cells #[.map (some (w.heap.size+1+1))] 68);have b0:=Boxed.new (((w.alloc (.cells #[.slice p0 h.1.length c0,.slice p1 h.2.1.length c1,.slice p2 h.2.2.length c2] 25)).alloc (.map #[] 0)).alloc (.map #[] 0)) 68 (.map (some (w.heap.size+1+1)))
 have hB0:Below w.heap.size w ((((w.alloc (.cells #[.slice p0 h.1.length c0,.slice p1 h.2.1.length c1,.slice p2 h.2.2.length c2] 25)).alloc (.map #[] 0)).alloc (.map #[] 0)).alloc (.cells #[.map (some (w.heap.size+1+1))] 68)):=
  ((((Below.refl _ w).alloc (Nat.le_refl _) _).alloc (by simp) _).alloc (by simp;omega) _).alloc (by simp;omega) _
 simp only[World.size_alloc] at hm1 hm2 b0;replace hm1:=(hm1.alloc (.map #[] 0)).alloc (.cells #[.map (some (w.heap.size+1+1))] 68);replace hm2:=hm2.alloc (.cells #[.map (some (w.heap.size+1+1))] 68);obtain⟨W0,hW0⟩:∃ W0,(((w.alloc (.cells #[.slice p0 h.1.length c0,.slice p1 h.2.1.length c1,.slice p2 h.2.2.length c2] 25)).alloc (.map #[] 0)).alloc (.map #[] 0)).alloc (.cells #[.map (some (w.heap.size+1+1))] 68)=W0:=⟨_,rfl⟩;rw[hW0] at t0 b0 hB0 hm1 hm2 ⊢;clear hW0 hmm
 gi_loopw [14] (fun i wr=>∃ (k:Nat) (D:DataW Unit),k≤h.2.2.length∧i=.int .i64 k∧wr.ownsMap Tryz.prog 3 (plainElem (H:=Unit) Tryz.prog 3) (w.heap.size+1) k D∧wV D (pA h.2.2 k) ∧
   wr.ownsMap Tryz.prog 3 (plainElem (H:=Unit) Tryz.prog 3) (w.heap.size+1+1) 0 (.map [])∧Boxed wr (w.heap.size+1+1+1) 68 (.map (some (w.heap.size+1+1)))∧nG wr w.heap.size (.slice p0 h.1.length c0) (.slice p1 h.2.1.length c1) (.slice p2 h.2.2.length c2)∧Below w.heap.size w wr)
  (fun i _=>h.2.2.length-(intOf i).toNat)
 case atStart=>exact⟨0,_,Nat.zero_le _,rfl,hm1,aMw,hm2,b0,t0,hB0⟩
 case round=>
  obtain⟨k,D,hk,rfl,o1,k1,o2,bx,th,hbw⟩:=hrel;by_cases hlt:k<h.2.2.length
  ·obtain⟨g,sv,rfl,a1,a2,a3,⟨p3,c3,rfl,-⟩⟩:=HX.out k hlt;have a1':=cell_later hbw a1;have a2':=cell_later hbw a2;have a3':=cell_later hbw a3
   have hrange:=HS.out (h.2.2.getD k aM) (by
    have:h.2.2.getD k aM=h.2.2[k]:=(by simp[hlt]);rw[this]
    exact List.getElem_mem hlt)
   have HN:=lhid (aFc h.2.2 k hlt);obtain⟨t,ht⟩:∃ t,h.2.2.getD k aM=t:=⟨_,rfl⟩;rw[ht] at a1' a2' a3' hrange HN;obtain⟨ts,tf,tl⟩:=t;simp only at a1' a2' a3' hrange HN;have hwf:(Lit.int .i64 ts).wf=true:=WalkArith.wf_i64 (by omega);have hkey:=Maps.keyOf_int_mk Tryz.underlying3 hwf;have HK1:=lhid (fun d=>aMx k1 ts hwf d);clear a1 a2 a3 ht k1;have o1':=o1.alloc (.cells #[.int .i64 ts,.int .i64 tf,.slice p3 tl.length c3] 67)
   gi_wp2_with (first
    | (gi_at_lookup;refine wpListIn_lookup_own_int _ rfl _ _ 68 rfl 3 3 .i64 (Maps.int_keyed Tryz.underlying3) Tryz.underlying68 Tryz.underlying3 (aQd _) (w.heap.size+1) k _ rfl o1' _ _ rfl hkey ?_;intro c hat hwc)
    | (gi_at_mapUpdate;refine wpListIn_mapUpdate_own _ rfl _ _ _ 68 rfl 3 3 (Maps.int_keyed Tryz.underlying3) Tryz.underlying68 _ (w.heap.size+1) k _ rfl o1' (by unfold maxLen;omega) _ _ _ rfl rfl hkey _ [] (plainElem_int Tryz.underlying3 (wrap64_wf _)) ?_;intro w1 hown1 hgrow1))
   go_roundw
   case rel=>
    have g2:∀ {b:Nat},b≠w.heap.size+1→some b≠some (w.heap.size+1):=fun h e=>h (Option.some.inj e)
    exact⟨k+1,_,by omega,by go_num,hown1,by rw[HN.out];exact HK1.out _,(o2.alloc _).kept hgrow1 (g2 (by omega)),(bx.alloc _).kept hgrow1 (g2 (by omega)),pB (lX th _) hgrow1 (g2 (by omega)),
     (hbw.alloc hbw.size _).grown hgrow1 (by have:=hbw.size;simp;omega) (fun j e=>by cases e;omega)⟩
   case measure=>simp[intOf];omega
  ·have hke:k=h.2.2.length:=(by omega);have e1:pA h.2.2 k=h.2.2.map (·.1):=(by rw[hke,pA,List.take_length]);rw[e1] at k1;have HK1:=lhid k1;obtain⟨th0,th1,th2⟩:=id th;clear e1 k1
   gi_wp2_with (gi_at_call 55;refine(aSs F (n-1) hF2 hro _ _ _ _).mono ?_;rintro e w' ⟨rfl,rfl⟩)
   have hp:∀ x∈itH h.2.2 h.2.2.length,(Lit.int .i64 x.2.2.1).wf=true:=fun x hx=>by
    have h5:x.2∈bU h:=by
     show x.2∈h.2.2.flatMap (·.2.2);rw[←mR];exact List.mem_map_of_mem hx
    have:=HK.out _ h5;exact WalkArith.wf_i64 (by omega)
   have t1:=qT wr (.slice p0 h.1.length c0) (.slice p1 h.2.1.length c1) (.slice p2 h.2.2.length c2) 25;have o1':=o1.alloc (.cells #[.slice p0 h.1.length c0,.slice p1 h.2.1.length c1,.slice p2 h.2.2.length c2] 25);have o2':=o2.alloc (.cells #[.slice p0 h.1.length c0,.slice p1 h.2.1.length c1,.slice p2 h.2.2.length c2] 25);have bx':=bx.alloc (.cells #[.slice p0 h.1.length c0,.slice p1 h.2.1.length c1,.slice p2 h.2.2.length c2] 25);have th':=lX th (.cells #[.slice p0 h.1.length c0,.slice p1 h.2.1.length c1,.slice p2 h.2.2.length c2] 25);have hb':=hbw.alloc hbw.size (.cells #[.slice p0 h.1.length c0,.slice p1 h.2.1.length c1,.slice p2 h.2.2.length c2] 25);have hsz:w.heap.size+1+1+1<wr.heap.size:=bx.lt;have hsz1:(wr.alloc (.cells #[.slice p0 h.1.length c0,.slice p1 h.2.1.length c1,.slice p2 h.2.2.length c2] 25)).heap.size=wr.heap.size+1:=(by simp);obtain⟨W1,hW1⟩:∃ W1,wr.alloc (.cells #[.slice p0 h.1.length c0,.slice p1 h.2.1.length c1,.slice p2 h.2.2.length c2] 25)=W1:=⟨_,rfl⟩;rw[hW1] at t1 o1' o2' bx' th' hb' hsz1 ⊢;clear hW1 o1 o2 bx th th0 th1 th2 hm1 hm2 b0 t0 hB0
   refine wpIn_rangeFunc_ownH hro h1n (gf:=77) (lb:=#[.pointer (some ⟨wr.heap.size,0,none⟩)]) rfl hF3 (enters_of Tryz.func77 (by kernel_rfl) rfl)
    (zB (fun x=>(Lit.int .i64 x.2.2.1).wf=true) F (n-1) hF3 hro (by omega) wr.heap.size w _ _ _ h.2.2 m3 T2.out HM4.out hp W1 hb' t1) belowK_t (belowK_b (by omega)) (Below.refl _ _) (fun _=>rfl)
    (fun pre W=>((∃ D2:DataW Unit,W.ownsMap Tryz.prog 3 (plainElem (H:=Unit) Tryz.prog 3) (w.heap.size+1+1) pre.length D2∧wV D2 (pre.map fun x=>x.1.2.2.1))∧W.ownsMap Tryz.prog 3 (plainElem (H:=Unit) Tryz.prog 3) (w.heap.size+1) k D ∧
     Boxed W (w.heap.size+1+1+1) 68 (.map (some (w.heap.size+1+1)))∧nG W w.heap.size (.slice p0 h.1.length c0) (.slice p1 h.2.1.length c1) (.slice p2 h.2.2.length c2))∧Below w.heap.size w W)
    (fun _ _ _=>False)
    (OwnFrom.and (fun s A B row hs hg hr=>by
      obtain⟨⟨D2,q1,q2⟩,q3,q4,q5⟩:=hs;have hne:∀ b,b<W1.heap.size→some b≠row:=fun b hb e=>by have:=(hr b e.symm).1;omega
      exact⟨⟨D2,q1.kept hg (hne _ (by omega)),q2⟩,q3.kept hg (hne _ (by omega)),q4.kept hg (hne _ (by omega)),pB q5 hg (hne _ (by omega))⟩) (ownFrom_below (Nat.le_refl _) (by omega)))
    (fun _ _ _ _ _ hs _ _=>hs)
    ⟨⟨⟨_,o2',aMw⟩,o1',bx',th'⟩,hb'⟩
    (fun x a' W=>∃ Bx,w.heap.size+1+1+1<Bx∧W.heap[Bx]? = some (.cells #[.bool x.1.2.1,.int .i64 x.1.2.2.1,.int .i64 x.1.2.2.2.1,.int .i64 x.1.2.2.2.2] 82 (0,0))∧a' = { tmps:=#[.agg #[.slice p0 h.1.length c0,.slice p1 h.2.1.length c1,.slice p2 h.2.2.length c2],.pointer (some ⟨w.heap.size,0,none⟩),.bool false,.map (some (w.heap.size+1)),.pointer (some ⟨w.heap.size+1+1+1,0,none⟩),undef,u6,undef,.pointer (some ⟨Bx,0,none⟩),.map (some (w.heap.size+1)),.map (some (w.heap.size+1+1)),.pointer (some ⟨w.heap.size,2,none⟩),.slice p2 h.2.2.length c2,.int .i64 (h.2.2.length:Nat),.int .i64 (h.2.2.length:Nat),.bool false,u16,u17,u18,u19,u20,u21,u22,u23,.agg #[.slice p0 h.1.length c0,.slice p1 h.2.1.length c1,.slice p2 h.2.2.length c2],.func (.func 77) #[] #[.pointer (some ⟨wr.heap.size,0,none⟩)],.agg #[.int .i64 (x.1.1.1:Nat),.int .i64 (x.1.1.2:Nat)],.agg #[.bool x.1.2.1,.int .i64 x.1.2.2.1,.int .i64 x.1.2.2.2.1,.int .i64 x.1.2.2.2.2],undef,undef,undef,undef,undef,undef,undef,undef,undef,undef,undef,undef,undef,undef,undef,undef,undef,undef,undef],defers:=[] })
    (fun x a' _ X Y row hs hg hr=>by
     obtain⟨Bx,r1,r2,r3⟩:=hs
     exact⟨Bx,r1,(hg.block Bx (Array.getElem?_eq_some_iff.1 r2).1 (fun e=>by obtain⟨-,o,ho,hc⟩:=hr Bx e.symm;rw[r2] at ho;cases ho;cases hc)).trans r2,r3⟩)
    ?assign ?body ?done ?stop
   case assign=>
    rintro l pre x W K ⟨⟨⟨D2,q1,q2⟩,q3,q4,q5⟩,hB⟩ hK;simp only[aWw]
    gi_wp2
    exact hK _ _ ((KeepsOthers.alloc _ _).from _) ((Below.refl _ W).alloc hB.size _) ⟨⟨⟨D2,q1.alloc _,q2⟩,q3.alloc _,q4.alloc _,lX q5 _⟩,hB.alloc hB.size _⟩ ⟨W.heap.size,q4.lt,heap_alloc_new W _,rfl⟩
   case body=>
    rintro l pre x a' W hl - ⟨⟨⟨D2,q1,q2⟩,q3,q4,q5⟩,hB⟩ ⟨Bx,hBx,bX,rfl⟩ hlt2;have cB:=q4.cell;have cX:W.cell? ⟨Bx,1,none⟩=some (.int .i64 x.1.2.2.1):=(by rw[cell_of_row W Bx 1 _ _ (0,0) bX];rfl);have hkey:=Maps.keyOf_int_mk Tryz.underlying3 x.2;have hN:=aBb h.2.2 HM4.out h.2.2.length (Nat.le_refl _);have hK2:=lhid (fun d=>aMx q2 _ x.2 d);clear q2
    gi_wp2_with (first
     | (gi_at_lookup;refine wpListIn_lookup_own_int _ rfl _ _ 68 rfl 3 3 .i64 (Maps.int_keyed Tryz.underlying3) Tryz.underlying68 Tryz.underlying3 (aQd _) (w.heap.size+1+1) pre.length _ rfl q1 _ _ rfl hkey ?_;intro c hat hwc)
     | (gi_at_mapUpdate;refine wpListIn_mapUpdate_own _ rfl _ _ _ 68 rfl 3 3 (Maps.int_keyed Tryz.underlying3) Tryz.underlying68 _ (w.heap.size+1+1) pre.length _ rfl q1 (by unfold maxLen;omega) _ _ _ rfl rfl hkey _ [] (plainElem_int Tryz.underlying3 (wrap64_wf _)) ?_;intro w1 hown1 hgrow1))
    have g2:∀ {b:Nat},b≠w.heap.size+1+1→some b≠some (w.heap.size+1+1):=fun h e=>h (Option.some.inj e);have hgb:∀ {A:World},Below w.heap.size A W→Below w.heap.size A w1:=fun hA=>hA.grown hgrow1 hB.size (fun j e=>by cases e;omega);exact⟨KeepsFrom.of_grownBy hgrow1 (fun j e=>by cases e;omega),hgb (Below.refl _ _),⟨⟨_,by rw[List.length_append];exact hown1,by rw[List.map_append];exact hK2.out _⟩,q3.kept hgrow1 (g2 (by omega)),q4.kept hgrow1 (g2 (by omega)),pB q5 hgrow1 (g2 (by omega))⟩,hgb hB⟩
   case done=>
    rintro Dd xs W hD hS ⟨⟨⟨D2,q1,q2⟩,q3,q4,q5⟩,hB⟩ hd;have l1:=q3.len Tryz.underlying68 3;have l2:=q1.len Tryz.underlying68 3;have e1:Maps.size D=(dY (h.2.2.map (·.1))).length:=HK1.out.2.1
    have e2:Maps.size D2=(dY ((bU h).map (·.2.1))).length:=by
     rw[q2.2.1];congr 2;have h5:=congrArg (List.map (fun x:vW=>x.2.2.1)) hS;rw[List.map_map] at h5;rw[show bU h=h.2.2.flatMap (·.2.2) from rfl, ←mR,List.map_map];exact h5
    have u1:=aFm h.1.length (h.2.2.map (·.1)) (fun x hx=>by
     obtain⟨t,ht,rfl⟩:=List.mem_map.1 hx
     exact HS.out t ht)
    have u2:=aFm h.2.1.length ((bU h).map (·.2.1)) (fun x hx=>by
     obtain⟨o,ho,rfl⟩:=List.mem_map.1 hx
     exact HK.out o ho)
    rw[←e1] at u1;rw[←e2] at u2;obtain⟨N1,hN1⟩:∃ N1,Maps.size D=N1:=⟨_,rfl⟩;obtain⟨N2,hN2⟩:∃ N2,Maps.size D2=N2:=⟨_,rfl⟩;rw[hN1] at l1 u1;rw[hN2] at l2 u2;have hfin:xU h=(decide (N1=h.1.length)&&decide (N2=h.2.1.length)):=(by rw[u1,u2];rfl);have HU:=lhid hfin;have HD:=lhid hd;have HDB:Hid (Below w.heap.size w (W.putObj Dd (.deferred none))):=lhid (hB.trans (belowK_b (w:=W1) (by omega) W Dd _ _ hD hd rfl rfl));obtain⟨q50,q51,q52⟩:=q5;have cB:=q4.cell;clear e1 e2 u1 u2 hN1 hN2 hfin hd hS q1 q2 q3 q4 hB;by_cases g1:N1=h.1.length
    ·have f1:((N1:Int)==(h.1.length:Int))=true:=(by rw[g1];exact beq_self_eq_true _);have t1':decide (N1=h.1.length)=true:=(by simpa using g1);rw[t1',Bool.true_and] at HU;clear g1 t1';by_cases g2:N2=h.2.1.length
     ·have f2:((N2:Int)==(h.2.1.length:Int))=true:=(by rw[g2];exact beq_self_eq_true _);have t2':decide (N2=h.2.1.length)=true:=(by simpa using g2);rw[t2'] at HU;clear g2 t2'
      gi_wp2
      refine⟨by simp,.inl ⟨_,_,rfl,run_takeDeferred HD.out,?_⟩⟩;exact⟨_,results_tmp rfl _ _ _,by rw[HU.out];rfl,HDB.out⟩
     ·have f2:((N2:Int)==(h.2.1.length:Int))=false:=(by rw[beq_eq_false_iff_ne];omega);have t2':decide (N2=h.2.1.length)=false:=(by simpa using g2);rw[t2'] at HU;clear g2 t2'
      gi_wp2
      refine⟨by simp,.inl ⟨_,_,rfl,run_takeDeferred HD.out,?_⟩⟩;exact⟨_,results_tmp rfl _ _ _,by rw[HU.out];rfl,HDB.out⟩
    ·have f1:((N1:Int)==(h.1.length:Int))=false:=(by rw[beq_eq_false_iff_ne];omega);have t1':decide (N1=h.1.length)=false:=(by simpa using g1);rw[t1',Bool.false_and] at HU;clear g1 t1'
     gi_wp2
     refine⟨by simp,.inl ⟨_,_,rfl,run_takeDeferred HD.out,?_⟩⟩;exact⟨_,results_tmp rfl _ _ _,by rw[HU.out];rfl,HDB.out⟩
   case stop=>
    rintro D' c pre W _ _ h' _;exact h'.elim
end
section
open Go.RowKit Go.Shelf Go.Lib
attribute [local go_sem] Oper.semAt_some
theorem nD {B:Nat} {W W':World} (h:Below W.heap.size W W'):KeepsFrom B W W':=
 ⟨h.size,fun _ _ _ hk _=>(h.block _ (Array.getElem?_eq_some_iff.1 hk).1).trans hk⟩
theorem sB {w:World} {B:Nat} {t:TypeId} {cs:List Value} (h:Blk w B t cs) {l:Nat} (hne:B≠l) (o:Obj):Blk (w.putObj l o) B t cs:=(World.putObj_heap_other hne).trans h
set_option maxRecDepth 100000 in
set_option maxHeartbeats 4000000 in
theorem aCv (v0 v1 v2:Value) (h:aI) (w:World) (h0:bF w v0 h.1) (h1:bF w v1 h.2.1) (h2:kM w v2 h.2.2) (hm:cU h) (hT:Lib.Utf8Tabs 1 2 w) :
  Calls Tryz.prog 28 #[.agg #[v0,v1,v2]] w fun e w'=>e=.returned (.int .i64 (tI h))∧Below w.heap.size w w':=by
 have HH:=lhid (fun w' (hb:Below w.heap.size w w')=>aXd v0 v1 v2 h w' (h0.below hb) (h1.below hb) (h2.below hb) hm (Utf8Tabs_below hT hb));have HC:=lhid (fun B w' (hb:Below w.heap.size w w') (h3:nG w' B v0 v1 v2)=>yF v0 v1 v2 v2 h.1 h.2.2 B w' h3 (h0.below hb) (h2.below hb) hm.2.2.1);have T0:=lhid h0;have T1:=lhid h1;have T2:=lhid h2;have HM:=lhid hm;obtain⟨p2,c2,rfl,-⟩:=h2;obtain⟨p0,c0,rfl,-⟩:=h0;obtain⟨p1,c1,rfl,-⟩:=h1;clear hm hT;refine(callsIn_wide (n:=10)).1 ?_;refine callsIn_of_wp_marks Tryz.func28 rfl trivial ?_ rfl;simp only[Tryz.ntmps28,List.size_toArray,List.length_cons,List.length_nil,Nat.reduceAdd,Nat.reduceSub,Array.replicate_succ,Array.replicate_zero,List.push_toArray,List.append_toArray,List.nil_append,List.cons_append];have b0:=Blk.new w 25 [.slice p0 h.1.length c0,.slice p1 h.2.1.length c1,.slice p2 h.2.2.length c2];have b1:=Blk.new (w.alloc (.cells #[.slice p0 h.1.length c0,.slice p1 h.2.1.length c1,.slice p2 h.2.2.length c2] 25)) 32 [.int .i64 0];simp only[World.size_alloc] at b1;replace b0:=b0.alloc (.cells #[.int .i64 0] 32);have hb0:Below w.heap.size w ((w.alloc (.cells #[.slice p0 h.1.length c0,.slice p1 h.2.1.length c1,.slice p2 h.2.2.length c2] 25)).alloc (.cells #[.int .i64 0] 32)):=((Below.refl _ w).alloc (Nat.le_refl _) _).alloc (by simp) _
 gi_wp2_with fail
 refine⟨trivial,(callsIn_wide.2 (HH.out _ hb0)).mono ?_⟩;rintro e w1 ⟨rfl,hb1⟩;have hbw1:=aB hb0 hb1;have d0:=b0.later hb1;have d1:=b1.later hb1;clear b0 b1 hb0 hb1;have x0:=d0.cell 0 rfl;have x1:=d0.cell 1 rfl;have x2:=d0.cell 2 rfl;have y0:=d1.cell 0 rfl;have y1:=d1.frozen 0
 have HR:Hid (∀ b,mV h=b→tI h=if b then (if h.2.2.all (bQ h.1.length)&&((bU h).all (jS h.2.1.length)&&xU h) then 0 else 4) else 4):=lhid (fun b hb=>by
  unfold tI cZ;rw[hb];cases b
  ·simp
  ·rw[Bool.true_and,if_pos rfl])
 generalize mV h=b at HR;have HR2:=lhid (HR.out _ rfl);have facts:∀ (w':World),Below w1.heap.size w1 w'→Below w.heap.size w w'∧Blk w' w.heap.size 25 [.slice p0 h.1.length c0,.slice p1 h.2.1.length c1,.slice p2 h.2.2.length c2]∧Blk w' (w.heap.size+1) 32 [.int .i64 0]   := fun w' hb=>⟨aB hbw1 hb,d0.later hb,d1.later hb⟩;have FX:=lhid facts;have HB1:=lhid hbw1;have D1:=lhid d1;clear facts HR hbw1 d0 d1
 cases b with
 | false=>
  have hE:=HR2.out;rw[if_neg (by simp)] at hE;have HE:=lhid hE;clear hE HR2
  gi_wp2_with fail
  refine⟨trivial,?_⟩
  gi_wp2_with fail
  have c4:=(D1.out.set 0 (.int .i64 4)).cell 0 rfl;refine⟨.int .i64 4,?_,by rw[HE.out],HB1.out.setCell (by show w.heap.size≤w.heap.size+1;omega) _⟩;simp[results,Tryz.results28,go_sem,c4]
 | true=>
  have hE:=HR2.out;rw[if_pos rfl] at hE;have HC2:=lhid (HC.out w.heap.size w1 HB1.out ⟨x0,x1,x2⟩)
  have HOK:Hid (h.2.2.all (bQ h.1.length)=true→∀ t∈h.2.2,0≤t.1∧t.1<h.1.length):=lhid (fun ha t ht=>by
   have:=List.all_eq_true.1 ha t ht;simp only[bQ,dV,Bool.and_eq_true,decide_eq_true_eq] at this
   exact this.1)
  clear HC HH;generalize h.2.2.all (bQ h.1.length)=b2 at *
  cases b2 with
  | false=>
   rw[Bool.false_and,if_neg (by simp)] at hE;have HE:=lhid hE;clear hE HR2
   gi_wp2_with fail
   refine⟨trivial,(callsIn_wide.2 HC2.out).mono ?_⟩;rintro e w2 ⟨rfl,hb2⟩;obtain⟨hw2,d0,d1⟩:=FX.out _ hb2;have y0':=d1.cell 0 rfl;have y1':=d1.frozen 0;have D2:=lhid d1;clear hb2 d0 d1 x0 x1 x2 y0 y1
   gi_wp2_with fail
   have c4:=(D2.out.set 0 (.int .i64 4)).cell 0 rfl;refine⟨.int .i64 4,?_,by rw[HE.out],hw2.setCell (by show w.heap.size≤w.heap.size+1;omega) _⟩;simp[results,Tryz.results28,go_sem,c4]
  | true=>
   rw[Bool.true_and] at hE;have HE:=lhid hE;clear hE HR2
   gi_wp2_with fail
   refine⟨trivial,(callsIn_wide.2 HC2.out).mono ?_⟩;rintro e w2 ⟨rfl,hb2⟩;obtain⟨hw2,d0,d1⟩:=FX.out _ hb2;have x0':=d0.cell 0 rfl;have x1':=d0.cell 1 rfl;have x2':=d0.cell 2 rfl;clear hb2 x0 x1 x2 y0 y1
   gi_wp2_with fail
   refine⟨trivial,(aSs Fence.wide 9 trivial rfl _ _ _ _).mono ?_⟩;rintro e w3 ⟨rfl,rfl⟩
   gi_wp2_with fail
   have t1:=qT w2 (.slice p0 h.1.length c0) (.slice p1 h.2.1.length c1) (.slice p2 h.2.2.length c2) 25;have k0:=d0.alloc (.cells #[.slice p0 h.1.length c0,.slice p1 h.2.1.length c1,.slice p2 h.2.2.length c2] 25);have k1:=d1.alloc (.cells #[.slice p0 h.1.length c0,.slice p1 h.2.1.length c1,.slice p2 h.2.2.length c2] 25);have hb':=hw2.alloc hw2.size (.cells #[.slice p0 h.1.length c0,.slice p1 h.2.1.length c1,.slice p2 h.2.2.length c2] 25);have hsz:w.heap.size+1<w2.heap.size:=d1.lt;have hsz1:(w2.alloc (.cells #[.slice p0 h.1.length c0,.slice p1 h.2.1.length c1,.slice p2 h.2.2.length c2] 25)).heap.size=w2.heap.size+1:=(by simp);obtain⟨W1,hW1⟩:∃ W1,w2.alloc (.cells #[.slice p0 h.1.length c0,.slice p1 h.2.1.length c1,.slice p2 h.2.2.length c2] 25)=W1:=⟨_,rfl⟩;rw[hW1] at t1 k0 k1 hb' hsz1 ⊢;clear hW1 d0 d1 x0' x1' x2'
   refine wpIn_rangeFunc_ownH rfl (by omega) (gf:=77) (lb:=#[.pointer (some ⟨w2.heap.size,0,none⟩)]) rfl trivial (enters_of Tryz.func77 (by kernel_rfl) rfl)
    (zB (fun _=>True) Fence.wide 9 trivial rfl (by omega) w2.heap.size w _ _ _ h.2.2 HM.out.2.2.1 T2.out HM.out.2.2.2.2.2 (fun _ _=>trivial) W1 hb' t1) belowK_t (belowK_b (by omega)) (Below.refl _ _) (fun _=>rfl)
    (fun pre W=>((∀ x∈pre,jS h.2.1.length x.1.2=true)∧Blk W w.heap.size 25 [.slice p0 h.1.length c0,.slice p1 h.2.1.length c1,.slice p2 h.2.2.length c2]∧Blk W (w.heap.size+1) 32 [.int .i64 0])∧Below w.heap.size w W)
    (fun c pre W=>(c=.ret∧(∃ x∈pre,jS h.2.1.length x.1.2=false)∧Blk W (w.heap.size+1) 32 [.int .i64 4])∧Below w.heap.size w W)
    (OwnFrom.and (fun s A B row hs hg hr=>by
      have hne:∀ b,b<W1.heap.size→some b≠row:=fun b hb e=>by have:=(hr b e.symm).1;omega
      exact⟨hs.1,hs.2.1.kept hg (hne _ (by omega)),hs.2.2.kept hg (hne _ (by omega))⟩) (ownFrom_below (Nat.le_refl _) (by omega)))
    (fun c=>OwnFrom.and (fun s A B row hs hg hr=>by
      have hne:∀ b,b<W1.heap.size→some b≠row:=fun b hb e=>by have:=(hr b e.symm).1;omega
      exact⟨hs.1,hs.2.1,hs.2.2.kept hg (hne _ (by omega))⟩) (ownFrom_below (Nat.le_refl _) (by omega)))
    ⟨⟨(fun x hx=>by cases hx),k0,k1⟩,hb'⟩
    (fun x a' W=>∃ Bx,Blk W Bx 82 [.bool x.1.2.1,.int .i64 x.1.2.2.1,.int .i64 x.1.2.2.2.1,.int .i64 x.1.2.2.2.2]∧a' = { tmps:=#[.agg #[.slice p0 h.1.length c0,.slice p1 h.2.1.length c1,.slice p2 h.2.2.length c2],.pointer (some ⟨w.heap.size,0,none⟩),.pointer (some ⟨w.heap.size+1,0,none⟩),undef,.pointer (some ⟨Bx,0,none⟩),.agg #[.slice p0 h.1.length c0,.slice p1 h.2.1.length c1,.slice p2 h.2.2.length c2],.bool true,.bool false,.bool false,.pointer (some ⟨w.heap.size,2,none⟩),.slice p2 h.2.2.length c2,.func (.func 53) #[] #[.pointer (some ⟨w.heap.size,0,none⟩)],.bool false,.bool false,.agg #[.slice p0 h.1.length c0,.slice p1 h.2.1.length c1,.slice p2 h.2.2.length c2],.func (.func 77) #[] #[.pointer (some ⟨w2.heap.size,0,none⟩)],.agg #[.int .i64 (x.1.1.1:Nat),.int .i64 (x.1.1.2:Nat)],.agg #[.bool x.1.2.1,.int .i64 x.1.2.2.1,.int .i64 x.1.2.2.2.1,.int .i64 x.1.2.2.2.2],undef,undef,undef,undef,undef,undef,undef],defers:=[] })
    (fun x a' _ X Y row hs hg hr=>by
     obtain⟨Bx,r2,r3⟩:=hs
     exact⟨Bx,r2.kept hg (fun e=>by obtain⟨-,o,ho,hc⟩:=hr Bx e.symm;have r2':X.heap[Bx]? = some _:=r2;rw[r2'] at ho;cases ho;cases hc),r3⟩)
    ?assign ?body ?done ?stop
   case assign=>
    rintro l pre x W K ⟨⟨q1,q2,q3⟩,hB⟩ hK;simp only[aWw]
    gi_wp2
    exact hK _ _ ((KeepsOthers.alloc _ _).from _) ((Below.refl _ W).alloc hB.size _) ⟨⟨q1,q2.alloc _,q3.alloc _⟩,hB.alloc hB.size _⟩ ⟨W.heap.size,Blk.new W _ [_,_,_,_],rfl⟩
   case body=>
    rintro l pre x a' W hl - ⟨⟨q1,q2,q3⟩,hB⟩ ⟨Bx,bX,rfl⟩ hlt2;have x0:=q2.cell 0 rfl;have x1:=q2.cell 1 rfl;have x2:=q2.cell 2 rfl;have z0:=bX.cell 0 rfl;have z1:=bX.cell 1 rfl;have z2:=bX.cell 2 rfl;have z3:=bX.cell 3 rfl;have HO:=lhid (bKw (.slice p0 h.1.length c0) (.slice p1 h.2.1.length c1) (.slice p2 h.2.2.length c2) h.2.1 x.1.2 W (T1.out.below hB));have HQ1:=lhid q1;have HB:=lhid hB;have Q2:=lhid q2;have Q3:=lhid q3;obtain⟨b3,hb3⟩:∃ b3,jS h.2.1.length x.1.2=b3:=⟨_,rfl⟩;have HB3:=lhid hb3;rw[hb3] at HO;clear q1 q2 q3 hB hb3 bX
    gi_wp2_with fail
    refine⟨trivial,((callsIn_wide.2 HO.out).inRound l).mono ?_⟩;rintro e w4 ⟨rfl,hb4⟩;have hB4:=aB HB.out hb4;have k4:=Q3.out.later hb4;have y4:=k4.cell 0 rfl;have y5:=k4.frozen 0;have K4:=lhid k4;have KF:=lhid (nD (B:=W1.heap.size) hb4);have BW:Hid (Below w.heap.size W w4):=lhid (hb4.mono HB.out.size);have Q4:=lhid (Q2.out.later hb4);clear k4 hb4 x0 x1 x2 z0 z1 z2 z3
    cases b3 with
    | true=>
     gi_wp2_with fail
     exact⟨KF.out,BW.out,⟨⟨(fun y hy=>by
      rcases List.mem_append.1 hy with hy | hy
      ·exact HQ1.out y hy
      ·obtain rfl:y=x:=by simpa using hy
       exact HB3.out),Q4.out,K4.out⟩,hB4⟩⟩
    | false=>
     gi_wp2_with fail
     exact⟨KF.out.trans (KeepsFrom.of_grownBy (grownBy_setCell' _ _ _) (fun j e=>by cases e;omega)),⟨rfl,⟨x,by simp,HB3.out⟩,K4.out.set 0 _⟩,hB4.setCell (by show w.heap.size≤w.heap.size+1;omega) _⟩
   case done=>
    rintro Dd xs W hD hS ⟨⟨q1,q2,q3⟩,hB⟩ hd
    have hall:(bU h).all (jS h.2.1.length)=true:=by
     rw[List.all_eq_true];intro o ho;rw[show bU h=h.2.2.flatMap (·.2.2) from rfl, ←mR, ←hS] at ho;obtain⟨y,hy,rfl⟩:=List.mem_map.1 ho;obtain⟨x,hx,rfl⟩:=List.mem_map.1 hy;exact q1 x hx
    have hrk:∀ o∈bU h,0≤o.2.1∧o.2.1<h.2.1.length:=fun o ho=>by
     have:=List.all_eq_true.1 hall o ho;simp only[jS,dV,Bool.and_eq_true,decide_eq_true_eq] at this;exact this.1
    have HE2:=HE.out;rw[hall,Bool.true_and] at HE2;have HU:=lhid (bJj Fence.wide 9 trivial trivial trivial rfl (by omega) _ _ _ h W (T0.out.below hB) (T1.out.below hB) (T2.out.below hB) HM.out (HOK.out (by trivial)) hrk);have HE3:=lhid HE2;have HB:=lhid hB;have Q3:=lhid q3;have HD:=lhid hd;have x0:=q2.cell 0 rfl;have x1:=q2.cell 1 rfl;have x2:=q2.cell 2 rfl;generalize xU h=b4 at HU HE3;clear q1 q2 q3 hB hS hall hrk HE2 hd
    gi_wp2_with fail
    refine⟨trivial,HU.out.mono ?_⟩;rintro e w4 ⟨rfl,hb4⟩;have hB4:=aB HB.out hb4;have k4:=Q3.out.later hb4;have y4:=k4.cell 0 rfl;have y5:=k4.frozen 0;have hd4:w4.heap[Dd]? = some (.deferred (some [])):=(hb4.block Dd (Array.getElem?_eq_some_iff.1 HD.out).1).trans HD.out;have HD4:=lhid hd4;have K4:=lhid k4;have hne:w.heap.size+1≠Dd:=(by omega);clear k4 hb4 x0 x1 x2 hd4
    cases b4 with
    | true=>
     have k5:=sB (K4.out.set 0 (.int .i64 0)) hne (.deferred none);have K5:=lhid k5;clear k5
     gi_wp2_with fail
     refine⟨by simp,.inl ⟨_,_,rfl,run_takeDeferred ((Below.heap_setCell _ _ _ _ (by simp;omega)).trans HD4.out),?_⟩⟩;have c4:=K5.out.cell 0 rfl;exact⟨.int .i64 0,by simp[results,Tryz.results28,go_sem,c4],by rw[HE3.out];rfl,(hB4.setCell (by show w.heap.size≤w.heap.size+1;omega) _).trans (belowK_b (w:=W1) (by omega) _ Dd _ _ hD ((Below.heap_setCell _ _ _ _ (by simp;omega)).trans HD4.out) rfl rfl)⟩
    | false=>
     have k5:=sB (K4.out.set 0 (.int .i64 4)) hne (.deferred none);have K5:=lhid k5;clear k5
     gi_wp2_with fail
     refine⟨by simp,.inl ⟨_,_,rfl,run_takeDeferred ((Below.heap_setCell _ _ _ _ (by simp;omega)).trans HD4.out),?_⟩⟩;have c4:=K5.out.cell 0 rfl;exact⟨.int .i64 4,by simp[results,Tryz.results28,go_sem,c4],by rw[HE3.out];rfl,(hB4.setCell (by show w.heap.size≤w.heap.size+1;omega) _).trans (belowK_b (w:=W1) (by omega) _ Dd _ _ hD ((Below.heap_setCell _ _ _ _ (by simp;omega)).trans HD4.out) rfl rfl)⟩
   case stop=>
    rintro Dd c pre W hD hpf ⟨⟨rfl,⟨x,hx,hx2⟩,q3⟩,hB⟩ hd
    have hall:(bU h).all (jS h.2.1.length)=false:=by
     rw[List.all_eq_false];refine⟨x.1.2,?_,by rw[hx2];exact Bool.false_ne_true⟩;rw[show bU h=h.2.2.flatMap (·.2.2) from rfl, ←mR];exact List.mem_map_of_mem (hpf.subset (List.mem_map_of_mem hx))
    have HE2:=HE.out;rw[hall,Bool.false_and,if_neg (by simp)] at HE2;have HE3:=lhid HE2;have hne:w.heap.size+1≠Dd:=(by omega);have k5:=sB q3 hne (.deferred none);have K5:=lhid k5;clear k5 HE2 hall hx hx2
    gi_wp2_with fail
    refine⟨by simp,.inl ⟨_,_,rfl,run_takeDeferred hd,?_⟩⟩;have c4:=K5.out.cell 0 rfl;exact⟨.int .i64 4,by simp[results,Tryz.results28,go_sem,c4],by rw[HE3.out],hB.trans (belowK_b (w:=W1) (by omega) _ Dd _ _ hD hd rfl rfl)⟩
end
section
open Go.RowKit Go.Lib
def jH (p:bB→Bool) (L:List bB) (k:Nat):List Int:=((List.range k).filter fun i=>p (L.getD i aM)).map fun i:Nat=>(i:Int)
theorem uQ (p:bB→Bool) (L:List bB) (k:Nat):jH p L (k+1)=if p (L.getD k aM) then jH p L k++[(k:Int)] else jH p L k:=by
 unfold jH;rw[List.range_succ,List.filter_append,List.map_append];by_cases h:p (L.getD k aM)=true
 ·rw[if_pos h,List.filter_cons,if_pos h];rfl
 ·rw[if_neg h,List.filter_cons,if_neg h];simp
theorem xC (p:bB→Bool) (L:List bB) (k:Nat):(jH p L k).length≤k:=by
 unfold jH;rw[List.length_map];exact Nat.le_trans (List.length_filter_le _ _) (by simp)
def cA (p:bB→Bool) (h:aI):List Int:=if cZ h then jH p h.2.2 h.2.2.length else []
theorem jZ (p:bB→Bool) {h:aI} (hm:cZ h=true):cA p h=jH p h.2.2 h.2.2.length:=by simp[cA,hm]
theorem aJk (p:bB→Bool) {h:aI} (hm:cZ h=false):cA p h=[]:=by simp[cA,hm]
def aP (t:bB):Bool:=t.2.1==3
theorem kT {h:aI} (hm:cZ h=true):tI h=0:=by simp[tI,hm]
theorem pH {h:aI} (hm:cZ h=false):tI h=4:=by simp[tI,hm]
set_option maxHeartbeats 1000000 in
theorem aRp (t:bB) (sv:Value) (w:World) :
  Calls Tryz.prog 59 #[.agg #[.int .i64 t.1,.int .i64 t.2.1,sv]] w fun e w'=>e=.returned (.bool (aP t))∧Below w.heap.size w w':=by
 go_enter Tryz.func59,Tryz.ntmps59
 go_wp2
 go_ret;exact⟨rfl,by go_grown⟩
set_option maxRecDepth 100000 in
set_option maxHeartbeats 4000000 in
theorem aPv (v0 v1 v2:Value) (h:aI) (w:World) (h0:bF w v0 h.1) (h1:bF w v1 h.2.1) (h2:kM w v2 h.2.2) (hm:cU h) (hT:Lib.Utf8Tabs 1 2 w) :
  Calls Tryz.prog 58 #[.agg #[v0,v1,v2],.func (.func 59) #[] #[]] w fun e w'=>∃ v',e=.returned v'∧qC w' v' (cA (aP) h)∧Below w.heap.size w w':=by
 have HMay:=lhid (fun w' (hb:Below w.heap.size w w')=>aCv v0 v1 v2 h w' (h0.below hb) (h1.below hb) (h2.below hb) hm (Utf8Tabs_below hT hb));have HMod:=lhid hm;obtain⟨p2,c2,rfl,hp⟩:=h2;obtain⟨p0,c0,rfl,-⟩:=h0;obtain⟨p1,c1,rfl,-⟩:=h1;have HX:=lhid hp;have m3:h.2.2.length≤1000:=hm.2.2.1;obtain⟨i0,hi,hz0,hz1,hz2⟩:=info_parts xD;have en:=enters_of Tryz.func59 (by kernel_rfl) rfl;have b0:=Blk.new w 25 [.slice p0 h.1.length c0,.slice p1 h.2.1.length c1,.slice p2 h.2.2.length c2];have hb0:Below w.heap.size w (w.alloc (.cells #[.slice p0 h.1.length c0,.slice p1 h.2.1.length c1,.slice p2 h.2.2.length c2] 25)):=(Below.refl _ w).alloc (Nat.le_refl _) _;have HB0:=lhid hb0;have B0:=lhid b0;clear hp hm hT b0 hb0;go_enter Tryz.func58,Tryz.ntmps58;(go_wp2_with fail);refine(HMay.out _ HB0.out).mono ?_;rintro e w1 ⟨rfl,hb1⟩;have hbw1:=aB HB0.out hb1;have d0:=B0.out.later hb1;have x2:=d0.cell 2 rfl;clear d0 hb1
 cases hmm:cZ h with
 | false=>
  have HE:=lhid (pH hmm);have HW:=lhid (aJk (aP) hmm);clear hmm;rw[HE.out];(go_wp2_with fail);go_ret;exact⟨_,rfl,by rw[HW.out];exact yP _,hbw1⟩
 | true=>
  have HE:=lhid (kT hmm);have HW:=lhid (jZ (aP) hmm);clear hmm;rw[HE.out];go_wp2_with fail
  go_loopw [5,14] (fun l i wr=>∃ k:Nat,k≤h.2.2.length∧i=.int .i64 k∧wr.ownsRow w.heap.size 3 1 l (jH (aP) h.2.2 k).length (mG (jH (aP) h.2.2 k))∧Below w.heap.size w wr) (fun _ i _=>h.2.2.length-(intOf i).toNat)
  case atStart=>exact⟨0,Nat.zero_le _,rfl,World.ownsRow_nil _ _ _ _,hbw1⟩
  case round=>
   obtain⟨k,hk,rfl,hown,hbw⟩:=hrel;by_cases hk1:k<h.2.2.length
   ·obtain⟨g,sv,rfl,a1,a2,a3,⟨p3,c3,rfl,-⟩⟩:=HX.out k hk1;generalize (h.2.2.getD k aM).2.2.length=n3 at a3;have a1':=cell_later hbw a1;have a2':=cell_later hbw a2;have a3':=cell_later hbw a3;have hnx:=uQ (aP) h.2.2 k;have hil:=xC (aP) h.2.2 k;have hbx:=hbw.alloc hbw.size (.cells #[.int .i64 (h.2.2.getD k aM).1,.int .i64 (h.2.2.getD k aM).2.1,.slice p3 n3 c3] 67);obtain⟨I,hI⟩:∃ I,jH (aP) h.2.2 k=I:=⟨_,rfl⟩;rw[hI] at hown hnx hil;obtain⟨t,ht⟩:∃ t,h.2.2.getD k aM=t:=⟨_,rfl⟩;rw[ht] at a1' a2' hnx hbx;have HC:=lhid (aRp t (.slice p3 n3 c3) (wr.alloc (.cells #[.int .i64 t.1,.int .i64 t.2.1,.slice p3 n3 c3] 67)));obtain⟨t1,t2,t3⟩:=t;simp only at a1' a2' hnx HC hbx;have HBX:=lhid hbx;obtain⟨b,hb⟩:∃ b,(aP) (t1,t2,t3)=b:=⟨_,rfl⟩;rw[hb] at hnx HC;have HN:Hid ((b=true→jH (aP) h.2.2 (k+1)=I++[(k:Int)])∧(b=false→jH (aP) h.2.2 (k+1)=I)):=lhid ⟨fun e=>by rw[hnx,if_pos e],fun e=>by rw[hnx,if_neg (by rw[e];exact Bool.false_ne_true)]⟩;clear a1 a2 a3 ht hI hb hnx hbx
    cases b with
    | false=>
     (go_wp2_with fail);refine HC.out.mono ?_;rintro e w3 ⟨rfl,hb3⟩;have hown3:=aS (hown.alloc _) hb3;have hbw3:=aB HBX.out hb3;clear hb3 hown;(go_wp2_with fail);go_roundw
     case rel=>exact⟨k+1,by omega,by go_num,by rw[HN.out.2 (by trivial)];exact hown3,hbw3⟩
     case measure=>simp[intOf];omega
    | true=>
     (go_wp2_with fail);refine HC.out.mono ?_;rintro e w3 ⟨rfl,hb3⟩;have hown3:=aS (hown.alloc _) hb3;have hbw3:=aB HBX.out hb3;clear hb3 hown;(go_wp2_with (at_builtin;refine wpList_append_own _ rfl _ _ 49 rfl w.heap.size 3 i0 (.int .i64 0) 1 8 Tryz.underlying49 hi hz0 hz1 hz2 rfl (by decide) _ _ _ rfl (hown3.alloc _) ⟨w3.heap.size,0,none⟩ 1 1 [.int .i64 (k:Nat)] rfl rfl (aDx _ _ _) (aEa _) (by unfold maxLen;omega) (by omega) (by have:=hbw3.size;simp;omega) ?_));intro v4 w4 hown4 hgrow hnil;have hb4:Below w.heap.size w w4:=(hbw3.alloc hbw3.size _).grown hgrow (by have:=hbw3.size;simp;omega) (fun k hk=>(hown3.lt k hk).1);have HO:Hid (w4.ownsRow w.heap.size 3 1 v4 (jH (aP) h.2.2 (k+1)).length (mG (jH (aP) h.2.2 (k+1)))):=lhid (by rw[HN.out.1 (by trivial), ←wQ,List.length_append];exact hown4);clear hown4 hgrow hnil hown3 hbw3;(go_wp2_with fail);go_roundw
     case rel=>exact⟨k+1,by omega,by go_num,HO.out,hb4⟩
     case measure=>simp[intOf];omega
   ·have hke:k=h.2.2.length:=(by omega);subst hke;have HO:=lhid (bUb hown);clear hown;(go_wp2_with fail);go_ret;exact⟨_,rfl,by rw[HW.out];exact HO.out,hbw⟩
set_option maxRecDepth 100000 in
set_option maxHeartbeats 1000000 in
theorem aXs (v0 v1 v2:Value) (h:aI) (w:World) (h0:bF w v0 h.1) (h1:bF w v1 h.2.1) (h2:kM w v2 h.2.2) (hm:cU h) (hT:Lib.Utf8Tabs 1 2 w) :
  Calls Tryz.prog 30 #[.agg #[v0,v1,v2]] w fun e w'=>∃ v',e=.returned v'∧qC w' v' (cA aP h)∧Below w.heap.size w w':=by
 have hb:Below w.heap.size w (w.alloc (.cells #[v0,v1,v2] 25)):=(Below.refl _ w).alloc (Nat.le_refl _) _;have H1:=lhid (aPv v0 v1 v2 h _ (h0.below hb) (h1.below hb) (h2.below hb) hm (Utf8Tabs_below hT hb));have HB:=lhid hb;obtain⟨p2,c2,rfl,-⟩:=h2;obtain⟨p0,c0,rfl,-⟩:=h0;obtain⟨p1,c1,rfl,-⟩:=h1;clear hb hm hT;go_enter Tryz.func30,Tryz.ntmps30;(go_wp2_with fail);refine H1.out.mono ?_;rintro e w3 ⟨v',rfl,hv,hb3⟩;have HV:=lhid hv;clear hv;(go_wp2_with fail);go_ret;exact⟨_,rfl,HV.out,aB HB.out hb3⟩
end
section
open Go.RowKit Go.Lib
abbrev bGs:=(Int×Int)×Bool
def vI:bGs:=((0,0),false)
def wrO (key:Int) (o:OpM):Bool:=o.1&&o.2.1==key
def dL (key:Int) (l:List OpM):bGs:=l.foldl (fun r o=>if wrO key o then (o.2.2,true) else r) vI
theorem bIw (key:Int):dL key []=vI:=rfl
theorem bEy (key:Int) (l:List OpM) (o:OpM):dL key (l++[o])=if wrO key o then (o.2.2,true) else dL key l:=by
 unfold dL;rw[List.foldl_append];rfl
theorem aIz (l:List OpM) (k:Nat) (hk:k<l.length):l.take (k+1)=l.take k++[l.getD k cG]:=by
 rw[List.take_succ_eq_append_getElem hk];congr 2;simp[hk]
theorem xK (key:Int) (l:List OpM) (k:Nat) (hk:k<l.length):dL key (l.take (k+1))=if wrO key (l.getD k cG) then ((l.getD k cG).2.2,true) else dL key (l.take k):=by
 rw[aIz l k hk,bEy]
theorem bEw (key:Int):∀ (l:List OpM) (r:bGs),(l.foldl (fun r o=>if wrO key o then (o.2.2,true) else r) r).2=(r.2||l.any (wrO key))
 | [],r=>by simp
 | o::l,r=>by
  rw[List.foldl_cons,bEw key l,List.any_cons];by_cases h:wrO key o=true
  ·rw[if_pos h,h];simp
  ·have h':wrO key o=false:=(by simpa using h);rw[if_neg h,h',Bool.false_or]
theorem bIu (key:Int) (l:List OpM):(dL key l).2=l.any (wrO key):=by
 unfold dL;rw[bEw];rfl
def lL (h:aI) (i:Int):List OpM:=if cZ h&&(decide (0≤i)&&decide (i<h.2.2.length)) then (h.2.2.getD i.toNat aM).2.2 else []
def nE (h:aI) (t o:Int):bGs:=if 0≤o∧o<(lL h t).length then dL ((lL h t).getD o.toNat cG).2.1 ((lL h t).take o.toNat) else vI
def dU (key:Int) (t:bB):Bool:=t.2.1 != 2&&t.2.2.any (wrO key)
theorem qN {h:aI} (hm:cZ h=true) (k:Nat) (hk:k<h.2.2.length):lL h (k:Int)=(h.2.2.getD k aM).2.2:=by
 unfold lL;rw[hm,decide_eq_true (by omega:(0:Int)≤(k:Int)),decide_eq_true (by omega:(k:Int)<(h.2.2.length:Int))];rfl
theorem aKj {h:aI} (hm:cZ h=false) (i:Int):lL h i=[]:=by simp[lL,hm]
theorem aEk {h:aI} (i:Int) (hi:i<0):lL h i=[]:=by
 unfold lL;rw[decide_eq_false (by omega:¬(0:Int)≤i)];simp
theorem vB {h:aI} (i:Int) (hi:(h.2.2.length:Int)≤i):lL h i=[]:=by
 unfold lL;rw[decide_eq_false (by omega:¬i<(h.2.2.length:Int))];simp
theorem aEj {h:aI} (hm:cU h) (i:Int):(lL h i).length≤1000:=by
 unfold lL;split
 ·rename_i hc;simp at hc;have hk:i.toNat<h.2.2.length:=(by omega);have e:h.2.2.getD i.toNat aM=h.2.2[i.toNat]:=(by simp[hk]);rw[e];exact hm.2.2.2.2.2 _ (List.getElem_mem hk)
 ·exact Nat.zero_le _
end
section
open Go.ChangeShapes Go.WideShapes Go.ChangeAt Go.RowKit Go.Joins
def nO (o:OpM):List Value:=[.bool o.1,.int .i64 o.2.1,.int .i64 o.2.2.1,.int .i64 o.2.2.2]
def OpR (_:World) (cs:List Value) (o:OpM):Prop:=cs=nO o
def aLm (w:World) (v:Value) (L:List OpM):Prop:=SlR 4 OpR w v L
def bKj (w:World) (cs:List Value) (t:bB):Prop:=∃ sv,cs=[.int .i64 t.1,.int .i64 t.2.1,sv]∧aLm w sv t.2.2
def aBl (w:World) (v:Value) (L:List bB):Prop:=SlR 3 bKj w v L
def bKg (_:World) (cs:List Value) (s:List UInt8):Prop:=cs=[.string (bs s)]∧s.length≤9223372036854775807
def zM (w:World) (v:Value) (L:List (List UInt8)):Prop:=SlR 1 bKg w v L
def aBj (w:World) (v:Value) (h:aI):Prop:=∃ v0 v1 v2,v=.agg #[v0,v1,v2]∧zM w v0 h.1∧zM w v1 h.2.1∧aBl w v2 h.2.2
theorem aLm.below {w w':World} {v:Value} {L:List OpM} (h:aLm w v L) (hb:Below w.heap.size w w'):aLm w' v L:=SlR.below (fun _ _ _ _ _ h=>h) h hb
theorem aBl.below {w w':World} {v:Value} {L:List bB} (h:aBl w v L) (hb:Below w.heap.size w w'):aBl w' v L:=
 SlR.below (fun _ _ _ _ hb ⟨sv,e,h⟩=>⟨sv,e,h.below hb⟩) h hb
theorem zM.below {w w':World} {v:Value} {L:List (List UInt8)} (h:zM w v L) (hb:Below w.heap.size w w'):zM w' v L:=SlR.below (fun _ _ _ _ _ h=>h) h hb
theorem aBj.below {w w':World} {v:Value} {h:aI} (hh:aBj w v h) (hb:Below w.heap.size w w'):aBj w' v h:=by
 obtain⟨v0,v1,v2,e,h0,h1,h2⟩:=hh;exact⟨v0,v1,v2,e,h0.below hb,h1.below hb,h2.below hb⟩
section
variable {H:Type} {enc:TypeId×Value→H} {w:World} {base:Nat} {spare:Nat→Bool} {held:Bool}
theorem bEb {n:Nat} {cs:List Value} {y:DataW H×List MemPlace} (h:DataW.trod enc Tryz.prog w base spare held n 9 cs=some y):∃ s,bKg w cs s:=by
 obtain⟨s,rfl,-,hs⟩:=DataW.trod_string Tryz.underlying9 h;unfold maxLen at hs;refine⟨s.data.toList,by rw[←uL],?_⟩;rw[Lib.size_eq] at hs;exact hs
theorem aEg {n:Nat} {cs:List Value} {y:DataW H×List MemPlace} (h:DataW.trod enc Tryz.prog w base spare held n 57 cs=some y):∃ k m:Int,cs=[.int .i64 k,.int .i64 m]:=by
 have hl:=qV Tryz.underlying57 h;obtain⟨n0,y0,h0⟩:=jD 0 0 3 1 Tryz.underlying57 h rfl rfl rfl (by kernel_rfl);obtain⟨n1,y1,h1⟩:=jD 1 1 2 1 Tryz.underlying57 h rfl rfl rfl (by kernel_rfl);obtain⟨k,hk,-,-⟩:=DataW.trod_int Tryz.underlying3 h0;obtain⟨m,hm,-,-⟩:=DataW.trod_int Tryz.underlying2 h1;rw[show Tryz.prog.cellsOf 57=2 by kernel_rfl] at hl
 match cs,hl with
 | [a,b],_=>
  simp at hk hm;exact⟨k,m,by rw[hk,hm]⟩
theorem aEd {n:Nat} {cs:List Value} {y:DataW H×List MemPlace} (h:DataW.trod enc Tryz.prog w base spare held n 22 cs=some y):∃ v L,cs=[v]∧zM w v L:=
 tY Tryz.underlying22 (by kernel_rfl) (fun _ _ _ h=>bEb h) h
end
theorem kB {α:Type} (f:α→List Value) (s:Nat) (hf:∀ x,(f x).length=s) (d:α):∀ (L:List α) (j i:Nat),j<L.length→i<s→(L.flatMap f)[j*s+i]? = (f (L.getD j d))[i]?
 | [],j,_,hj,_=>absurd hj (Nat.not_lt_zero j)
 | x::L,0,i,_,hi=>by
  rw[List.flatMap_cons,Nat.zero_mul,Nat.zero_add,List.getElem?_append_left (by rw[hf];exact hi)];rfl
 | x::L,j+1,i,hj,hi=>by
  rw[List.flatMap_cons,List.getElem?_append_right (by rw[hf,Nat.add_mul];omega),hf,show(j+1)*s+i-s=j*s+i by rw[Nat.add_mul];omega];rw[kB f s hf d L j i (by simpa using hj) hi];rfl
theorem qP {w:World} {base size n:Nat} {e:TypeId} {v:Value} {xs:List Value} (h:w.ownsRow base e size v n xs):∃ p cap,v=.slice p n cap∧n≤cap∧cap≤maxLen∧∀ q u,q<n*size→xs[q]? = some u→∃ g,p=some ⟨g,0,none⟩∧w.cell? ⟨g,q,none⟩=some u:=by
 obtain⟨h1,⟨rfl,rfl⟩ | ⟨g,cap,cur,rfl,-,hw,hc,hm,hs,ht⟩⟩:=h
 ·exact⟨none,0,rfl,Nat.le_refl _,Nat.zero_le _,fun q u hq=>by omega⟩
 ·refine⟨_,cap,rfl,hc,hm,fun q u hq hu=>⟨g,rfl,?_⟩⟩;have h2:=congrArg (fun x:List Value=>x[q]?) ht;simp only[List.getElem?_take,hq,if_true,Array.getElem?_toList] at h2;rw[cell_of_row w g q _ _ (0,0) hw,h2,hu]
theorem xJ {α β:Type} {w:World} {base s:Nat} {e:TypeId} {v:Value} {L:List β} (f:β→List Value) (hf:∀ x,(f x).length=s) (hs:0<s) (d:β) (g:β→α) {R:World→List Value→α→Prop} (h:w.ownsRow base e s v L.length (L.flatMap f)) (hR:∀ x∈L,R w (f x) (g x)):SlR s R w v (L.map g):=by
 obtain⟨p,cap,rfl,h1,h2,hc⟩:=qP h;refine⟨p,cap,by rw[List.length_map],by rw[List.length_map];exact h1,h2,fun j hj=>?_⟩;rw[List.length_map] at hj;have hD:L.getD j d=L[j]:=by simp[hj]
 have hg:∀ i u,i<s→(f L[j])[i]? = some u→∃ g,p=some ⟨g,0,none⟩∧w.cell? ⟨g,j*s+i,none⟩=some u:=fun i u hi hu=>
  hc _ u (by
   have:(j+1)*s≤L.length*s:=Nat.mul_le_mul_right s hj;rw[Nat.add_mul] at this
   omega) (by rw[kB f s hf d L j i hj hi,hD];exact hu)
 obtain⟨g0,rfl,-⟩:=hg 0 ((f L[j])[0]'(by rw[hf];exact hs)) hs (by simp);refine⟨_,f L[j],rfl,hf _,fun i u hu=>?_,by rw[List.getElem_map];exact hR _ (List.getElem_mem hj)⟩;obtain⟨g1,e1,h3⟩:=hg i u (by have:=(List.getElem?_eq_some_iff.1 hu).1;rw[hf] at this;exact this) hu;cases e1;rw[Addr.add_lit,Nat.zero_add];exact h3
def bR (L:List OpM):List Value:=L.flatMap nO
theorem bIo {w:World} {base:Nat} {e:TypeId} {v:Value} {L:List OpM} (h:w.ownsRow base e 4 v L.length (bR L)):qF w v L:=by
 obtain⟨p,cap,rfl,hcap,-,hc⟩:=qP h;refine⟨p,cap,rfl,hcap,fun j hj=>?_⟩
 have hg:∀ i u,i<4→(nO (L.getD j cG))[i]? = some u→∃ g,p=some ⟨g,0,none⟩∧w.cell? ⟨g,j*4+i,none⟩=some u:=fun i u hi hu=>
  hc _ u (by omega) (by rw[bR,kB nO 4 (fun _=>rfl) cG L j i hj hi];exact hu)
 obtain⟨g,rfl,h0⟩:=hg 0 _ (by omega) rfl;obtain⟨g1,e1,h1⟩:=hg 1 _ (by omega) rfl;obtain⟨g2,e2,h2⟩:=hg 2 _ (by omega) rfl;obtain⟨g3,e3,h3⟩:=hg 3 _ (by omega) rfl;cases e1;cases e2;cases e3;exact⟨g,rfl,h0,h1,h2,h3⟩
abbrev aLn:=bB×Value
def uH (t:aLn):List Value:=[.int .i64 t.1.1,.int .i64 t.1.2.1,t.2]
def jR (L:List aLn):List Value:=L.flatMap uH
theorem bEk {w:World} {base:Nat} {e:TypeId} {v:Value} {L:List aLn} (h:w.ownsRow base e 3 v L.length (jR L)) (ho:∀ t∈L,qF w t.2 t.1.2.2):kM w v (L.map (·.1)):=by
 obtain⟨p,cap,rfl,-,-,hc⟩:=qP h;refine⟨p,cap,by rw[List.length_map],fun j hj=>?_⟩;rw[List.length_map] at hj
 have hg:∀ i u,i<3→(uH (L.getD j (aM,.nilIface)))[i]? = some u→∃ g,p=some ⟨g,0,none⟩∧w.cell? ⟨g,j*3+i,none⟩=some u:=fun i u hi hu=>
  hc _ u (by omega) (by rw[jR,kB uH 3 (fun _=>rfl) (aM,.nilIface) L j i hj hi];exact hu)
 obtain⟨g,rfl,h0⟩:=hg 0 _ (by omega) rfl;obtain⟨g1,e1,h1⟩:=hg 1 _ (by omega) rfl;obtain⟨g2,e2,h2⟩:=hg 2 _ (by omega) rfl;cases e1;cases e2;have hD:(L.map (·.1)).getD j aM=(L.getD j (aM,.nilIface)).1:=by simp[hj]
 have hM:L.getD j (aM,.nilIface)∈L:=by
  have:L.getD j (aM,.nilIface)=L[j]:=(by simp[hj]);rw[this];exact List.getElem_mem hj
 exact⟨g,_,rfl,by rw[hD];exact h0,by rw[hD];exact h1,h2,by rw[hD];exact ho _ hM⟩
theorem bEj {w:World} {base:Nat} {e:TypeId} {v:Value} {L:List OpM} (h:w.ownsRow base e 4 v L.length (bR L)):aLm w v L:=by
 have:=xJ (R:=OpR) nO (fun _=>rfl) (by omega) cG id h (fun x _=>rfl)
 rwa [List.map_id] at this
theorem aZk {w:World} {base:Nat} {e:TypeId} {v:Value} {L:List aLn} (h:w.ownsRow base e 3 v L.length (jR L)) (ho:∀ t∈L,aLm w t.2 t.1.2.2):aBl w v (L.map (·.1)):=
 xJ (R:=bKj) uH (fun _=>rfl) (by omega) (aM,.nilIface) (·.1) h (fun x hx=>⟨_,rfl,ho x hx⟩)
theorem aIj {w:World} {base:Nat} {e:TypeId} {v:Value} {L:List (List UInt8)} (h:w.ownsRow base e 1 v L.length (lM L)) (hl:∀ s∈L,s.length≤9223372036854775807):zM w v L:=by
 have h':w.ownsRow base e 1 v L.length (L.flatMap fun s=>[.string (bs s)]):=by
  have:L.flatMap (fun s=>[Value.string (bs s)])=lM L:=by
   unfold lM;clear h hl
   induction L with
   | nil=>rfl
   | cons x L ih=>rw[List.flatMap_cons,ih];rfl
  rw[this];exact h
 have:=xJ (R:=bKg) (s:=1) (fun s=>[.string (bs s)]) (fun _=>rfl) (by omega) [] id h' (fun x hx=>⟨rfl,hl x hx⟩)
 rwa [List.map_id] at this
end
section
open Go.RowKit Go.Lib
theorem bUd {w:World} {v:Value} {h:aI} (hv:cJ w v h) (hm:cU h) (hT:Lib.Utf8Tabs 1 2 w):Calls Tryz.prog 28 #[v] w fun e w'=>e=.returned (.int .i64 (tI h))∧Below w.heap.size w w':=by
 obtain⟨v0,v1,v2,rfl,h0,h1,h2⟩:=hv;exact aCv v0 v1 v2 h w h0 h1 h2 hm hT
end
section
open Go.RowKit Go.Lib
theorem cM {fn:Func} {a t:Nat} {u:Tmp} (h:fn.results=#[.cell a t,.tmp u]) (tmps:Array Value) (P:Program) (w:World) (A:Addr) (x:Value) (ha:tmps.getD a undef=.pointer (some A)) (hl:(loadVar t A).run P w=.ok x w) :
  (results fn tmps).run P w=.ok (.tuple #[x,tmps.getD u undef]) w:=by
 have ha':tmps[a]?.getD undef=.pointer (some A):=(by simpa using ha);simp[results,h,ha',hl,asAddr]
theorem aEv {fn:Func} {a t b u:Nat} (h:fn.results=#[.cell a t,.cell b u]) (tmps:Array Value) (P:Program) (w:World) (A B:Addr) (x y:Value) (ha:tmps.getD a undef=.pointer (some A)) (hb:tmps.getD b undef=.pointer (some B)) (hl:(loadVar t A).run P w=.ok x w) (hm:(loadVar u B).run P w=.ok y w) :
  (results fn tmps).run P w=.ok (.tuple #[x,y]) w:=by
 have ha':tmps[a]?.getD undef=.pointer (some A):=(by simpa using ha);have hb':tmps[b]?.getD undef=.pointer (some B):=(by simpa using hb);simp[results,h,ha',hb',hl,hm,asAddr]
theorem bS {fn:Func} {a t:Nat} (h:fn.results=#[.cell a t]) (tmps:Array Value) (P:Program) (w:World) (A:Addr) (x:Value) (ha:tmps.getD a undef=.pointer (some A)) (hl:(loadVar t A).run P w=.ok x w) :
  (results fn tmps).run P w=.ok x w:=by
 have ha':tmps[a]?.getD undef=.pointer (some A):=(by simpa using ha);simp[results,h,ha',hl,asAddr]
theorem kC {w:World} {b:Nat} {x y:Value} (h:Blk w b 57 [x,y]):(loadVar 57 ⟨b,0,none⟩).run Tryz.prog w=.ok (.agg #[x,y]) w:=by
 have hr:w.rangeAt b 0 [x,y]:=fun j v hj=>(by rw[Nat.zero_add];exact h.cell j hj);exact run_loadVar_mid (P:=Tryz.prog) w b 0 57 [x,y] _ hr Tryz.underlying57 rfl (by kernel_rfl)
theorem dQ {w:World} {b:Nat} {t:TypeId} {a0 a1:Value} (h:Blk w b t [a0,a1]) (x y:Value):Blk ((w.setCell ⟨b,0,none⟩ x).setCell ⟨b,1,none⟩ y) b t [x,y]:=(h.set 0 x).set 1 y
theorem aU {n:Nat} {a w:World} (h:Below n a w) {b:Nat} (hb:n≤b) (x y:Value):Below n a ((w.setCell ⟨b,0,none⟩ x).setCell ⟨b,1,none⟩ y):=(h.setCell hb x).setCell hb y
end
section
open Go.RowKit Go.Lib
def dH (v u:Value):Prop:=∀ k,v.ownBlock=some k→u.ownBlock=some k→False
theorem dH.flip {v u:Value} (h:dH v u):dH u v:=fun k h1 h2=>h k h2 h1
theorem dH.new {w:World} {base size n:Nat} {e:TypeId} {v:Value} {xs:List Value} (h:w.ownsRow base e size v n xs) (a b:Nat):dH v (.slice (some ⟨w.heap.size,0,none⟩) a b):=fun k h1 h2=>by
 have h3:w.heap.size=k:=(by simpa [Value.ownBlock] using h2);have:=(h.lt k h1).2;omega
theorem dH.grow {w:World} {base size n:Nat} {e:TypeId} {v v' u:Value} {xs:List Value} (h:dH v u) (hat:v'.ownBlock=v.ownBlock∨v'.ownBlock=some w.heap.size) (hu:w.ownsRow base e size u n xs):dH v' u:=fun k h1 h2=>by
 rcases hat with e | e
 ·exact h k (e▸h1) h2
 ·rw[e] at h1;have h3:w.heap.size=k:=(by simpa using h1);have:=(hu.lt k h2).2;omega
end
end Go.Proofs.YtdfegfagedeilaaGreatDoor
