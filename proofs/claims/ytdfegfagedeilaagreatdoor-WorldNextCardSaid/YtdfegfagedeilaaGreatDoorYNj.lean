/-
  Several texts of these walks, joined and squeezed (as templates they lie in wip/tpl): InB InL InC InE InR VsP CellL.
-/
import Derived.Test.YtdfegfagedeilaaGreatDoorYNi
namespace Go.Proofs.YtdfegfagedeilaaGreatDoor
section
open Go.RowKit Go.Shelf Go.Lib
abbrev aGx:=Nat×OpM
def bHd (x:aGx):Array Value:=#[.int .i64 (x.1:Nat),.agg #[.bool x.2.1,.int .i64 x.2.2.1,.int .i64 x.2.2.2.1,.int .i64 x.2.2.2.2]]
def itB (l:List OpM) (k:Nat):List aGx:=(List.range k).map fun j=>(l.length-1-j,l.getD (l.length-1-j) cG)
theorem tM (l:List OpM) (k:Nat):itB l (k+1)=itB l k++[(l.length-1-k,l.getD (l.length-1-k) cG)]:=by simp[itB,List.range_succ]
theorem aBa (l:List OpM) (k:Nat):(itB l k).length=k:=by simp[itB]
theorem aDa (l:List OpM) (k m:Nat) (h:k≤m):itB l k <+: itB l m:=by
 induction m with
 | zero=>
  obtain rfl:k=0:=(by omega);exact List.prefix_rfl
 | succ m ih=>
  by_cases hk:k≤m
  ·rw[tM];exact(ih hk).trans (List.prefix_append _ _)
  ·obtain rfl:k=m+1:=(by omega);exact List.prefix_rfl
theorem bDd (l:List OpM) (pre:List aGx) (h:pre <+: itB l l.length):pre=itB l pre.length:=by
 have h1:=aDa l pre.length l.length (by have:=h.length_le;rwa [aBa] at this);exact(List.prefix_of_prefix_length_le h h1 (by rw[aBa];exact Nat.le_refl _)).eq_of_length (by rw[aBa])
theorem aEs (key:Int) (l:List OpM):∀ k,k≤l.length→(∀ x∈itB l k,wrO key x.2=false)→dL key l=dL key (l.take (l.length-k))
 | 0,_,_=>by rw[Nat.sub_zero,List.take_length]
 | k+1,hk,h=>by
  rw[aEs key l k (by omega) (fun x hx=>h x (by rw[tM];exact List.mem_append_left _ hx))];have e:l.length-k=(l.length-(k+1))+1:=(by omega);have h2:=h (l.length-1-k,l.getD (l.length-1-k) cG) (by rw[tM];simp);rw[show l.length-1-k=l.length-(k+1) by omega] at h2;rw[e,xK key l _ (by omega),if_neg (by rw[h2];exact Bool.false_ne_true)]
theorem bEx (key:Int) (l:List OpM) (h:∀ x∈itB l l.length,wrO key x.2=false):dL key l=vI:=by
 rw[aEs key l l.length (Nat.le_refl _) h,Nat.sub_self,List.take_zero,bIw]
theorem bIv (key:Int) (l:List OpM) (pre:List aGx) (x:aGx) (hp:pre++[x] <+: itB l l.length) (h:∀ y∈pre,wrO key y.2=false) (hx:wrO key x.2=true):dL key l=(x.2.2.2,true):=by
 have e:=bDd l _ hp;have hl:=hp.length_le;rw[List.length_append,List.length_singleton,aBa] at hl;rw[List.length_append,List.length_singleton,tM] at e;obtain⟨e1,e2⟩:=List.append_inj' e rfl;injection e2 with e2;rw[e1] at h;rw[aEs key l pre.length (by omega) h];have e3:l.length-pre.length=(l.length-1-pre.length)+1:=(by omega);rw[e3,xK key l _ (by omega)];rw[e2] at hx ⊢;rw[if_pos hx]
attribute [local go_sem] Oper.semAt_some
set_option maxHeartbeats 1000000 in
theorem bGw (F:Fence) (n:Nat) (hF:F.fn 105) (hro:F.round=none) (p:Option Addr) (m c:Nat) (w:World) :
  CallsIn F n Tryz.prog 105 #[.slice p m c] w fun e w'=>e=.returned (.func (.func 127) #[] #[.pointer (some ⟨w.heap.size,0,none⟩)])∧w'=w.alloc (.cells #[.slice p m c] 65):=by
 refine callsIn_of_wp Tryz.func105 rfl hF ?_ hro;simp only[Tryz.ntmps105,List.size_toArray,List.length_cons,List.length_nil,Nat.reduceAdd,Nat.reduceSub,Array.replicate_succ,Array.replicate_zero,List.push_toArray,List.append_toArray,List.nil_append,List.cons_append]
 gi_wp2
 go_ret;exact⟨rfl,rfl⟩
set_option maxRecDepth 100000 in
set_option maxHeartbeats 4000000 in
theorem bBv (F:Fence) (n:Nat) (hF:F.fn 127) (hro:F.round=none) (hn:1≤n) (l B:Nat) (w0:World) (p:Option Addr) (c:Nat) (L:List OpM) (hL:L.length≤1000) (ho:pF w0 p L)
  (J Jx:List aGx→World→Prop)
  (hA:∀ pre W o,J pre W→J pre (W.alloc o))
  (hY:∀ pre x W,J pre W→pre++[x] <+: itB L L.length→YieldAt F (n-1) Tryz.prog l (bHd x) W fun e W'=>
   (e=.returned (.bool true)∧J (pre++[x]) W'∧Below w0.heap.size W W')∨(e=.returned (.bool false)∧Jx (pre++[x]) W'))
  (W:World) (hbW:Below w0.heap.size w0 W) (h3:W.cell? ⟨B,0,none⟩=some (.slice p L.length c)) (hfr:∀ W',Below w0.heap.size w0 W'→W'.cell? ⟨B,0,none⟩=some (.slice p L.length c)) (h0:J [] W) :
  CallsIn F n Tryz.prog 127 #[.func (.yield l) #[] #[],.pointer (some ⟨B,0,none⟩)] W fun e W'=>(∃ v,e=.returned v) ∧
   ((∃ ys,ys=itB L L.length∧J ys W')∨(∃ pre,pre <+: itB L L.length∧Jx pre W')):=by
 have HX:=lhid ho;have HY:=lhid hY;have HA:=lhid hA;have HFR:=lhid hfr;clear ho hY hA hfr;refine callsIn_of_wp Tryz.func127 rfl hF ?_ hro;simp only[Tryz.ntmps127,List.size_toArray,List.length_cons,List.length_nil,Nat.reduceAdd,Nat.reduceSub,Array.replicate_succ,Array.replicate_zero,List.push_toArray,List.append_toArray,List.nil_append,List.cons_append];have e0:IntKind.i64.wrap ((L.length:Int)-1)=(L.length:Int)-1:=by rw[IntKind.wrap_i64];omega
 gi_wp2
 gi_loopw [3] (fun i wr=>∃ k:Nat,k≤L.length∧i=.int .i64 ((L.length:Int)-1-k)∧J (itB L k) wr∧Below w0.heap.size w0 wr) (fun i _=>(intOf i+1).toNat)
 case atStart=>exact⟨0,Nat.zero_le _,by simp,by simpa [itB] using h0,hbW⟩
 case round=>
  obtain⟨k,hk,rfl,hJk,hbk⟩:=hrel;have y3:=HFR.out _ hbk;by_cases hlt:k<L.length
  ·obtain⟨g2,rfl,b1,b2,b3,b4⟩:=HX.out (L.length-1-k) (by omega);have b1':=cell_later hbk b1;have b2':=cell_later hbk b2;have b3':=cell_later hbk b3;have b4':=cell_later hbk b4;have HS2:=lhid (tM L k);have hpf:=aDa L (k+1) L.length hlt;have ei:((L.length:Int)-1-k)=((L.length-1-k:Nat):Int):=(by omega);obtain⟨j,hj⟩:∃ j,L.length-1-k=j:=⟨_,rfl⟩;rw[hj] at b1' b2' b3' b4' HS2 ei;rw[ei];obtain⟨o,ho⟩:∃ o,L.getD j cG=o:=⟨_,rfl⟩;rw[ho] at b1' b2' b3' b4' HS2;rw[HS2.out] at hpf;obtain⟨ow,ok,od,on⟩:=o;simp only at b1' b2' b3' b4' HS2 hpf;have HPf:=lhid hpf;have EI:=lhid ei;have HJ:=lhid hj;clear b1 b2 b3 b4 ho;have hjl:j<L.length:=(by omega);have hge:decide ((0:Int)≤(j:Int))=true:=decide_eq_true (by omega);have ew:IntKind.i64.wrap ((j:Int)-1)=(j:Int)-1:=(by rw[IntKind.wrap_i64];omega);obtain⟨fn,tmps,assign,body,hy,hR⟩:=HY.out _ (j,(ow,ok,od,on)) wr hJk hpf;simp only[bHd] at hy;clear hpf ei hj
   gi_wp2
   refine hR.mono ?_;rintro e W3 (⟨rfl,hJ3,hk3⟩ | ⟨rfl,hJx3⟩)
   ·gi_wp2
    go_roundw
    case rel=>exact⟨k+1,by omega,by have h1:=EI.out;go_num,by rw[HS2.out];exact hJ3,hbk.trans hk3⟩
    case measure=>simp[intOf]
   ·gi_wp2
    refine bodyPost_ret (results_none rfl _ _ _) rfl ?_;exact⟨⟨_,rfl⟩,.inr ⟨_,HPf.out,hJx3⟩⟩
  ·obtain rfl:k=L.length:=(by omega);have hge:decide ((0:Int)≤(L.length:Int)-1-(L.length:Nat))=false:=decide_eq_false (by omega)
   gi_wp2
   go_end0
   exact⟨⟨_,rfl⟩,.inl ⟨_,rfl,hJk⟩⟩
theorem aQm (F:Fence) (n:Nat) (hF:F.fn 127) (hro:F.round=none) (hn:1≤n) (B:Nat) (w:World) (p:Option Addr) (c:Nat) (L:List OpM) (hL:L.length≤1000) (ho:pF w p L) (h3:w.cell? ⟨B,0,none⟩=some (.slice p L.length c)) :
  SeqStopsK F n Tryz.prog 127 #[.pointer (some ⟨B,0,none⟩)] bHd (Below w.heap.size) (fun ys=>ys=itB L L.length) (fun pre=>pre <+: itB L L.length) (itB L L.length).length w:=fun l J Jx W hW hJ _ hY h0=>by
 refine(bBv F n hF hro hn l B w p c L hL ho J Jx (fun pre W o h=>hJ pre W _ none h (World.grownBy_alloc W o none) (fun r e=>by cases e)) (fun pre x W' hj hpf=>hY pre x W' hj (aIo hpf)) W hW (cell_later hW h3) (fun W' hb=>cell_later hb h3) h0).mono ?_;rintro e W' ⟨he,h⟩;exact⟨he,h.elim (fun ⟨ys,h1,h2⟩=>.inl ⟨ys,h1,h2⟩) (fun ⟨pre,h1,h2⟩=>.inr ⟨pre,h1,h2⟩)⟩
end
section
open Go.RowKit Go.Shelf Go.Lib
attribute [local go_sem] Oper.semAt_some
theorem aHu {w:World} {b:Nat} {x:Value} (h:Blk w b 4 [x]):(loadVar 4 ⟨b,0,none⟩).run Tryz.prog w=.ok x w:=by
 have h0:=h.cell 0 rfl;simp[go_sem,h0]
theorem yQ {B:Nat} {w:World} (b i:Nat) (v:Value) (h:b<B):KeepsFrom B w (w.setCell ⟨b,i,none⟩ v):=
 KeepsFrom.of_grownBy (row:=some b) ⟨rfl,rfl,rfl,by simp[World.setCell],fun k _ hk=>Below.heap_setCell w _ v k (fun e=>hk (by rw[e]))⟩ (fun j e=>by cases e;exact h)
set_option maxRecDepth 100000 in
set_option maxHeartbeats 4000000 in
theorem aMz (p:Option Addr) (c:Nat) (L:List OpM) (key:Int) (w:World) (hL:L.length≤1000) (ho:pF w p L) :
  Calls Tryz.prog 86 #[.slice p L.length c,.int .i64 key] w fun e w'=>e=.returned (.tuple #[.agg #[.int .i64 (dL key L).1.1,.int .i64 (dL key L).1.2],.bool (dL key L).2])∧Below w.heap.size w w':=by
 refine(callsIn_wide (n:=10)).1 ?_;refine callsIn_of_wp_marks Tryz.func86 rfl trivial ?_ rfl;simp only[Tryz.ntmps86,List.size_toArray,List.length_cons,List.length_nil,Nat.reduceAdd,Nat.reduceSub,Array.replicate_succ,Array.replicate_zero,List.push_toArray,List.append_toArray,List.nil_append,List.cons_append]
 gi_wp2_with fail
 refine⟨trivial,(bGw Fence.wide 9 trivial rfl _ _ _ _).mono ?_⟩;rintro e w1 ⟨rfl,rfl⟩
 gi_wp2_with fail
 have b0:=(((Blk.new w 3 [.int .i64 key]).alloc (.cells #[.int .i64 0,.int .i64 0] 57)).alloc (.cells #[.bool false] 4)).alloc (.cells #[.slice p L.length c] 65);have b1:=((Blk.new (w.alloc (.cells #[.int .i64 key] 3)) 57 [.int .i64 0,.int .i64 0]).alloc (.cells #[.bool false] 4)).alloc (.cells #[.slice p L.length c] 65);have b2:=(Blk.new ((w.alloc (.cells #[.int .i64 key] 3)).alloc (.cells #[.int .i64 0,.int .i64 0] 57)) 4 [.bool false]).alloc (.cells #[.slice p L.length c] 65);have b3:=Blk.new (((w.alloc (.cells #[.int .i64 key] 3)).alloc (.cells #[.int .i64 0,.int .i64 0] 57)).alloc (.cells #[.bool false] 4)) 65 [.slice p L.length c];have hal:=((((Below.refl w.heap.size w).alloc (Nat.le_refl _) (.cells #[.int .i64 key] 3)).alloc (by simp) (.cells #[.int .i64 0,.int .i64 0] 57)).alloc (by simp;omega) (.cells #[.bool false] 4)).alloc (by simp;omega) (.cells #[.slice p L.length c] 65);simp only[World.size_alloc] at b1 b2 b3;obtain⟨W1,hW1⟩:∃ W1,(((w.alloc (.cells #[.int .i64 key] 3)).alloc (.cells #[.int .i64 0,.int .i64 0] 57)).alloc (.cells #[.bool false] 4)).alloc (.cells #[.slice p L.length c] 65)=W1:=⟨_,rfl⟩;rw[hW1] at b0 b1 b2 b3 hal ⊢;have hz:w.heap.size+1+1+1<W1.heap.size:=b3.lt;have B0:=lhid b0;have B1:=lhid b1;have B2:=lhid b2;have HAL:=lhid hal;have HSt:=lhid (aQm Fence.wide 9 trivial rfl (by omega) (w.heap.size+1+1+1) W1 p c L hL (ho.below hal) (b3.cell 0 rfl));clear hW1 b0 b1 b2 b3 hal ho
 refine wpIn_rangeFunc_ownH rfl (by omega) (gf:=127) (lb:=#[.pointer (some ⟨w.heap.size+1+1+1,0,none⟩)]) rfl trivial (enters_of Tryz.func127 (by kernel_rfl) rfl)
  HSt.out belowK_t (belowK_b (Nat.le_refl _)) (Below.refl _ _) (fun _=>rfl)
  (fun pre W=>(∀ x∈pre,wrO key x.2=false)∧Below W1.heap.size W1 W)
  (fun c pre W=>(c=.ret∧∃ q x,pre=q++[x]∧(∀ y∈q,wrO key y.2=false)∧wrO key x.2=true∧Blk W (w.heap.size+1) 57 [.int .i64 x.2.2.2.1,.int .i64 x.2.2.2.2]∧Blk W (w.heap.size+1+1) 4 [.bool true])∧Below w.heap.size w W)
  (OwnFrom.and (fun s A B row hs hg hr=>hs) (ownFrom_below (Nat.le_refl _) (Nat.le_refl _)))
  (fun c=>OwnFrom.and (fun s A B row hs hg hr=>by
    obtain⟨e,q,x,h1,h2,h3,h4,h5⟩:=hs;have hne:∀ b,b<W1.heap.size→some b≠row:=fun b hb e=>by have:=(hr b e.symm).1;omega
    exact⟨e,q,x,h1,h2,h3,h4.kept hg (hne _ (by omega)),h5.kept hg (hne _ (by omega))⟩) (ownFrom_below (Nat.le_refl _) (by omega)))
  ⟨(fun x hx=>by cases hx),Below.refl _ _⟩
  (fun x a' W=>∃ Bx,W1.heap.size≤Bx∧Blk W Bx 82 [.bool x.2.1,.int .i64 x.2.2.1,.int .i64 x.2.2.2.1,.int .i64 x.2.2.2.2]∧a' = { tmps:=#[.slice p L.length c,.int .i64 key,undef,.pointer (some ⟨w.heap.size,0,none⟩),.pointer (some ⟨w.heap.size+1,0,none⟩),.pointer (some ⟨w.heap.size+1+1,0,none⟩),undef,.pointer (some ⟨Bx,0,none⟩),.slice p L.length c,.func (.func 127) #[] #[.pointer (some ⟨w.heap.size+1+1+1,0,none⟩)],.int .i64 (x.1:Nat),.agg #[.bool x.2.1,.int .i64 x.2.2.1,.int .i64 x.2.2.2.1,.int .i64 x.2.2.2.2],undef,undef,undef,undef,undef,undef,undef,undef,undef,undef,undef],defers:=[] })
  (fun x a' _ X Y row hs hg hr=>by
   obtain⟨Bx,r1,r2,r3⟩:=hs
   exact⟨Bx,r1,r2.kept hg (fun e=>by obtain⟨-,o,ho,hc⟩:=hr Bx e.symm;have r2':X.heap[Bx]? = some _:=r2;rw[r2'] at ho;cases ho;cases hc),r3⟩)
  ?assign ?body ?done ?stop
 case assign=>
  rintro l pre x W K ⟨q1,hB⟩ hK;simp only[bHd]
  gi_wp2
  exact hK _ _ ((KeepsOthers.alloc _ _).from _) ((Below.refl _ W).alloc hB.size _) ⟨q1,hB.alloc hB.size _⟩ ⟨W.heap.size,hB.size,Blk.new W _ [_,_,_,_],rfl⟩
 case body=>
  rintro l pre ⟨j,ow,ok,od,on⟩ a' W hl - ⟨q1,hB⟩ ⟨Bx,hBx,bX,rfl⟩ hlt2;dsimp only at bX ⊢;have z0:=bX.cell 0 rfl;have z1:=bX.cell 1 rfl;have z2:=bX.cell 2 rfl;have z3:=bX.cell 3 rfl;have zl:=bX.lt;have kc:=(B0.out.later hB).cell 0 rfl;have HV:=lhid (B1.out.later hB);have HT:=lhid (B2.out.later hB);have HB:=lhid hB;have Q1:=lhid q1;clear bX q1 hB
  cases ow with
  | false=>
   gi_wp2_with fail
   exact⟨nD (Below.refl _ _),Below.refl _ _,(fun y hy=>by
    rcases List.mem_append.1 hy with hy | hy
    ·exact Q1.out y hy
    ·obtain rfl:y=_:=by simpa using hy
     rfl),HB.out⟩
  | true=>
   by_cases hk:ok=key
   ·subst hk;have r0:=HV.out.cell 0 rfl;have r1:=HV.out.cell 1 rfl;have f0:=HV.out.frozen 0;have f1:=HV.out.frozen 1;have s0:=HT.out.cell 0 rfl;have sf:=HT.out.frozen 0
    gi_wp2_with fail
    have hb1:=(((HAL.out.trans (HB.out.mono (by omega))).setCell (p:=⟨w.heap.size+1,0,none⟩) (by show w.heap.size≤w.heap.size+1;omega) (.int .i64 od)).setCell (p:=⟨w.heap.size+1,1,none⟩) (by show w.heap.size≤w.heap.size+1;omega) (.int .i64 on)).setCell (p:=⟨w.heap.size+1+1,0,none⟩) (by show w.heap.size≤w.heap.size+1+1;omega) (.bool true);refine⟨((yQ (w.heap.size+1) 0 _ (by omega)).trans (yQ (w.heap.size+1) 1 _ (by omega))).trans (yQ (w.heap.size+1+1) 0 _ (by omega)),⟨rfl,pre,_,rfl,Q1.out,?_,?_,?_⟩,hb1⟩
    ·show(true&&ok==ok)=true;simp
    ·exact(dQ HV.out _ _).far (by show w.heap.size+1≠w.heap.size+1+1;omega) _
    ·exact((HT.out.far (by show w.heap.size+1+1≠w.heap.size+1;omega) _).far (by show w.heap.size+1+1≠w.heap.size+1;omega) _).set 0 _
   ·have hk2:(ok==key)=false:=beq_eq_false_iff_ne.2 hk
    gi_wp2_with fail
    exact⟨nD (Below.refl _ _),Below.refl _ _,(fun y hy=>by
     rcases List.mem_append.1 hy with hy | hy
     ·exact Q1.out y hy
     ·obtain rfl:y=_:=by simpa using hy
      exact hk2),HB.out⟩
 case done=>
  rintro Dd xs W hD hS ⟨q1,hB⟩ hd;have hraw:dL key L=vI:=bEx key L (by rw[←hS];exact q1);have HV:=lhid (B1.out.later hB);have HT:=lhid (B2.out.later hB);have HB:=lhid hB;have HD:=lhid hd;have r0:=HV.out.cell 0 rfl;have r1:=HV.out.cell 1 rfl;have f0:=HV.out.frozen 0;have f1:=HV.out.frozen 1;have s0:=HT.out.cell 0 rfl;have sf:=HT.out.frozen 0;have HR:=lhid hraw;clear q1 hB hS hd hraw
  gi_wp2_with fail
  have hb1:=(((HAL.out.trans (HB.out.mono (by omega))).setCell (p:=⟨w.heap.size+1,0,none⟩) (by show w.heap.size≤w.heap.size+1;omega) (.int .i64 0)).setCell (p:=⟨w.heap.size+1,1,none⟩) (by show w.heap.size≤w.heap.size+1;omega) (.int .i64 0)).setCell (p:=⟨w.heap.size+1+1,0,none⟩) (by show w.heap.size≤w.heap.size+1+1;omega) (.bool false)
  have hd2:(((W.setCell ⟨w.heap.size+1,0,none⟩ (.int .i64 0)).setCell ⟨w.heap.size+1,1,none⟩ (.int .i64 0)).setCell ⟨w.heap.size+1+1,0,none⟩ (.bool false)).heap[Dd]? = some (.deferred (some [])):=by
   rw[Below.heap_setCell _ _ _ _ (by show Dd≠w.heap.size+1+1;omega),Below.heap_setCell _ _ _ _ (by show Dd≠w.heap.size+1;omega),Below.heap_setCell _ _ _ _ (by show Dd≠w.heap.size+1;omega)];exact HD.out
  have hv:=sB ((dQ HV.out (.int .i64 0) (.int .i64 0)).far (a:=⟨w.heap.size+1+1,0,none⟩) (by show w.heap.size+1≠w.heap.size+1+1;omega) (.bool false)) (l:=Dd) (by omega) (.deferred none);have ht:=sB (((HT.out.far (a:=⟨w.heap.size+1,0,none⟩) (by show w.heap.size+1+1≠w.heap.size+1;omega) (.int .i64 0)).far (a:=⟨w.heap.size+1,1,none⟩) (by show w.heap.size+1+1≠w.heap.size+1;omega) (.int .i64 0)).set 0 (.bool false)) (l:=Dd) (by omega) (.deferred none);refine⟨by simp,.inl ⟨_,_,rfl,run_takeDeferred hd2,?_⟩⟩;exact⟨_,aEv Tryz.results86 _ _ _ _ _ _ _ rfl rfl (kC hv) (aHu ht),by rw[HR.out]<;>rfl,hb1.trans (belowK_b (w:=W1) (by omega) _ Dd _ _ hD hd2 rfl rfl)⟩
 case stop=>
  rintro Dd c2 pre W hD hpf ⟨⟨rfl,q,x,rfl,h2,h3,h4,h5⟩,hB⟩ hd;have hraw:=bIv key L q x hpf h2 h3;have HB:=lhid hB;have HD:=lhid hd;have HR:=lhid hraw;clear hB hraw h2 h3 hpf hd;have hv:=sB h4 (l:=Dd) (by omega) (.deferred none);have ht:=sB h5 (l:=Dd) (by omega) (.deferred none)
  gi_wp2_with fail
  refine⟨by simp,.inl ⟨_,_,rfl,run_takeDeferred HD.out,?_⟩⟩;exact⟨_,aEv Tryz.results86 _ _ _ _ _ _ _ rfl rfl (kC hv) (aHu ht),by rw[HR.out]<;>rfl,HB.out.trans (belowK_b (w:=W1) (by omega) _ Dd _ _ hD HD.out rfl rfl)⟩
end
section
open Go.RowKit Go.Lib
theorem aEl (w:World):qF w (.slice none 0 0) []:=⟨none,0,rfl,Nat.le_refl _,fun j hj=>absurd hj (Nat.not_lt_zero j)⟩
theorem aMo {w:World} {p:Option Addr} {L:List OpM} (h:pF w p L) (k:Nat):pF w p (L.take k):=fun j hj=>by
 have hj':j<L.length:=(by rw[List.length_take] at hj;omega);have hk:j<k:=(by rw[List.length_take] at hj;omega);have e:(L.take k).getD j cG=L.getD j cG:=(by simp[hk]);rw[e];exact h j hj'
theorem bHu (p:Option Addr) (c m:Nat) (L:List OpM) (key:Int) (w:World) (hm:L.length=m) (hL:m≤1000) (ho:pF w p L) :
  Calls Tryz.prog 86 #[.slice p m c,.int .i64 key] w fun e w'=>e=.returned (.tuple #[.agg #[.int .i64 (dL key L).1.1,.int .i64 (dL key L).1.2],.bool (dL key L).2])∧Below w.heap.size w w':=by
 subst hm;exact aMz p c L key w hL ho
set_option maxRecDepth 100000 in
set_option maxHeartbeats 2000000 in
theorem aJc {w:World} {v:Value} {h:aI} (i:Int) (hv:cJ w v h) (hm:cU h) (hT:Lib.Utf8Tabs 1 2 w) :
  Calls Tryz.prog 85 #[v,.int .i64 i] w fun e w'=>∃ sv,e=.returned sv∧qF w' sv (lL h i)∧Below w.heap.size w w':=by
 have H0:=lhid hv;obtain⟨v0,v1,v2,rfl,⟨p0,c0,rfl,-⟩,⟨p1,c1,rfl,-⟩,⟨p2,c2,rfl,k2⟩⟩:=hv;have hal:=(Below.refl w.heap.size w).alloc (Nat.le_refl _) (.cells #[.slice p0 h.1.length c0,.slice p1 h.2.1.length c1,.slice p2 h.2.2.length c2] 25);have HMay:=lhid (bUd (H0.out.below hal) hm (Utf8Tabs_below hT hal));have HBx:=lhid (Blk.new w 25 [.slice p0 h.1.length c0,.slice p1 h.2.1.length c1,.slice p2 h.2.2.length c2]);have HX:=lhid k2;have HAL:=lhid hal;clear hT hal hm H0 k2;go_enter Tryz.func85,Tryz.ntmps85;(go_wp2_with fail);refine HMay.out.mono ?_;rintro e w1 ⟨rfl,hb1⟩;clear HMay;have hbw1:=aB HAL.out hb1;have hx1:=HBx.out.later hb1;have o2:=hx1.cell 2 rfl;have olt:=hx1.lt;clear hb1 HAL HBx hx1
 cases hmm:cZ h with
 | false=>
  have HE:=lhid (aKj hmm i);rw[pH hmm];clear hmm;(go_wp2_with fail);go_ret;exact⟨_,rfl,by rw[HE.out];exact aEl _,hbw1⟩
 | true=>
  rw[kT hmm];by_cases g1:i<0
  ·have HE:=lhid (aEk (h:=h) i g1);clear hmm;(go_wp2_with fail);go_ret;exact⟨_,rfl,by rw[HE.out];exact aEl _,hbw1⟩
  ·by_cases g2:(h.2.2.length:Int)≤i
   ·have HE:=lhid (vB (h:=h) i g2);clear hmm;(go_wp2_with fail);go_ret;exact⟨_,rfl,by rw[HE.out];exact aEl _,hbw1⟩
   ·obtain⟨k,rfl⟩:∃ k:Nat,i=(k:Int):=⟨i.toNat,by omega⟩;have hk:k<h.2.2.length:=(by omega);have HE:=lhid (qN hmm k hk);obtain⟨g,sv,rfl,-,-,a3,a4⟩:=HX.out k hk;have a3':=cell_later hbw1 a3;have A4:=lhid (a4.below hbw1);clear hmm a3 a4 g1 g2;(go_wp2_with fail);go_ret;exact⟨_,rfl,by rw[HE.out];exact A4.out,hbw1⟩
set_option maxRecDepth 100000 in
set_option maxHeartbeats 4000000 in
theorem bVk {w:World} {v:Value} {h:aI} (t o:Int) (hv:cJ w v h) (hm:cU h) (hT:Lib.Utf8Tabs 1 2 w) :
  Calls Tryz.prog 64 #[v,.agg #[.int .i64 t,.int .i64 o]] w fun e w'=>e=.returned (.tuple #[.agg #[.int .i64 (nE h t o).1.1,.int .i64 (nE h t o).1.2],.bool (nE h t o).2])∧Below w.heap.size w w':=by
 have H0:=lhid hv;obtain⟨v0,v1,v2,rfl,⟨p0,c0,rfl,-⟩,⟨p1,c1,rfl,-⟩,⟨p2,c2,rfl,-⟩⟩:=hv;have hal:=(((Below.refl w.heap.size w).alloc (Nat.le_refl _) (.cells #[.slice p0 h.1.length c0,.slice p1 h.2.1.length c1,.slice p2 h.2.2.length c2] 25)).alloc (by simp) (.cells #[.int .i64 t,.int .i64 o] 70)).alloc (by simp;omega) (.cells #[.int .i64 0,.int .i64 0] 57);have HTx:=lhid (aJc t (H0.out.below hal) hm (Utf8Tabs_below hT hal));have hpx:=(Blk.new (w.alloc (.cells #[.slice p0 h.1.length c0,.slice p1 h.2.1.length c1,.slice p2 h.2.2.length c2] 25)) 70 [.int .i64 t,.int .i64 o]).alloc (.cells #[.int .i64 0,.int .i64 0] 57);have hvx:=Blk.new ((w.alloc (.cells #[.slice p0 h.1.length c0,.slice p1 h.2.1.length c1,.slice p2 h.2.2.length c2] 25)).alloc (.cells #[.int .i64 t,.int .i64 o] 70)) 57 [.int .i64 0,.int .i64 0];simp only[World.size_alloc] at hpx hvx;have HPX:=lhid hpx;have HVX:=lhid hvx;have HAL:=lhid hal;have hlen:=aEj hm t;clear hT hal hm H0 hpx hvx;go_enter Tryz.func64,Tryz.ntmps64;(go_wp2_with fail);refine HTx.out.mono ?_;rintro e w1 ⟨sv,rfl,⟨ps,cs,rfl,hcap,ho⟩,hb1⟩;have HB1:=lhid (aB HAL.out hb1);have hp1:=HPX.out.later hb1;have HV1:=lhid (HVX.out.later hb1);have q1:=hp1.cell 1 rfl;have plt:=hp1.lt;have HP1:=lhid hp1;have HO:=lhid ho;have hP:nE h t o=if 0≤o∧o<((lL h t).length:Int) then dL ((lL h t).getD o.toNat cG).2.1 ((lL h t).take o.toNat) else vI:=rfl;obtain⟨L,hL⟩:∃ L,lL h t=L:=⟨_,rfl⟩;rw[hL] at hP HO hlen hcap ⊢;have HP:=lhid hP;clear hb1 HTx HPX HVX HAL hp1 ho hP hL;have r0:=HV1.out.cell 0 rfl;have r1:=HV1.out.cell 1 rfl;have f0:=HV1.out.frozen 0;have f1:=HV1.out.frozen 1;by_cases g1:o<0
 ·have HE:Hid (nE h t o=vI):=lhid (by rw[HP.out,if_neg (by omega)]);(go_wp2_with fail);refine bodyPost_ret (cM Tryz.results64 _ _ _ _ _ rfl (kC (dQ HV1.out _ _))) rfl ?_;exact⟨by rw[HE.out]<;>rfl,aU HB1.out (by omega) _ _⟩
 ·by_cases g2:(L.length:Int)≤o
  ·have HE:Hid (nE h t o=vI):=lhid (by rw[HP.out,if_neg (by omega)]);(go_wp2_with fail);refine bodyPost_ret (cM Tryz.results64 _ _ _ _ _ rfl (kC (dQ HV1.out _ _))) rfl ?_;exact⟨by rw[HE.out]<;>rfl,aU HB1.out (by omega) _ _⟩
  ·obtain⟨k,rfl⟩:∃ k:Nat,o=(k:Int):=⟨o.toNat,by omega⟩;have hk:k<L.length:=(by omega);have hkc:k≤cs:=(by omega);have hE:nE h t k=dL (L.getD k cG).2.1 (L.take k):=(by rw[HP.out,if_pos (by omega),Int.toNat_natCast]);obtain⟨g,rfl,-,a2,-,-⟩:=HO.out k hk;have HOt:=lhid (fun w' (hb:Below w1.heap.size w1 w')=>aMo (HO.out.below hb) k);obtain⟨ok,hok⟩:∃ q,(L.getD k cG).2.1=q:=⟨_,rfl⟩;rw[hok] at a2 hE;obtain⟨⟨⟨gk,gn⟩,gb⟩,hg⟩:∃ r,dL ok (L.take k)=r:=⟨_,rfl⟩;rw[hg] at hE;have HG:=lhid hg;have HE:=lhid hE;clear hg;have HS:Hid (∀ w',Below w1.heap.size w1 w'→w'.cell? ⟨w.heap.size+1,1,none⟩=some (.int .i64 (k:Nat))∧w'.cell? ⟨g,k*4+1,none⟩=some (.int .i64 ok)∧Below w1.heap.size w1 w'):=lhid (fun w' hb=>⟨cell_later hb q1,cell_later hb a2,hb⟩);clear hE hok a2 r0 r1 f0 f1;(go_wp2_with fail);refine wpk HS [13] (by kernel_rfl) fun hB0 hS0=>?_;refine wF 0 ?_;refine wF 1 ?_;refine wT 2 15 hS0 ?_;refine wF 3 ?_;refine wF 4 ?_;refine wO 5 ?_;refine wO 6 ?_;refine wO 7 ?_;refine wO 8 ?_;refine wO 9 ?_;refine won 10 rfl fun K hK=>?_;go_simp;refine(bHu (some ⟨g,0,none⟩) _ k (L.take k) ok _ (by rw[List.length_take];omega) (by omega) (HOt.out _ hB0)).mono ?_;rintro e w1 ⟨he,hb1⟩;have hB1:=aB hB0 hb1;have hS1:=HS.out _ hB1;rw[HG.out] at he;dsimp only at he;subst he;refine hK.out _ _ (fun _ _=>hS1) ?_;clear hK K hS0;(try simp only[Act.put,sq]);refine wF 11 ?_;refine wO 12 ?_;have hvk:=HV1.out.later hB1;have r0:=hvk.cell 0 rfl;have r1:=hvk.cell 1 rfl;have f0:=hvk.frozen 0;have f1:=hvk.frozen 1;have HVk:=lhid hvk;clear hvk;refine wL 13 ?_;refine wO 14 ?_;refine wD ?_;(go_wp2_with fail);refine bodyPost_ret (cM Tryz.results64 _ _ _ _ _ rfl (kC (dQ HVk.out _ _))) rfl ?_;exact⟨by rw[HE.out]<;>rfl,aU (aB HB1.out hB1) (by omega) _ _⟩
set_option maxRecDepth 100000 in
set_option maxHeartbeats 4000000 in
theorem bUo {w:World} {v:Value} {h:aI} (i key:Int) (hv:cJ w v h) (hm:cU h) (hT:Lib.Utf8Tabs 1 2 w) :
  Calls Tryz.prog 100 #[v,.int .i64 i,.int .i64 key] w fun e w'=>e=.returned (.tuple #[.agg #[.int .i64 (dL key (lL h i)).1.1,.int .i64 (dL key (lL h i)).1.2],.bool (dL key (lL h i)).2])∧Below w.heap.size w w':=by
 have H0:=lhid hv;obtain⟨v0,v1,v2,rfl,⟨p0,c0,rfl,-⟩,⟨p1,c1,rfl,-⟩,⟨p2,c2,rfl,-⟩⟩:=hv;have hal:=((Below.refl w.heap.size w).alloc (Nat.le_refl _) (.cells #[.slice p0 h.1.length c0,.slice p1 h.2.1.length c1,.slice p2 h.2.2.length c2] 25)).alloc (by simp) (.cells #[.int .i64 0,.int .i64 0] 57);have HTx:=lhid (aJc i (H0.out.below hal) hm (Utf8Tabs_below hT hal));have hvx:=Blk.new (w.alloc (.cells #[.slice p0 h.1.length c0,.slice p1 h.2.1.length c1,.slice p2 h.2.2.length c2] 25)) 57 [.int .i64 0,.int .i64 0];simp only[World.size_alloc] at hvx;have HVX:=lhid hvx;have HAL:=lhid hal;have HLen:=lhid (aEj hm i);clear hT hal hm H0 hvx;go_enter Tryz.func100,Tryz.ntmps100;(go_wp2_with fail);refine HTx.out.mono ?_;rintro e w1 ⟨sv,rfl,⟨ps,cs,rfl,hcap,ho⟩,hb1⟩;have HB1:=lhid (aB HAL.out hb1);have HV1:=lhid (HVX.out.later hb1);have HO:=lhid ho;clear hb1 HTx HVX HAL ho;(go_wp2_with fail);refine(aMz ps cs (lL h i) key w1 HLen.out HO.out).mono ?_;rintro e w2 ⟨he,hb2⟩;obtain⟨⟨⟨gk,gn⟩,gb⟩,hg⟩:∃ r,dL key (lL h i)=r:=⟨_,rfl⟩;rw[hg] at he;dsimp only at he;subst he;have HG:=lhid hg;clear hg;have HB2:=lhid (aB HB1.out hb2);have HV2:=lhid (HV1.out.later hb2);have r0:=HV2.out.cell 0 rfl;have r1:=HV2.out.cell 1 rfl;have f0:=HV2.out.frozen 0;have f1:=HV2.out.frozen 1;clear hb2 HB1 HV1;(go_wp2_with fail);refine bodyPost_ret (cM Tryz.results100 _ _ _ _ _ rfl (kC (dQ HV2.out _ _))) rfl ?_;exact⟨by rw[HG.out]<;>rfl,aU HB2.out (by omega) _ _⟩
end
section
open Go.RowKit Go.Lib
set_option maxRecDepth 100000 in
set_option maxHeartbeats 1000000 in
theorem bBg (o:OpM) (key:Int) (B:Nat) (w:World) (hs:w.cell? ⟨B,0,none⟩=some (.int .i64 key)) :
  Calls Tryz.prog 123 #[.agg #[.bool o.1,.int .i64 o.2.1,.int .i64 o.2.2.1,.int .i64 o.2.2.2],.pointer (some ⟨B,0,none⟩)] w fun e w'=>e=.returned (.bool (wrO key o))∧Below w.heap.size w w':=by
 have hB:B<w.heap.size:=World.block_lt_of_cell? w ⟨B,0,none⟩ hs;obtain⟨ow,ok,ov⟩:=o
 cases ow with
 | false=>
  have hE:wrO key (false,ok,ov)=false:=rfl;rw[hE];clear hE;go_enter Tryz.func123,Tryz.ntmps123
  go_wp2
  go_ret;exact⟨rfl,by go_grown⟩
 | true=>
  have hE:wrO key (true,ok,ov)=(ok==key):=(by unfold wrO;simp);rw[hE];clear hE;go_enter Tryz.func123,Tryz.ntmps123
  go_wp2
  go_ret;exact⟨by first | rfl | simp,by go_grown⟩
set_option maxRecDepth 100000 in
set_option maxHeartbeats 2000000 in
theorem aXv (v:Value) (L:List OpM) (key:Int) (B:Nat) (w:World) (hs:w.cell? ⟨B,0,none⟩=some (.int .i64 key)) (hv:qF w v L) (hL:L.length≤1000) :
  Calls Tryz.prog 141 #[v,.func (.func 123) #[] #[.pointer (some ⟨B,0,none⟩)]] w fun e w'=>∃ i:Int,e=.returned (.int .i64 i)∧decide (0≤i)=L.any (wrO key)∧Below w.heap.size w w':=by
 obtain⟨p,c,rfl,-,hp⟩:=hv;have HX:=lhid hp;have H3:=lhid hs;have en:=enters_of Tryz.func123 (by kernel_rfl) rfl
 have HYes:Hid (∀ k:Nat,k<L.length→wrO key (L.getD k cG)=true→decide ((0:Int)≤(k:Int))=L.any (wrO key)):=lhid (fun k hk hf=>by
  have:L.any (wrO key)=true:=by
   rw[List.any_eq_true];refine⟨L.getD k cG,?_,hf⟩;have:L.getD k cG=L[k]:=(by simp[hk]);rw[this];exact List.getElem_mem hk
  rw[this]
  simp)
 have HNo:Hid ((∀ k:Nat,k<L.length→wrO key (L.getD k cG)=false)→decide ((0:Int)≤-1)=L.any (wrO key)):=lhid (fun h=>by
  have:L.any (wrO key)=false:=by
   rw[List.any_eq_false];intro x hx;obtain⟨k,hk,e⟩:=List.getElem_of_mem hx;have:=h k hk;simpa [hk,e] using this
  rw[this]
  rfl)
 generalize L.any (wrO key)=R at *;clear hp hs;go_enter Tryz.func141,Tryz.ntmps141;go_wp2_with fail
 go_loopw [8] (fun i wr=>∃ k:Nat,k≤L.length∧i=.int .i64 k∧(∀ j,j<k→wrO key (L.getD j cG)=false)∧Below w.heap.size w wr) (fun i _=>L.length-(intOf i).toNat)
 case atStart=>exact⟨0,Nat.zero_le _,rfl,fun j hj=>absurd hj (Nat.not_lt_zero j),Below.refl _ _⟩
 case round=>
  obtain⟨k,hk,rfl,hn,hbw⟩:=hrel;have HN:=lhid hn;clear hn;by_cases hk1:k<L.length
  ·obtain⟨g,rfl,a1,a2,a3,a4⟩:=HX.out k hk1;have a1':=cell_later hbw a1;have a2':=cell_later hbw a2;have a3':=cell_later hbw a3;have a4':=cell_later hbw a4;have HM:=lhid (bBg (L.getD k cG) key B wr (cell_later hbw H3.out));have HY:=lhid (HYes.out k hk1)
   have HK:Hid (wrO key (L.getD k cG)=false→∀ j,j<k+1→wrO key (L.getD j cG)=false):=lhid (fun h j hj=>by
    by_cases hjk:j<k
    ·exact HN.out j hjk
    ·obtain rfl:j=k:=by omega
     exact h)
   obtain⟨b,hb⟩:∃ b,wrO key (L.getD k cG)=b:=⟨_,rfl⟩;rw[hb] at HM HY HK;obtain⟨t,ht⟩:∃ t,L.getD k cG=t:=⟨_,rfl⟩;rw[ht] at HM a1' a2' a3' a4';obtain⟨t1,t2,t3,t4⟩:=t;simp only at HM a1' a2' a3' a4';clear a1 a2 a3 a4 hb ht
   cases b with
   | true=>
    (go_wp2_with (first | (go_at_call 123;refine HM.out.mono ?_;rintro e w1 ⟨rfl,hb1⟩)));go_ret;exact⟨_,rfl,HY.out trivial,aB hbw hb1⟩
   | false=>
    (go_wp2_with (first | (go_at_call 123;refine HM.out.mono ?_;rintro e w1 ⟨rfl,hb1⟩)));go_roundw
    case rel=>exact⟨k+1,by omega,by go_num,HK.out trivial,aB hbw hb1⟩
    case measure=>simp[intOf];omega
  ·have hke:k=L.length:=(by omega);subst hke;have H1:=lhid (HNo.out HN.out);(go_wp2_with fail);go_ret;exact⟨_,rfl,H1.out,hbw⟩
set_option maxRecDepth 100000 in
set_option maxHeartbeats 1000000 in
theorem aWm (v:Value) (L:List OpM) (key:Int) (B:Nat) (w:World) (hs:w.cell? ⟨B,0,none⟩=some (.int .i64 key)) (hv:qF w v L) (hL:L.length≤1000) :
  Calls Tryz.prog 122 #[v,.func (.func 123) #[] #[.pointer (some ⟨B,0,none⟩)]] w fun e w'=>e=.returned (.bool (L.any (wrO key)))∧Below w.heap.size w w':=by
 have H1:=lhid (aXv v L key B w hs hv hL);generalize L.any (wrO key)=R at *;clear hs hv hL;go_enter Tryz.func122,Tryz.ntmps122;(go_wp2_with fail);refine H1.out.mono ?_;rintro e w1 ⟨i,rfl,hi,hb1⟩;have HI:=lhid hi;clear hi;(go_wp2_with fail);go_ret;refine⟨?_,hb1⟩;rw[←HI.out];rfl
set_option maxRecDepth 100000 in
set_option maxHeartbeats 2000000 in
theorem bJl (t:bB) (sv:Value) (key:Int) (B:Nat) (w:World) (hs:w.cell? ⟨B,0,none⟩=some (.int .i64 key)) (hv:qF w sv t.2.2) (hL:t.2.2.length≤1000) :
  Calls Tryz.prog 121 #[.agg #[.int .i64 t.1,.int .i64 t.2.1,sv],.pointer (some ⟨B,0,none⟩)] w fun e w'=>e=.returned (.bool (dU key t))∧Below w.heap.size w w':=by
 have hal:=(Below.refl w.heap.size w).alloc (Nat.le_refl _) (.cells #[.int .i64 t.1,.int .i64 t.2.1,sv] 67);have HC:=lhid (aWm sv t.2.2 key B _ (cell_later hal hs) (hv.below hal) hL);have HA:=lhid hal;obtain⟨p,c,rfl,-⟩:=hv;obtain⟨ts,tf,tl⟩:=t;dsimp only at HC HA ⊢;clear hs hal hL;by_cases hf:tf=2
 ·subst hf;have hE:dU key (ts,2,tl)=false:=rfl;rw[hE];clear hE HC;go_enter Tryz.func121,Tryz.ntmps121;(go_wp2_with fail);go_ret;exact⟨rfl,HA.out⟩
 ·have hf2:(tf==2)=false:=beq_eq_false_iff_ne.2 hf;have hE:dU key (ts,tf,tl)=tl.any (wrO key):=(by unfold dU;simp[bne,hf2]);rw[hE];obtain⟨R,hR⟩:∃ R,tl.any (wrO key)=R:=⟨_,rfl⟩;rw[hR] at HC ⊢;clear hE hR;go_enter Tryz.func121,Tryz.ntmps121;(go_wp2_with fail);refine HC.out.mono ?_;rintro e w1 ⟨rfl,hb1⟩;(go_wp2_with fail);go_ret;have hn2:(tf != 2)=true:=(by simp[bne,hf2]);exact⟨by simp[hn2],aB HA.out hb1⟩
def jF (h:aI) (key:Int):List Int:=cA (dU key) h
set_option maxRecDepth 100000 in
set_option maxHeartbeats 4000000 in
theorem bUm {w:World} {v:Value} {h:aI} (key:Int) (hv:cJ w v h) (hm:cU h) (hT:Lib.Utf8Tabs 1 2 w) :
  Calls Tryz.prog 99 #[v,.int .i64 key] w fun e w'=>∃ v',e=.returned v'∧qC w' v' (jF h key)∧Below w.heap.size w w':=by
 have H0:=lhid hv;obtain⟨v0,v1,v2,rfl,⟨p0,c0,rfl,-⟩,⟨p1,c1,rfl,-⟩,⟨p2,c2,rfl,k2⟩⟩:=hv;have hal:=((Below.refl w.heap.size w).alloc (Nat.le_refl _) (.cells #[.slice p0 h.1.length c0,.slice p1 h.2.1.length c1,.slice p2 h.2.2.length c2] 25)).alloc (by simp) (.cells #[.int .i64 key] 3);have HMay:=lhid (bUd (H0.out.below hal) hm (Utf8Tabs_below hT hal));have hbx:=(Blk.new w 25 [.slice p0 h.1.length c0,.slice p1 h.2.1.length c1,.slice p2 h.2.2.length c2]).alloc (.cells #[.int .i64 key] 3);have hkx:=Blk.new (w.alloc (.cells #[.slice p0 h.1.length c0,.slice p1 h.2.1.length c1,.slice p2 h.2.2.length c2] 25)) 3 [.int .i64 key];simp only[World.size_alloc] at hkx;have HBx:=lhid hbx;have HKx:=lhid hkx;have HX:=lhid k2;have HAL:=lhid hal;have HMod:=lhid hm;have m3:h.2.2.length≤1000:=hm.2.2.1;obtain⟨i0,hi,hz0,hz1,hz2⟩:=info_parts xD;have en:=enters_of Tryz.func121 (by kernel_rfl) rfl;clear hT hal hm H0 k2 hbx hkx;go_enter Tryz.func99,Tryz.ntmps99;(go_wp2_with fail);refine HMay.out.mono ?_;rintro e w1 ⟨rfl,hb1⟩;clear HMay;have HB1:=lhid (aB HAL.out hb1);have hx1:=HBx.out.later hb1;have o2:=hx1.cell 2 rfl;have olt:=hx1.lt;have HK1:=lhid (HKx.out.later hb1);clear hb1 HAL HBx HKx hx1
 cases hmm:cZ h with
 | false=>
  have HE:Hid (jF h key=[]):=lhid (aJk _ hmm);rw[pH hmm];clear hmm;(go_wp2_with fail);go_ret;exact⟨_,rfl,by rw[HE.out];exact yP _,HB1.out⟩
 | true=>
  have HE:Hid (jF h key=jH (dU key) h.2.2 h.2.2.length):=lhid (jZ _ hmm);rw[kT hmm];clear hmm;go_wp2_with fail
  go_loopw [6,16] (fun l i wr=>∃ k:Nat,k≤h.2.2.length∧i=.int .i64 k∧wr.ownsRow w1.heap.size 3 1 l (jH (dU key) h.2.2 k).length (mG (jH (dU key) h.2.2 k))∧Below w1.heap.size w1 wr) (fun _ i _=>h.2.2.length-(intOf i).toNat)
  case atStart=>exact⟨0,Nat.zero_le _,rfl,World.ownsRow_nil _ _ _ _,Below.refl _ _⟩
  case round=>
   obtain⟨k,hk,rfl,hown,hbw⟩:=hrel;by_cases hk1:k<h.2.2.length
   ·obtain⟨g,sv,rfl,a1,a2,a3,a4⟩:=HX.out k hk1;have hb0:=HB1.out.trans (hbw.mono HB1.out.size);have a1':=cell_later hb0 a1;have a2':=cell_later hb0 a2;have a3':=cell_later hb0 a3;have a4':=a4.below hb0;have hnx:=uQ (dU key) h.2.2 k;have hil:=xC (dU key) h.2.2 k;have htl:(h.2.2.getD k aM).2.2.length≤1000:=HMod.out.2.2.2.2.2 _ (by rw[show h.2.2.getD k aM=h.2.2[k] by simp[hk1]];exact List.getElem_mem hk1);obtain⟨I,hI⟩:∃ I,jH (dU key) h.2.2 k=I:=⟨_,rfl⟩;rw[hI] at hown hnx hil;obtain⟨t,ht⟩:∃ t,h.2.2.getD k aM=t:=⟨_,rfl⟩;rw[ht] at a1' a2' a4' hnx htl;have hal:=(Below.refl wr.heap.size wr).alloc (Nat.le_refl _) (.cells #[.int .i64 t.1,.int .i64 t.2.1,sv] 67);have hbx:=hbw.alloc hbw.size (.cells #[.int .i64 t.1,.int .i64 t.2.1,sv] 67);have HC:=lhid (bJl t sv key (w.heap.size+1) (wr.alloc (.cells #[.int .i64 t.1,.int .i64 t.2.1,sv] 67)) (cell_later hal (cell_later hbw (HK1.out.cell 0 rfl))) (a4'.below hal) htl);obtain⟨p3,c3,rfl,-⟩:=a4';obtain⟨t1,t2,t3⟩:=t;dsimp only at a1' a2' a3' hnx HC hbx;have HBX:=lhid hbx;obtain⟨b,hb⟩:∃ b,dU key (t1,t2,t3)=b:=⟨_,rfl⟩;rw[hb] at hnx HC;have HN:Hid ((b=true→jH (dU key) h.2.2 (k+1)=I++[(k:Int)])∧(b=false→jH (dU key) h.2.2 (k+1)=I)):=lhid ⟨fun e=>by rw[hnx,if_pos e],fun e=>by rw[hnx,if_neg (by rw[e];exact Bool.false_ne_true)]⟩;clear a1 a2 a3 a4 ht hI hb hnx hbx hal htl hb0 hbw
    cases b with
    | false=>
     (go_wp2_with fail);refine HC.out.mono ?_;rintro e w3 ⟨rfl,hb3⟩;have hown3:=aS (hown.alloc _) hb3;have hbw3:=aB HBX.out hb3;clear hb3 hown;(go_wp2_with fail);go_roundw
     case rel=>exact⟨k+1,by omega,by go_num,by rw[HN.out.2 (by trivial)];exact hown3,hbw3⟩
     case measure=>simp[intOf];omega
    | true=>
     (go_wp2_with fail);refine HC.out.mono ?_;rintro e w3 ⟨rfl,hb3⟩;have hown3:=aS (hown.alloc _) hb3;have hbw3:=aB HBX.out hb3;clear hb3 hown;(go_wp2_with (at_builtin;refine wpList_append_own _ rfl _ _ 49 rfl w1.heap.size 3 i0 (.int .i64 0) 1 8 Tryz.underlying49 hi hz0 hz1 hz2 rfl (by decide) _ _ _ rfl (hown3.alloc _) ⟨w3.heap.size,0,none⟩ 1 1 [.int .i64 (k:Nat)] rfl rfl (aDx _ _ _) (aEa _) (by unfold maxLen;omega) (by omega) (by have:=hbw3.size;simp;omega) ?_));intro v4 w4 hown4 hgrow hnil;have hb4:Below w1.heap.size w1 w4:=(hbw3.alloc hbw3.size _).grown hgrow (by have:=hbw3.size;simp;omega) (fun k hk=>(hown3.lt k hk).1);have HO:Hid (w4.ownsRow w1.heap.size 3 1 v4 (jH (dU key) h.2.2 (k+1)).length (mG (jH (dU key) h.2.2 (k+1)))):=lhid (by rw[HN.out.1 (by trivial), ←wQ,List.length_append];exact hown4);clear hown4 hgrow hnil hown3 hbw3;(go_wp2_with fail);go_roundw
     case rel=>exact⟨k+1,by omega,by go_num,HO.out,hb4⟩
     case measure=>simp[intOf];omega
   ·have hke:k=h.2.2.length:=(by omega);subst hke;have HO:=lhid (bUb hown);clear hown;(go_wp2_with fail);go_ret;exact⟨_,rfl,by rw[HE.out];exact HO.out,HB1.out.trans (hbw.mono HB1.out.size)⟩
end
section
open Go.RowKit Go.Lib
attribute [local go_sem] cR.cell cR.frozen
def lN (h:aI) (t o:Int):Bool:=decide (0≤o∧o<((lL h t).length:Int))
set_option maxRecDepth 100000 in
set_option maxHeartbeats 4000000 in
theorem bVo (t:bB) (sv:Value) (many key:Int) (w:World) (hs:qF w sv t.2.2) (hl:t.2.2.length≤1000) :
  Calls Tryz.prog 70 #[.agg #[.int .i64 t.1,.int .i64 t.2.1,sv],.int .i64 many,.int .i64 key] w fun e w'=>e=.returned (.tuple #[.agg #[.int .i64 (dL key (t.2.2.take many.toNat)).1.1,.int .i64 (dL key (t.2.2.take many.toNat)).1.2],.bool (dL key (t.2.2.take many.toNat)).2])∧Below w.heap.size w w':=by
 obtain⟨ps,cs,rfl,-,ho⟩:=hs;obtain⟨ts,tf,tl⟩:=t;dsimp only at ho hl ⊢;have HO:=lhid ho;have b0:=((Blk.new w 67 [.int .i64 ts,.int .i64 tf,.slice ps tl.length cs]).alloc (.cells #[.int .i64 0,.int .i64 0] 57)).alloc (.cells #[.int .i64 0,.int .i64 0] 57);have b1:=(Blk.new (w.alloc (.cells #[.int .i64 ts,.int .i64 tf,.slice ps tl.length cs] 67)) 57 [.int .i64 0,.int .i64 0]).alloc (.cells #[.int .i64 0,.int .i64 0] 57);have b2:=Blk.new ((w.alloc (.cells #[.int .i64 ts,.int .i64 tf,.slice ps tl.length cs] 67)).alloc (.cells #[.int .i64 0,.int .i64 0] 57)) 57 [.int .i64 0,.int .i64 0];have hal:=(((Below.refl w.heap.size w).alloc (Nat.le_refl _) (.cells #[.int .i64 ts,.int .i64 tf,.slice ps tl.length cs] 67)).alloc (by simp) (.cells #[.int .i64 0,.int .i64 0] 57)).alloc (by simp;omega) (.cells #[.int .i64 0,.int .i64 0] 57);simp only[World.size_alloc] at b1 b2;clear ho;go_enter Tryz.func70,Tryz.ntmps70;(go_wp2_with fail);obtain⟨W0,hW0⟩:∃ W0,((w.alloc (.cells #[.int .i64 ts,.int .i64 tf,.slice ps tl.length cs] 67)).alloc (.cells #[.int .i64 0,.int .i64 0] 57)).alloc (.cells #[.int .i64 0,.int .i64 0] 57)=W0:=⟨_,rfl⟩;rw[hW0] at b0 b1 b2 hal;(try rw[hW0]);have hz:=b2.lt;have B0:=lhid b0;have B1:=lhid b1;have HAL:=lhid hal;clear b0 b1 hal hW0
 go_loopw [9,10] (fun s i wr=>∃ k:Nat,k≤tl.length∧k≤many.toNat∧i=.int .i64 k∧s=.bool (dL key (tl.take k)).2∧Blk wr (w.heap.size+1+1) 57 [.int .i64 (dL key (tl.take k)).1.1,.int .i64 (dL key (tl.take k)).1.2]∧Below (w.heap.size+1+1) W0 wr) (fun _ i _=>tl.length-(intOf i).toNat)
 case atStart=>exact⟨0,Nat.zero_le _,Nat.zero_le _,rfl,rfl,b2,Below.refl _ _⟩
 case round=>
  obtain⟨k,hk,hkm,rfl,rfl,hbv,hbw⟩:=hrel;have x2:=(B0.out.below hbw (by omega)).cell 2 rfl;have HB0:=lhid (HAL.out.trans (hbw.mono (by omega)));have HBW:=lhid hbw;have HBV:=lhid hbv;have hwz:=(B0.out.below hbw (by omega)).lt;clear hbw hbv;by_cases hc:k<tl.length∧k<many.toNat
  ·obtain⟨hc1,hc2⟩:=hc;have hc3:(k:Int)<many:=(by omega);obtain⟨g,rfl,a1,a2,a3,a4⟩:=HO.out k hc1;have a1:=cell_later HB0.out (cell_later (Below.refl _ _) a1);have a2:=cell_later HB0.out a2;have a3:=cell_later HB0.out a3;have a4:=cell_later HB0.out a4;have hnx:=xK key tl k hc1;obtain⟨⟨ow,ok,od,on⟩,hoo⟩:∃ q,tl.getD k cG=q:=⟨_,rfl⟩;rw[hoo] at a1 a2 a3 a4 hnx;dsimp only at a1 a2 a3 a4 hnx;obtain⟨⟨⟨gk,gn⟩,gb⟩,hg⟩:∃ r,dL key (tl.take k)=r:=⟨_,rfl⟩;rw[hg] at hnx HBV ⊢;dsimp only at HBV ⊢;have HNx:=lhid hnx;have r0:=HBV.out.cell 0 rfl;have r1:=HBV.out.cell 1 rfl;have f0:=HBV.out.frozen 0;have f1:=HBV.out.frozen 1;clear hnx hoo hg
   cases ow with
   | false=>
    (go_wp2_with fail);go_roundw
    case rel=>exact⟨k+1,by omega,by omega,by go_num,by rw[HNx.out];rfl,by rw[HNx.out];exact HBV.out,HBW.out⟩
    case measure=>simp[intOf];omega
   | true=>
    by_cases hk2:ok=key
    ·have hw:wrO key (true,ok,od,on)=true:=(by unfold wrO;simp[hk2]);have HNy:=lhid (HNx.out.trans (if_pos hw));subst hk2;clear HNx hw;(go_wp2_with fail);go_roundw
     case rel=>exact⟨k+1,by omega,by omega,by go_num,by rw[HNy.out],by rw[HNy.out];exact dQ HBV.out _ _,aU HBW.out (Nat.le_refl _) _ _⟩
     case measure=>simp[intOf];omega
    ·have hw:wrO key (true,ok,od,on)=false:=(by unfold wrO;simp[hk2]);have HNy:=lhid (HNx.out.trans (if_neg (by rw[hw];exact Bool.false_ne_true)));clear HNx hw;(go_wp2_with fail);go_roundw
     case rel=>exact⟨k+1,by omega,by omega,by go_num,by rw[HNy.out],by rw[HNy.out];exact HBV.out,HBW.out⟩
     case measure=>simp[intOf];omega
  ·have he:tl.take k=tl.take many.toNat:=by
    by_cases e:k=tl.length
    ·rw[e,List.take_length,List.take_of_length_le (by omega)]
    ·rw[show k=many.toNat by omega]
   have HE:=lhid he;obtain⟨⟨⟨gk,gn⟩,gb⟩,hg⟩:∃ r,dL key (tl.take k)=r:=⟨_,rfl⟩;rw[hg] at HBV ⊢;dsimp only at HBV ⊢;have HG:Hid (dL key (tl.take many.toNat)=((gk,gn),gb)):=lhid (by rw[←he];exact hg);have HB1:=lhid (B1.out.below HBW.out (by omega));have r0:=HBV.out.cell 0 rfl;have r1:=HBV.out.cell 1 rfl;have q0:=HB1.out.cell 0 rfl;have q1:=HB1.out.cell 1 rfl;have f0:=HB1.out.frozen 0;have f1:=HB1.out.frozen 1;clear hg he;by_cases h1:(k:Int)<many
   ·have h2:¬((k:Int)<(tl.length:Int)):=(by omega);(go_wp2_with fail);refine bodyPost_ret (cM Tryz.results70 _ _ _ _ _ rfl (kC (dQ HB1.out _ _))) rfl ?_;exact⟨by rw[HG.out]<;>rfl,aU HB0.out (by omega) _ _⟩
   ·(go_wp2_with fail);refine bodyPost_ret (cM Tryz.results70 _ _ _ _ _ rfl (kC (dQ HB1.out _ _))) rfl ?_;exact⟨by rw[HG.out]<;>rfl,aU HB0.out (by omega) _ _⟩
theorem bUq (t:bB) (sv:Value) (k:Nat) (key:Int) (w:World) (hs:qF w sv t.2.2) (hl:t.2.2.length≤1000) :
  Calls Tryz.prog 70 #[.agg #[.int .i64 t.1,.int .i64 t.2.1,sv],.int .i64 (k:Nat),.int .i64 key] w fun e w'=>e=.returned (.tuple #[.agg #[.int .i64 (dL key (t.2.2.take k)).1.1,.int .i64 (dL key (t.2.2.take k)).1.2],.bool (dL key (t.2.2.take k)).2])∧Below w.heap.size w w':=by
 have h:=bVo t sv (k:Int) key w hs hl
 rwa [Int.toNat_natCast] at h
set_option maxRecDepth 100000 in
set_option maxHeartbeats 4000000 in
theorem aTj {w:World} {v:Value} {h:aI} (t o:Int) (hv:cJ w v h) (hm:cU h) :
  Calls Tryz.prog 69 #[v,.agg #[.int .i64 t,.int .i64 o]] w fun e w'=>e=.returned (.bool (lN h t o))∧Below w.heap.size w w':=by
 have HMay:=lhid (fun w' (hb:Below w.heap.size w w')=>bUk (hv.below hb) hm);have H0:=lhid hv;obtain⟨v0,v1,v2,rfl,⟨p0,c0,rfl,-⟩,⟨p1,c1,rfl,-⟩,⟨p2,c2,rfl,k2⟩⟩:=hv;have hb0:=((Below.refl w.heap.size w).alloc (Nat.le_refl _) (.cells #[.slice p0 h.1.length c0,.slice p1 h.2.1.length c1,.slice p2 h.2.2.length c2] 25)).alloc (by simp) (.cells #[.int .i64 t,.int .i64 o] 70);have HB0:=lhid hb0;have b0:=(Blk.new w 25 [.slice p0 h.1.length c0,.slice p1 h.2.1.length c1,.slice p2 h.2.2.length c2]).alloc (.cells #[.int .i64 t,.int .i64 o] 70);have b1:=Blk.new (w.alloc (.cells #[.slice p0 h.1.length c0,.slice p1 h.2.1.length c1,.slice p2 h.2.2.length c2] 25)) 70 [.int .i64 t,.int .i64 o];simp only[World.size_alloc] at b1;have x0:=b0.cell 0 rfl;have x1:=b0.cell 1 rfl;have x2:=b0.cell 2 rfl;have y0:=b1.cell 0 rfl;have y1:=b1.cell 1 rfl;have hl0:w.heap.size<w.heap.size+1+1:=(by omega);have hl1:w.heap.size<((w.alloc (.cells #[.slice p0 h.1.length c0,.slice p1 h.2.1.length c1,.slice p2 h.2.2.length c2] 25)).alloc (.cells #[.int .i64 t,.int .i64 o] 70)).heap.size:=b0.lt;have hl2:w.heap.size+1<w.heap.size+1+1:=(by omega);have hl3:w.heap.size+1<((w.alloc (.cells #[.slice p0 h.1.length c0,.slice p1 h.2.1.length c1,.slice p2 h.2.2.length c2] 25)).alloc (.cells #[.int .i64 t,.int .i64 o] 70)).heap.size:=b1.lt;have HX:=lhid k2;clear hm b0 b1 hb0 k2 H0
 cases hmm:cZ h with
 | false=>
  rw[pH hmm] at HMay;have HR:Hid (lN h t o=false):=lhid (by unfold lN;rw[aKj hmm];exact decide_eq_false (by simp));clear hmm;go_enter Tryz.func69,Tryz.ntmps69;(go_wp2_with fail);refine cD (by kernel_rfl) (by kernel_rfl) ?_;(repeat (go_big_quiet_step (first | (go_at_call 12;exact cR.call (HMay.out _ (HB0.out.trans ((cR.h _).mono HB0.out.size)))))));refine wpQuiet_nil ?_;intro _ hw';obtain⟨⟨w3,hb3⟩,hw''⟩:=hw';have hw3:w3=_:=hw''.symm;subst hw3;(try dsimp only at hb3);(go_wp2_with fail);go_ret;exact⟨by rw[HR.out]<;>rfl,HB0.out.trans (hb3.mono HB0.out.size)⟩
 | true=>
  rw[kT hmm] at HMay;by_cases g1:0≤t
  ·have d1:decide (0≤t)=true:=decide_eq_true g1;by_cases g2:t<(h.2.2.length:Int)
   ·have d2:decide (t<(h.2.2.length:Int))=true:=decide_eq_true g2;obtain⟨a,rfl⟩:=Int.eq_ofNat_of_zero_le g1;have ha:a<h.2.2.length:=(by omega);obtain⟨g,sv,rfl,-,-,a3,a4⟩:=HX.out a ha;obtain⟨p3,c3,rfl,-⟩:=a4;have hgl:g<w.heap.size:=World.block_lt_of_cell? w ⟨g,a*3+2,none⟩ a3;have hgl2:g<w.heap.size+1+1:=(by omega);have hgl3:g<((w.alloc (.cells #[.slice p0 h.1.length c0,.slice p1 h.2.1.length c1,.slice (some ⟨g,0,none⟩) h.2.2.length c2] 25)).alloc (.cells #[.int .i64 (a:Nat),.int .i64 o] 70)).heap.size:=(by have:=HB0.out.size;omega);have q3:=cell_later HB0.out a3;have hlen:lL h a=(h.2.2.getD a aM).2.2:=qN hmm a ha;by_cases g3:0≤o
    ·have d3:decide (0≤o)=true:=decide_eq_true g3;have hR:lN h a o=decide (o<(((h.2.2.getD a aM).2.2).length:Int)):=(by unfold lN;rw[hlen];simp[g3]);generalize (h.2.2.getD a aM).2.2.length=n3 at *;have HR:=lhid hR;clear hR hlen hmm a3 HX;go_enter Tryz.func69,Tryz.ntmps69;(go_wp2_with fail);refine cD (by kernel_rfl) (by kernel_rfl) ?_;(repeat (go_big_quiet_step (first | (go_at_call 12;exact cR.call (HMay.out _ (HB0.out.trans ((cR.h _).mono HB0.out.size)))))));refine wpQuiet_nil ?_;intro _ hw';obtain⟨⟨w3,hb3⟩,hw''⟩:=hw';have hw3:w3=_:=hw''.symm;subst hw3;(try dsimp only at hb3);(go_wp2_with fail);go_ret;exact⟨by rw[HR.out]<;>rfl,HB0.out.trans (hb3.mono HB0.out.size)⟩
    ·have d3:decide (0≤o)=false:=decide_eq_false g3;have HR:Hid (lN h a o=false):=lhid (by unfold lN;exact decide_eq_false (by omega));clear hlen hmm a3 HX;go_enter Tryz.func69,Tryz.ntmps69;(go_wp2_with fail);refine cD (by kernel_rfl) (by kernel_rfl) ?_;(repeat (go_big_quiet_step (first | (go_at_call 12;exact cR.call (HMay.out _ (HB0.out.trans ((cR.h _).mono HB0.out.size)))))));refine wpQuiet_nil ?_;intro _ hw';obtain⟨⟨w3,hb3⟩,hw''⟩:=hw';have hw3:w3=_:=hw''.symm;subst hw3;(try dsimp only at hb3);(go_wp2_with fail);go_ret;exact⟨by rw[HR.out]<;>rfl,HB0.out.trans (hb3.mono HB0.out.size)⟩
   ·have d2:decide (t<(h.2.2.length:Int))=false:=decide_eq_false g2;have HR:Hid (lN h t o=false):=lhid (by unfold lN;rw[vB t (by omega)];exact decide_eq_false (by simp));clear hmm;go_enter Tryz.func69,Tryz.ntmps69;(go_wp2_with fail);refine cD (by kernel_rfl) (by kernel_rfl) ?_;(repeat (go_big_quiet_step (first | (go_at_call 12;exact cR.call (HMay.out _ (HB0.out.trans ((cR.h _).mono HB0.out.size)))))));refine wpQuiet_nil ?_;intro _ hw';obtain⟨⟨w3,hb3⟩,hw''⟩:=hw';have hw3:w3=_:=hw''.symm;subst hw3;(try dsimp only at hb3);(go_wp2_with fail);go_ret;exact⟨by rw[HR.out]<;>rfl,HB0.out.trans (hb3.mono HB0.out.size)⟩
  ·have d1:decide (0≤t)=false:=decide_eq_false g1;have HR:Hid (lN h t o=false):=lhid (by unfold lN;rw[aEk t (by omega)];exact decide_eq_false (by simp));clear hmm;go_enter Tryz.func69,Tryz.ntmps69;(go_wp2_with fail);refine cD (by kernel_rfl) (by kernel_rfl) ?_;(repeat (go_big_quiet_step (first | (go_at_call 12;exact cR.call (HMay.out _ (HB0.out.trans ((cR.h _).mono HB0.out.size)))))));refine wpQuiet_nil ?_;intro _ hw';obtain⟨⟨w3,hb3⟩,hw''⟩:=hw';have hw3:w3=_:=hw''.symm;subst hw3;(try dsimp only at hb3);(go_wp2_with fail);go_ret;exact⟨by rw[HR.out]<;>rfl,HB0.out.trans (hb3.mono HB0.out.size)⟩
theorem bAp {h:aI} {t o:Int} (hy:lN h t o=true):∃ a k:Nat,t=(a:Int)∧o=(k:Int)∧cZ h=true∧a<h.2.2.length∧lL h t=(h.2.2.getD a aM).2.2∧k<(h.2.2.getD a aM).2.2.length:=by
 unfold lN at hy;rw[decide_eq_true_eq] at hy;obtain⟨h0,h1⟩:=hy;by_cases hm:cZ h=true
 ·by_cases g1:t<0
  ·rw[aEk t g1] at h1;simp at h1;omega
  ·by_cases g2:(h.2.2.length:Int)≤t
   ·rw[vB t g2] at h1;simp at h1;omega
   ·obtain⟨a,rfl⟩:=Int.eq_ofNat_of_zero_le (show(0:Int)≤t by omega);obtain⟨k,rfl⟩:=Int.eq_ofNat_of_zero_le h0;have ha:a<h.2.2.length:=(by omega);have e:=qN hm a ha;refine⟨a,k,rfl,rfl,hm,ha,e,?_⟩;rw[e] at h1;omega
 ·rw[aKj (by simpa using hm)] at h1;simp at h1;omega
set_option maxRecDepth 100000 in
set_option maxHeartbeats 4000000 in
theorem rown13_any {w:World} {v:Value} {h:aI} (t o:Int) (hv:cJ w v h) (hm:cU h) :
  Calls Tryz.prog 48 #[v,.agg #[.int .i64 t,.int .i64 o]] w fun e w'=>e=.returned (.tuple #[.agg #[.int .i64 (nE h t o).1.1,.int .i64 (nE h t o).1.2],.bool (nE h t o).2])∧Below w.heap.size w w':=by
 have H0:=lhid hv;obtain⟨v0,v1,v2,rfl,⟨p0,c0,rfl,-⟩,⟨p1,c1,rfl,-⟩,⟨p2,c2,rfl,k2⟩⟩:=hv;have hal:=(((Below.refl w.heap.size w).alloc (Nat.le_refl _) (.cells #[.slice p0 h.1.length c0,.slice p1 h.2.1.length c1,.slice p2 h.2.2.length c2] 25)).alloc (by simp) (.cells #[.int .i64 t,.int .i64 o] 70)).alloc (by simp;omega) (.cells #[.int .i64 0,.int .i64 0] 57);have HTh:=lhid (aTj t o (H0.out.below hal) hm);have hbx:=((Blk.new w 25 [.slice p0 h.1.length c0,.slice p1 h.2.1.length c1,.slice p2 h.2.2.length c2]).alloc (.cells #[.int .i64 t,.int .i64 o] 70)).alloc (.cells #[.int .i64 0,.int .i64 0] 57);have hpx:=(Blk.new (w.alloc (.cells #[.slice p0 h.1.length c0,.slice p1 h.2.1.length c1,.slice p2 h.2.2.length c2] 25)) 70 [.int .i64 t,.int .i64 o]).alloc (.cells #[.int .i64 0,.int .i64 0] 57);have hvx:=Blk.new ((w.alloc (.cells #[.slice p0 h.1.length c0,.slice p1 h.2.1.length c1,.slice p2 h.2.2.length c2] 25)).alloc (.cells #[.int .i64 t,.int .i64 o] 70)) 57 [.int .i64 0,.int .i64 0];simp only[World.size_alloc] at hpx hvx;have b00:=hbx.cell 0 rfl;have b01:=hbx.cell 1 rfl;have b02:=hbx.cell 2 rfl;have b10:=hpx.cell 0 rfl;have b11:=hpx.cell 1 rfl;have HBX:=lhid hbx;have HPX:=lhid hpx;have HVX:=lhid hvx;have HX:=lhid k2;have HAL:=lhid hal;have HMod:=lhid hm;clear hal hm H0 hbx hpx hvx k2;go_enter Tryz.func48,Tryz.ntmps48;(go_wp2_with fail);refine HTh.out.mono ?_;rintro e w1 ⟨rfl,hb1⟩;have HB1:=lhid (aB HAL.out hb1);have hx1:=HBX.out.later hb1;have hp1:=HPX.out.later hb1;have HV1:=lhid (HVX.out.later hb1);have x2:=hx1.cell 2 rfl;have y0:=hp1.cell 0 rfl;have y1:=hp1.cell 1 rfl;have xl:=hx1.lt;have yl:=hp1.lt;clear hb1 HTh HBX HPX HVX HAL hx1 hp1 b00 b01 b02 b10 b11
 cases hth:lN h t o with
 | false=>
  have r0:=HV1.out.cell 0 rfl;have r1:=HV1.out.cell 1 rfl;have f0:=HV1.out.frozen 0;have f1:=HV1.out.frozen 1;have HE:Hid (nE h t o=vI):=lhid (by unfold lN at hth;rw[decide_eq_false_iff_not] at hth;exact if_neg hth);clear hth;(go_wp2_with fail);refine bodyPost_ret (cM Tryz.results48 _ _ _ _ _ rfl (kC (dQ HV1.out _ _))) rfl ?_;exact⟨by rw[HE.out]<;>rfl,aU HB1.out (by omega) _ _⟩
 | true=>
  obtain⟨a,k,rfl,rfl,hmm,ha,hop,hk⟩:=bAp hth;have hE:nE h a k=dL ((h.2.2.getD a aM).2.2.getD k cG).2.1 ((h.2.2.getD a aM).2.2.take k):=(by unfold nE;rw[hop,if_pos (by omega),Int.toNat_natCast]);obtain⟨g,sv,rfl,a1,a2,a3,a4⟩:=HX.out a ha;have htl:(h.2.2.getD a aM).2.2.length≤1000:=(by rw[←hop];exact aEj HMod.out _);have a1:=cell_later HB1.out a1;have a2:=cell_later HB1.out a2;have a3:=cell_later HB1.out a3;have a4:=a4.below HB1.out;obtain⟨⟨ts,tf,tl⟩,htt⟩:∃ q,h.2.2.getD a aM=q:=⟨_,rfl⟩;rw[htt] at a1 a2 a4 hk hE htl;dsimp only at a1 a2 a4 hk hE htl;have HOps0:=lhid (fun w' (hb:Below w1.heap.size w1 w')=>a4.below hb);obtain⟨p3,c3,rfl,hcap,hops⟩:=a4;obtain⟨go,rfl,-,b2,-,-⟩:=hops k hk;have HOps:=HOps0;obtain⟨ok,hok⟩:∃ q,(tl.getD k cG).2.1=q:=⟨_,rfl⟩;rw[hok] at b2 hE;obtain⟨⟨⟨gk,gn⟩,gb⟩,hg⟩:∃ r,dL ok (tl.take k)=r:=⟨_,rfl⟩;rw[hg] at hE;have HE:=lhid hE;have HG:=lhid hg;have HS:Hid (∀ w',Below w1.heap.size w1 w'→w'.cell? ⟨w.heap.size,2,none⟩=some (.slice (some ⟨g,0,none⟩) h.2.2.length c2)∧w'.cell? ⟨w.heap.size+1,0,none⟩=some (.int .i64 (a:Nat))∧w'.cell? ⟨w.heap.size+1,1,none⟩=some (.int .i64 (k:Nat))∧w'.cell? ⟨g,a*3,none⟩=some (.int .i64 ts)∧w'.cell? ⟨g,a*3+1,none⟩=some (.int .i64 tf)∧w'.cell? ⟨g,a*3+2,none⟩=some (.slice (some ⟨go,0,none⟩) tl.length c3)∧w'.cell? ⟨go,k*4+1,none⟩=some (.int .i64 ok)∧Below w1.heap.size w1 w'):=lhid (fun w' hb=>⟨cell_later hb x2,cell_later hb y0,cell_later hb y1,cell_later hb a1,cell_later hb a2,cell_later hb a3,cell_later hb b2,hb⟩);clear hE hg hok hops hcap htt hop hmm hth x2 y0 y1 a1 a2 a3 b2 HOps0;(go_wp2_with fail);refine wpk HS [23] (by kernel_rfl) fun hB0 hS0=>?_;refine wF 0 ?_;refine wT 1 25 hS0 ?_;refine wF 2 ?_;refine wT 3 25 hS0 ?_;refine wF 4 ?_;refine wT 5 25 hS0 ?_;refine wF 6 ?_;refine wT 7 25 hS0 ?_;refine wF 8 ?_;refine wT 9 25 hS0 ?_;refine wF 10 ?_;refine wT 11 25 hS0 ?_;refine wF 12 ?_;refine wF 13 ?_;refine wT 14 25 hS0 ?_;refine wO 15 ?_;refine wO 16 ?_;refine wO 17 ?_;refine wO 18 ?_;refine wO 19 ?_;refine won 20 rfl fun K hK=>?_;go_simp;refine(bUq (ts,tf,tl) (.slice (some ⟨go,0,none⟩) tl.length c3) k ok _ (HOps.out _ hB0) htl).mono ?_;rintro e w1 ⟨he,hb1⟩;have hB1:=aB hB0 hb1;have hS1:=HS.out _ hB1;rw[HG.out] at he;dsimp only at he;subst he;refine hK.out _ _ (fun _ _=>hS1) ?_;clear hK K hS0;(try simp only[Act.put,sq]);refine wF 21 ?_;refine wO 22 ?_;have hvk:=HV1.out.later hB1;have r0:=hvk.cell 0 rfl;have r1:=hvk.cell 1 rfl;have f0:=hvk.frozen 0;have f1:=hvk.frozen 1;have HVk:=lhid hvk;clear hvk;refine wL 23 ?_;refine wO 24 ?_;refine wD ?_;(go_wp2_with fail);refine bodyPost_ret (cM Tryz.results48 _ _ _ _ _ rfl (kC (dQ HVk.out _ _))) rfl ?_;exact⟨by rw[HE.out]<;>rfl,aU (aB HB1.out hB1) (by omega) _ _⟩
end
section
open Go.Lib
abbrev bZ:=Int×Int
def okV (a:bZ):Bool:=kW a.1 a.2
def ltV (a b:bZ):Bool:=if a.1=b.1 then a.1==1&&decide (a.2<b.2) else decide (a.1<b.1)
theorem uU (a b:bZ):ltV a b=true↔a.1<b.1∨(a.1=b.1∧a.1=1∧a.2<b.2):=by
 unfold ltV;by_cases h:a.1=b.1
 ·rw[if_pos h];simp only[Bool.and_eq_true,beq_iff_eq,decide_eq_true_eq];omega
 ·rw[if_neg h];simp only[decide_eq_true_eq];omega
theorem mS (a:bZ):ltV a a=false:=by
 rw[Bool.eq_false_iff,ne_eq,uU];omega
theorem uW (a b c:bZ) (h1:ltV a b=true) (h2:ltV b c=true):ltV a c=true:=by
 rw[uU] at *;omega
theorem aVj (a:bZ):okV a=true↔a.1=1∨(a.1=0∨a.1=2)∧a.2=0:=by
 unfold okV kW;simp only[Bool.or_eq_true,Bool.and_eq_true,beq_iff_eq]
theorem uV (a b:bZ) (ha:okV a=true) (hb:okV b=true) (h1:ltV a b=false) (h2:ltV b a=false):a=b:=by
 rw[Bool.eq_false_iff,ne_eq,uU] at h1 h2;rw[aVj] at ha hb;obtain⟨a1,a2⟩:=a;obtain⟨b1,b2⟩:=b;simp only at *;have e1:a1=b1:=(by omega);subst e1;have e2:a2=b2:=(by omega);rw[e2]
theorem aSd (a b c:bZ) (h1:ltV a b=false) (h2:ltV b c=false):ltV a c=false:=by
 rw[Bool.eq_false_iff,ne_eq,uU] at *;omega
def pM (x:bZ):List bZ→List bZ
 | []=>[x]
 | y::r=>if ltV y x then y::pM x r else if y=x then y::r else x::y::r
theorem xE (x y:bZ):∀ r,y∈pM x r↔y=x∨y∈r
 | []=>by simp[pM]
 | z::r=>by
  unfold pM;split
  ·rw[List.mem_cons,xE x y r,List.mem_cons];constructor
   ·rintro(h | h | h)
    ·exact .inr (.inl h)
    ·exact .inl h
    ·exact .inr (.inr h)
   ·rintro(h | h | h)
    ·exact .inr (.inl h)
    ·exact .inl h
    ·exact .inr (.inr h)
  ·split
   ·rename_i h;subst h;simp
   ·simp
theorem zV (x:bZ) (hx:okV x=true):∀ r,(∀ y∈r,okV y=true)→r.Pairwise (fun a b=>ltV a b=true)→(pM x r).Pairwise (fun a b=>ltV a b=true)
 | [],_,_=>by simp[pM]
 | y::r,hn,hs=>by
  have hy:=hn y (List.mem_cons_self ..);rw[List.pairwise_cons] at hs;unfold pM;split
  ·rename_i h;rw[List.pairwise_cons];refine⟨fun z hz=>?_,zV x hx r (fun z hz=>hn z (List.mem_cons_of_mem _ hz)) hs.2⟩;rcases(xE x z r).1 hz with e | e
   ·subst e;exact h
   ·exact hs.1 z e
  ·rename_i h;split
   ·rw[List.pairwise_cons];exact hs
   ·rename_i he
    have hxy:ltV x y=true:=by
     cases hq:ltV x y with
     | true=>rfl
     | false=>exact absurd (uV y x hy hx (by simpa using h) hq) he
    rw[List.pairwise_cons,List.pairwise_cons];refine⟨fun z hz=>?_,hs⟩;rcases List.mem_cons.1 hz with e | e
    ·subst e;exact hxy
    ·exact uW x y z hxy (hs.1 z e)
def kO (x:bZ) (r:List bZ):Nat:=(r.takeWhile (fun y=>ltV y x)).length
theorem aUx (x:bZ):∀ r:List bZ,kO x r≤r.length∧(∀ j,j<kO x r→ltV (r.getD j (0,0)) x=true) ∧
  (kO x r<r.length→ltV (r.getD (kO x r) (0,0)) x=false) ∧
  pM x r=if kO x r<r.length∧r.getD (kO x r) (0,0)=x then r else r.take (kO x r)++x::r.drop (kO x r)
 | []=>by simp[kO,pM]
 | y::r=>by
  obtain⟨h1,h2,h3,h4⟩:=aUx x r;by_cases h:ltV y x=true
  ·have e:kO x (y::r)=kO x r+1:=(by simp[kO,h]);rw[e];refine⟨by simpa using h1,?_,?_,?_⟩
   ·intro j hj
    cases j with
    | zero=>exact h
    | succ j=>exact h2 j (by omega)
   ·intro hl;exact h3 (by simpa using hl)
   ·unfold pM;rw[if_pos h,h4];by_cases hc:kO x r<r.length∧r.getD (kO x r) (0,0)=x
    ·rw[if_pos hc,if_pos (by simpa using hc)]
    ·rw[if_neg hc,if_neg (by simpa using hc)];simp
  ·have h':ltV y x=false:=(by simpa using h);have e:kO x (y::r)=0:=(by simp[kO,h']);rw[e];refine⟨Nat.zero_le _,fun j hj=>absurd hj (Nat.not_lt_zero j),fun _=>h',?_⟩;unfold pM;rw[if_neg h];simp
def cH (L:List bZ):List bZ:=L.foldl (fun out x=>if okV x then pM x out else out) []
theorem bMl (L:List bZ):∀ out:List bZ,(∀ y∈out,okV y=true)→out.Pairwise (fun a b=>ltV a b=true) →
  (L.foldl (fun out x=>if okV x then pM x out else out) out).Pairwise (fun a b=>ltV a b=true) ∧
  ∀ y,y∈L.foldl (fun out x=>if okV x then pM x out else out) out↔y∈out∨(y∈L∧okV y=true):=by
 induction L with
 | nil=>intro out _ hs;exact⟨hs,by simp⟩
 | cons x L ih=>
  intro out hn hs;rw[List.foldl_cons];by_cases h:okV x=true
  ·rw[if_pos h];obtain⟨h1,h2⟩:=ih (pM x out) (fun y hy=>by rcases(xE x y out).1 hy with e | e;(subst e;exact h);exact hn y e) (zV x h out hn hs);refine⟨h1,fun y=>?_⟩;rw[h2,xE,List.mem_cons];constructor
   ·rintro((e | e) | ⟨e,e'⟩)
    ·subst e;exact .inr ⟨.inl rfl,h⟩
    ·exact .inl e
    ·exact .inr ⟨.inr e,e'⟩
   ·rintro(e | ⟨e | e,e'⟩)
    ·exact .inl (.inr e)
    ·exact .inl (.inl e)
    ·exact .inr ⟨e,e'⟩
  ·rw[if_neg h];obtain⟨h1,h2⟩:=ih out hn hs;refine⟨h1,fun y=>?_⟩;rw[h2,List.mem_cons];constructor
   ·rintro(e | ⟨e,e'⟩)
    ·exact .inl e
    ·exact .inr ⟨.inr e,e'⟩
   ·rintro(e | ⟨e | e,e'⟩)
    ·exact .inl e
    ·subst e;exact absurd e' h
    ·exact .inr ⟨e,e'⟩
theorem kZ (L:List bZ):(cH L).Pairwise (fun a b=>ltV a b=true)∧∀ y,y∈cH L↔y∈L∧okV y=true:=by
 obtain⟨h1,h2⟩:=bMl L [] (by simp) List.Pairwise.nil;exact⟨h1,fun y=>by rw[cH,h2];simp⟩
theorem uF (L:List bZ):(cH L).length≤L.length:=by
 have key:∀ (L out:List bZ),(L.foldl (fun out x=>if okV x then pM x out else out) out).length≤out.length+L.length:=by
  intro L
  induction L with
  | nil=>intro out;simp
  | cons x L ih=>
   intro out;rw[List.foldl_cons,List.length_cons]
   have hi:∀ r:List bZ,(pM x r).length≤r.length+1:=by
    intro r
    induction r with
    | nil=>simp[pM]
    | cons y r ihr=>
     unfold pM;split
     ·rw[List.length_cons,List.length_cons];omega
     ·split<;>simp
   split
   ·have:=ih (pM x out);have:=hi out;omega
   ·have:=ih out;omega
 have:=key L [];simpa [cH] using this
theorem aVu (A B:List bZ) (hA:A.Pairwise (fun a b=>ltV a b=true)) (hB:B.Pairwise (fun a b=>ltV a b=true)) (h:∀ x,x∈A↔x∈B):A=B:=by
 induction A generalizing B with
 | nil=>
  cases B with
  | nil=>rfl
  | cons b B=>exact absurd ((h b).2 (List.mem_cons_self ..)) (by simp)
 | cons a A ih=>
  cases B with
  | nil=>exact absurd ((h a).1 (List.mem_cons_self ..)) (by simp)
  | cons b B=>
   rw[List.pairwise_cons] at hA hB
   have hab:a=b:=by
    rcases List.mem_cons.1 ((h a).1 (List.mem_cons_self ..)) with e | e
    ·exact e
    ·rcases List.mem_cons.1 ((h b).2 (List.mem_cons_self ..)) with e2 | e2
     ·exact e2.symm
     ·have:=uW a b a (hA.1 b e2) (hB.1 a e);rw[mS] at this;cases this
   subst hab;rw[ih B hA.2 hB.2 fun x=>?_];constructor
   ·intro hx;rcases List.mem_cons.1 ((h x).1 (List.mem_cons_of_mem _ hx)) with e | e
    ·subst e;have:=hA.1 x hx;rw[mS] at this;cases this
    ·exact e
   ·intro hx;rcases List.mem_cons.1 ((h x).2 (List.mem_cons_of_mem _ hx)) with e | e
    ·subst e;have:=hB.1 x hx;rw[mS] at this;cases this
    ·exact e
theorem aKq (L M:List bZ) (h:∀ x,x∈L↔x∈M):cH L=cH M:=by
 obtain⟨a1,a2⟩:=kZ L;obtain⟨b1,b2⟩:=kZ M;exact aVu _ _ a1 b1 fun x=>by rw[a2,b2,h]
theorem zR (d:Array bZ) (hn:∀ j,j<d.size→okV d[j]! = true) (hs:∀ i j,i<j→j<d.size→ltV d[j]! d[i]! = false) :
  ∀ m,m≤d.size→(compactUpTo d m).Pairwise (fun a b=>ltV a b=true)∧(∀ j,j<m→d[j]!∈compactUpTo d m)∧(∀ y∈compactUpTo d m,∃ j,j<m∧y=d[j]!)
 | 0,_=>⟨by simp[compactUpTo],by simp,by simp[compactUpTo]⟩
 | m+1,hm=>by
  obtain⟨h1,h2,h3⟩:=zR d hn hs m (by omega);rw[compactUpTo_succ]
  cases hk:keeps d m with
  | true=>
   simp only[if_true];refine⟨?_,?_,?_⟩
   ·rw[List.pairwise_append];refine⟨h1,by simp,?_⟩;intro a ha b hb;obtain rfl:b=d[m]!:=(by simpa using hb);obtain⟨j,hj,rfl⟩:=h3 a ha
    have hne:d[j]!≠d[m]!:=by
     intro e;unfold keeps at hk;simp only[decide_eq_true_eq] at hk;rcases hk with hk | hk
     ·omega
     ·have hjm:d[m-1]! = d[m]!:=by
       by_cases hj1:j=m-1
       ·rw[←hj1];exact e
       ·have a1:=hs j (m-1) (by omega) (by omega);have a2:=hs (m-1) m (by omega) (by omega);rw[e] at a1;exact uV _ _ (hn _ (by omega)) (hn _ (by omega)) a1 a2
      exact hk hjm.symm
    have a:=hs j m hj (by omega)
    cases hl:ltV d[j]! d[m]! with
    | true=>rfl
    | false=>exact absurd (uV _ _ (hn _ (by omega)) (hn _ (by omega)) hl a) hne
   ·intro j hj;by_cases hjm:j<m
    ·exact List.mem_append_left _ (h2 j hjm)
    ·obtain rfl:j=m:=(by omega);exact List.mem_append_right _ (by simp)
   ·intro y hy;rcases List.mem_append.1 hy with hy | hy
    ·obtain⟨j,hj,e⟩:=h3 y hy;exact⟨j,by omega,e⟩
    ·exact⟨m,by omega,by simpa using hy⟩
  | false=>
   simp only[Bool.false_eq_true,if_false,List.append_nil];refine⟨h1,?_,fun y hy=>by obtain⟨j,hj,e⟩:=h3 y hy;exact⟨j,by omega,e⟩⟩;intro j hj;by_cases hjm:j<m
   ·exact h2 j hjm
   ·obtain rfl:j=m:=(by omega);unfold keeps at hk;simp only[decide_eq_false_iff_not,not_or,ne_eq,Classical.not_not] at hk;rw[hk.2];exact h2 (j-1) (by omega)
theorem aAm (S L:List bZ) (hm:∀ y,y∈S↔y∈L∧okV y=true) (hs:S.Pairwise (fun a b=>ltV b a=false)):compact S=cH L:=by
 have hget:∀ j,j<S.toArray.size→S.toArray[j]!∈S:=fun j hj=>by
  have hj':j<S.length:=(by simpa using hj);have:S.toArray[j]! = S[j]:=(by simp[hj']);rw[this];exact List.getElem_mem hj'
 obtain⟨h1,h2,h3⟩:=zR S.toArray (fun j hj=>((hm _).1 (hget j hj)).2) (fun i j hij hj=>by
  have hj':j<S.length:=(by simpa using hj);have e1:S.toArray[j]! = S[j]:=(by simp[hj']);have e2:S.toArray[i]! = S[i]:=(by simp[show i<S.length by omega]);rw[e1,e2]
  exact List.pairwise_iff_getElem.1 hs i j (by omega) hj' hij) S.length (by simp)
 obtain⟨g1,g2⟩:=kZ L;refine aVu _ _ h1 g1 fun x=>?_;rw[g2, ←hm];constructor
 ·intro hx;obtain⟨j,hj,rfl⟩:=h3 x hx;exact hget j (by simpa using hj)
 ·intro hx;obtain⟨j,hj,e⟩:=List.getElem_of_mem hx;have:=h2 j hj;have e1:S.toArray[j]! = S[j]:=(by simp[hj]);rw[e1,e] at this;exact this
end
section
open Go.RowKit
attribute [local go_sem] aJn oU wY pG aQk aAw oT yA qZ
attribute [local go_sem] cR.cell cR.frozen
attribute [local go_sem ↓] Go.wp_at_zero Go.wp_at_succ
def aHq (k n k' n':Int):Bool:=if k=k' then k==1&&decide (n<n') else decide (k<k')
set_option maxHeartbeats 1000000 in
theorem aOs (k n k' n':Int) (w:World) :
  Calls Tryz.prog 93 #[.agg #[.int .i64 k,.int .i64 n],.agg #[.int .i64 k',.int .i64 n']] w fun e w'=>e=.returned (.bool (aHq k n k' n'))∧Below w.heap.size w w':=by
 by_cases h1:k=k'
 ·subst h1;have e1:aHq k n k n'=(k==1&&decide (n<n')):=(by simp[aHq]);rw[e1];clear e1;by_cases h2:k=1
  ·subst h2;go_enter Tryz.func93,Tryz.ntmps93
   go_wp2
   go_ret;exact⟨by simp,by go_grown⟩
  ·have h2':(k==1)=false:=(by simpa using h2);clear h2;go_enter Tryz.func93,Tryz.ntmps93
   go_wp2
   go_ret;exact⟨by simp;intro hk;exact absurd hk (by simpa using h2'),by go_grown⟩
 ·have e1:aHq k n k' n'=decide (k<k'):=(by simp[aHq,h1]);have h1':(k != k')=true:=(by simpa using h1);rw[e1];clear e1 h1;go_enter Tryz.func93,Tryz.ntmps93
  go_wp2
  go_ret;exact⟨by simp,by go_grown⟩
end
end Go.Proofs.YtdfegfagedeilaaGreatDoor
