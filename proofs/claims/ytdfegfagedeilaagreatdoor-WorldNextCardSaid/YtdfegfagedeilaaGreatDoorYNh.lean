/-
  Several texts of these walks, joined and squeezed (as templates they lie in wip/tpl): HistG WhP Tail WoA HistQ HistI TabD HistH LatU.
-/
import Derived.Test.YtdfegfagedeilaaGreatDoorYNg
import Derived.Test.YtdfegfagedeilaaGreatDoorYxNameU
namespace Go.Proofs.YtdfegfagedeilaaGreatDoor
section
open Go.RowKit Go.Shelf Go.Lib
attribute [local go_sem] Oper.semAt_some
abbrev dK:=Nat×Nat
def wK (p:dK):List Value:=[.int .i64 (p.1:Nat),.int .i64 (p.2:Nat)]
def gJ (L:List dK):List Value:=L.flatMap wK
def nK (w:World) (v:Value) (L:List dK):Prop:=∃ p cap,v=.slice p L.length cap∧∀ j,j<L.length→∃ g,p=some ⟨g,0,none⟩∧w.cell? ⟨g,j*2,none⟩=some (.int .i64 ((L.getD j (0,0)).1:Nat))∧w.cell? ⟨g,j*2+1,none⟩=some (.int .i64 ((L.getD j (0,0)).2:Nat))
theorem nK.below {w w':World} {v:Value} {L:List dK} (h:nK w v L) (hb:Below w.heap.size w w'):nK w' v L:=by
 obtain⟨p,cap,hv,ht⟩:=h;refine⟨p,cap,hv,fun j hj=>?_⟩;obtain⟨g,hp,h1,h2⟩:=ht j hj;exact⟨g,hp,cell_later hb h1,cell_later hb h2⟩
theorem aOl (w:World):nK w (.slice none 0 0) []:=⟨none,0,rfl,fun j hj=>absurd hj (Nat.not_lt_zero j)⟩
theorem aEm {w:World} {base:Nat} {e:TypeId} {v:Value} {L:List dK} (h:w.ownsRow base e 2 v L.length (gJ L)):nK w v L:=by
 obtain⟨p,cap,rfl,-,-,hc⟩:=qP h;refine⟨p,cap,rfl,fun j hj=>?_⟩
 have hg:∀ i u,i<2→(wK (L.getD j (0,0)))[i]? = some u→∃ g,p=some ⟨g,0,none⟩∧w.cell? ⟨g,j*2+i,none⟩=some u:=fun i u hi hu=>
  hc _ u (by omega) (by rw[gJ,kB wK 2 (fun _=>rfl) (0,0) L j i hj hi];exact hu)
 obtain⟨g,rfl,h0⟩:=hg 0 _ (by omega) rfl;obtain⟨g1,e1,h1⟩:=hg 1 _ (by omega) rfl;cases e1;exact⟨g,rfl,h0,h1⟩
theorem aCw:(Tryz.prog.info? 70).map (fun i=>(i.zero,i.size,i.bytes))=some (some (.agg #[.int .i64 0,.int .i64 0]),2,16):=by kernel_rfl
def bY (l:List vW):List dK:=(l.filter fun x=>x.2.2.2.1==2).map (·.1)
theorem aDm (l:List vW) (x:vW):bY (l++[x])=if x.2.2.2.1==2 then bY l++[x.1] else bY l:=by
 unfold bY;rw[List.filter_append,List.map_append];by_cases h:(x.2.2.2.1==2)=true
 ·rw[if_pos h,List.filter_cons,if_pos h];rfl
 ·rw[if_neg h,List.filter_cons,if_neg h];simp
theorem yX (l:List vW):(bY l).length≤l.length:=by
 unfold bY;rw[List.length_map];exact List.length_filter_le _ _
def cY (h:aI):List dK:=if cZ h then bY (itH h.2.2 h.2.2.length) else []
theorem kF {h:aI} (hm:cZ h=true):cY h=bY (itH h.2.2 h.2.2.length):=by simp[cY,hm]
theorem bDk {h:aI} (hm:cZ h=false):cY h=[]:=by simp[cY,hm]
set_option maxRecDepth 100000 in
set_option maxHeartbeats 4000000 in
theorem bDl (v0 v1 v2:Value) (h:aI) (w:World) (h0:bF w v0 h.1) (h1:bF w v1 h.2.1) (h2:kM w v2 h.2.2) (hm:cU h) (hT:Lib.Utf8Tabs 1 2 w) :
  Calls Tryz.prog 42 #[.agg #[v0,v1,v2]] w fun e w'=>∃ v',e=.returned v'∧nK w' v' (cY h)∧Below w.heap.size w w':=by
 have HMay:=lhid (fun w' (hb:Below w.heap.size w w')=>aCv v0 v1 v2 h w' (h0.below hb) (h1.below hb) (h2.below hb) hm (Utf8Tabs_below hT hb));have HM:=lhid hm;have T2:=lhid h2;obtain⟨p2,c2,rfl,-⟩:=h2;obtain⟨p0,c0,rfl,-⟩:=h0;obtain⟨p1,c1,rfl,-⟩:=h1;obtain⟨i0,hi,hz0,hz1,hz2⟩:=info_parts aCw;have b0:=Blk.new w 25 [.slice p0 h.1.length c0,.slice p1 h.2.1.length c1,.slice p2 h.2.2.length c2];have hb0:Below w.heap.size w (w.alloc (.cells #[.slice p0 h.1.length c0,.slice p1 h.2.1.length c1,.slice p2 h.2.2.length c2] 25)):=(Below.refl _ w).alloc (Nat.le_refl _) _;have HB0:=lhid hb0;have B0:=lhid b0;clear hm hT b0 hb0;refine(callsIn_wide (n:=10)).1 ?_;refine callsIn_of_wp_marks Tryz.func42 rfl trivial ?_ rfl;simp only[Tryz.ntmps42,List.size_toArray,List.length_cons,List.length_nil,Nat.reduceAdd,Nat.reduceSub,Array.replicate_succ,Array.replicate_zero,List.push_toArray,List.append_toArray,List.nil_append,List.cons_append]
 gi_wp2_with fail
 refine⟨trivial,(callsIn_wide.2 (HMay.out _ HB0.out)).mono ?_⟩;rintro e w1 ⟨rfl,hb1⟩;have hbw1:=aB HB0.out hb1;have d0:=B0.out.later hb1;have x0:=d0.cell 0 rfl;have x1:=d0.cell 1 rfl;have x2:=d0.cell 2 rfl;have hbz:w.heap.size<w1.heap.size:=d0.lt;clear d0 hb1
 cases hmm:cZ h with
 | false=>
  have HE:=lhid (pH hmm);have HW:=lhid (bDk hmm);clear hmm;rw[HE.out]
  gi_wp2_with fail
  exact⟨_,results_tmp rfl _ _ _,_,rfl,by rw[HW.out];exact aOl _,hbw1⟩
 | true=>
  have HE:=lhid (kT hmm);have HW:=lhid (kF hmm);clear hmm;rw[HE.out]
  gi_wp2_with fail
  refine⟨trivial,(aSs Fence.wide 9 trivial rfl _ _ _ _).mono ?_⟩;rintro e w3 ⟨rfl,rfl⟩
  gi_wp2_with fail
  have z0:=Blk.new w1 51 [.slice none 0 0];have hbl:Below w.heap.size w (w1.alloc (.cells #[.slice none 0 0] 51)):=hbw1.alloc hbw1.size _;have t1:=qT (w1.alloc (.cells #[.slice none 0 0] 51)) (.slice p0 h.1.length c0) (.slice p1 h.2.1.length c1) (.slice p2 h.2.2.length c2) 25;simp only[World.size_alloc] at t1;have k1:Boxed ((w1.alloc (.cells #[.slice none 0 0] 51)).alloc (.cells #[.slice p0 h.1.length c0,.slice p1 h.2.1.length c1,.slice p2 h.2.2.length c2] 25)) w1.heap.size 51 (.slice none 0 0):=z0.alloc _;have hb':=hbl.alloc hbl.size (.cells #[.slice p0 h.1.length c0,.slice p1 h.2.1.length c1,.slice p2 h.2.2.length c2] 25);have hsz1:((w1.alloc (.cells #[.slice none 0 0] 51)).alloc (.cells #[.slice p0 h.1.length c0,.slice p1 h.2.1.length c1,.slice p2 h.2.2.length c2] 25)).heap.size=w1.heap.size+1+1:=(by simp);obtain⟨W1,hW1⟩:∃ W1,(w1.alloc (.cells #[.slice none 0 0] 51)).alloc (.cells #[.slice p0 h.1.length c0,.slice p1 h.2.1.length c1,.slice p2 h.2.2.length c2] 25)=W1:=⟨_,rfl⟩;rw[hW1] at t1 k1 hb' hsz1 ⊢;clear hW1 x0 x1 x2 z0 hbl
  refine wpIn_rangeFunc_ownH rfl (by omega) (gf:=77) (lb:=#[.pointer (some ⟨w1.heap.size+1,0,none⟩)]) rfl trivial (enters_of Tryz.func77 (by kernel_rfl) rfl)
   (zB (fun _=>True) Fence.wide 9 trivial rfl (by omega) (w1.heap.size+1) w _ _ _ h.2.2 HM.out.2.2.1 T2.out HM.out.2.2.2.2.2 (fun _ _=>trivial) W1 hb' t1) belowK_t (belowK_b (by omega)) (Below.refl _ _) (fun _=>rfl)
   (fun pre W=>(∃ v,Boxed W w1.heap.size 51 v∧W.ownsRow w.heap.size 70 2 v (bY (pre.map (·.1))).length (gJ (bY (pre.map (·.1))))∧True)∧Below w.heap.size w W)
   (fun _ _ _=>False)
   (OwnFrom.and ((holdsRow_own w.heap.size w1.heap.size 51 70 2 (fun pre:List { x:vW // True }=>(bY (pre.map (·.1))).length) (fun pre=>gJ (bY (pre.map (·.1)))) (fun _ _=>True)).from _) (ownFrom_below (Nat.le_refl _) (by omega)))
   (fun _ _ _ _ _ hs _ _=>hs)
   ⟨⟨_,k1,World.ownsRow_nil _ _ _ _,trivial⟩,hb'⟩
   (fun x a' W=>∃ Bp Bx,Blk W Bp 70 [.int .i64 (x.1.1.1:Nat),.int .i64 (x.1.1.2:Nat)]∧Blk W Bx 82 [.bool x.1.2.1,.int .i64 x.1.2.2.1,.int .i64 x.1.2.2.2.1,.int .i64 x.1.2.2.2.2]∧a' = { tmps:=#[.agg #[.slice p0 h.1.length c0,.slice p1 h.2.1.length c1,.slice p2 h.2.2.length c2],.pointer (some ⟨w.heap.size,0,none⟩),.slice none 0 0,.pointer (some ⟨w1.heap.size,0,none⟩),.pointer (some ⟨Bp,0,none⟩),.pointer (some ⟨Bx,0,none⟩),.agg #[.slice p0 h.1.length c0,.slice p1 h.2.1.length c1,.slice p2 h.2.2.length c2],.int .i64 0,.bool false,.agg #[.slice p0 h.1.length c0,.slice p1 h.2.1.length c1,.slice p2 h.2.2.length c2],.func (.func 77) #[] #[.pointer (some ⟨w1.heap.size+1,0,none⟩)],.agg #[.int .i64 (x.1.1.1:Nat),.int .i64 (x.1.1.2:Nat)],.agg #[.bool x.1.2.1,.int .i64 x.1.2.2.1,.int .i64 x.1.2.2.2.1,.int .i64 x.1.2.2.2.2],undef,undef,undef,undef,undef,undef,undef,undef,undef],defers:=[] })
   (fun x a' _ X Y row hs hg hr=>by
    obtain⟨Bp,Bx,r1,r2,r3⟩:=hs;have hn:∀ B t cs,Blk X B t cs→some B≠row:=fun B t cs r e=>by obtain⟨-,o,ho,hc⟩:=hr B e.symm;have r':X.heap[B]? = some _:=r;rw[r'] at ho;cases ho;cases hc
    exact⟨Bp,Bx,r1.kept hg (hn _ _ _ r1),r2.kept hg (hn _ _ _ r2),r3⟩)
   ?assign ?body ?done ?stop
  case assign=>
   rintro l pre x W K ⟨⟨v,q1,q2,q3⟩,hB⟩ hK;simp only[aWw]
   gi_wp2
   have k1:=Blk.new W 70 [.int .i64 (x.1.1.1:Nat),.int .i64 (x.1.1.2:Nat)];have k2:=Blk.new (W.alloc (.cells #[.int .i64 (x.1.1.1:Nat),.int .i64 (x.1.1.2:Nat)] 70)) 82 [.bool x.1.2.1,.int .i64 x.1.2.2.1,.int .i64 x.1.2.2.2.1,.int .i64 x.1.2.2.2.2];simp only[World.size_alloc] at k2;exact hK _ _ (((KeepsOthers.alloc _ _).trans (KeepsOthers.alloc _ _)).from _) (((Below.refl _ W).alloc hB.size _).alloc (by have:=hB.size;simp;omega) _) ⟨⟨v,(q1.alloc _).alloc _,(q2.alloc _).alloc _,q3⟩,(hB.alloc hB.size _).alloc (by have:=hB.size;simp;omega) _⟩ ⟨W.heap.size,W.heap.size+1,k1.alloc _,k2,rfl⟩
  case body=>
   rintro l pre x a' W hl - ⟨⟨v,q1,q2,-⟩,hB⟩ ⟨Bp,Bx,bP,bX,rfl⟩ hlt2;have hN:=aBb h.2.2 HM.out.2.2.2.2.2 h.2.2.length (Nat.le_refl _);have m3:=HM.out.2.2.1;have hll:=yX (pre.map (·.1));rw[List.length_map] at hll;have z0:=q1.cell;have z1:=q1.frozen;have y0:=bP.cell 0 rfl;have y1:=bP.cell 1 rfl;have y2:=bX.cell 2 rfl;have hsn:=aDm (pre.map (·.1)) x.1;rw[show pre.map (·.1)++[x.1]=(pre++[x]).map (·.1) by simp] at hsn;have HN1:Hid (x.1.2.2.2.1=2→bY ((pre++[x]).map (·.1))=bY (pre.map (·.1))++[x.1.1]):=lhid (fun e=>by rw[hsn,if_pos (beq_iff_eq.2 e)]);have HF1:Hid (x.1.2.2.2.1≠2→bY ((pre++[x]).map (·.1))=bY (pre.map (·.1))):=lhid (fun e=>by rw[hsn,if_neg (by rw[beq_eq_false_iff_ne.2 e];exact Bool.false_ne_true)]);obtain⟨I,hI⟩:∃ I,bY (pre.map (·.1))=I:=⟨_,rfl⟩;rw[hI] at q2 HN1 HF1 hll;have hIl:I.length≤1000000:=(by omega);have HB:=lhid hB;have Q1:=lhid q1;have hws:=hB.size;have hwb:w.heap.size≤w1.heap.size:=hbw1.size;have hbw:=q1.lt;clear hsn hI hll hlt2 hN m3 bP bX hB q1;by_cases hc:x.1.2.2.2.1=2
   ·have HN2:=lhid (HN1.out hc);have hcc:(x.1.2.2.2.1==2)=true:=beq_iff_eq.2 hc;rw[hc] at y2;clear HN1 HF1 hc hcc
    gi_wp2_with (gi_at_builtin;refine wpListIn_append_own _ rfl _ _ 51 rfl w.heap.size 70 i0 (.agg #[.int .i64 0,.int .i64 0]) 2 16 Tryz.underlying51 hi hz0 hz1 hz2 rfl (by decide) _ _ _ rfl (q2.alloc _) ⟨W.heap.size,0,none⟩ 1 1 [.int .i64 (x.1.1.1:Nat),.int .i64 (x.1.1.2:Nat)] rfl rfl (dB _ _ _ _ rfl) (by intro u hu;simp at hu;rcases hu with rfl | rfl<;>rfl) (by unfold maxLen;omega) (by omega) (by simp;omega) ?_)
    intro v4 w4 hown4 hgrow hnil;obtain⟨g4,c4,rfl⟩:=lV hown4;obtain⟨r1,r2,r3,r4,r5⟩:=Boxed.appended Q1.out (by decide) q2 (by omega) (by omega) hown4 hgrow;have s1:=r1.cell;have s2:=r1.frozen;have HO:Hid ((w4.setCell ⟨w1.heap.size,0,none⟩ (.slice (some ⟨g4,0,none⟩) (I.length+1) c4)).ownsRow w.heap.size 70 2 (.slice (some ⟨g4,0,none⟩) (I.length+1) c4) (bY ((pre++[x]).map (·.1))).length (gJ (bY ((pre++[x]).map (·.1))))):=lhid (by rw[HN2.out,List.length_append,gJ,List.flatMap_append];exact r3);have R2:=lhid r2;have R4:=lhid r4;have R5:=lhid r5;clear hown4 hgrow hnil r1 r2 r3 r4 r5 q2
    gi_wp2_with fail
    exact⟨R4.out.from _,R5.out,⟨_,R2.out,by first | exact HO.out | exact⟨HO.out,trivial⟩⟩,HB.out.trans R5.out⟩
   ·have HN2:=lhid (HF1.out hc);have hcc:(x.1.2.2.2.1==2)=false:=beq_eq_false_iff_ne.2 hc;clear HN1 HF1 hc
    gi_wp2_with fail
    exact⟨KeepsFrom.refl _ _,Below.refl _ _,⟨_,Q1.out,by rw[HN2.out];first | exact q2 | exact⟨q2,trivial⟩⟩,HB.out⟩
  case done=>
   rintro Dd xs W hD hS ⟨⟨v,q1,q2,-⟩,hB⟩ hd;rw[hS] at q2;have z0:=q1.cell;have q3:=ownsRow_putObj q2 (.deferred none) hd rfl;have HO:=lhid (aEm q3);have HD:=lhid hd;have HDB:Hid (Below w.heap.size w (W.putObj Dd (.deferred none))):=lhid (hB.trans (belowK_b (w:=W1) (by omega) W Dd _ _ hD hd rfl rfl));clear q1 q2 q3 hB hd
   gi_wp2_with fail
   refine⟨by simp,.inl ⟨_,_,rfl,run_takeDeferred HD.out,?_⟩⟩;exact⟨_,results_tmp rfl _ _ _,_,rfl,by rw[HW.out];exact HO.out,HDB.out⟩
  case stop=>
   rintro D' c pre W _ _ h' _;exact h'.elim
end
section
open Go.RowKit Go.Lib
abbrev aR:=Int×Int
abbrev bK:=List Bool×List aR
def aN:aR:=(0,0)
def cF (v:aR):Bool:=v.1==1||(v.1==0&&v.2==0)
def kX (h:aI) (w:bK):Bool:=cZ h&&(decide (w.1.length=(cA aP h).length)&&(decide (w.2.length=(cY h).length)&&w.2.all cF))
def aL:List bB→List Bool→List Bool
 | [],_=>[]
 | t::r,c=>if t.2.1=1 then true::aL r c else if t.2.1=3 then c.headD false::aL r c.tail else false::aL r c
theorem uR (L:List bB):(jH aP L L.length).length=(L.filter aP).length:=by
 have h:∀ n,n≤L.length→(jH aP L n).length=((L.take n).filter aP).length:=by
  intro n
  induction n with
  | zero=>intro _;rfl
  | succ n ih=>
   intro hn;have e:L.getD n aM=L[n]:=(by simp[show n<L.length by omega]);rw[uQ,List.take_succ_eq_append_getElem (by omega),List.filter_append,List.length_append, ←ih (by omega),e];by_cases hp:aP L[n]=true
   ·rw[if_pos hp];simp[hp]
   ·rw[if_neg hp];simp[hp]
 have:=h L.length (Nat.le_refl _)
 rwa [List.take_length] at this
theorem yY (L:List bB):(bY (itH L L.length)).length=((L.flatMap (·.2.2)).filter jN).length:=by
 unfold bY;rw[List.length_map, ←mR,List.filter_map,List.length_map];rfl
theorem lR:∀ (L:List bB) (c:List Bool),(aL L c).length=L.length
 | [],_=>rfl
 | t::r,c=>by
  unfold aL;split
  ·rw[List.length_cons,lR r,List.length_cons]
  ·split<;>rw[List.length_cons,lR r,List.length_cons]
structure bLx (h:aI) (w:bK):Prop where
 m:qD h
 c:w.1.length=(h.2.2.filter aP).length
 l:w.2.length=((bU h).filter jN).length
 v:∀ x∈w.2,cF x=true
theorem jP (h:aI) (w:bK):kX h w=true↔bLx h w:=by
 unfold kX;by_cases hm:cZ h=true
 ·rw[jZ _ hm,kF hm,uR,yY,hm];simp only[Bool.true_and,Bool.and_eq_true,decide_eq_true_eq,List.all_eq_true];exact⟨fun ⟨a,b,c⟩=>⟨(dA h).1 hm,a,b,c⟩,fun ⟨_,a,b,c⟩=>⟨a,b,c⟩⟩
 ·have hm':cZ h=false:=(by simpa using hm);rw[hm'];simp only[Bool.false_and];exact⟨fun e=>(by cases e),fun ⟨a,_,_,_⟩=>absurd ((dA h).2 a) hm⟩
end
section
open Go.RowKit
section
variable {P:Program} {ops:Array Oper} {Q:Exit→Act→World→Prop} {md:Region.Mode} {S:World→Prop} {last:Nat}
def qA (P:Program) (md:Region.Mode) (ops:Array Oper) (Q:Exit→Act→World→Prop) (S:World→Prop) (last:Nat):Nat→Array Bool→Act→World→Prop
 | 0,listed,a,w=>Region.ready md ops listed=[]∧Q .normal a w
 | fuel+1,listed,a,w=>
  (Region.ready md ops listed=[]→Q .normal a w) ∧
  ∀ i∈Region.ready md ops listed,wpOp P ops Q i (fun a' w'=>(i≠last→S w')∧qA P md ops Q S last fuel (listed.setIfInBounds i true) a' w') a w
theorem vS:∀ (fuel:Nat) (listed:Array Bool) (a:Act) (w:World),qA P md ops Q S last fuel listed a w→wpAny P md ops Q fuel listed a w
 | 0,_,_,_,h=>h
 | fuel+1,_,_,_,h=>⟨h.1,fun i hi=>wpOp_mono (fun a' w' h'=>vS fuel _ a' w' h'.2) (h.2 i hi)⟩
def aKz (md:Region.Mode) (ops:Array Oper) (last i:Nat):Bool:=match ops[last]? with
 | some o=>o.after.any fun e=>Region.binds md e&&e.on==i
 | none=>false
theorem bDu {i:Nat} {listed:Array Bool} (hw:aKz md ops last i=true) (hi:listed.getD i true=false):last∉Region.ready md ops listed:=by
 intro h;obtain⟨-,o,ho,hall⟩:=mem_ready.1 h;unfold aKz at hw;rw[ho] at hw;obtain⟨e,he,hb⟩:=Array.any_eq_true'.1 hw;simp only[Bool.and_eq_true,beq_iff_eq] at hb;have h1:=hall e he hb.1;rw[hb.2] at h1;rcases Nat.lt_or_ge i listed.size with h' | h'
 ·simp[h'] at hi h1;rw[hi] at h1;cases h1
 ·simp[Array.getElem?_eq_none h'] at h1
theorem aLj {i:Nat} {oi:Oper} {v:Value} (hi:ops[i]? = some oi) (hsel:∀ (j:Nat) (o:Oper) cs b,ops[j]? = some o→o.op≠.select cs b)
  (hQ:∀ c a w,Q (.panic c) (a.put oi.dst v) w→Q (.panic c) a w) (hw:aKz md ops last i=true) (hil:i≠last) :
  ∀ (fuel:Nat) (listed:Array Bool) (a:Act) (w:World),
   (∀ j oj,ops[j]? = some oj→j≠i→listed.getD j true=false→(∀ e∈oj.after,Region.binds md e=true→e.on≠i)→oi.apart ops oj=true) →
   i∈Region.ready md ops listed→YieldsIf P ops S oi v a→S w →
   qA P md ops Q S last fuel (listed.setIfInBounds i true) (a.put oi.dst v) w→qA P md ops Q S last (fuel+1) listed a w:=by
 intro fuel
 induction fuel with
 | zero=>
  intro listed a w _ hr hy hS H;refine⟨fun h=>(by rw[h] at hr;cases hr),fun j hj=>?_⟩;by_cases hji:j=i
  ·subst hji;exact hy.wpOp hi hS ⟨fun _=>hS,H⟩
  ·have:=ready_mono hj hji;rw[H.1] at this;cases this
 | succ fuel ih=>
  intro listed a w hfree hr hy hS H;refine⟨fun h=>(by rw[h] at hr;cases hr),fun j hj=>?_⟩;by_cases hji:j=i
  ·subst hji;exact hy.wpOp hi hS ⟨fun _=>hS,H⟩
  ·have hjl:j≠last:=fun e=>bDu hw (mem_ready.1 hr).1 (e▸hj);have h1:=H.2 j (ready_mono hj hji);obtain⟨hjun,oj,hoj,hall⟩:=mem_ready.1 hj
   have hnot:∀ e∈oj.after,Region.binds md e=true→e.on≠i:=fun e he hb heq=>by
    have h1:=hall e he hb;have h0:=(mem_ready.1 hr).1;rw[heq] at h1;rcases Nat.lt_or_ge i listed.size with h' | h'
    ·simp[h'] at h0 h1;rw[h0] at h1;cases h1
    ·simp[Array.getElem?_eq_none h'] at h1
   have h2:=wpOp_putIf hoj (hfree j oj hoj hji hjun hnot) (fun cs b=>hsel i oi cs b hi) (fun cs b=>hsel j oj cs b hoj) hQ hy h1
   have hfree':∀ k ok,ops[k]? = some ok→k≠i→(listed.setIfInBounds j true).getD k true=false →
     (∀ e∈ok.after,Region.binds md e=true→e.on≠i)→oi.apart ops ok=true:=fun k ok hk hki hun hno=>by
    refine hfree k ok hk hki ?_ hno;by_cases hjk:j=k
    ·subst hjk;exact hjun
    ·rw[getD_set_ne true hjk] at hun;exact hun
   refine wpOp_mono (fun a' w' h3=>⟨fun _=>h3.2.1 hjl,ih (listed.setIfInBounds j true) a' w' hfree' (ready_mono hr (Ne.symm hji)) h3.1 (h3.2.1 hjl) ?_⟩) h2;rw[Array.setIfInBounds_comm _ _ hji];exact h3.2.2
theorem aG (i:Nat) {d:Tmp} {op:Op} {ty:TypeId} {pos:String} {aft:Array Edge} {gd:Option (Nat×Bool)} {v:Value} {fuel:Nat} {listed:Array Bool} {a:Act} {w:World} (hi:ops[i]? = some ⟨some d,op,ty,pos,aft,gd⟩)
  (hs:Region.noSelect ops=true) (hf:Region.free md ops listed i=true) (hr:(Region.ready md ops listed).contains i=true) (hw:aKz md ops last i=true) (hil:decide (i≠last)=true)
  (hQ:∀ c a w,Q (.panic c) (a.put (some d) v) w→Q (.panic c) a w) (hy:YieldsIf P ops S ⟨some d,op,ty,pos,aft,gd⟩ v a) (hS:S w)
  (h:qA P md ops Q S last fuel (listed.setIfInBounds i true) (a.put (some d) v) w):qA P md ops Q S last (fuel+1) listed a w:=
 aLj hi (Region.noSelect_spec hs) hQ hw (of_decide_eq_true hil) fuel listed a w (Region.free_spec hi hf) (by simpa using hr) hy hS h
theorem gB (i:Nat) {d:Option Tmp} {op:Op} {ty:TypeId} {pos:String} {aft:Array Edge} {gd:Option (Nat×Bool)} {fuel:Nat} {listed:Array Bool} {a:Act} {w:World} (ho:ops[i]? = some ⟨d,op,ty,pos,aft,gd⟩) (hr:Region.ready md ops listed=[i])
  (h:∀ K:Act→World→Prop,Hid (∀ a' w',(i≠last→S w')→qA P md ops Q S last fuel (listed.setIfInBounds i true) a' w'→K a' w')→if Region.wanted ⟨d,op,ty,pos,aft,gd⟩ (yielded ops a.tmps)=true then Oper.wp P ⟨d,op,ty,pos,aft,gd⟩ a w K Q else K (a.put d undef) w):qA P md ops Q S last (fuel+1) listed a w:=by
 refine⟨fun h0=>(by rw[hr] at h0;cases h0),fun j hj=>?_⟩;rw[hr] at hj;obtain rfl:j=i:=(by simpa using hj);exact wpOp_step ho (fun K hK=>h K (lhid (fun a' w' h1 h2=>hK a' w' ⟨h1,h2⟩)))
theorem pE {listed:Array Bool} {a:Act} {w:World} (hr:Region.ready md ops listed=[]) (h:Q .normal a w):∀ fuel,qA P md ops Q S last fuel listed a w
 | 0=>⟨hr,h⟩
 | _+1=>⟨fun _=>h,by rw[hr];simp⟩
theorem mI (S:World→Prop) (last:Nat) {id:Nat} {a:Act} {w:World} (hm:P.follows .mixedOrders=true)
  (h:qA P .any ops Q S last ops.size (Array.replicate ops.size false) a w.drew):(Code.region id ops true).wp P Q a w:=
 wp_region_any hm (vS _ _ _ _ h)
end
end
section
open Go.ChangeShapes Go.WideShapes Go.ChangeAt Go.RowKit Go.Joins
def aZ (x:aR):List Value:=[.int .i64 x.1,.int .i64 x.2]
def aUl (_:World) (cs:List Value) (b:Bool):Prop:=cs=[.bool b]
def bBn (_:World) (cs:List Value) (x:aR):Prop:=cs=aZ x
def vU (w:World) (v:Value) (L:List Bool):Prop:=SlR 1 aUl w v L
def aBm (w:World) (v:Value) (L:List aR):Prop:=SlR 2 bBn w v L
def vX (w:World) (v:Value) (m:bK):Prop:=∃ v0 v1,v=.agg #[v0,v1]∧vU w v0 m.1∧aBm w v1 m.2
theorem vU.below {w w':World} {v:Value} {L:List Bool} (h:vU w v L) (hb:Below w.heap.size w w'):vU w' v L:=SlR.below (fun _ _ _ _ _ h=>h) h hb
theorem aBm.below {w w':World} {v:Value} {L:List aR} (h:aBm w v L) (hb:Below w.heap.size w w'):aBm w' v L:=SlR.below (fun _ _ _ _ _ h=>h) h hb
theorem vX.below {w w':World} {v:Value} {m:bK} (h:vX w v m) (hb:Below w.heap.size w w'):vX w' v m:=by
 obtain⟨v0,v1,e,h0,h1⟩:=h;exact⟨v0,v1,e,h0.below hb,h1.below hb⟩
section
variable {H:Type} {enc:TypeId×Value→H} {w:World} {base:Nat} {spare:Nat→Bool} {held:Bool}
theorem aSq {n:Nat} {cs:List Value} {y:DataW H×List MemPlace} (h:DataW.trod enc Tryz.prog w base spare held n 4 cs=some y):∃ s,aUl w cs s:=by
 obtain⟨b,hb,-⟩:=DataW.trod_bool Tryz.underlying4 h;exact⟨b,hb⟩
theorem bEd {n:Nat} {cs:List Value} {y:DataW H×List MemPlace} (h:DataW.trod enc Tryz.prog w base spare held n 57 cs=some y):∃ s,bBn w cs s:=by
 obtain⟨k,m,e⟩:=aEg h;exact⟨(k,m),e⟩
set_option maxRecDepth 100000 in
theorem open_world {r:Reach} {b0:Nat} {v:Value} {d:DataW H} {ps:List MemPlace} (hval:Value.okWide Tryz.prog w r b0 29 v) (hd:DataW.Trod enc Tryz.prog w base spare held 29 v d ps):∃ m,vX w v m:=by
 obtain⟨cs,rfl,-⟩:=okWide_struct Tryz.underlying29 hval;obtain⟨fuel,h⟩:=hd;obtain⟨l⟩:=cs;have h:DataW.trod enc Tryz.prog w base spare held fuel 29 l=some (d,ps):=h;have hl:=qV Tryz.underlying29 h;obtain⟨n0,y0,h0⟩:=jD 0 0 26 1 Tryz.underlying29 h rfl rfl rfl (by kernel_rfl);obtain⟨n1,y1,h1⟩:=jD 1 1 27 1 Tryz.underlying29 h rfl rfl rfl (by kernel_rfl);obtain⟨v0,L0,e0,a0⟩:∃ v L,_=[v]∧SlR 1 aUl w v L:=tY Tryz.underlying26 (by kernel_rfl) (fun _ _ _ h=>aSq h) h0;obtain⟨v1,L1,e1,a1⟩:∃ v L,_=[v]∧SlR 2 bBn w v L:=tY Tryz.underlying27 (by kernel_rfl) (fun _ _ _ h=>bEd h) h1;rw[show Tryz.prog.cellsOf 29=2 by kernel_rfl] at hl
 match l,hl with
 | [a,b],_=>
  simp at e0 e1;subst e0 e1;exact⟨(L0,L1),a,b,rfl,a0,a1⟩
end
def jA (w:World) (p:Option Addr) (L:List Bool):Prop:=∀ j,j<L.length→∃ g,p=some ⟨g,0,none⟩∧w.cell? ⟨g,j,none⟩=some (.bool (L.getD j false))
def lF (w:World) (p:Option Addr) (L:List aR):Prop:=∀ j,j<L.length→∃ g,p=some ⟨g,0,none⟩∧w.cell? ⟨g,j*2,none⟩=some (.int .i64 (L.getD j aN).1)∧w.cell? ⟨g,j*2+1,none⟩=some (.int .i64 (L.getD j aN).2)
theorem jA.below {w w':World} {p:Option Addr} {L:List Bool} (h:jA w p L) (hb:Below w.heap.size w w'):jA w' p L:=fun j hj=>by
 obtain⟨g,e,hc⟩:=h j hj;exact⟨g,e,cell_later hb hc⟩
theorem lF.below {w w':World} {p:Option Addr} {L:List aR} (h:lF w p L) (hb:Below w.heap.size w w'):lF w' p L:=fun j hj=>by
 obtain⟨g,e,h1,h2⟩:=h j hj;exact⟨g,e,cell_later hb h1,cell_later hb h2⟩
def qW (w:World) (v:Value) (L:List Bool):Prop:=∃ p c,v=.slice p L.length c∧(L.length≤c∧c≤maxLen)∧jA w p L
def oS (w:World) (v:Value) (L:List aR):Prop:=∃ p c,v=.slice p L.length c∧(L.length≤c∧c≤maxLen)∧lF w p L
theorem qW.below {w w':World} {v:Value} {L:List Bool} (h:qW w v L) (hb:Below w.heap.size w w'):qW w' v L:=by
 obtain⟨p,c,e,hc,hh⟩:=h;exact⟨p,c,e,hc,hh.below hb⟩
theorem oS.below {w w':World} {v:Value} {L:List aR} (h:oS w v L) (hb:Below w.heap.size w w'):oS w' v L:=by
 obtain⟨p,c,e,hc,hh⟩:=h;exact⟨p,c,e,hc,hh.below hb⟩
theorem aQn (w:World):qW w (.slice none 0 0) []:=⟨none,0,rfl,⟨Nat.le_refl _,Nat.zero_le _⟩,fun j hj=>absurd hj (Nat.not_lt_zero j)⟩
theorem bBa (w:World):oS w (.slice none 0 0) []:=⟨none,0,rfl,⟨Nat.le_refl _,Nat.zero_le _⟩,fun j hj=>absurd hj (Nat.not_lt_zero j)⟩
def lI (w:World) (v:Value) (m:bK):Prop:=∃ v0 v1,v=.agg #[v0,v1]∧qW w v0 m.1∧oS w v1 m.2
theorem lI.below {w w':World} {v:Value} {m:bK} (h:lI w v m) (hb:Below w.heap.size w w'):lI w' v m:=by
 obtain⟨v0,v1,e,h0,h1⟩:=h;exact⟨v0,v1,e,h0.below hb,h1.below hb⟩
theorem aVg (w:World):lI w (.agg #[.slice none 0 0,.slice none 0 0]) ([],[]):=⟨_,_,rfl,aQn w,bBa w⟩
theorem lY {w:World} {v:Value} {m:bK} (h:lI w v m):∃ p0 c0 p1 c1,v=.agg #[.slice p0 m.1.length c0,.slice p1 m.2.length c1]∧jA w p0 m.1∧lF w p1 m.2∧(m.1.length≤c0∧c0≤maxLen)∧(m.2.length≤c1∧c1≤maxLen):=by
 obtain⟨v0,v1,e,⟨p0,c0,e0,hc0,h0⟩,⟨p1,c1,e1,hc1,h1⟩⟩:=h;subst e0 e1;exact⟨p0,c0,p1,c1,e,h0,h1,hc0,hc1⟩
def bG (L:List Bool):List Value:=L.map fun b=>.bool b
def aJ (L:List aR):List Value:=L.flatMap aZ
theorem yC (L:List Bool) (k:Nat) (b:Bool):bG (L.set k b)=(bG L).set k (.bool b):=by simp[bG,List.map_set]
theorem aBt (L:List Bool) (k:Nat) (hk:k<L.length):(bG L)[k]? = some (.bool (L.getD k false)):=by simp[bG,hk]
theorem bC (L:List aR):(aJ L).length=L.length*2:=by
 unfold aJ
 induction L with
 | nil=>rfl
 | cons x L ih=>rw[List.flatMap_cons,List.length_append,ih,List.length_cons];simp[aZ];omega
theorem gD (L:List Bool):(bG L).length=L.length:=by simp[bG]
theorem lK (L:List Bool):∀ u∈bG L,u.oneCell'=true:=by
 intro u hu;obtain⟨b,-,rfl⟩:=List.mem_map.1 hu;rfl
theorem bJ (L:List aR):∀ u∈aJ L,u.oneCell'=true:=by
 intro u hu;obtain⟨o,-,ho⟩:=List.mem_flatMap.1 hu;simp[aZ] at ho;rcases ho with rfl | rfl<;>rfl
theorem qO {w:World} {base n:Nat} {e:TypeId} {v:Value} {L:List Bool} (h:w.ownsRow base e 1 v n (bG L)) (hn:n=L.length):qW w v L:=by
 subst hn;obtain⟨p,cap,rfl,hl,hm,hc⟩:=qP h;refine⟨p,cap,rfl,⟨hl,hm⟩,fun j hj=>?_⟩;obtain⟨g,rfl,h0⟩:=hc j (.bool (L.getD j false)) (by omega) (by simp[bG,hj]);exact⟨g,rfl,h0⟩
theorem qR {w:World} {base n:Nat} {e:TypeId} {v:Value} {L:List aR} (h:w.ownsRow base e 2 v n (aJ L)) (hn:n=L.length):oS w v L:=by
 subst hn;obtain⟨p,cap,rfl,hl,hm,hc⟩:=qP h;refine⟨p,cap,rfl,⟨hl,hm⟩,fun j hj=>?_⟩
 have hg:∀ i u,i<2→(aZ (L.getD j aN))[i]? = some u→∃ g,p=some ⟨g,0,none⟩∧w.cell? ⟨g,j*2+i,none⟩=some u:=fun i u hi hu=>
  hc _ u (by omega) (by rw[aJ,kB aZ 2 (fun _=>rfl) aN L j i hj hi];exact hu)
 obtain⟨g,rfl,h0⟩:=hg 0 _ (by omega) rfl;obtain⟨g1,e1,h1⟩:=hg 1 _ (by omega) rfl;cases e1;exact⟨g,rfl,h0,h1⟩
theorem aSt {w:World} {base:Nat} {e:TypeId} {v:Value} {L:List Bool} (h:w.ownsRow base e 1 v L.length (bG L)):vU w v L:=by
 have h':w.ownsRow base e 1 v L.length (L.flatMap fun s=>[.bool s]):=by
  have:L.flatMap (fun s=>[Value.bool s])=bG L:=by
   unfold bG;clear h
   induction L with
   | nil=>rfl
   | cons x L ih=>rw[List.flatMap_cons,ih];rfl
  rw[this];exact h
 have:=xJ (R:=aUl) (s:=1) (fun s=>[.bool s]) (fun _=>rfl) (by omega) false id h' (fun x hx=>rfl)
 rwa [List.map_id] at this
theorem aZl {w:World} {base:Nat} {e:TypeId} {v:Value} {L:List aR} (h:w.ownsRow base e 2 v L.length (aJ L)):aBm w v L:=by
 have:=xJ (R:=bBn) aZ (fun _=>rfl) (by omega) aN id h (fun x _=>rfl)
 rwa [List.map_id] at this
theorem aBu {w:World} {a:Addr} {c n:Nat} {L:List Bool} (h:vU w (.slice (some a) n c) L) (m:Nat):∀ (q:Nat) (u:Value),(bG (L.take m))[q]? = some u→w.cell? (a.add q)=some u:=by
 obtain⟨p',c',e,-,-,hc⟩:=h;injection e with e1 _ _;subst e1;intro q u hq
 have hql:q<(L.take m).length:=by
  have:=(List.getElem?_eq_some_iff.1 hq).1;simpa [bG] using this
 rw[List.length_take] at hql;obtain⟨a',cs,e,-,h1,h2⟩:=hc q (by omega);cases e
 have eu:cs[0]? = some u:=by
  rw[show cs=[.bool L[q]] from h2];rw[←hq];simp[bG,show q<m by omega,show q<L.length by omega]
 have:=h1 0 u eu
 rwa [Nat.mul_one,Nat.add_zero] at this
theorem aJg {w:World} {a:Addr} {c n:Nat} {L:List aR} (h:aBm w (.slice (some a) n c) L) (m:Nat):∀ (q:Nat) (u:Value),(aJ (L.take m))[q]? = some u→w.cell? (a.add q)=some u:=by
 obtain⟨p',c',e,-,-,hc⟩:=h;injection e with e1 _ _;subst e1;intro q u hq;have hql:q<(L.take m).length*2:=(by rw[←bC];exact(List.getElem?_eq_some_iff.1 hq).1);rw[List.length_take] at hql;have hj:q / 2<L.length:=(by omega);obtain⟨a',cs,e,-,h1,h2⟩:=hc (q / 2) hj;cases e;have hq':q=q / 2*2+q % 2:=(by omega);have hg:=kB aZ 2 (fun _=>rfl) aN (L.take m) (q / 2) (q % 2) (by rw[List.length_take];omega) (by omega);rw[←hq'] at hg;rw[hq'];refine h1 _ _ ?_;unfold bBn at h2;rw[h2];unfold aJ at hq;rw[hg] at hq;rw[←hq];congr 2;have hjm:q / 2<m:=(by omega);simp[List.getD,hjm,hj]
theorem aWj {w:World} {p:Option Addr} {n c:Nat} {L:List Bool} (h:vU w (.slice p n c) L):n=L.length∧L.length≤c∧c≤maxLen∧(p=none→L=[]):=by
 obtain⟨p',c',e,h1,h2,hc⟩:=h;injection e with e1 e2 e3;subst e1 e3;refine⟨e2,h1,h2,fun hp=>?_⟩
 cases L with
 | nil=>rfl
 | cons x l=>
  obtain⟨a,-,ea,-⟩:=hc 0 (by simp);rw[hp] at ea;cases ea
theorem bAz {w:World} {p:Option Addr} {n c:Nat} {L:List aR} (h:aBm w (.slice p n c) L):n=L.length∧L.length≤c∧c≤maxLen∧(p=none→L=[]):=by
 obtain⟨p',c',e,h1,h2,hc⟩:=h;injection e with e1 e2 e3;subst e1 e3;refine⟨e2,h1,h2,fun hp=>?_⟩
 cases L with
 | nil=>rfl
 | cons x l=>
  obtain⟨a,-,ea,-⟩:=hc 0 (by simp);rw[hp] at ea;cases ea
def aCm (m:bK):bK:=(m.1.take 50,m.2.take 50)
theorem bMg (m:bK):aCm (aCm m)=aCm m:=by simp[aCm,List.take_take]
theorem bMj (m:bK):(aCm m).1.length≤50∧(aCm m).2.length≤50:=by simp[aCm];omega
theorem oB:(Tryz.prog.info? 4).map (fun i=>(i.zero,i.size,i.bytes))=some (some (.bool false),1,1):=by kernel_rfl
theorem aCx:(Tryz.prog.info? 57).map (fun i=>(i.zero,i.size,i.bytes))=some (some (.agg #[.int .i64 0,.int .i64 0]),2,16):=by kernel_rfl
theorem bO {w:World} {b:Nat} {x y:Value} (h:Blk w b 29 [x,y]):(loadVar 29 ⟨b,0,none⟩).run Tryz.prog w=.ok (.agg #[x,y]) w:=by
 have hr:w.rangeAt b 0 [x,y]:=fun j v hj=>(by rw[Nat.zero_add];exact h.cell j hj);exact run_loadVar_mid (P:=Tryz.prog) w b 0 29 [x,y] _ hr Tryz.underlying29 rfl (by kernel_rfl)
end
section
def dC (U:List Bool) (ks:List Int):List Bool:=ks.foldl (fun U k=>U.set k.toNat true) U
theorem aDs (U:List Bool) (ks:List Int) (k:Int):dC U (ks++[k])=(dC U ks).set k.toNat true:=by simp[dC]
theorem aYt (U:List Bool) (ks ls:List Int):dC U (ks++ls)=dC (dC U ks) ls:=by simp[dC]
theorem jO (ks:List Int):∀ U:List Bool,(dC U ks).length=U.length:=by
 induction ks with
 | nil=>intro U;rfl
 | cons k ks ih=>intro U;show(dC (U.set k.toNat true) ks).length=_;rw[ih,List.length_set]
theorem aYu (ks:List Int):∀ (U:List Bool) (i:Nat),i<U.length→(dC U ks).getD i false=(U.getD i false||(ks.map Int.toNat).contains i):=by
 induction ks with
 | nil=>intro U i _;simp[dC]
 | cons k ks ih=>
  intro U i hi;show(dC (U.set k.toNat true) ks).getD i false=_;rw[ih _ _ (by rw[List.length_set];exact hi)];rw[List.map_cons,List.contains_cons];by_cases e:i=k.toNat
  ·subst e;simp[hi]
  ·have e':(i==k.toNat)=false:=(by simpa using e);rw[e',Bool.false_or];congr 1;simp[List.getD,Ne.symm e]
theorem bBp (U:List Bool):U.all id=(List.range U.length).all fun i=>U.getD i false:=by
 rw[Bool.eq_iff_iff,List.all_eq_true,List.all_eq_true];constructor
 ·intro h i hi;have hi':=List.mem_range.1 hi;have:U.getD i false=U[i]:=(by simp[hi']);rw[this];exact h _ (List.getElem_mem hi')
 ·intro h x hx;obtain⟨i,hi,rfl⟩:=List.getElem_of_mem hx;have:=h i (List.mem_range.2 hi);simpa [hi] using this
theorem aHy (m:Nat) (ks:List Int) (hk:∀ x∈ks,0≤x∧x<(m:Int)):(dC (List.replicate m false) ks).all id=mU m ks:=by
 rw[bBp,jO,List.length_replicate];unfold mU;rw[Bool.eq_iff_iff,List.all_eq_true,List.all_eq_true]
 have key:∀ i,i<m→((dC (List.replicate m false) ks).getD i false=true↔ks.contains (i:Int)=true):=by
  intro i hi;rw[aYu _ _ _ (by simpa using hi)];have:(List.replicate m false).getD i false=false:=(by simp[List.getD,hi]);rw[this,Bool.false_or,List.contains_iff_mem,List.contains_iff_mem,List.mem_map];constructor
  ·rintro⟨x,hx,e⟩;have:=hk x hx;have e2:x=(i:Int):=(by omega);rw[←e2];exact hx
  ·intro hx;exact⟨_,hx,by simp⟩
 exact⟨fun h i hi=>(key i (List.mem_range.1 hi)).1 (h i hi),fun h i hi=>(key i (List.mem_range.1 hi)).2 (h i hi)⟩
def qY (U:List Bool) (k:Nat):Bool:=(U.take k).all id
theorem aGy (U:List Bool) (k:Nat) (h:k<U.length):qY U (k+1)=(qY U k&&U.getD k false):=by
 unfold qY;rw[List.take_add_one,List.all_append];congr 1;simp[h]
theorem aLo (U:List Bool):qY U U.length=U.all id:=by unfold qY;rw[List.take_length]
def tP (l:List OpM) (k:Nat):List Int:=(l.take k).map (·.2.1)
theorem aRu (l:List OpM) (k:Nat) (h:k<l.length):tP l (k+1)=tP l k++[(l.getD k cG).2.1]:=by
 unfold tP;rw[List.take_add_one,List.map_append];congr 1;simp[h]
def aDb (L:List bB) (k:Nat):List Int:=((L.take k).flatMap (·.2.2)).map (·.2.1)
theorem aRv (L:List bB) (k:Nat) (h:k<L.length):aDb L (k+1)=aDb L k++(L.getD k aM).2.2.map (·.2.1):=by
 unfold aDb;rw[List.take_add_one,List.flatMap_append,List.map_append];congr 1;simp[h]
def lC (h:aI) (t:bB):Bool:=bQ h.1.length t&&t.2.2.all (jS h.2.1.length)
theorem aNq (h:aI):cZ h=(mV h&&(h.2.2.all (lC h)&&xU h)):=by
 have e:(h.2.2.all (bQ h.1.length)&&((bU h).all (jS h.2.1.length)))=h.2.2.all (lC h):=by
  unfold bU lC;generalize h.2.2=L
  induction L with
  | nil=>rfl
  | cons t L ih=>
   rw[List.flatMap_cons,List.all_cons,List.all_cons,List.all_append, ←ih];cases bQ h.1.length t<;>cases t.2.2.all (jS h.2.1.length)<;>simp
 unfold cZ;rw[←Bool.and_assoc (h.2.2.all (bQ h.1.length)),e]
end
section
open Go.RowKit Go.Lib
def jY (U:List Bool):List Value:=U.map fun b=>.bool b
theorem aFp (U:List Bool) (j:Nat) (b:Bool):(jY U).set j (.bool b)=jY (U.set j b):=by simp[jY,List.map_set]
theorem sW (U:List Bool) (j:Nat) (h:j<U.length):(jY U)[j]? = some (.bool (U.getD j false)):=by simp[jY,h]
theorem tE {w w':World} (h:Below w.heap.size w w') (row:Option Nat):w.grownBy w' row:=⟨h.os,h.tape,h.output,h.size,fun k hk _=>h.block k hk⟩
theorem cV {a b c:World} {row:Option Nat} (h:a.grownBy b row) (k:b.grownBy c row):a.grownBy c row:=
 ⟨k.os.trans h.os,k.tape.trans h.tape,k.output.trans h.output,Nat.le_trans h.size k.size,fun i hi hne=>(k.block i (Nat.lt_of_lt_of_le hi h.size) hne).trans (h.block i hi hne)⟩
theorem aHl (w:World) (b j:Nat) (v:Value):w.grownBy (w.setCell ⟨b,j,none⟩ v) (some b):=
 ⟨rfl,rfl,rfl,by simp[World.setCell],fun k _ hk=>Below.heap_setCell w _ v k (fun e=>hk (by rw[e]))⟩
theorem jG {w w':World} {row:Nat} {a:Addr} {v:Value} (h:w.cell? a=some v) (hg:w.grownBy w' (some row)) (hne:a.block≠row):w'.cell? a=some v:=hg.cell h (fun e=>hne (Option.some.inj e))
def bJt (w:World) (base gu cu:Nat) (U M:List Bool) (b:Bool) (w':World):Prop:=
 w.grownBy w' (some gu)∧∃ U':List Bool,w'.ownsRow base 4 1 (.slice (some ⟨gu,0,none⟩) U.length cu) U.length (jY U')∧U'.length=U.length∧(b=true→U'=M)
theorem vM {w:World} {base gu cu:Nat} {U M:List Bool} {b:Bool} {w':World} (h1:w.grownBy w' (some gu)) (U':List Bool) (h2:w'.ownsRow base 4 1 (.slice (some ⟨gu,0,none⟩) U.length cu) U.length (jY U')) (h3:U'.length=U.length) (h4:b=true→U'=M):bJt w base gu cu U M b w':=⟨h1,U',h2,h3,h4⟩
set_option maxRecDepth 100000 in
set_option maxHeartbeats 4000000 in
theorem bFc (v0 v1 v2 sv:Value) (S K:List (List UInt8)) (t:bB) (gu cu:Nat) (U:List Bool) (base:Nat) (w:World) (h0:bF w v0 S) (h1:bF w v1 K) (h2:∃ p c n,v2=.slice p n c) (hs:qF w sv t.2.2) (hl:t.2.2.length≤1000)
  (_:K.length≤1000000) (hU:U.length=K.length) (hu:w.ownsRow base 4 1 (.slice (some ⟨gu,0,none⟩) U.length cu) U.length (jY U)) (hne:∀ j,j<t.2.2.length→∀ p n c,sv=.slice (some p) n c→p.block≠gu) :
  Calls Tryz.prog 41 #[.agg #[v0,v1,v2],.agg #[.int .i64 t.1,.int .i64 t.2.1,sv],.slice (some ⟨gu,0,none⟩) U.length cu] w fun e w'=>e=.returned (.bool (bQ S.length t&&t.2.2.all (jS K.length)))∧bJt w base gu cu U (dC U (t.2.2.map (·.2.1))) (bQ S.length t&&t.2.2.all (jS K.length)) w':=by
 obtain⟨p0,c0,rfl,-⟩:=h0;obtain⟨p1,c1,rfl,-⟩:=h1;obtain⟨p2,c2,n2,rfl⟩:=h2;obtain⟨ps,cs,rfl,-,ho⟩:=hs;obtain⟨s,f,tl⟩:=t;simp only at ho hl hne;have HO:=lhid ho;have HNE:=lhid hne;have hU1:U.length≤K.length:=(by omega);have hU2:K.length≤U.length:=(by omega);clear hU;have gw:gu<w.heap.size:=(hu.lt gu rfl).2;have hbx:w.grownBy ((w.alloc (.cells #[.slice p0 S.length c0,.slice p1 K.length c1,.slice p2 n2 c2] 25)).alloc (.cells #[.int .i64 s,.int .i64 f,.slice ps tl.length cs] 67)) (some gu):=cV (World.grownBy_alloc _ _ _) (World.grownBy_alloc _ _ _);have hux:=(hu.alloc (.cells #[.slice p0 S.length c0,.slice p1 K.length c1,.slice p2 n2 c2] 25)).alloc (.cells #[.int .i64 s,.int .i64 f,.slice ps tl.length cs] 67);have b0:=(Blk.new w 25 [.slice p0 S.length c0,.slice p1 K.length c1,.slice p2 n2 c2]).alloc (.cells #[.int .i64 s,.int .i64 f,.slice ps tl.length cs] 67);have b1:=Blk.new (w.alloc (.cells #[.slice p0 S.length c0,.slice p1 K.length c1,.slice p2 n2 c2] 25)) 67 [.int .i64 s,.int .i64 f,.slice ps tl.length cs];simp only[World.size_alloc] at b1;have HBX:=lhid hbx;have HUX:=lhid hux;have B0:=lhid b0;have B1:=lhid b1;clear ho hne hbx hux b0 b1 hu
 -- the five tests ahead of the loop
 by_cases g1:s<0
 ·have hok:bQ S.length (s,f,tl)=false:=by
   rw[Bool.eq_false_iff];simp only[bQ,dV,ne_eq,Bool.and_eq_true,decide_eq_true_eq];omega
  rw[hok,Bool.false_and];clear hok;go_enter Tryz.func41,Tryz.ntmps41;(go_wp2_with fail);go_ret;exact⟨rfl,vM HBX.out U HUX.out rfl (fun h=>by cases h)⟩
 by_cases g2:(S.length:Int)≤s
 ·have hok:bQ S.length (s,f,tl)=false:=by
   rw[Bool.eq_false_iff];simp only[bQ,dV,ne_eq,Bool.and_eq_true,decide_eq_true_eq];omega
  rw[hok,Bool.false_and];clear hok;go_enter Tryz.func41,Tryz.ntmps41;(go_wp2_with fail);go_ret;exact⟨rfl,vM HBX.out U HUX.out rfl (fun h=>by cases h)⟩
 by_cases g3:f<1
 ·have hok:bQ S.length (s,f,tl)=false:=by
   rw[Bool.eq_false_iff];simp only[bQ,dV,ne_eq,Bool.and_eq_true,decide_eq_true_eq];omega
  rw[hok,Bool.false_and];clear hok;go_enter Tryz.func41,Tryz.ntmps41;(go_wp2_with fail);go_ret;exact⟨rfl,vM HBX.out U HUX.out rfl (fun h=>by cases h)⟩
 by_cases g4:3<f
 ·have hok:bQ S.length (s,f,tl)=false:=by
   rw[Bool.eq_false_iff];simp only[bQ,dV,ne_eq,Bool.and_eq_true,decide_eq_true_eq];omega
  rw[hok,Bool.false_and];clear hok;go_enter Tryz.func41,Tryz.ntmps41;(go_wp2_with fail);go_ret;exact⟨rfl,vM HBX.out U HUX.out rfl (fun h=>by cases h)⟩
 by_cases g5:20<tl.length
 ·have hok:bQ S.length (s,f,tl)=false:=by
   rw[Bool.eq_false_iff];simp only[bQ,dV,ne_eq,Bool.and_eq_true,decide_eq_true_eq];omega
  rw[hok,Bool.false_and];clear hok;go_enter Tryz.func41,Tryz.ntmps41;(go_wp2_with fail);go_ret;exact⟨rfl,vM HBX.out U HUX.out rfl (fun h=>by cases h)⟩
 have hok:bQ S.length (s,f,tl)=true:=by
  simp only[bQ,dV,Bool.and_eq_true,decide_eq_true_eq];omega
 rw[hok,Bool.true_and];clear hok;go_enter Tryz.func41,Tryz.ntmps41;go_wp2_with fail
 go_loopw [7] (fun i wr=>∃ k:Nat,k≤tl.length∧i=.int .i64 k∧(∀ j,j<k→jS K.length (tl.getD j cG)=true)∧wr.ownsRow base 4 1 (.slice (some ⟨gu,0,none⟩) U.length cu) U.length (jY (dC U (tP tl k)))∧((w.alloc (.cells #[.slice p0 S.length c0,.slice p1 K.length c1,.slice p2 n2 c2] 25)).alloc (.cells #[.int .i64 s,.int .i64 f,.slice ps tl.length cs] 67)).grownBy wr (some gu)) (fun i _=>tl.length-(intOf i).toNat)
 case atStart=>exact⟨0,Nat.zero_le _,rfl,fun j hj=>absurd hj (Nat.not_lt_zero j),HUX.out,World.grownBy.refl _ _⟩
 case round=>
  obtain⟨k,hk,rfl,hn,hown,hg⟩:=hrel;have y0:=B0.out.kept hg (fun e=>by have:=Option.some.inj e;omega);have y1:=B1.out.kept hg (fun e=>by have:=Option.some.inj e;omega);have x1:=y0.cell 1 rfl;have x2:=y1.cell 2 rfl;have hz0:w.heap.size<wr.heap.size:=y0.lt;have hz1:w.heap.size+1<wr.heap.size:=y1.lt;have HN:=lhid hn;have hgw:=cV HBX.out hg;clear y0 y1 hn;by_cases hk1:k<tl.length
  ·obtain⟨g,rfl,o0,o1,o2,o3⟩:=HO.out k hk1;have hgn:g≠gu:=HNE.out k hk1 _ _ _ rfl;have a0:=jG o0 hgw hgn;have a1:=jG o1 hgw hgn;have a2:=jG o2 hgw hgn;have a3:=jG o3 hgw hgn;have hkn:=aRu tl k hk1
   have HNo:Hid (jS K.length (tl.getD k cG)=false→tl.all (jS K.length)=false):=lhid (fun hf=>by
    rw[List.all_eq_false];refine⟨tl.getD k cG,?_,by rw[hf];exact Bool.false_ne_true⟩;have:tl.getD k cG=tl[k]:=(by simp[hk1]);rw[this]
    exact List.getElem_mem hk1)
   have HYes:Hid (jS K.length (tl.getD k cG)=true→∀ j,j<k+1→jS K.length (tl.getD j cG)=true):=lhid (fun h j hj=>by
    by_cases hjk:j<k
    ·exact HN.out j hjk
    ·obtain rfl:j=k:=by omega
     exact h)
   obtain⟨o,hoo⟩:∃ o,tl.getD k cG=o:=⟨_,rfl⟩;rw[hoo] at a0 a1 a2 a3 hkn HNo HYes;obtain⟨ow,ok,od,on⟩:=o;simp only at a0 a1 a2 a3 hkn;have HKN:=lhid hkn;clear o0 o1 o2 o3 hoo hkn HO;by_cases q1:ok<0
   ·have hf:jS K.length (ow,ok,od,on)=false:=by
     rw[Bool.eq_false_iff];simp only[jS,dV,ne_eq,Bool.and_eq_true,decide_eq_true_eq];omega
    have HF:=lhid (HNo.out hf);clear hf;(go_wp2_with fail);go_ret;rw[HF.out];exact⟨rfl,vM (cV hgw (World.grownBy_alloc _ _ _)) _ (hown.alloc _) (jO _ _) (fun h=>by cases h)⟩
   by_cases q2:(K.length:Int)≤ok
   ·have hf:jS K.length (ow,ok,od,on)=false:=by
     rw[Bool.eq_false_iff];simp only[jS,dV,ne_eq,Bool.and_eq_true,decide_eq_true_eq];omega
    have HF:=lhid (HNo.out hf);clear hf;(go_wp2_with fail);go_ret;rw[HF.out];exact⟨rfl,vM (cV hgw (World.grownBy_alloc _ _ _)) _ (hown.alloc _) (jO _ _) (fun h=>by cases h)⟩
   have hin:dV ok K.length=true:=by
    simp only[dV,Bool.and_eq_true,decide_eq_true_eq];omega
   have HOK:Hid (jS K.length (ow,ok,od,on)=(kW od on&&(!ow||od==1))):=lhid (by simp only[jS];rw[hin,Bool.true_and]);obtain⟨nk,rfl⟩:=Int.eq_ofNat_of_zero_le (show(0:Int)≤ok by omega);have hnk:nk<U.length:=(by omega);have hml:(dC U (tP tl k)).length=U.length:=jO _ _;have ox:=Blk.new wr 82 [.bool ow,.int .i64 (nk:Int),.int .i64 od,.int .i64 on];have HX:=lhid ox;have HMay:=lhid (bAb od on (wr.alloc (.cells #[.bool ow,.int .i64 (nk:Int),.int .i64 od,.int .i64 on] 82)));have HG:=lhid hgw;have HG1:=lhid hg;clear hin ox hgw hg
   cases hv:kW od on with
   | false=>
    rw[hv] at HMay HOK;have HF:=lhid (HNo.out (by rw[HOK.out];rfl));clear hv;(go_wp2_with fail);refine HMay.out.mono ?_;rintro e w3 ⟨rfl,hb3⟩;have hown3:=aS (hown.alloc _) hb3;have HG3:=lhid (cV (cV HG.out (World.grownBy_alloc _ _ _)) (tE hb3 _));clear hb3 hown;(go_wp2_with fail);go_ret;rw[HF.out];exact⟨rfl,vM HG3.out _ hown3 (jO _ _) (fun h=>by cases h)⟩
   | true=>
    rw[hv,Bool.true_and] at HOK;rw[hv] at HMay;clear hv;by_cases q3:ow=true∧od≠1
    ·obtain⟨rfl,q4⟩:=q3;have q5:(od==1)=false:=beq_eq_false_iff_ne.2 q4;have q6:(od != 1)=true:=bne_iff_ne.2 q4;have HF:=lhid (HNo.out (by rw[HOK.out,q5];rfl));clear q4;(go_wp2_with fail);refine HMay.out.mono ?_;rintro e w3 ⟨rfl,hb3⟩;have hown3:=aS (hown.alloc _) hb3;have xx:=HX.out.later hb3;have z0:=xx.cell 0 rfl;have z1:=xx.cell 1 rfl;have z2:=xx.cell 2 rfl;have HG3:=lhid (cV (cV HG.out (World.grownBy_alloc _ _ _)) (tE hb3 _));clear hb3 hown xx;(go_wp2_with fail);go_ret;rw[HF.out];exact⟨rfl,vM HG3.out _ hown3 (jO _ _) (fun h=>by cases h)⟩
    ·have hyes:jS K.length (ow,(nk:Int),od,on)=true:=by
      rw[HOK.out]
      cases ow with
      | false=>rfl
      | true=>
       by_cases e:od=1
       ·rw[e];rfl
       ·exact absurd ⟨rfl,e⟩ q3
     have HY:=lhid (HYes.out hyes)
     have q7:ow=false∨(ow=true∧od=1):=by
      cases ow with
      | false=>exact .inl rfl
      | true=>
       by_cases e:od=1
       ·exact .inr ⟨rfl,e⟩
       ·exact absurd ⟨rfl,e⟩ q3
     clear q3 hyes;rcases q7 with rfl | ⟨rfl,rfl⟩
     all_goals
      (go_wp2_with fail);refine HMay.out.mono ?_;rintro e w3 ⟨rfl,hb3⟩;have hown3:=aS (hown.alloc _) hb3;have xx:=HX.out.later hb3;have z0:=xx.cell 0 rfl;have z1:=xx.cell 1 rfl;have z2:=xx.cell 2 rfl
      have r1:w3.cell? ⟨gu,nk,none⟩=some (.bool ((dC U (tP tl k)).getD nk false)):=by
       rw[hown3.cellAt nk (by omega)];exact sW _ _ (by omega)
      have r2:=hown3.frozenAt nk;generalize (dC U (tP tl k)).getD nk false=old at r1;have hst:=hown3.stored nk (.bool true);rw[aFp,show(dC U (tP tl k)).set nk true=dC U (tP tl (k+1)) by rw[HKN.out,aDs];rfl] at hst;have HST:=lhid hst.1;have HG3:=lhid (cV (cV (cV HG1.out (World.grownBy_alloc _ _ _)) (tE hb3 _)) (aHl w3 gu nk (.bool true)));have hu1:(nk:Int)<(U.length:Int):=(by omega);clear hb3 hown xx hown3 hst;(go_wp2_with fail);go_roundw
      case rel=>exact⟨k+1,by omega,by go_num,HY.out,HST.out,HG3.out⟩
      case measure=>simp[intOf];omega
  ·have hke:k=tl.length:=by omega
   have hall:tl.all (jS K.length)=true:=by
    rw[List.all_eq_true];intro x hx;obtain⟨j,hj,e⟩:=List.getElem_of_mem hx;have:=HN.out j (by omega);simpa [hj,e] using this
   have hmk:dC U (tP tl k)=dC U (tl.map (·.2.1)):=(by rw[hke,tP,List.take_length]);have HA:=lhid hall;have HMK:=lhid hmk;clear hall hmk;(go_wp2_with fail);go_ret;rw[HA.out];exact⟨rfl,vM hgw _ hown (jO _ _) (fun _=>HMK.out)⟩
end
section
open Go.RowKit Go.Lib
theorem uP (L:List (List UInt8)) (k:Nat) (hs:∀ x∈L,x.length≤1000000):(L.getD k []).length≤1000000:=by
 by_cases h:k<L.length
 ·exact hs _ (aMl L k h)
 ·rw[List.getD_eq_getElem?_getD,List.getElem?_eq_none (by omega)];simp
set_option maxRecDepth 100000 in
set_option maxHeartbeats 2000000 in
theorem aOw (w:World) (v:Value) (L:List (List UInt8)) (hv:bF w v L) (hL:L.length≤1000000) (hs:∀ x∈L,x.length≤1000000) :
  Calls Tryz.prog 40 #[v] w fun e w'=>e=.returned (.bool (isT L))∧Below w.heap.size w w':=by
 obtain⟨p,c,rfl,hp⟩:=hv;have HX:=lhid hp;have HS:=lhid hs;have HA:=lhid (bDc L);have HZ:=lhid (aAz L);obtain⟨R,hR⟩:∃ R,isT L=R:=⟨_,rfl⟩;rw[hR] at HA HZ ⊢;clear hp hs hR;go_enter Tryz.func40,Tryz.ntmps40;go_wp2_with fail
 go_loopw [3] (fun i wr=>∃ k:Nat,k≤L.length∧i=.int .i64 k∧(∀ j,j<k→oX L j=true)∧Below w.heap.size w wr) (fun i _=>L.length-(intOf i).toNat)
 case atStart=>exact⟨0,Nat.zero_le _,rfl,fun j hj=>absurd hj (Nat.not_lt_zero j),Below.refl _ _⟩
 case round=>
  obtain⟨k,hk,rfl,hn,hbw⟩:=hrel;have HN:=lhid hn;clear hn;by_cases hlt:k<L.length
  ·have hstep:oX L k=true→∀ j,j<k+1→oX L j=true:=fun hg j hj=>by
    by_cases hjk:j<k
    ·exact HN.out j hjk
    ·obtain rfl:j=k:=(by omega);exact hg
   have HStep:=lhid hstep;have HNo:=lhid (HA.out k hlt);clear hstep
   cases k with
   | zero=>
    obtain⟨g,rfl,hc⟩:=HX.out 0 hlt;have HI:=lhid (aVq (L.getD 0 []) (uP L 0 HS.out));have hg0:=sG L;obtain⟨x,hx⟩:∃ x,L.getD 0 []=x:=⟨_,rfl⟩;rw[hx] at hc HI hg0;have c3:decide ((0:Int)<0)=false:=(by decide);clear hx
    cases hnx:bA x with
    | false=>
     rw[hnx] at HI hg0;have H1:=lhid (HNo.out hg0);clear hnx hg0;(go_wp2_with fail);have hq0:∀ m:cR wr,m.w.cell? ⟨g,0,none⟩=some (.string (bs x)):=fun m=>cell_later m.h (cell_later hbw hc);refine cD (by kernel_rfl) (by kernel_rfl) ?_;(repeat (go_big_quiet_step (first | (go_at_call 60;exact cR.call (HI.out _)))));refine wpQuiet_nil ?_;intro _ hw';obtain⟨⟨w3,hb3⟩,hw''⟩:=hw';have hw3:w3=_:=hw''.symm;subst hw3;(try dsimp only at hb3);(go_wp2_with fail);go_ret;exact⟨by rw[H1.out];rfl,aB hbw hb3⟩
    | true=>
     rw[hnx] at HI hg0;have H1:=lhid (HStep.out hg0);have hwr:IntKind.i64.wrap 1=1:=(by decide);clear hnx hg0;(go_wp2_with fail);have hq0:∀ m:cR wr,m.w.cell? ⟨g,0,none⟩=some (.string (bs x)):=fun m=>cell_later m.h (cell_later hbw hc);refine cD (by kernel_rfl) (by kernel_rfl) ?_;(repeat (go_big_quiet_step (first | (go_at_call 60;exact cR.call (HI.out _)))));refine wpQuiet_nil ?_;intro _ hw';obtain⟨⟨w3,hb3⟩,hw''⟩:=hw';have hw3:w3=_:=hw''.symm;subst hw3;(try dsimp only at hb3);(go_wp2_with fail);go_roundw
     case rel=>exact⟨1,by omega,rfl,H1.out,aB hbw hb3⟩
     case measure=>simp[intOf];omega
   | succ q=>
    obtain⟨g,rfl,hc⟩:=HX.out (q+1) hlt;obtain⟨g',hg',hd⟩:=HX.out q (by omega);obtain rfl:g=g':=(by simpa using hg');have HI:=lhid (aVq (L.getD (q+1) []) (uP L (q+1) HS.out));have HL:=lhid (aZy (L.getD q []) (L.getD (q+1) []) (uP L q HS.out) (uP L (q+1) HS.out));have hg0:=qJ L q;have hlt0:ltN (L.getD q []) (L.getD (q+1) [])=bE (aQ (L.getD q [])) (aQ (L.getD (q+1) [])):=rfl;obtain⟨x,hx⟩:∃ x,L.getD (q+1) []=x:=⟨_,rfl⟩;obtain⟨y,hy⟩:∃ y,L.getD q []=y:=⟨_,rfl⟩;rw[hx] at hc HI HL hg0 hlt0;rw[hy] at hd HL hg0 hlt0;rw[←hlt0] at HL;have c3:decide ((0:Int)<(q:Int)+1)=true:=decide_eq_true (by omega);clear hx hy hlt0 hg'
    cases hnx:bA x with
    | false=>
     rw[hnx] at HI hg0;have H1:=lhid (HNo.out hg0);clear hnx hg0;(go_wp2_with fail);have hq0:∀ m:cR wr,m.w.cell? ⟨g,q+1,none⟩=some (.string (bs x)):=fun m=>cell_later m.h (cell_later hbw hc);have hq1:∀ m:cR wr,m.w.cell? ⟨g,q,none⟩=some (.string (bs y)):=fun m=>cell_later m.h (cell_later hbw hd);refine cD (by kernel_rfl) (by kernel_rfl) ?_;(repeat (go_big_quiet_step (first | (go_at_call 60;exact cR.call (HI.out _)))));refine wpQuiet_nil ?_;intro _ hw';obtain⟨⟨w3,hb3⟩,hw''⟩:=hw';have hw3:w3=_:=hw''.symm;subst hw3;(try dsimp only at hb3);(go_wp2_with fail);go_ret;exact⟨by rw[H1.out];rfl,aB hbw hb3⟩
    | true=>
     rw[hnx,Bool.true_and] at hg0;rw[hnx] at HI
     cases hl:ltN y x with
     | false=>
      rw[hl] at HL hg0;have H1:=lhid (HNo.out hg0);clear hnx hg0 hl;(go_wp2_with fail);have hq0:∀ m:cR wr,m.w.cell? ⟨g,q+1,none⟩=some (.string (bs x)):=fun m=>cell_later m.h (cell_later hbw hc);have hq1:∀ m:cR wr,m.w.cell? ⟨g,q,none⟩=some (.string (bs y)):=fun m=>cell_later m.h (cell_later hbw hd);refine cD (by kernel_rfl) (by kernel_rfl) ?_;(repeat (go_big_quiet_step (first | (go_at_call 60;exact cR.call (HI.out _)) | (go_at_call 61;exact cR.call (HL.out _)))));refine wpQuiet_nil ?_;intro _ hw';obtain⟨⟨w3,hb3⟩,hw''⟩:=hw';have hw3:w3=_:=hw''.symm;subst hw3;(try dsimp only at hb3);(go_wp2_with fail);go_ret;exact⟨by rw[H1.out];rfl,aB hbw hb3⟩
     | true=>
      rw[hl] at HL hg0;have H1:=lhid (HStep.out hg0);have hwr:IntKind.i64.wrap ((q:Int)+1+1)=(q:Int)+1+1:=IntWalk.i64_in _ (by omega);clear hnx hg0 hl;(go_wp2_with fail);have hq0:∀ m:cR wr,m.w.cell? ⟨g,q+1,none⟩=some (.string (bs x)):=fun m=>cell_later m.h (cell_later hbw hc);have hq1:∀ m:cR wr,m.w.cell? ⟨g,q,none⟩=some (.string (bs y)):=fun m=>cell_later m.h (cell_later hbw hd);refine cD (by kernel_rfl) (by kernel_rfl) ?_;(repeat (go_big_quiet_step (first | (go_at_call 60;exact cR.call (HI.out _)) | (go_at_call 61;exact cR.call (HL.out _)))));refine wpQuiet_nil ?_;intro _ hw';obtain⟨⟨w3,hb3⟩,hw''⟩:=hw';have hw3:w3=_:=hw''.symm;subst hw3;(try dsimp only at hb3);(go_wp2_with fail);go_roundw
      case rel=>exact⟨q+1+1,by omega,by go_num,H1.out,aB hbw hb3⟩
      case measure=>simp[intOf];omega
  ·have hke:k=L.length:=(by omega);subst hke;have H1:=lhid (HZ.out HN.out);(go_wp2_with fail);go_ret;exact⟨by rw[H1.out];rfl,hbw⟩
end
section
open Go.RowKit Go.Lib
set_option maxRecDepth 100000 in
set_option maxHeartbeats 4000000 in
theorem aTg (v0 v1 v2:Value) (h:aI) (w:World) (h0:bF w v0 h.1) (h1:bF w v1 h.2.1) (h2:kM w v2 h.2.2) (hm:cU h) :
  Calls Tryz.prog 26 #[.agg #[v0,v1,v2]] w fun e w'=>∃ v',e=.returned v'∧qC w' v' (jH (aP) h.2.2 h.2.2.length)∧Below w.heap.size w w':=by
 obtain⟨p2,c2,rfl,hp⟩:=h2;obtain⟨p0,c0,rfl,-⟩:=h0;obtain⟨p1,c1,rfl,-⟩:=h1;have HX:=lhid hp;have m3:h.2.2.length≤1000:=hm.2.2.1;obtain⟨i0,hi,hz0,hz1,hz2⟩:=info_parts xD;have b0:=Blk.new w 25 [.slice p0 h.1.length c0,.slice p1 h.2.1.length c1,.slice p2 h.2.2.length c2];have hb0:Below w.heap.size w (w.alloc (.cells #[.slice p0 h.1.length c0,.slice p1 h.2.1.length c1,.slice p2 h.2.2.length c2] 25)):=(Below.refl _ w).alloc (Nat.le_refl _) _;have HB0:=lhid hb0;have B0:=lhid b0;have hown0:=World.ownsRow_made (base:=w.heap.size+1) (size:=1) (e:=3) (w.alloc (.cells #[.slice p0 h.1.length c0,.slice p1 h.2.1.length c1,.slice p2 h.2.2.length c2] 25)) #[] 0 (by simp) (Nat.zero_le _) rfl;have hbs0:Below (w.heap.size+1) (w.alloc (.cells #[.slice p0 h.1.length c0,.slice p1 h.2.1.length c1,.slice p2 h.2.2.length c2] 25)) ((w.alloc (.cells #[.slice p0 h.1.length c0,.slice p1 h.2.1.length c1,.slice p2 h.2.2.length c2] 25)).alloc (.cells #[] 3)):=(Below.refl _ _).alloc (by simp) _;simp only[World.size_alloc] at hown0;clear hp hm b0 hb0;go_enter Tryz.func26,Tryz.ntmps26;(go_wp2_with fail);have hS0:(w.alloc (.cells #[.slice p0 h.1.length c0,.slice p1 h.2.1.length c1,.slice p2 h.2.2.length c2] 25)).heap.size=w.heap.size+1:=World.size_alloc _ _;have HS0:=lhid hS0;clear hS0;generalize (w.alloc (.cells #[.slice p0 h.1.length c0,.slice p1 h.2.1.length c1,.slice p2 h.2.2.length c2] 25))=W0 at *
 go_loopw [3,4] (fun l i wr=>∃ k:Nat,k≤h.2.2.length∧i=.int .i64 k∧wr.ownsRow (w.heap.size+1) 3 1 l (jH (aP) h.2.2 k).length (mG (jH (aP) h.2.2 k))∧Below (w.heap.size+1) W0 wr) (fun _ i _=>h.2.2.length-(intOf i).toNat)
 case atStart=>exact⟨0,Nat.zero_le _,rfl,hown0,hbs0⟩
 case round=>
  obtain⟨k,hk,rfl,hown,hbw⟩:=hrel;have hsz:=hbw.size;rw[HS0.out] at hsz;have x2:=(B0.out.below hbw (by omega)).cell 2 rfl;by_cases hk1:k<h.2.2.length
  ·obtain⟨g,sv,rfl,a1,a2,a3,-⟩:=HX.out k hk1;have hbwx:=HB0.out.trans (hbw.mono (by omega));have a1':=cell_later hbwx a1;have a2':=cell_later hbwx a2;have hnx:=uQ (aP) h.2.2 k;have hil:=xC (aP) h.2.2 k;obtain⟨I,hI⟩:∃ I,jH (aP) h.2.2 k=I:=⟨_,rfl⟩;rw[hI] at hown hnx hil;obtain⟨t,ht⟩:∃ t,h.2.2.getD k aM=t:=⟨_,rfl⟩;rw[ht] at a1' a2' hnx;obtain⟨t1,t2,t3⟩:=t;simp only at a1' a2' hnx;have HN:Hid ((aP) (t1,t2,t3)=true→jH (aP) h.2.2 (k+1)=I++[(k:Int)]):=lhid (fun e=>by rw[hnx,if_pos e]);have HF:Hid ((aP) (t1,t2,t3)=false→jH (aP) h.2.2 (k+1)=I):=lhid (fun e=>by rw[hnx,if_neg (by rw[e];exact Bool.false_ne_true)]);clear a1 a2 a3 ht hI hnx hbwx;by_cases hc:t2=3
   ·have hcb:((aP) (t1,t2,t3))=true:=beq_iff_eq.2 hc;have HN2:=lhid (HN.out hcb);have hcc:(t2==3)=true:=beq_iff_eq.2 hc;clear hcb hc HN HF;(go_wp2_with (at_builtin;refine wpList_append_own _ rfl _ _ 49 rfl (w.heap.size+1) 3 i0 (.int .i64 0) 1 8 Tryz.underlying49 hi hz0 hz1 hz2 rfl (by decide) _ _ _ rfl (hown.alloc _) ⟨wr.heap.size,0,none⟩ 1 1 [.int .i64 (k:Nat)] rfl rfl (aDx _ _ _) (aEa _) (by unfold maxLen;omega) (by omega) (by simp;omega) ?_));intro v4 w4 hown4 hgrow hnil;have hb4:Below (w.heap.size+1) W0 w4:=(hbw.alloc (by omega) _).grown hgrow (by simp;omega) (fun k hk=>(hown.lt k hk).1);have HO:Hid (w4.ownsRow (w.heap.size+1) 3 1 v4 (jH (aP) h.2.2 (k+1)).length (mG (jH (aP) h.2.2 (k+1)))):=lhid (by rw[HN2.out, ←wQ,List.length_append];exact hown4);clear hown4 hgrow hnil hown hbw;(go_wp2_with fail);go_roundw
    case rel=>exact⟨k+1,by omega,by go_num,HO.out,hb4⟩
    case measure=>simp[intOf];omega
   ·have hcb:((aP) (t1,t2,t3))=false:=beq_eq_false_iff_ne.2 hc;have HN2:=lhid (HF.out hcb);have hcc:(t2==3)=false:=beq_eq_false_iff_ne.2 hc;clear hcb hc HN HF;(go_wp2_with fail);go_roundw
    case rel=>exact⟨k+1,by omega,by go_num,by rw[HN2.out];exact hown,hbw⟩
    case measure=>simp[intOf];omega
  ·have hke:k=h.2.2.length:=(by omega);subst hke;have HO:=lhid (bUb hown);have hbwx:=HB0.out.trans (hbw.mono (by omega));clear hown;(go_wp2_with fail);go_ret;exact⟨_,rfl,HO.out,hbwx⟩
set_option maxRecDepth 100000 in
set_option maxHeartbeats 4000000 in
theorem aZz (v0 v1 v2:Value) (h:aI) (w:World) (h0:bF w v0 h.1) (h1:bF w v1 h.2.1) (h2:kM w v2 h.2.2) (hm:cU h) :
  Calls Tryz.prog 27 #[.agg #[v0,v1,v2]] w fun e w'=>∃ v',e=.returned v'∧nK w' v' (bY (itH h.2.2 h.2.2.length))∧Below w.heap.size w w':=by
 obtain⟨p2,c2,rfl,hp⟩:=h2;obtain⟨p0,c0,rfl,-⟩:=h0;obtain⟨p1,c1,rfl,-⟩:=h1;have HX:=lhid hp;have HM:=lhid hm;have m3:h.2.2.length≤1000:=hm.2.2.1;have HN0:=lhid (aBb h.2.2 hm.2.2.2.2.2 h.2.2.length (Nat.le_refl _));obtain⟨i0,hi,hz0,hz1,hz2⟩:=info_parts aCw;have b0:=Blk.new w 25 [.slice p0 h.1.length c0,.slice p1 h.2.1.length c1,.slice p2 h.2.2.length c2];have hb0:Below w.heap.size w (w.alloc (.cells #[.slice p0 h.1.length c0,.slice p1 h.2.1.length c1,.slice p2 h.2.2.length c2] 25)):=(Below.refl _ w).alloc (Nat.le_refl _) _;have HB0:=lhid hb0;have B0:=lhid b0;have hown0:=World.ownsRow_made (base:=w.heap.size+1) (size:=2) (e:=70) (w.alloc (.cells #[.slice p0 h.1.length c0,.slice p1 h.2.1.length c1,.slice p2 h.2.2.length c2] 25)) #[] 0 (by simp) (Nat.zero_le _) rfl;have hbs0:Below (w.heap.size+1) (w.alloc (.cells #[.slice p0 h.1.length c0,.slice p1 h.2.1.length c1,.slice p2 h.2.2.length c2] 25)) ((w.alloc (.cells #[.slice p0 h.1.length c0,.slice p1 h.2.1.length c1,.slice p2 h.2.2.length c2] 25)).alloc (.cells #[] 70)):=(Below.refl _ _).alloc (by simp) _;simp only[World.size_alloc] at hown0;clear hp hm b0 hb0;go_enter Tryz.func27,Tryz.ntmps27;(go_wp2_with fail);have hS0:(w.alloc (.cells #[.slice p0 h.1.length c0,.slice p1 h.2.1.length c1,.slice p2 h.2.2.length c2] 25)).heap.size=w.heap.size+1:=World.size_alloc _ _;have HS0:=lhid hS0;clear hS0;generalize (w.alloc (.cells #[.slice p0 h.1.length c0,.slice p1 h.2.1.length c1,.slice p2 h.2.2.length c2] 25))=W0 at *
 go_loopw [3,4] (fun l i wr=>∃ k:Nat,k≤h.2.2.length∧i=.int .i64 k∧wr.ownsRow (w.heap.size+1) 70 2 l (bY (itH h.2.2 k)).length (gJ (bY (itH h.2.2 k)))∧Below (w.heap.size+1) W0 wr) (fun _ i _=>h.2.2.length-(intOf i).toNat)
 case atStart=>exact⟨0,Nat.zero_le _,rfl,hown0,hbs0⟩
 case round=>
  obtain⟨k,hk,rfl,hown,hbw⟩:=hrel;have hsz:=hbw.size;rw[HS0.out] at hsz;have x2:=(B0.out.below hbw (by omega)).cell 2 rfl;obtain⟨wo,rfl⟩:∃ wo:World,wo=wr:=⟨_,rfl⟩;by_cases hk1:k<h.2.2.length
  ·obtain⟨g,sv,rfl,a1,a2,a3,⟨p3,c3,rfl,-,ho⟩⟩:=HX.out k hk1;have HO:=lhid ho;have HS:=lhid (oD h.2.2 k);have HLT:=lhid (fun j=>bMo h.2.2 k j hk1)
   have hm4:(h.2.2.getD k aM).2.2.length≤1000:=HM.out.2.2.2.2.2 _ (by
    have:h.2.2.getD k aM=h.2.2[k]:=(by simp[hk1]);rw[this]
    exact List.getElem_mem hk1)
   obtain⟨tl,htl⟩:∃ tl,(h.2.2.getD k aM).2.2=tl:=⟨_,rfl⟩;rw[htl] at a3 HO HS HLT hm4;obtain⟨P0,hP0⟩:∃ P0,itH h.2.2 k=P0:=⟨_,rfl⟩;rw[hP0] at hown HS HLT;have A3:=lhid a3;clear a1 a2 a3 ho htl hP0;go_wp2_with fail
   go_loopw [3,5] (fun l j wr=>∃ m:Nat,m≤tl.length∧j=.int .i64 m∧wr.ownsRow (w.heap.size+1) 70 2 l (bY (P0++itT k tl m)).length (gJ (bY (P0++itT k tl m)))∧Below (w.heap.size+1) W0 wr) (fun _ j _=>tl.length-(intOf j).toNat)
   case atStart=>exact⟨0,Nat.zero_le _,rfl,by simpa [itT] using hown,hbw⟩
   case round=>
    obtain⟨m,hml,rfl,hown,hbw⟩:=hrel;have hsz:=hbw.size;rw[HS0.out] at hsz;have x2:=(B0.out.below hbw (by omega)).cell 2 rfl;have hbwx:=HB0.out.trans (hbw.mono (by omega));have a3':=cell_later hbwx A3.out;by_cases hm1:m<tl.length
    ·obtain⟨g2,rfl,q0,q1,q2,q3⟩:=HO.out m hm1;have q2':=cell_later hbwx q2;have hls:=aDm (P0++itT k tl m) ((k,m),tl.getD m cG);have hlt:=HLT.out m hm1;have hll:=yX (P0++itT k tl m);have hn0:=HN0.out;rw[List.append_assoc, ←xF] at hls;obtain⟨o,ho⟩:∃ o,tl.getD m cG=o:=⟨_,rfl⟩;rw[ho] at q2' hls;obtain⟨ow,ok,od,on⟩:=o;simp only at q2' hls;obtain⟨I,hI⟩:∃ I,bY (P0++itT k tl m)=I:=⟨_,rfl⟩;rw[hI] at hown hls hll;have hIl:I.length≤1000000:=(by omega);have HN:Hid (od=2→bY (P0++itT k tl (m+1))=I++[(k,m)]):=lhid (fun e=>by rw[hls,if_pos (beq_iff_eq.2 e)]);have HF:Hid (od≠2→bY (P0++itT k tl (m+1))=I):=lhid (fun e=>by rw[hls,if_neg (by rw[beq_eq_false_iff_ne.2 e];exact Bool.false_ne_true)]);clear q0 q1 q2 q3 ho hI hls hll hlt hn0 hbwx;by_cases hc:od=2
     ·have HN2:=lhid (HN.out hc);subst hc;clear HN HF;(go_wp2_with (at_builtin;refine wpList_append_own _ rfl _ _ 51 rfl (w.heap.size+1) 70 i0 (.agg #[.int .i64 0,.int .i64 0]) 2 16 Tryz.underlying51 hi hz0 hz1 hz2 rfl (by decide) _ _ _ rfl (hown.alloc _) ⟨wr.heap.size,0,none⟩ 1 1 [.int .i64 (k:Nat),.int .i64 (m:Nat)] rfl rfl (dB _ _ _ _ rfl) (by intro u hu;simp at hu;rcases hu with rfl | rfl<;>rfl) (by unfold maxLen;omega) (by omega) (by simp;omega) ?_));intro v4 w4 hown4 hgrow hnil;have hb4:Below (w.heap.size+1) W0 w4:=(hbw.alloc (by omega) _).grown hgrow (by simp;omega) (fun k hk=>(hown.lt k hk).1);have HO4:Hid (w4.ownsRow (w.heap.size+1) 70 2 v4 (bY (P0++itT k tl (m+1))).length (gJ (bY (P0++itT k tl (m+1))))):=lhid (by rw[HN2.out,List.length_append,gJ,List.flatMap_append];exact hown4);clear hown4 hgrow hnil hown hbw;(go_wp2_with fail);go_roundw
      case rel=>exact⟨m+1,by omega,by go_num,HO4.out,hb4⟩
      case measure=>simp[intOf];omega
     ·have HN2:=lhid (HF.out hc);have hcc:(od==2)=false:=beq_eq_false_iff_ne.2 hc;clear hc HN HF;(go_wp2_with fail);go_roundw
      case rel=>exact⟨m+1,by omega,by go_num,by rw[HN2.out];exact hown,hbw⟩
      case measure=>simp[intOf];omega
    ·obtain rfl:m=tl.length:=(by omega);have HOW:=lhid hown;clear hown hbwx;(go_wp2_with fail);go_roundw
     case rel=>exact⟨k+1,by omega,by go_num,by rw[HS.out];exact HOW.out,hbw⟩
     case measure=>simp[intOf];omega
  ·have hke:k=h.2.2.length:=(by omega);subst hke;have HO:=lhid (aEm hown);have hbwx:=HB0.out.trans (hbw.mono (by omega));clear hown;(go_wp2_with fail);go_ret;exact⟨_,rfl,HO.out,hbwx⟩
end
section
open Go.RowKit
section
variable {P:Program} {ops:Array Oper} {Q:Exit→Act→World→Prop} {md:Region.Mode} {S:World→Prop} {late:List Nat}
theorem bJk (i j k:Nat) {di dj dk:Option Tmp} {opi opj opk:Op} {tyi tyj tyk:TypeId} {posi posj posk:String} {afti aftj aftk:Array Edge} {gdi gdj gdk:Option (Nat×Bool)} {fuel:Nat} {listed:Array Bool} {a:Act} {w:World} (hi:ops[i]? = some ⟨di,opi,tyi,posi,afti,gdi⟩) (hj:ops[j]? = some ⟨dj,opj,tyj,posj,aftj,gdj⟩) (hk:ops[k]? = some ⟨dk,opk,tyk,posk,aftk,gdk⟩) (hr:Region.ready md ops listed=[i,j,k])
  (h1:∀ K:Act→World→Prop,Hid (∀ a' w',(late.contains i=false→S w→S w')→bT P md ops Q S late fuel (listed.setIfInBounds i true) a' w'→K a' w')→if Region.wanted ⟨di,opi,tyi,posi,afti,gdi⟩ (yielded ops a.tmps)=true then Oper.wp P ⟨di,opi,tyi,posi,afti,gdi⟩ a w K Q else K (a.put di undef) w)
  (h2:∀ K:Act→World→Prop,Hid (∀ a' w',(late.contains j=false→S w→S w')→bT P md ops Q S late fuel (listed.setIfInBounds j true) a' w'→K a' w')→if Region.wanted ⟨dj,opj,tyj,posj,aftj,gdj⟩ (yielded ops a.tmps)=true then Oper.wp P ⟨dj,opj,tyj,posj,aftj,gdj⟩ a w K Q else K (a.put dj undef) w)
  (h3:∀ K:Act→World→Prop,Hid (∀ a' w',(late.contains k=false→S w→S w')→bT P md ops Q S late fuel (listed.setIfInBounds k true) a' w'→K a' w')→if Region.wanted ⟨dk,opk,tyk,posk,aftk,gdk⟩ (yielded ops a.tmps)=true then Oper.wp P ⟨dk,opk,tyk,posk,aftk,gdk⟩ a w K Q else K (a.put dk undef) w):bT P md ops Q S late (fuel+1) listed a w:=by
 refine⟨fun h0=>(by rw[hr] at h0;cases h0),fun q hq=>?_⟩;rw[hr] at hq;have hq':q=i∨q=j∨q=k:=(by simpa using hq);rcases hq' with rfl | rfl | rfl
 ·exact wpOp_step hi (fun K hK=>h1 K (lhid (fun a' w' g1 g2=>hK a' w' ⟨g1,g2⟩)))
 ·exact wpOp_step hj (fun K hK=>h2 K (lhid (fun a' w' g1 g2=>hK a' w' ⟨g1,g2⟩)))
 ·exact wpOp_step hk (fun K hK=>h3 K (lhid (fun a' w' g1 g2=>hK a' w' ⟨g1,g2⟩)))
end
end
end Go.Proofs.YtdfegfagedeilaaGreatDoor
