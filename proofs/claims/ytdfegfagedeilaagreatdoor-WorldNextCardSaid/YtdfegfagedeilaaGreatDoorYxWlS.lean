/-
  Layer 16 (world), the document: the first world with some fates, and the first of all, walked. No conditions.
-/
import Derived.Test.YtdfegfagedeilaaGreatDoorYxWlQ
import Derived.Test.YtdfegfagedeilaaGreatDoorYNo
namespace Go.Proofs.YtdfegfagedeilaaGreatDoor
open Go.RowKit Go.Lib
theorem bPs:∀ (L:List aR) (i:Nat) (x:aR),i<L.length→((aJ L).set (i*2) (.int .i64 x.1)).set (i*2+1) (.int .i64 x.2)=aJ (L.set i x)
 | [],_,_,h=>absurd h (Nat.not_lt_zero _)
 | y::L,0,x,_=>by simp[aJ,aZ]
 | y::L,i+1,x,h=>by
  have ih:=bPs L i x (by simpa using h);rw[List.set_cons_succ];have e:∀ z:aR,∀ M:List aR,aJ (z::M)=.int .i64 z.1::.int .i64 z.2::aJ M:=fun _ _=>rfl;rw[e,e, ←ih,show(i+1)*2+1=i*2+1+1+1 by omega,show(i+1)*2=i*2+1+1 by omega];rfl
theorem bPv (n:Nat):(madeCells #[.int .i64 0,.int .i64 0] (n*2)).toList=aJ (List.replicate n aN):=by
 apply List.ext_getElem
 ·rw[bC,List.length_replicate];simp[madeCells]
 ·intro i h1 h2;have hi:i<n*2:=by simpa [madeCells] using h1
  have e1:(aJ (List.replicate n aN))[i]? = some (.int .i64 0):=by
   rw[pD _ i (by simpa using hi)]
   have hd:(List.replicate n aN).getD (i / 2) (0,0)=(0,0):=by
    rw[List.getD_eq_getElem?_getD,List.getElem?_replicate];split<;>rfl
   rw[hd];simp
  rw[List.getElem?_eq_getElem h2] at e1;injection e1 with e1;rw[e1];simp only[madeCells,Array.toList_map,Array.toList_range,List.getElem_map,List.getElem_range];rcases Nat.mod_two_eq_zero_or_one i with q | q
  ·show(#[Value.int .i64 0,.int .i64 0])[i % 2]! = _;rw[q];rfl
  ·show(#[Value.int .i64 0,.int .i64 0])[i % 2]! = _;rw[q];rfl
def bPp (LL:List (List aR)) (N n:Nat):List aR:=sE LL n++List.replicate (N-n) aN
theorem bPq (LL:List (List aR)) (N n:Nat) (h:n≤LL.length∧LL.length=N):(bPp LL N n).length=N:=by
 unfold bPp sE;rw[List.length_append,List.length_map,List.length_take,List.length_replicate];omega
theorem bPu (LL:List (List aR)) (N n:Nat) (h:n<LL.length) (hN:LL.length=N):(bPp LL N n).set n ((LL.getD n []).getD 0 aN)=bPp LL N (n+1):=by
 unfold bPp sE;rw[zY LL [] n h,List.map_append,List.append_assoc];have hl:((LL.take n).map fun t=>t.getD 0 aN).length=n:=(by rw[List.length_map,List.length_take];omega);rw[List.set_append,if_neg (by omega),hl,Nat.sub_self,show N-n=N-(n+1)+1 by omega,List.replicate_succ];rfl
theorem bPx (LL:List (List aR)):bPp LL LL.length LL.length=LL.map fun t=>t.getD 0 aN:=by
 unfold bPp sE;rw[List.take_length,Nat.sub_self];simp
theorem bPw (n:Nat) (hn:n≤1000) (W:World):(Instr.makeSlice 27 (.int .i64 (n:Int)) (.int .i64 (n:Int))).run Tryz.prog W=.ok (.slice (some ⟨W.heap.size,0,none⟩) n n) (W.alloc (.cells (madeCells #[.int .i64 0,.int .i64 0] (n*2)) 57)):=by
 obtain⟨i0,hi,hz0,hz1,hz2⟩:=info_parts aCx;have hr:=run_make (P:=Tryz.prog) W 27 57 i0 (.agg #[.int .i64 0,.int .i64 0]) Tryz.underlying27 hi hz0 .i64 .i64 n n (by omega) (Int.le_refl _) (by rw[hz2];omega) (by omega);rw[hz1] at hr;simp only[Int.toNat_natCast] at hr;exact hr
theorem bPy (W:World) (n:Nat):Blk (W.alloc (.cells (madeCells #[.int .i64 0,.int .i64 0] (n*2)) 57)) W.heap.size 57 (aJ (List.replicate n aN)):=by
 rw[←bPv];exact Blk.new W 57 _
theorem bPt {w:World} {g:Nat} {L:List aR} (h:Blk w g 57 (aJ L)):lF w (some ⟨g,0,none⟩) L:=fun j hj=>by
 refine⟨g,rfl,h.cell _ ?_,h.cell _ ?_⟩
 ·rw[pD L (j*2) (by omega),if_pos (by omega),show j*2 / 2=j by omega];rfl
 ·rw[pD L (j*2+1) (by omega),if_neg (by omega),show(j*2+1) / 2=j by omega];rfl
theorem bQb {w:World} {a b:Addr} {u:Value} (h:w.cell? a=some u) (hne:a.block≠b.block) (v:Value):(w.setCell b v).cell? a=some u:=
 (World.cell?_of_block (Below.heap_setCell w b v a.block hne)).trans h
theorem jA.far {w:World} {p q:Option Addr} {L:List Bool} {g n c:Nat} {t:TypeId} {cs:List Value} (h:jA w p L) (hB:Blk w g t (.slice q n c::cs)) (i:Nat) (v:Value):jA (w.setCell ⟨g,i,none⟩ v) p L:=fun j hj=>by
 obtain⟨g',e,hc⟩:=h j hj;obtain⟨g0,e0,hc0⟩:=h 0 (by omega);refine⟨g',e,bQb hc (fun eq=>?_) v⟩;rw[e] at e0;injection e0 with e0;injection e0 with e0;have h1:w.cell? ⟨g,0,none⟩=some (.slice q n c):=hB.cell 0 rfl;dsimp only at eq;rw[←eq,e0,hc0] at h1;cases h1
theorem lF.far {w:World} {p q:Option Addr} {L:List aR} {g n c:Nat} {t:TypeId} {cs:List Value} (h:lF w p L) (hB:Blk w g t (.slice q n c::cs)) (i:Nat) (v:Value):lF (w.setCell ⟨g,i,none⟩ v) p L:=fun j hj=>by
 obtain⟨g',e,hc,hd⟩:=h j hj;obtain⟨g0,e0,hc0,-⟩:=h 0 (by omega)
 have hne:g'≠g:=fun eq=>by
  rw[e] at e0;injection e0 with e0;injection e0 with e0;have h1:w.cell? ⟨g,0,none⟩=some (.slice q n c):=hB.cell 0 rfl;rw[←eq,e0,show 0=0*2 from rfl,hc0] at h1;cases h1
 exact⟨g',e,bQb hc hne v,bQb hd hne v⟩
theorem lI.two_sets {w:World} {u:Value} {m:bK} {g n c n2 c2:Nat} {q q2:Option Addr} {a0:Value} {t:TypeId} (h:lI w u m) (hB:Blk w g t [.slice q2 n2 c2,a0]) (y:Value):lI ((w.setCell ⟨g,0,none⟩ (.slice q n c)).setCell ⟨g,1,none⟩ y) u m:=by
 obtain⟨v0,v1,e,⟨p0,c0,e0,h0,k0⟩,⟨p1,c1,e1,h1,k1⟩⟩:=h;exact⟨v0,v1,e,⟨p0,c0,e0,h0,(k0.far hB 0 _).far (hB.set 0 (.slice q n c)) 1 y⟩,⟨p1,c1,e1,h1,(k1.far hB 0 _).far (hB.set 0 (.slice q n c)) 1 y⟩⟩
set_option maxRecDepth 100000 in
set_option maxHeartbeats 4000000 in
theorem bPz {w:World} {v:Value} {h:aI} {gb cb:Nat} (f:List Bool) (hv:cJ w v h) (hm:cU h) (hmm:cZ h=true) (hb:jA w (some ⟨gb,0,none⟩) f) (hf:f.length=(h.2.2.filter aP).length) :
  Calls Tryz.prog 39 #[v,.slice (some ⟨gb,0,none⟩) f.length cb] w fun e w'=>∃ v',e=.returned v'∧lI w' v' (sA h f)∧Below w.heap.size w w':=by
 have H0:=lhid hv;obtain⟨v0,v1,v2,rfl,⟨p0,c0,rfl,-⟩,⟨p1,c1,rfl,-⟩,⟨p2,c2,rfl,-⟩⟩:=hv;have hal:=((Below.refl w.heap.size w).alloc (Nat.le_refl _) (.cells #[.slice p0 h.1.length c0,.slice p1 h.2.1.length c1,.slice p2 h.2.2.length c2] 25)).alloc (by simp) (.cells #[.slice none 0 0,.slice none 0 0] 29);have hbx:=(Blk.new w 25 [.slice p0 h.1.length c0,.slice p1 h.2.1.length c1,.slice p2 h.2.2.length c2]).alloc (.cells #[.slice none 0 0,.slice none 0 0] 29);have hrx:=Blk.new (w.alloc (.cells #[.slice p0 h.1.length c0,.slice p1 h.2.1.length c1,.slice p2 h.2.2.length c2] 25)) 29 [.slice none 0 0,.slice none 0 0];simp only[World.size_alloc] at hrx
 have hfn:f.length≤1000:=by
  have h2:=List.length_filter_le aP h.2.2;have h3:=hm.2.2.1;omega
 have HLo0:=lhid (fun w' (hb:Below w.heap.size w w')=>bUp (H0.out.below hb) hm);rw[←kF hmm] at HLo0;have hl8:=aDn hmm;have HTr0:=lhid (fun u (ml:List aR) w' (hb:Below w.heap.size w w') (hu:lI w' u (f,ml)) (h9:ml.length≤1000000)=>bPc (H0.out.below hb) hu hm ⟨by dsimp only;omega,h9⟩ hmm hf);have HBg:Hid ((sA h f).2=(bD h f).map fun t=>t.getD 0 aN):=lhid rfl;have HB1:Hid ((sA h f).1=f):=lhid rfl;have HLn:Hid ((bD h f).length=(cY h).length):=lhid (qU h f);have HNe:=lhid (aPl h f);have HNel:=HNe;clear HNe;obtain⟨N,hN⟩:∃ q,(cY h).length=q:=⟨_,rfl⟩;rw[hN] at hl8 HLn;have HN:=lhid hN;obtain⟨LL,hLL⟩:∃ q,bD h f=q:=⟨_,rfl⟩;dsimp only at HTr0;rw[hLL] at HBg HLn HNel HTr0;have HLq:=lhid hLL;have HNw:=lhid (fun w' (hb':Below w.heap.size w w')=>aCt (hb.below hb'));have HAL:=lhid hal;have HBX:=lhid hbx;have HRX:=lhid hrx;have hmk:=bPw N (by omega);obtain⟨i0,hi,hz0,hz1,hz2⟩:=info_parts oB;clear H0 hm hal hbx hrx hb hf hLL hN hmm;go_enter Tryz.func39,Tryz.ntmps39;(go_upto_region 1 with fail);obtain⟨W1,hW1⟩:∃ q,(w.alloc (.cells #[.slice p0 h.1.length c0,.slice p1 h.2.1.length c1,.slice p2 h.2.2.length c2] 25)).alloc (.cells #[.slice none 0 0,.slice none 0 0] 29)=q:=⟨_,rfl⟩;rw[hW1] at HAL HBX HRX ⊢;clear hW1;obtain⟨gh,hgh⟩:∃ q,w.heap.size=q:=⟨_,rfl⟩;obtain⟨gr,hgr0⟩:∃ q,gh+1=q:=⟨_,rfl⟩;have HG:Hid (w.heap.size≤gr):=lhid (by omega);have HGl:Hid (gr<W1.heap.size):=lhid (by rw[←hgr0, ←hgh];exact HRX.out.lt);(try simp only[hgh,hgr0]);(try simp only[hgh,hgr0] at HBX HRX);clear hgh hgr0;have HS:Hid (∀ w',Below W1.heap.size W1 w'→w'.cell? ⟨gh,0,none⟩=some (.slice p0 h.1.length c0)∧w'.cell? ⟨gh,1,none⟩=some (.slice p1 h.2.1.length c1)∧w'.cell? ⟨gh,2,none⟩=some (.slice p2 h.2.2.length c2)∧Below W1.heap.size W1 w'):=lhid (fun w' hb=>⟨(HBX.out.later hb).cell 0 rfl,(HBX.out.later hb).cell 1 rfl,(HBX.out.later hb).cell 2 rfl,hb⟩);refine wpk HS [9] (by kernel_rfl) fun hB0 hS0=>?_;refine wF 1 ?_;refine wT 3 10 hS0 ?_;have hsz:W1.heap.size=W1.drew.heap.size:=rfl;have HLo:=lhid (fun w' (hb:Below W1.drew.heap.size W1.drew w')=>HLo0.out w' (aB HAL.out (aB hB0 hb)));have HNw1:=lhid (fun w' (hb:Below W1.drew.heap.size W1.drew w')=>HNw.out w' (aB HAL.out (aB hB0 hb)))
 refine wpf 10 [(0,8,[]),(2,10,[0]),(4,12,[]),(5,13,[4]),(6,14,[5]),(7,15,[2,6]),(8,5,[])]
  [fun y w=>∃ g,y 0=.slice (some ⟨g,0,none⟩) 0 0∧w.ownsRow W1.heap.size 4 1 (.slice (some ⟨g,0,none⟩) 0 0) 0 [],
  fun y w=>w.ownsRow W1.heap.size 4 1 (y 2) f.length (bG f),
  fun y _=>∃ p c,y 4=.slice p N c,
  fun y _=>y 5=.int .i64 (N:Nat),
  fun y w=>∃ g,y 6=.slice (some ⟨g,0,none⟩) N N∧Blk w g 57 (aJ (List.replicate N aN))∧W1.heap.size≤g,
  fun y _=>y 7=.agg #[y 2,y 6],
  fun y w=>∃ g,y 8=.pointer (some ⟨g,0,none⟩)∧Blk w g 29 [.slice none 0 0,.slice none 0 0]∧W1.heap.size≤g]
  (fun w' hb=>HS.out _ (aB hB0 hb)) ⟨wst 0 8 [] (fun _ _ _ ⟨g,e,o⟩ hb=>⟨g,e,aS o hb⟩) ?_,wst 2 10 [0] (fun _ _ _ h hb=>aS h hb) ?_,wst 4 12 [] (fun _ _ _ h _=>h) ?_,wst 5 13 [4] (fun _ _ _ h _=>h) ?_,wst 6 14 [5] (fun _ _ _ ⟨g,e,o,k⟩ hb=>⟨g,e,o.later hb,k⟩) ?_,wst 7 15 [2,6] (fun _ _ _ h _=>h) ?_,wst 8 5 [] (fun _ _ _ ⟨g,e,o,k⟩ hb=>⟨g,e,o.later hb,k⟩) ?_,trivial⟩ ?_
 ·intro y w2 hB _ K hK;go_simp;exact hK.out _ _ ⟨_,rfl,World.ownsRow_made w2 #[] 0 hB.size (Nat.zero_le _) rfl⟩ ((Below.refl _ _).alloc (Nat.le_refl _) _)
 ·intro y w2 hB hd K hK;obtain⟨g,e,o⟩:=hd 0 (by simp);exact bPm W1.heap.size 4 i0 (.bool false) 1 1 _ 0 [] ⟨gb,0,none⟩ f.length cb (bG f) (.tmp 8) (.tmp 9) 26 o (HNw1.out _ hB) hB.size (fun v' w' ho hb=>hK.out _ _ (by rw[Nat.zero_add,List.nil_append] at ho;exact ho) hb) hi hz0 hz1 hz2 (by rw[Nat.mul_one,gD]) (lK f) (by unfold maxLen;omega) (by omega) Tryz.underlying26 (hs:=e)
 ·intro y w2 hB _ K hK;go_simp;refine(HLo.out _ hB).mono ?_;rintro e w3 ⟨v',rfl,⟨p,c,rfl,-⟩,hb⟩;exact hK.out _ _ ⟨p,c,by rw[HN.out]<;>rfl⟩ hb
 ·intro y w2 hB hd K hK;obtain⟨p,c,e⟩:=hd 4 (by simp);rw[e] at hK ⊢;go_simp;exact hK.out _ _ rfl (Below.refl _ _)
 ·intro y w2 hB hd K hK;have e:y 5=.int .i64 (N:Nat):=hd 5 (by simp);rw[e] at hK ⊢;go_simp;exact hK.out _ _ ⟨_,rfl,bPy w2 N,hB.size⟩ ((Below.refl _ _).alloc (Nat.le_refl _) _)
 ·intro y w2 hB hd K hK;have h2:w2.ownsRow W1.heap.size 4 1 (y 2) f.length (bG f):=hd 2 (by simp);obtain⟨pa,ca,ea⟩:=aF h2;obtain⟨gx,e6,-⟩:=hd 6 (by simp);have e6:y 6=.slice (some ⟨gx,0,none⟩) N N:=e6;rw[ea,e6] at hK ⊢;go_simp;exact hK.out _ _ (show Value.agg #[.slice pa f.length ca,.slice (some ⟨gx,0,none⟩) N N]=.agg #[y 2,y 6] by rw[ea,e6]) (Below.refl _ _)
 ·intro y w2 hB _ K hK;go_simp;exact hK.out _ _ ⟨_,rfl,Blk.new w2 29 [.slice none 0 0,.slice none 0 0],hB.size⟩ ((Below.refl _ _).alloc (Nat.le_refl _) _)
 intro y w2 hB hd;obtain⟨-,h2,-,-,⟨gx,e6,hgx,hgxl⟩,h7,⟨gw,e8,hgw,hgwl⟩,-⟩:=hd;have h2:w2.ownsRow W1.heap.size 4 1 (y 2) f.length (bG f):=h2;have e6:y 6=.slice (some ⟨gx,0,none⟩) N N:=e6;have e7:y 7=.agg #[y 2,y 6]:=h7;have e8:y 8=.pointer (some ⟨gw,0,none⟩):=e8;have hgx:Blk w2 gx 57 (aJ (List.replicate N aN)):=hgx;have hgw:Blk w2 gw 29 [.slice none 0 0,.slice none 0 0]:=hgw;have hgwl:W1.heap.size≤gw:=hgwl;have hgxl:W1.heap.size≤gx:=hgxl;simp only[bOa,bOd,Act.put,sq,e7,e6,e8];obtain⟨pa,ca,ea⟩:=aF h2;rw[ea] at h2;simp only[ea];have r0:=hgw.cell 0 rfl;have r1:=hgw.cell 1 rfl;have f0:=hgw.frozen 0;have f1:=hgw.frozen 1;have HG3:=lhid (dQ hgw (.slice pa f.length ca) (.slice (some ⟨gx,0,none⟩) N N));have HB3:=lhid (aU (aB HAL.out (aB hB0 hB)) (show w.heap.size≤gw from Nat.le_trans HAL.out.size hgwl) (.slice pa f.length ca) (.slice (some ⟨gx,0,none⟩) N N));have HBd:=lhid (aU (aB hB0 hB) hgwl (.slice pa f.length ca) (.slice (some ⟨gx,0,none⟩) N N));have HOa:=lhid (aD (aD h2 hgw (by decide) 0 (.slice pa f.length ca)) (hgw.set 0 (.slice pa f.length ca)) (by decide) 1 (.slice (some ⟨gx,0,none⟩) N N));have hne:=aLs hgx hgw (by decide);have HX3:=lhid ((hgx.far (a:=⟨gw,0,none⟩) hne (.slice pa f.length ca)).far (a:=⟨gw,1,none⟩) hne (.slice (some ⟨gx,0,none⟩) N N));have HNe:Hid (gx≠gw∧W1.heap.size≤gx∧W1.heap.size≤gw∧gr≠gw∧gr≠gx):=lhid ⟨hne,hgxl,hgwl,by have:=HGl.out;omega,by have:=HGl.out;omega⟩;clear h2 e6 h7 e7 e8 ea;refine wL 9 ?_;refine wD ?_;obtain⟨W3,hW3⟩:∃ q,(w2.setCell ⟨gw,0,none⟩ (.slice pa f.length ca)).setCell ⟨gw,1,none⟩ (.slice (some ⟨gx,0,none⟩) N N)=q:=⟨_,rfl⟩;rw[hW3] at HG3 HB3 HBd HOa HX3 ⊢;have HBX3:=lhid (HBX.out.later HBd.out);have HRX3:=lhid (HRX.out.later HBd.out);have HTr:=lhid (HTr0.out (.agg #[.slice pa f.length ca,.slice (some ⟨gx,0,none⟩) N N]) (List.replicate N aN) W3 HB3.out ⟨_,_,rfl,qO HOa.out rfl,⟨_,_,by rw[List.length_replicate]<;>rfl,by rw[List.length_replicate];exact⟨Nat.le_refl _,by unfold maxLen;omega⟩,bPt HX3.out⟩⟩ (by rw[List.length_replicate];omega));have x0:=HBX3.out.cell 0 rfl;have x1:=HBX3.out.cell 1 rfl;have x2:=HBX3.out.cell 2 rfl;have g0:=HG3.out.cell 0 rfl;have g1:=HG3.out.cell 1 rfl;clear hW3 hgx hgw hgxl hgwl hne r0 r1 f0 f1 hB hB0 hS0 HBX HRX HS HLo HNw1 HNw HLo0 HTr0;(go_wp2_with fail);refine HTr.out.mono ?_;rintro e W4 ⟨vt,rfl,hto,hb4⟩;have hz4:=hb4.size;have HT4:=lhid hto;have HB4:=lhid (aB HB3.out hb4);have HG4:=lhid (HG3.out.later hb4);have HX4:=lhid (HX3.out.later hb4);have HR4:=lhid (HRX3.out.later hb4);have HX3l:=lhid HX3.out.lt;have HO4:=lhid (aS HOa.out hb4);obtain⟨pt,ct,rfl,-⟩:=hto.tries.form
 have HXA:Hid (Blk W4 gx 57 (aJ (bPp LL N 0))):=lhid (by
  have e:bPp LL N 0=List.replicate N aN:=(by simp[bPp,sE]);rw[e]
  exact HX4.out)
 clear hto hb4 HTr HG3 HX3 HRX3 HBX3 HBd HOa HX4 x0 x1 x2 g0 g1;have hln:=HLn.out;go_wp2_with fail
 go_loopw [7] (fun i wr=>∃ n:Nat,n≤LL.length∧i=.int .i64 n∧Blk wr gx 57 (aJ (bPp LL N n))∧W4.grownBy wr (some gx)) (fun i _=>LL.length-(intOf i).toNat)
 case atStart=>exact⟨0,Nat.zero_le _,rfl,HXA.out,⟨rfl,rfl,rfl,Nat.le_refl _,fun _ _ _=>rfl⟩⟩
 case round=>
  obtain⟨n,hn,rfl,hxa,hgr⟩:=hrel;have HA:=lhid hxa;have HGr:=lhid hgr;have HG5:=lhid (HG4.out.kept hgr (fun e=>HNe.out.1 (by injection e with e;exact e.symm)));by_cases hlt:n<LL.length
  ·have ht5:=(HT4.out.kept HX3l.out hgr).tries;obtain⟨gt,ct',u,eq,hcu,hvt⟩:=ht5.get n hlt;injection eq with eq _ _;subst eq
   obtain⟨gu,cu,rfl,-,hvu⟩:=hvt.at
   have hne:=HNe.out;have hpos:0<(LL.getD n []).length:=List.length_pos_iff.2 (HNel.out n hlt);have hnx:=bPu LL N n hlt HLn.out;obtain⟨TL,hTL⟩:∃ q,LL.getD n []=q:=⟨_,rfl⟩;rw[hTL] at hvu hpos hnx;(try rw[hTL] at hcu);obtain⟨q1,q2⟩:=hvu 0 hpos;rw[Nat.zero_mul] at q1 q2;rw[Nat.zero_add] at q2;obtain⟨⟨xa,xb⟩,hx⟩:∃ q,TL.getD 0 aN=q:=⟨_,rfl⟩;rw[hx] at q1 q2 hnx;dsimp only at q1 q2;have hst:=bPs (bPp LL N n) n (xa,xb) (by rw[bPq LL N n ⟨hn,HLn.out⟩];omega);rw[hnx] at hst;have HSt:=lhid hst;have HLn2:Hid (n≤LL.length∧LL.length=N):=lhid ⟨hn,HLn.out⟩;have g0:=HG5.out.cell 0 rfl;have g1:=HG5.out.cell 1 rfl;have HS:Hid (∀ w',Below wr.heap.size wr w'→w'.cell? ⟨gw,0,none⟩=some (.slice pa f.length ca)∧w'.cell? ⟨gw,1,none⟩=some (.slice (some ⟨gx,0,none⟩) N N)∧w'.cell? ⟨gt,n,none⟩=some (.slice (some ⟨gu,0,none⟩) TL.length cu)∧w'.cell? ⟨gu,0,none⟩=some (.int .i64 xa)∧w'.cell? ⟨gu,1,none⟩=some (.int .i64 xb)∧Below wr.heap.size wr w'):=lhid (fun w' hb=>⟨cell_later hb g0,cell_later hb g1,cell_later hb hcu,cell_later hb q1,cell_later hb q2,hb⟩);clear hxa hgr ht5 hvt hvu hnx hst hTL hx q1 q2 hcu g0 g1 hne;(go_upto_region 6 with fail);refine wpk HS [10] (by kernel_rfl) fun hB0 hS0=>?_;obtain⟨wd,hwd⟩:∃ q,wr.drew=q:=⟨_,rfl⟩;rw[hwd] at hB0 hS0 ⊢;clear hwd;refine wF 0 ?_;refine wT 1 11 hS0 ?_;refine wF 2 ?_;refine wF 3 ?_;refine wO 4 ?_;refine wO 5 ?_;refine wO 6 ?_;refine wO 7 ?_;refine wO 8 ?_;refine wO 9 ?_;have HBk:=lhid (HA.out.later hB0);have s0:=HBk.out.cell (n*2) (by rw[pD _ _ (by rw[bPq _ _ _ HLn2.out];omega)]);have s1:=HBk.out.cell (n*2+1) (by rw[pD _ _ (by rw[bPq _ _ _ HLn2.out];omega)]);have f0:=HBk.out.frozen (n*2);have f1:=HBk.out.frozen (n*2+1);refine wL 10 ?_;clear s0 s1 f0 f1;refine wD ?_
   have HX9:Hid (Blk ((wd.setCell ⟨gx,n*2,none⟩ (.int .i64 xa)).setCell ⟨gx,n*2+1,none⟩ (.int .i64 xb)) gx 57 (aJ (bPp LL N (n+1)))):=lhid (by
    have h9:=((HA.out.later hB0).set (n*2) (.int .i64 xa)).set (n*2+1) (.int .i64 xb);rw[HSt.out] at h9
    exact h9)
   have HG9:=lhid (((HGr.out.trans (kQ hB0 (row:=some gx))).trans (jC _ gx (n*2) (.int .i64 xa))).trans (jC _ gx (n*2+1) (.int .i64 xb)));(go_wp2_with fail);go_roundw
   case rel=>exact⟨n+1,by omega,by go_num,HX9.out,HG9.out⟩
   case measure=>simp[intOf];omega
  ·have hne:n=LL.length:=(by omega);subst hne;have HRr:=lhid (HR4.out.kept hgr (fun e=>HNe.out.2.2.2.2 (by injection e)))
   have hxf:Blk wr gx 57 (aJ (sA h f).2):=by
    rw[HBg.out, ←bPx];rw[←HLn.out] at hxa;exact hxa
   have HXf:=lhid hxf
   have HBr:Hid (Below w.heap.size w wr):=lhid (HB4.out.grown hgr HB4.out.size (fun q hq=>by
    injection hq with hq;have h1:=HNe.out.2.1;have h2:=HAL.out.size
    omega))
   have HOr:=lhid (row_kept16 HO4.out HXA.out (by decide) hgr);have HLg:Hid ((sA h f).2.length=LL.length):=lhid (by rw[HBg.out,List.length_map]);have g0:=HG5.out.cell 0 rfl;have g1:=HG5.out.cell 1 rfl;have r0:=HRr.out.cell 0 rfl;have r1:=HRr.out.cell 1 rfl;have f0:=HRr.out.frozen 0;have f1:=HRr.out.frozen 1;clear hxa hxf hgr hlt;(go_wp2_with fail);refine bodyPost_ret (bS Tryz.results39 _ _ _ _ _ rfl (bO (dQ HRr.out _ _))) rfl ?_;refine⟨_,rfl,⟨_,_,rfl,?_,?_⟩,aU HBr.out HG.out _ _⟩
   ·rw[HB1.out];exact qO (aD (aD HOr.out HRr.out (by decide) 0 _) (HRr.out.set 0 _) (by decide) 1 _) rfl
   ·exact⟨_,_,by rw[HLg.out,HLn.out],by rw[HLg.out,HLn.out];exact⟨Nat.le_refl _,by unfold maxLen;omega⟩,bPt ((HXf.out.far (a:=⟨gr,0,none⟩) (fun e=>HNe.out.2.2.2.2 e.symm) _).far (a:=⟨gr,1,none⟩) (fun e=>HNe.out.2.2.2.2 e.symm) _)⟩
set_option maxRecDepth 100000 in
set_option maxHeartbeats 4000000 in
theorem bQa {w:World} {v:Value} {h:aI} (hv:cJ w v h) (hm:cU h) (hmm:cZ h=true) :
  Calls Tryz.prog 15 #[v] w fun e w'=>∃ v',e=.returned v'∧lI w' v' (oW h)∧Below w.heap.size w w':=by
 have H0:=lhid hv;obtain⟨v0,v1,v2,rfl,⟨p0,c0,rfl,-⟩,⟨p1,c1,rfl,-⟩,⟨p2,c2,rfl,-⟩⟩:=hv;have hal:=((Below.refl w.heap.size w).alloc (Nat.le_refl _) (.cells #[.slice p0 h.1.length c0,.slice p1 h.2.1.length c1,.slice p2 h.2.2.length c2] 25)).alloc (by simp) (.cells #[.slice none 0 0,.slice none 0 0] 29);have hbx:=(Blk.new w 25 [.slice p0 h.1.length c0,.slice p1 h.2.1.length c1,.slice p2 h.2.2.length c2]).alloc (.cells #[.slice none 0 0,.slice none 0 0] 29);have hrx:=Blk.new (w.alloc (.cells #[.slice p0 h.1.length c0,.slice p1 h.2.1.length c1,.slice p2 h.2.2.length c2] 25)) 29 [.slice none 0 0,.slice none 0 0];simp only[World.size_alloc] at hrx;have HIn0:=lhid (fun w' (hb:Below w.heap.size w w')=>bUv (H0.out.below hb) hm);have e0:cA aP h=jH aP h.2.2 h.2.2.length:=(by unfold cA;rw[if_pos hmm]);rw[←e0] at HIn0
 have hn16:(cA aP h).length≤1000:=by
  have h1:=hm.2.2.1;have:=xC aP h.2.2 h.2.2.length;rw[e0];omega
 have HBg0:Hid (∀ w',Below w.heap.size w w'→∀ gb c,jA w' (some ⟨gb,0,none⟩) (List.replicate (cA aP h).length false)→Calls Tryz.prog 39 #[.agg #[.slice p0 h.1.length c0,.slice p1 h.2.1.length c1,.slice p2 h.2.2.length c2],.slice (some ⟨gb,0,none⟩) (cA aP h).length c] w' fun e w2=>∃ v',e=.returned v'∧lI w2 v' (oW h)∧Below w'.heap.size w' w2):=lhid (fun w' hb gb c hh=>by
  have:=bPz (cb:=c) (List.replicate (cA aP h).length false) (H0.out.below hb) hm hmm hh (by rw[List.length_replicate,jZ _ hmm,uR]);rw[List.length_replicate] at this
  exact this)
 obtain⟨nn,hnn⟩:∃ q,(cA aP h).length=q:=⟨_,rfl⟩;rw[hnn] at HBg0 hn16;have HIn1:Hid (∀ w',Below w.heap.size w w'→Calls Tryz.prog 26 #[.agg #[.slice p0 h.1.length c0,.slice p1 h.2.1.length c1,.slice p2 h.2.2.length c2]] w' fun e w2=>∃ v',e=.returned v'∧(∃ p c,v'=.slice p nn c)∧Below w'.heap.size w' w2):=lhid (fun w' hb=>(HIn0.out w' hb).mono fun e w2 ⟨v',h1,h2,h3⟩=>⟨v',h1,(by obtain⟨p,c,h4,-⟩:=h2;exact⟨p,c,by rw[h4,hnn]⟩),h3⟩);have hmk:=aKa nn hn16;have HAL:=lhid hal;have HBX:=lhid hbx;have HRX:=lhid hrx;clear H0 hm hal hbx hrx HIn0 hnn e0 hmm;go_enter Tryz.func15,Tryz.ntmps15;(go_upto_region 1 with fail);obtain⟨W1,hW1⟩:∃ q,(w.alloc (.cells #[.slice p0 h.1.length c0,.slice p1 h.2.1.length c1,.slice p2 h.2.2.length c2] 25)).alloc (.cells #[.slice none 0 0,.slice none 0 0] 29)=q:=⟨_,rfl⟩;rw[hW1] at HAL HBX HRX ⊢;clear hW1;obtain⟨gh,hgh⟩:∃ q,w.heap.size=q:=⟨_,rfl⟩;obtain⟨gr,hgr0⟩:∃ q,gh+1=q:=⟨_,rfl⟩;have HG:Hid (w.heap.size≤gr):=lhid (by omega);(try simp only[hgh,hgr0]);(try simp only[hgh,hgr0] at HBX HRX);clear hgh hgr0;have HIn:=lhid (fun w' (hb:Below W1.heap.size W1 w')=>HIn1.out w' (aB HAL.out hb));have HBg:=lhid (fun w' (hb:Below W1.heap.size W1 w') gb c (hh:jA w' (some ⟨gb,0,none⟩) (List.replicate nn false))=>HBg0.out w' (aB HAL.out hb) gb c hh);have HS:Hid (∀ w',Below W1.heap.size W1 w'→w'.cell? ⟨gh,0,none⟩=some (.slice p0 h.1.length c0)∧w'.cell? ⟨gh,1,none⟩=some (.slice p1 h.2.1.length c1)∧w'.cell? ⟨gh,2,none⟩=some (.slice p2 h.2.2.length c2)∧Below W1.heap.size W1 w'):=lhid (fun w' hb=>⟨(HBX.out.later hb).cell 0 rfl,(HBX.out.later hb).cell 1 rfl,(HBX.out.later hb).cell 2 rfl,hb⟩);clear HIn1 HBg0;refine wpk HS [6] (by kernel_rfl) fun hB0 _=>?_;obtain⟨wd,hwd⟩:∃ q,(W1).drew=q:=⟨_,rfl⟩;rw[hwd] at hB0 ⊢;clear hwd;refine wT 0 7 (HS.out _ hB0) ?_;have hSn:=HS.out _ hB0;refine wO 1 ?_;clear hSn;refine won 2 rfl fun K hK=>?_;go_simp;refine(HIn.out _ hB0).mono ?_;rintro e wb1 ⟨vi,rfl,⟨pi,ci,rfl⟩,hc1⟩;have hB1:=aB hB0 hc1;refine hK.out _ _ (fun _ _=>HS.out _ hB1) ?_;clear hK K hc1;(try simp only[Act.put,sq]);refine wO 3 ?_;refine won 4 rfl fun K hK=>?_;go_simp;have hA2:=hB1.alloc hB1.size (.cells (madeCells #[.bool false] nn) 4);have MB:=lhid (aSk wb1 nn hn16 (Nat.le_trans HAL.out.size hB1.size));refine hK.out _ _ (fun _ _=>HS.out _ hA2) ?_;clear hK K;(try simp only[Act.put,sq]);obtain⟨wa2,hwa2⟩:∃ q,wb1.alloc (.cells (madeCells #[.bool false] nn) 4)=q:=⟨_,rfl⟩;obtain⟨gb2,hgb2⟩:∃ q,wb1.heap.size=q:=⟨_,rfl⟩;have hlt2:W1.heap.size≤gb2:=(by rw[←hgb2];exact hB1.size);simp only[hwa2,hgb2] at hA2 MB ⊢;clear hwa2 hgb2;refine won 5 rfl fun K hK=>?_;go_simp;refine(HBg.out _ hA2 _ _ (aZg MB.out (by simp))).mono ?_;rintro e wb3 ⟨vw,rfl,hw3,hc3⟩;have VW:=lhid hw3;obtain⟨pb9,cb9,pv9,cv9,rfl,-,-,-,-⟩:=lY hw3;clear hw3;have hB3:=aB hA2 hc3;replace MB:=lhid (aS MB.out hc3);refine hK.out _ _ (fun _ _=>HS.out _ hB3) ?_;clear hK K hc3;(try simp only[Act.put,sq]);refine won 6 rfl fun K hK=>?_;have HG4:=lhid (HRX.out.later hB3);have r0:=HG4.out.cell 0 rfl;have r1:=HG4.out.cell 1 rfl;have f0:=HG4.out.frozen 0;have f1:=HG4.out.frozen 1;go_simp;refine hK.out _ _ (fun h=>absurd h (by decide)) ?_;clear hK K r0 r1 f0 f1;(try simp only[Act.put,sq]);refine wD ?_;(go_wp2_with fail);refine bodyPost_ret (bS Tryz.results15 _ _ _ _ _ rfl (bO (dQ HG4.out _ _))) rfl ?_;exact⟨_,rfl,VW.out.two_sets HG4.out _,aU (aB HAL.out hB3) HG.out _ _⟩
end Go.Proofs.YtdfegfagedeilaaGreatDoor
