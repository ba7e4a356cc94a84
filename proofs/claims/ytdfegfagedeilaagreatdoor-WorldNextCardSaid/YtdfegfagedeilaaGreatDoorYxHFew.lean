/-
  The statements' own cut of a history (not too many parts), walked. No conditions.
-/
import Derived.Test.YtdfegfagedeilaaGreatDoorYNh
namespace Go.Proofs.YtdfegfagedeilaaGreatDoor
open Go.RowKit Go.Lib
def gQ (n:Nat) (L:List (List UInt8)):List (List UInt8):=(L.take n).map (·.take 100)
def tH (t:bB):bB:=(t.1,t.2.1,t.2.2.take 25)
def bHg (h:aI):aI:=(gQ 25 h.1,gQ 45 h.2.1,(h.2.2.take 45).map tH)
theorem aHb (L:List (List UInt8)) (k:Nat) (hk:k<L.length):gQ (k+1) L=gQ k L++[L[k].take 100]:=by
 unfold gQ;rw[List.take_add_one,List.map_append];congr 1;simp[hk]
theorem aLy (L:List (List UInt8)) (n k:Nat) (h:L.length≤k) (hk:k≤n):gQ k L=gQ n L:=by
 unfold gQ;rw[List.take_of_length_le h,List.take_of_length_le (by omega)]
theorem aLz (L:List (List UInt8)) (k:Nat) (h:k≤L.length):(gQ k L).length=k:=by simp[gQ,h]
theorem aQt (L:List (List UInt8)) (n:Nat):∀ x∈gQ n L,x.length≤100:=by
 intro x hx;obtain⟨y,-,rfl⟩:=List.mem_map.1 hx;rw[List.length_take];omega
theorem bSj (L:List (List UInt8)) (n:Nat):(gQ n L).length≤n:=by simp[gQ];omega
theorem bSa (L:List (List UInt8)) (n:Nat):gQ n (gQ n L)=gQ n L:=by
 unfold gQ;rw[←List.map_take,List.take_take,Nat.min_self,List.map_map];congr 1;funext x;simp[List.take_take]
theorem bSd (t:bB):tH (tH t)=tH t:=by simp[tH,List.take_take]
theorem bSb (h:aI):bHg (bHg h)=bHg h:=by
 unfold bHg;rw[bSa,bSa, ←List.map_take,List.take_take,Nat.min_self,List.map_map];congr 2;apply List.map_congr_left;intro t _;exact bSd t
structure nV (w wr:World) (v0 v1 v2 a b c:Value):Prop where
 h:Blk wr w.heap.size 25 [v0,v1,v2]
 r:Blk wr (w.heap.size+1) 25 [.slice none 0 0,.slice none 0 0,.slice none 0 0]
 o:Blk wr (w.heap.size+1+1) 25 [a,b,c]
 b:Below w.heap.size w wr
theorem aPd {w:World} {p:Option Addr} {n c:Nat} {L:List (List UInt8)} (h:zM w (.slice p n c) L) (k:Nat) (hk:k<L.length):∃ a,p=some a∧w.cell? (a.add k)=some (.string (bs L[k]))∧L[k].length≤9223372036854775807:=by
 obtain⟨p',c',e,-,-,hc⟩:=h;injection e with e1 _ _;subst e1;obtain⟨a,cs,rfl,-,h1,rfl,h3⟩:=hc k hk;exact⟨a,rfl,by simpa using h1 0 _ rfl,h3⟩
theorem uZ (w:World) (x:ByteArray) (e:TypeId):∀ (j:Nat) (u:Value),([.string x]:List Value)[j]? = some u→(w.alloc (.cells #[.string x] e)).drew.cell? ((⟨w.heap.size,0,none⟩:Addr).add j)=some u:=fun j u hj=>mP (qM w x e j u hj)
theorem aMd {w wr w4:World} {v0 v1 v2 a b c v:Value} (h:nV w wr v0 v1 v2 a b c) (hb:Below (w.heap.size+1+1) wr w4) (ho:Blk w4 (w.heap.size+1+1) 25 [a,b,c]):nV w (w4.setCell ⟨w.heap.size+1+1,0,none⟩ v) v0 v1 v2 v b c:=
 ⟨(h.h.below hb (by omega)).far (by show w.heap.size≠w.heap.size+1+1;omega) _,(h.r.below hb (by omega)).far (by show w.heap.size+1≠w.heap.size+1+1;omega) _,ho.set 0 v,(h.b.trans (hb.mono (by omega))).setCell (by show w.heap.size≤w.heap.size+1+1;omega) _⟩
theorem tB {n:Nat} {a W:World} (hn:n≤a.heap.size) (h:Below n a W) (o:Obj):Below n a (W.alloc o):=h.alloc (Nat.le_trans hn h.size) o
theorem aHg {w wr w4:World} {v0 v1 v2 a b c v:Value} (h:nV w wr v0 v1 v2 a b c) (hb:Below (w.heap.size+1+1) wr w4) (ho:Blk w4 (w.heap.size+1+1) 25 [a,b,c]):nV w (w4.setCell ⟨w.heap.size+1+1,1,none⟩ v) v0 v1 v2 a v c:=
 ⟨(h.h.below hb (by omega)).far (by show w.heap.size≠w.heap.size+1+1;omega) _,(h.r.below hb (by omega)).far (by show w.heap.size+1≠w.heap.size+1+1;omega) _,ho.set 1 v,(h.b.trans (hb.mono (by omega))).setCell (by show w.heap.size≤w.heap.size+1+1;omega) _⟩
theorem aWy {w wr w4:World} {v0 v1 v2 a b c v:Value} (h:nV w wr v0 v1 v2 a b c) (hb:Below (w.heap.size+1+1) wr w4) (ho:Blk w4 (w.heap.size+1+1) 25 [a,b,c]):nV w (w4.setCell ⟨w.heap.size+1+1,2,none⟩ v) v0 v1 v2 a b v:=
 ⟨(h.h.below hb (by omega)).far (by show w.heap.size≠w.heap.size+1+1;omega) _,(h.r.below hb (by omega)).far (by show w.heap.size+1≠w.heap.size+1+1;omega) _,ho.set 2 v,(h.b.trans (hb.mono (by omega))).setCell (by show w.heap.size≤w.heap.size+1+1;omega) _⟩
theorem nV.later {w wr w4:World} {v0 v1 v2 a b c:Value} (h:nV w wr v0 v1 v2 a b c) (hb:Below wr.heap.size wr w4):nV w w4 v0 v1 v2 a b c:=
 ⟨h.h.later hb,h.r.later hb,h.o.later hb,h.b.trans (hb.mono h.b.size)⟩
structure bGq (w:World) (N:Nat) (wr:World) (v0 v1 v2 vs vk vt:Value) (S K:List (List UInt8)) (LV:List aLn):Prop where
 t:wr.ownsRow N 67 3 vt LV.length (jR LV)
 o:∀ t∈LV,wr.ownsRow N 82 4 t.2 t.1.2.2.length (bR t.1.2.2)
 s:wr.ownsRow 0 9 1 vs S.length (lM S)
 k:wr.ownsRow 0 9 1 vk K.length (lM K)
 b:nV w wr v0 v1 v2 vs vk vt
 c:N≤wr.heap.size
 d:w.heap.size+1+1<N
theorem aUo (a:Addr) (m j:Nat):a.add (m+(j+1))=⟨(a.add m).block,(a.add m).off+(j+1),none⟩:=by
 unfold Addr.add;by_cases h:m=0
 ·subst h;simp
 ·simp[h];omega
theorem bFs {w:World} {p:Option Addr} {n c:Nat} {L:List bB} (h:aBl w (.slice p n c) L) (k:Nat) (hk:k<L.length):∃ a sv,p=some a∧w.cell? (a.add (k*3))=some (.int .i64 L[k].1)∧w.cell? ⟨(a.add (k*3)).block,(a.add (k*3)).off+1,none⟩=some (.int .i64 L[k].2.1)∧w.cell? ⟨(a.add (k*3)).block,(a.add (k*3)).off+2,none⟩=some sv∧aLm w sv L[k].2.2:=by
 obtain⟨p',c',e,-,-,hc⟩:=h;injection e with e1 _ _;subst e1;obtain⟨a,cs,rfl,-,h1,⟨sv,rfl,h3⟩⟩:=hc k hk;exact⟨a,sv,rfl,h1 0 _ rfl,by rw[←aUo a (k*3) 0];exact h1 1 _ rfl,by rw[←aUo a (k*3) 1];exact h1 2 _ rfl,h3⟩
theorem bHt:(Tryz.prog.info? 82).map (fun i=>(i.zero,i.size,i.bytes))=some (some (.agg #[.bool false,.int .i64 0,.int .i64 0,.int .i64 0]),4,32):=by kernel_rfl
theorem bDb:(Tryz.prog.info? 67).map (fun i=>(i.zero,i.size,i.bytes))=some (some (.agg #[.int .i64 0,.int .i64 0,.slice none 0 0]),3,40):=by kernel_rfl
theorem sL (L:List OpM):(bR L).length=L.length*4:=by
 unfold bR
 induction L with
 | nil=>rfl
 | cons x L ih=>rw[List.flatMap_cons,List.length_append,ih,List.length_cons];simp[nO];omega
theorem aOa {w:World} {a:Addr} {L:List OpM} {m:Nat} (h:∀ (j:Nat) (hj:j<L.length),∃ (a':Addr) (cs:List Value),some a=some a'∧cs.length=4∧(∀ (i:Nat) (u:Value),cs[i]? = some u→w.cell? (a'.add (j*4+i))=some u)∧OpR w cs L[j]) (_:m≤L.length) :
  ∀ (q:Nat) (u:Value),(bR (L.take m))[q]? = some u→w.cell? (a.add q)=some u:=by
 intro q u hq;have hql:q<(L.take m).length*4:=(by rw[←sL];exact(List.getElem?_eq_some_iff.1 hq).1);rw[List.length_take] at hql;have hj:q / 4<L.length:=(by omega);obtain⟨a',cs,e,-,h1,h2⟩:=h (q / 4) hj;cases e;have hq':q=q / 4*4+q % 4:=(by omega);have hg:=kB nO 4 (fun _=>rfl) cG (L.take m) (q / 4) (q % 4) (by rw[List.length_take];omega) (by omega);rw[←hq'] at hg;rw[hq'];refine h1 _ _ ?_;unfold OpR at h2;rw[h2];unfold bR at hq;rw[hg] at hq;rw[←hq];congr 2;have hjm:q / 4<m:=(by omega);simp[List.getD,hjm,hj]
theorem aNx (L:List OpM):∀ u∈bR L,u.oneCell'=true:=by
 intro u hu;obtain⟨o,-,ho⟩:=List.mem_flatMap.1 hu;simp[nO] at ho;rcases ho with rfl | rfl | rfl | rfl<;>rfl
theorem yK {w wr W3 w6:World} {N:Nat} {v0 v1 v2 vs vk vt v5 v6:Value} {S K:List (List UInt8)} {LV:List aLn} {X:Obj} {ts tf:Int} {tl:List OpM} (h:bGq w N wr v0 v1 v2 vs vk vt S K LV) (hb:Below wr.heap.size wr W3)
  (h5:W3.ownsRow N 82 4 v5 tl.length (bR tl)) {k:Nat} (hk:LV.length=k) (h6:w6.ownsRow N 67 3 v6 (k+1) (jR LV++[.int .i64 ts,.int .i64 tf,v5])) (hg:(W3.alloc X).grownBy w6 vt.ownBlock) :
  bGq w N (w6.setCell ⟨w.heap.size+1+1,2,none⟩ v6) v0 v1 v2 vs vk v6 S K (LV++[((ts,tf,tl),v5)]):=by
 have hA:Below wr.heap.size wr (W3.alloc X):=hb.alloc hb.size X;have tA:=aS h.t hA;have fA:=h.b.later hA;have hd:=h.d;have hs2:N≤(W3.alloc X).heap.size:=Nat.le_trans h.c hA.size;have hb6:Below (w.heap.size+1+1) (W3.alloc X) w6:=(Below.refl _ _).grown hg (by omega) (fun k hk=>by have:=(tA.lt k hk).1;omega);have o6:Blk w6 (w.heap.size+1+1) 25 [vs,vk,vt]:=fA.o.grown tA hd hg;refine⟨?_,?_,?_,?_,aWy fA hb6 o6,?_,hd⟩
 ·have e:jR (LV++[((ts,tf,tl),v5)])=jR LV++[.int .i64 ts,.int .i64 tf,v5]:=(by simp[jR,uH]);rw[e,List.length_append,hk];exact dP h6 hd _
 ·intro t ht;rcases List.mem_append.1 ht with ht | ht
  ·exact dP (dG (aS (h.o t ht) hA) tA (by decide) hg) hd _
  ·obtain rfl:t=((ts,tf,tl),v5):=(by simpa using ht);exact dP (dG (h5.alloc X) tA (by decide) hg) hd _
 ·exact aD (dG (aS h.s hA) tA (by decide) hg) o6 (by decide) _ _
 ·exact aD (dG (aS h.k hA) tA (by decide) hg) o6 (by decide) _ _
 ·have:=hg.size;simp only[World.setCell,Array.size_modify];omega
theorem bCm {w wr:World} {N:Nat} {v0 v1 v2 vs vk vt:Value} {hM:aI} {LV:List aLn} (h:bGq w N wr v0 v1 v2 vs vk vt (gQ 25 hM.1) (gQ 45 hM.2.1) LV) (hL:LV.map (·.1)=(hM.2.2.take 45).map tH) :
  cJ (((wr.setCell ⟨w.heap.size+1,0,none⟩ vs).setCell ⟨w.heap.size+1,1,none⟩ vk).setCell ⟨w.heap.size+1,2,none⟩ vt) (.agg #[vs,vk,vt]) (bHg hM)∧aBj (((wr.setCell ⟨w.heap.size+1,0,none⟩ vs).setCell ⟨w.heap.size+1,1,none⟩ vk).setCell ⟨w.heap.size+1,2,none⟩ vt) (.agg #[vs,vk,vt]) (bHg hM) ∧
   Below w.heap.size w (((wr.setCell ⟨w.heap.size+1,0,none⟩ vs).setCell ⟨w.heap.size+1,1,none⟩ vk).setCell ⟨w.heap.size+1,2,none⟩ vt):=by
 have r0:=h.b.r;have r1:=r0.set 0 vs;have r2:=r1.set 1 vk;have ks:∀ {base size n:Nat} {e:TypeId} {v:Value} {xs:List Value},e≠25→wr.ownsRow base e size v n xs→(((wr.setCell ⟨w.heap.size+1,0,none⟩ vs).setCell ⟨w.heap.size+1,1,none⟩ vk).setCell ⟨w.heap.size+1,2,none⟩ vt).ownsRow base e size v n xs:=fun he hr=>aD (aD (aD hr r0 he 0 vs) r1 he 1 vk) r2 he 2 vt;have hs:=ks (by decide) h.s;have hk:=ks (by decide) h.k;have ht:=ks (by decide) h.t;have ho:=fun t m=>ks (by decide) (h.o t m);have hsl:∀ n L,∀ s∈gQ n L,s.length≤9223372036854775807:=fun n L s m=>(by have:=aQt L n s m;omega);refine⟨⟨vs,vk,vt,rfl,qQ hs,qQ hk,?_⟩,⟨vs,vk,vt,rfl,aIj hs (hsl _ _),aIj hk (hsl _ _),?_⟩,?_⟩
 ·have:=bEk ht (fun t m=>bIo (ho t m));rw[hL] at this;exact this
 ·have:=aZk ht (fun t m=>bEj (ho t m));rw[hL] at this;exact this
 ·exact((h.b.b.setCell (by show w.heap.size≤w.heap.size+1;omega) _).setCell (by show w.heap.size≤w.heap.size+1;omega) _).setCell (by show w.heap.size≤w.heap.size+1;omega) _
set_option maxRecDepth 100000 in
set_option maxHeartbeats 4000000 in
theorem bVg (w:World) (v:Value) (hM:aI) (hv:aBj w v hM) :
  Calls Tryz.prog 25 #[v] w fun e w'=>∃ v',e=.returned v'∧cJ w' v' (bHg hM)∧aBj w' v' (bHg hM)∧Below w.heap.size w w':=by
 obtain⟨v0,v1,v2,rfl,h0,h1,h2⟩:=hv;have A0:=lhid h0;have A1:=lhid h1;have A2:=lhid h2;obtain⟨p0,c0,rfl,l0,m0,-⟩:=h0;obtain⟨p1,c1,rfl,l1,m1,-⟩:=h1;obtain⟨p2,c2,rfl,l2,m2,-⟩:=h2;unfold maxLen at m0 m1 m2;obtain⟨i0,hi,hz0,hz1,hz2⟩:=info_parts tL;go_enter Tryz.func25,Tryz.ntmps25;go_upto_block 0 with fail
 have st0:nV w (((w.alloc (.cells #[.slice p0 hM.1.length c0,.slice p1 hM.2.1.length c1,.slice p2 hM.2.2.length c2] 25)).alloc (.cells #[.slice none 0 0,.slice none 0 0,.slice none 0 0] 25)).alloc (.cells #[.slice none 0 0,.slice none 0 0,.slice none 0 0] 25)) (.slice p0 hM.1.length c0) (.slice p1 hM.2.1.length c1) (.slice p2 hM.2.2.length c2) (.slice none 0 0) (.slice none 0 0) (.slice none 0 0):=by
  have a1:=Blk.new w 25 [.slice p0 hM.1.length c0,.slice p1 hM.2.1.length c1,.slice p2 hM.2.2.length c2];have a2:=Blk.new (w.alloc (.cells #[.slice p0 hM.1.length c0,.slice p1 hM.2.1.length c1,.slice p2 hM.2.2.length c2] 25)) 25 [.slice none 0 0,.slice none 0 0,.slice none 0 0];have a3:=Blk.new ((w.alloc (.cells #[.slice p0 hM.1.length c0,.slice p1 hM.2.1.length c1,.slice p2 hM.2.2.length c2] 25)).alloc (.cells #[.slice none 0 0,.slice none 0 0,.slice none 0 0] 25)) 25 [.slice none 0 0,.slice none 0 0,.slice none 0 0];simp only[World.size_alloc] at a2 a3;exact⟨(a1.alloc _).alloc _,a2.alloc _,a3,(((Below.refl _ _).alloc (Nat.le_refl _) _).alloc (by simp) _).alloc (by simp;omega) _⟩
 generalize (((w.alloc (.cells #[.slice p0 hM.1.length c0,.slice p1 hM.2.1.length c1,.slice p2 hM.2.2.length c2] 25)).alloc (.cells #[.slice none 0 0,.slice none 0 0,.slice none 0 0] 25)).alloc (.cells #[.slice none 0 0,.slice none 0 0,.slice none 0 0] 25))=W0 at *
 go_cut [4] (fun _ wx=>∃ va:Value,wx.ownsRow (w.heap.size+1+1+1) 9 1 va (gQ 25 hM.1).length (lM (gQ 25 hM.1))∧nV w wx (.slice p0 hM.1.length c0) (.slice p1 hM.2.1.length c1) (.slice p2 hM.2.2.length c2) (va) (.slice none 0 0) (.slice none 0 0))
 case first=>
  go_wp2_with fail
  go_loopw [4] (fun i wr=>∃ (k:Nat) (va:Value),k≤hM.1.length∧k≤25∧i=.int .i64 k∧wr.ownsRow (w.heap.size+1+1+1) 9 1 va k (lM (gQ k hM.1))∧nV w wr (.slice p0 hM.1.length c0) (.slice p1 hM.2.1.length c1) (.slice p2 hM.2.2.length c2) (va) (.slice none 0 0) (.slice none 0 0)) (fun i _=>hM.1.length-(intOf i).toNat)
  case atStart=>exact⟨0,_,Nat.zero_le _,Nat.zero_le _,rfl,World.ownsRow_nil _ _ _ _,st0⟩
  case round=>
   obtain⟨k,va,hk,hk2,rfl,hown,st⟩:=hrel;have q0:=st.h.cell 0 rfl;have q3:=st.o.cell 0 rfl;have q4:=st.o.frozen 0;have hsz:=st.o.lt;by_cases hlt:k<hM.1.length∧k<25
   ·obtain⟨hl1,hl2⟩:=hlt;obtain⟨a,rfl,hc,hxl⟩:=aPd A0.out k hl1;have hc':=cell_later st.b hc;have hnx:=aHb hM.1 k hl1;obtain⟨x,hx⟩:∃ x,hM.1[k]=x:=⟨_,rfl⟩;rw[hx] at hc' hxl hnx;have b1:0≤x.length:=Nat.zero_le _;have hsz2:w.heap.size+1+1+1≤wr.heap.size:=hsz;have hsz3:w.heap.size+1+1<wr.heap.size+1:=(by omega);have HLA:Hid ((a.add k).block<w.heap.size+1+1):=lhid (by have:=World.block_lt_of_cell? w (a.add k) hc;omega);have HS:Hid (∀ w',Below (w.heap.size+1+1+1) wr w'→(w'.cell? ⟨w.heap.size,0,none⟩=some (.slice (some a) hM.1.length c0)∧w'.cell? (a.add k)=some (.string (bs x))∧w'.cell? ⟨w.heap.size+1+1,0,none⟩=some va∧Below (w.heap.size+1+1) wr w')):=lhid (fun w' hb=>⟨(hb.cell (p:=⟨w.heap.size,0,none⟩) (by show w.heap.size<_;omega)).trans q0,(hb.cell (p:=a.add k) (by have:=HLA.out;omega)).trans hc',(hb.cell (p:=⟨w.heap.size+1+1,0,none⟩) (by show w.heap.size+1+1<_;omega)).trans q3,hb.mono (by omega)⟩);have ST:=lhid st;clear hx hc st
    have hcs:(x.length≤100∧x.take 100=x)∨100<x.length:=by
     by_cases h:x.length≤100
     ·exact .inl ⟨h,List.take_of_length_le h⟩
     ·exact .inr (by omega)
    rcases hcs with ⟨hx1,hx2⟩ | hx1
    ·rw[hx2] at hnx;have HNx:=lhid hnx;clear hx2 hnx;have hmn:(if (100:Int)<(x.length:Int) then (100:Int) else (x.length:Int))=(x.length:Int):=if_neg (by omega);have hmm:min (x.length:Int) 100=(x.length:Int):=(by omega);(go_wp2_with fail);refine wp_region_noPanic ?_;refine mI (fun w'=>w'.cell? ⟨w.heap.size,0,none⟩=some (.slice (some a) hM.1.length c0)∧w'.cell? (a.add k)=some (.string (bs x))∧w'.cell? ⟨w.heap.size+1+1,0,none⟩=some va∧Below (w.heap.size+1+1) wr w') 18 (by kernel_rfl) ?_;have hS0:=HS.out wr.drew (Below.drew (Below.refl _ _));refine aG 0 (v:=?_) rfl (by kernel_rfl) (by kernel_rfl) (by kernel_rfl) (by kernel_rfl) (by kernel_rfl) (fun _ _ _ h=>h) (Or.inl ⟨by rfl,?_⟩) hS0 ?_;rotate_left
     ·intro w' hw';(try dsimp only at hw');go_simp;try with_reducible rfl
     (try simp only[Act.put,sq]);refine aG 1 (v:=?_) rfl (by kernel_rfl) (by kernel_rfl) (by kernel_rfl) (by kernel_rfl) (by kernel_rfl) (fun _ _ _ h=>h) (Or.inl ⟨by rfl,?_⟩) hS0 ?_;rotate_left
     ·intro w' hw';(try dsimp only at hw');go_simp;try with_reducible rfl
     (try simp only[Act.put,sq]);refine aG 2 (v:=?_) rfl (by kernel_rfl) (by kernel_rfl) (by kernel_rfl) (by kernel_rfl) (by kernel_rfl) (fun _ _ _ h=>h) (Or.inl ⟨by rfl,?_⟩) hS0 ?_;rotate_left
     ·intro w' hw';(try dsimp only at hw');go_simp;try with_reducible rfl
     (try simp only[Act.put,sq]);refine aG 3 (v:=?_) rfl (by kernel_rfl) (by kernel_rfl) (by kernel_rfl) (by kernel_rfl) (by kernel_rfl) (fun _ _ _ h=>h) (Or.inl ⟨by rfl,?_⟩) hS0 ?_;rotate_left
     ·intro w' hw';(try dsimp only at hw');go_simp;try with_reducible rfl
     (try simp only[Act.put,sq]);refine aG 4 (v:=?_) rfl (by kernel_rfl) (by kernel_rfl) (by kernel_rfl) (by kernel_rfl) (by kernel_rfl) (fun _ _ _ h=>h) (Or.inl ⟨by rfl,?_⟩) hS0 ?_;rotate_left
     ·intro w' hw';(try dsimp only at hw');go_simp;try with_reducible rfl
     (try simp only[Act.put,sq]);refine aG 5 (v:=?_) rfl (by kernel_rfl) (by kernel_rfl) (by kernel_rfl) (by kernel_rfl) (by kernel_rfl) (fun _ _ _ h=>h) (Or.inl ⟨by rfl,?_⟩) hS0 ?_;rotate_left
     ·intro w' hw';(try dsimp only at hw');go_simp;try with_reducible rfl
     (try simp only[Act.put,sq]);refine aG 6 (v:=?_) rfl (by kernel_rfl) (by kernel_rfl) (by kernel_rfl) (by kernel_rfl) (by kernel_rfl) (fun _ _ _ h=>h) (Or.inl ⟨by rfl,?_⟩) hS0 ?_;rotate_left
     ·intro w' hw';(try dsimp only at hw');go_simp;try with_reducible rfl
     (try simp only[Act.put,sq]);refine aG 7 (v:=?_) rfl (by kernel_rfl) (by kernel_rfl) (by kernel_rfl) (by kernel_rfl) (by kernel_rfl) (fun _ _ _ h=>h) (Or.inl ⟨by rfl,?_⟩) hS0 ?_;rotate_left
     ·intro w' hw';(try dsimp only at hw');go_simp;try with_reducible rfl
     (try simp only[Act.put,sq]);refine aG 8 (v:=?_) rfl (by kernel_rfl) (by kernel_rfl) (by kernel_rfl) (by kernel_rfl) (by kernel_rfl) (fun _ _ _ h=>h) (Or.inl ⟨by rfl,?_⟩) hS0 ?_;rotate_left
     ·intro w' hw';(try dsimp only at hw');go_simp;try with_reducible rfl
     (try simp only[Act.put,sq]);refine aG 9 (v:=?_) rfl (by kernel_rfl) (by kernel_rfl) (by kernel_rfl) (by kernel_rfl) (by kernel_rfl) (fun _ _ _ h=>h) (Or.inl ⟨by rfl,?_⟩) hS0 ?_;rotate_left
     ·intro w' hw';(try dsimp only at hw');go_simp;try with_reducible rfl
     (try simp only[Act.put,sq]);refine aG 10 (v:=?_) rfl (by kernel_rfl) (by kernel_rfl) (by kernel_rfl) (by kernel_rfl) (by kernel_rfl) (fun _ _ _ h=>h) (Or.inl ⟨by rfl,?_⟩) hS0 ?_;rotate_left
     ·intro w' hw';(try dsimp only at hw');go_simp;try with_reducible rfl
     (try simp only[Act.put,sq]);refine aG 11 (v:=?_) rfl (by kernel_rfl) (by kernel_rfl) (by kernel_rfl) (by kernel_rfl) (by kernel_rfl) (fun _ _ _ h=>h) (Or.inl ⟨by rfl,?_⟩) hS0 ?_;rotate_left
     ·intro w' hw';(try dsimp only at hw');go_simp;try with_reducible rfl
     (try simp only[Act.put,sq]);refine aG 12 (v:=?_) rfl (by kernel_rfl) (by kernel_rfl) (by kernel_rfl) (by kernel_rfl) (by kernel_rfl) (fun _ _ _ h=>h) (Or.inl ⟨by rfl,?_⟩) hS0 ?_;rotate_left
     ·intro w' hw';(try dsimp only at hw');go_simp;try with_reducible rfl
     (try simp only[Act.put,sq]);refine aG 13 (v:=?_) rfl (by kernel_rfl) (by kernel_rfl) (by kernel_rfl) (by kernel_rfl) (by kernel_rfl) (fun _ _ _ h=>h) (Or.inl ⟨by rfl,?_⟩) hS0 ?_;rotate_left
     ·intro w' hw';(try dsimp only at hw');go_simp;try with_reducible rfl
     (try simp only[Act.put,sq]);refine aG 14 (v:=?_) rfl (by kernel_rfl) (by kernel_rfl) (by kernel_rfl) (by kernel_rfl) (by kernel_rfl) (fun _ _ _ h=>h) (Or.inl ⟨by rfl,?_⟩) hS0 ?_;rotate_left
     ·intro w' hw';(try dsimp only at hw');go_simp;try with_reducible rfl
     (try simp only[Act.put,sq]);refine gB 15 rfl (by kernel_rfl) (fun K hK=>?_);go_simp;refine hK.out _ _ (fun _=>HS.out _ (by(repeat (first | assumption | exact Below.refl _ _ | refine Below.drew ?_ | refine tB (by omega) ?_ _ | refine Below.setCell ?_ (by simp) _)))) ?_;clear hK K hS0 hmn hmm;(try simp only[Act.put,sq]);refine gB 16 rfl (by kernel_rfl) (fun K hK=>?_);refine aY (by rfl) _ _ 22 (by rfl) (w.heap.size+1+1+1) 9 i0 (.string ByteArray.empty) 1 16 Tryz.underlying22 hi hz0 hz1 hz2 rfl (by decide) va k (lM (gQ k hM.1)) (by rfl) (by first | exact(hown.alloc _).drew | exact hown.drew.alloc _) ⟨wr.heap.size,0,none⟩ 1 1 [_] (by rfl) rfl (by first | exact qM _ _ _ | exact uZ _ _ _) (xI _) (by unfold maxLen;omega) (by omega) (by simp;omega) ?_;intro v' w4 hown4 hgrow hnil;obtain⟨g4,cap4,rfl⟩:=lV hown4;have hbw4:Below (w.heap.size+1+1) wr w4:=(by first | exact kP (tB (by omega) (Below.refl _ _) _).drew (by omega) (by omega) (hown.alloc _).drew hgrow | exact kP (tB (by omega) (Below.drew (Below.refl _ _)) _) (by omega) (by omega) (hown.drew.alloc _) hgrow);have q5:Blk w4 (w.heap.size+1+1) 25 [va,.slice none 0 0,.slice none 0 0]:=(by first | exact(ST.out.o.alloc _).drew.grown (hown.alloc _).drew (by omega) hgrow | exact(ST.out.o.drew.alloc _).grown (hown.drew.alloc _) (by omega) hgrow);have q6:=q5.cell 0 rfl;have q7:=q5.frozen 0;have HO4:=lhid hown4;have HQ5:=lhid q5
     skip
     have HW4:=lhid hbw4;have hS4:w4.cell? ⟨w.heap.size,0,none⟩=some (.slice (some a) hM.1.length c0)∧w4.cell? (a.add k)=some (.string (bs x))∧w4.cell? ⟨w.heap.size+1+1,0,none⟩=some va∧Below (w.heap.size+1+1) wr w4:=⟨(hbw4.cell (p:=⟨w.heap.size,0,none⟩) (by show w.heap.size<_;omega)).trans q0,(hbw4.cell (p:=a.add k) (HLA.out)).trans hc',q6,hbw4⟩;clear hnil hgrow hown4 q5 hbw4;refine hK.out _ _ (fun _=>hS4) ?_;clear hK K;(try simp only[Act.put,sq]);refine aG 17 (v:=?_) rfl (by kernel_rfl) (by kernel_rfl) (by kernel_rfl) (by kernel_rfl) (by kernel_rfl) (fun _ _ _ h=>h) (Or.inl ⟨by rfl,?_⟩) hS4 ?_;rotate_left
     ·intro w' hw';(try dsimp only at hw');go_simp;try with_reducible rfl
     (try simp only[Act.put,sq]);refine gB 18 rfl (by kernel_rfl) (fun K hK=>?_);go_simp;refine hK.out _ _ (fun h=>absurd rfl h) ?_;clear hK K hS4;refine pE (by kernel_rfl) (NoPanic.normal ?_) _
     skip
     clear q6 q7 q3 q4 q0 hc';(try simp only[Act.put,sq]);(go_wp2_with fail);go_roundw
     case rel=>exact⟨k+1,_,by omega,by omega,by go_num,dP (by rw[HNx.out, ←nU];exact HO4.out) (by show w.heap.size+1+1<_;omega) _,aMd ST.out HW4.out HQ5.out⟩
     case measure=>simp[intOf];omega
    ·have HNx:=lhid hnx;clear hnx;have hmn:(if (100:Int)<(x.length:Int) then (100:Int) else (x.length:Int))=100∧(100:Int)≤(x.length:Int):=⟨if_pos (by omega),by omega⟩;have hmm:min (x.length:Int) 100=100:=(by omega);(go_wp2_with fail);refine wp_region_noPanic ?_;refine mI (fun w'=>w'.cell? ⟨w.heap.size,0,none⟩=some (.slice (some a) hM.1.length c0)∧w'.cell? (a.add k)=some (.string (bs x))∧w'.cell? ⟨w.heap.size+1+1,0,none⟩=some va∧Below (w.heap.size+1+1) wr w') 18 (by kernel_rfl) ?_;have hS0:=HS.out wr.drew (Below.drew (Below.refl _ _));refine aG 0 (v:=?_) rfl (by kernel_rfl) (by kernel_rfl) (by kernel_rfl) (by kernel_rfl) (by kernel_rfl) (fun _ _ _ h=>h) (Or.inl ⟨by rfl,?_⟩) hS0 ?_;rotate_left
     ·intro w' hw';(try dsimp only at hw');go_simp;try with_reducible rfl
     (try simp only[Act.put,sq]);refine aG 1 (v:=?_) rfl (by kernel_rfl) (by kernel_rfl) (by kernel_rfl) (by kernel_rfl) (by kernel_rfl) (fun _ _ _ h=>h) (Or.inl ⟨by rfl,?_⟩) hS0 ?_;rotate_left
     ·intro w' hw';(try dsimp only at hw');go_simp;try with_reducible rfl
     (try simp only[Act.put,sq]);refine aG 2 (v:=?_) rfl (by kernel_rfl) (by kernel_rfl) (by kernel_rfl) (by kernel_rfl) (by kernel_rfl) (fun _ _ _ h=>h) (Or.inl ⟨by rfl,?_⟩) hS0 ?_;rotate_left
     ·intro w' hw';(try dsimp only at hw');go_simp;try with_reducible rfl
     (try simp only[Act.put,sq]);refine aG 3 (v:=?_) rfl (by kernel_rfl) (by kernel_rfl) (by kernel_rfl) (by kernel_rfl) (by kernel_rfl) (fun _ _ _ h=>h) (Or.inl ⟨by rfl,?_⟩) hS0 ?_;rotate_left
     ·intro w' hw';(try dsimp only at hw');go_simp;try with_reducible rfl
     (try simp only[Act.put,sq]);refine aG 4 (v:=?_) rfl (by kernel_rfl) (by kernel_rfl) (by kernel_rfl) (by kernel_rfl) (by kernel_rfl) (fun _ _ _ h=>h) (Or.inl ⟨by rfl,?_⟩) hS0 ?_;rotate_left
     ·intro w' hw';(try dsimp only at hw');go_simp;try with_reducible rfl
     (try simp only[Act.put,sq]);refine aG 5 (v:=?_) rfl (by kernel_rfl) (by kernel_rfl) (by kernel_rfl) (by kernel_rfl) (by kernel_rfl) (fun _ _ _ h=>h) (Or.inl ⟨by rfl,?_⟩) hS0 ?_;rotate_left
     ·intro w' hw';(try dsimp only at hw');go_simp;try with_reducible rfl
     (try simp only[Act.put,sq]);refine aG 6 (v:=?_) rfl (by kernel_rfl) (by kernel_rfl) (by kernel_rfl) (by kernel_rfl) (by kernel_rfl) (fun _ _ _ h=>h) (Or.inl ⟨by rfl,?_⟩) hS0 ?_;rotate_left
     ·intro w' hw';(try dsimp only at hw');go_simp;try with_reducible rfl
     (try simp only[Act.put,sq]);refine aG 7 (v:=?_) rfl (by kernel_rfl) (by kernel_rfl) (by kernel_rfl) (by kernel_rfl) (by kernel_rfl) (fun _ _ _ h=>h) (Or.inl ⟨by rfl,?_⟩) hS0 ?_;rotate_left
     ·intro w' hw';(try dsimp only at hw');go_simp;try with_reducible rfl
     (try simp only[Act.put,sq]);refine aG 8 (v:=?_) rfl (by kernel_rfl) (by kernel_rfl) (by kernel_rfl) (by kernel_rfl) (by kernel_rfl) (fun _ _ _ h=>h) (Or.inl ⟨by rfl,?_⟩) hS0 ?_;rotate_left
     ·intro w' hw';(try dsimp only at hw');go_simp;try with_reducible rfl
     (try simp only[Act.put,sq]);refine aG 9 (v:=?_) rfl (by kernel_rfl) (by kernel_rfl) (by kernel_rfl) (by kernel_rfl) (by kernel_rfl) (fun _ _ _ h=>h) (Or.inl ⟨by rfl,?_⟩) hS0 ?_;rotate_left
     ·intro w' hw';(try dsimp only at hw');go_simp;try with_reducible rfl
     (try simp only[Act.put,sq]);refine aG 10 (v:=?_) rfl (by kernel_rfl) (by kernel_rfl) (by kernel_rfl) (by kernel_rfl) (by kernel_rfl) (fun _ _ _ h=>h) (Or.inl ⟨by rfl,?_⟩) hS0 ?_;rotate_left
     ·intro w' hw';(try dsimp only at hw');go_simp;try with_reducible rfl
     (try simp only[Act.put,sq]);refine aG 11 (v:=?_) rfl (by kernel_rfl) (by kernel_rfl) (by kernel_rfl) (by kernel_rfl) (by kernel_rfl) (fun _ _ _ h=>h) (Or.inl ⟨by rfl,?_⟩) hS0 ?_;rotate_left
     ·intro w' hw';(try dsimp only at hw');go_simp;try with_reducible rfl
     (try simp only[Act.put,sq]);refine aG 12 (v:=?_) rfl (by kernel_rfl) (by kernel_rfl) (by kernel_rfl) (by kernel_rfl) (by kernel_rfl) (fun _ _ _ h=>h) (Or.inl ⟨by rfl,?_⟩) hS0 ?_;rotate_left
     ·intro w' hw';(try dsimp only at hw');go_simp;try with_reducible rfl
     (try simp only[Act.put,sq]);refine aG 13 (v:=?_) rfl (by kernel_rfl) (by kernel_rfl) (by kernel_rfl) (by kernel_rfl) (by kernel_rfl) (fun _ _ _ h=>h) (Or.inl ⟨by rfl,?_⟩) hS0 ?_;rotate_left
     ·intro w' hw';(try dsimp only at hw');go_simp;try with_reducible rfl
     (try simp only[Act.put,sq]);refine aG 14 (v:=?_) rfl (by kernel_rfl) (by kernel_rfl) (by kernel_rfl) (by kernel_rfl) (by kernel_rfl) (fun _ _ _ h=>h) (Or.inl ⟨by rfl,?_⟩) hS0 ?_;rotate_left
     ·intro w' hw';(try dsimp only at hw');go_simp;try with_reducible rfl
     (try simp only[Act.put,sq]);refine gB 15 rfl (by kernel_rfl) (fun K hK=>?_);go_simp;refine hK.out _ _ (fun _=>HS.out _ (by(repeat (first | assumption | exact Below.refl _ _ | refine Below.drew ?_ | refine tB (by omega) ?_ _ | refine Below.setCell ?_ (by simp) _)))) ?_;clear hK K hS0 hmn hmm;(try simp only[Act.put,sq]);refine gB 16 rfl (by kernel_rfl) (fun K hK=>?_);refine aY (by rfl) _ _ 22 (by rfl) (w.heap.size+1+1+1) 9 i0 (.string ByteArray.empty) 1 16 Tryz.underlying22 hi hz0 hz1 hz2 rfl (by decide) va k (lM (gQ k hM.1)) (by rfl) (by first | exact(hown.alloc _).drew | exact hown.drew.alloc _) ⟨wr.heap.size,0,none⟩ 1 1 [_] (by rfl) rfl (by first | exact qM _ _ _ | exact uZ _ _ _) (xI _) (by unfold maxLen;omega) (by omega) (by simp;omega) ?_;intro v' w4 hown4 hgrow hnil;obtain⟨g4,cap4,rfl⟩:=lV hown4;have hbw4:Below (w.heap.size+1+1) wr w4:=(by first | exact kP (tB (by omega) (Below.refl _ _) _).drew (by omega) (by omega) (hown.alloc _).drew hgrow | exact kP (tB (by omega) (Below.drew (Below.refl _ _)) _) (by omega) (by omega) (hown.drew.alloc _) hgrow);have q5:Blk w4 (w.heap.size+1+1) 25 [va,.slice none 0 0,.slice none 0 0]:=(by first | exact(ST.out.o.alloc _).drew.grown (hown.alloc _).drew (by omega) hgrow | exact(ST.out.o.drew.alloc _).grown (hown.drew.alloc _) (by omega) hgrow);have q6:=q5.cell 0 rfl;have q7:=q5.frozen 0;have HO4:=lhid hown4;have HQ5:=lhid q5
     skip
     have HW4:=lhid hbw4;have hS4:w4.cell? ⟨w.heap.size,0,none⟩=some (.slice (some a) hM.1.length c0)∧w4.cell? (a.add k)=some (.string (bs x))∧w4.cell? ⟨w.heap.size+1+1,0,none⟩=some va∧Below (w.heap.size+1+1) wr w4:=⟨(hbw4.cell (p:=⟨w.heap.size,0,none⟩) (by show w.heap.size<_;omega)).trans q0,(hbw4.cell (p:=a.add k) (HLA.out)).trans hc',q6,hbw4⟩;clear hnil hgrow hown4 q5 hbw4;refine hK.out _ _ (fun _=>hS4) ?_;clear hK K;(try simp only[Act.put,sq]);refine aG 17 (v:=?_) rfl (by kernel_rfl) (by kernel_rfl) (by kernel_rfl) (by kernel_rfl) (by kernel_rfl) (fun _ _ _ h=>h) (Or.inl ⟨by rfl,?_⟩) hS4 ?_;rotate_left
     ·intro w' hw';(try dsimp only at hw');go_simp;try with_reducible rfl
     (try simp only[Act.put,sq]);refine gB 18 rfl (by kernel_rfl) (fun K hK=>?_);go_simp;refine hK.out _ _ (fun h=>absurd rfl h) ?_;clear hK K hS4;refine pE (by kernel_rfl) (NoPanic.normal ?_) _
     skip
     clear q6 q7 q3 q4 q0 hc';(try simp only[Act.put,sq]);(go_wp2_with fail);go_roundw
     case rel=>exact⟨k+1,_,by omega,by omega,by go_num,dP (by rw[HNx.out, ←nU];exact HO4.out) (by show w.heap.size+1+1<_;omega) _,aMd ST.out HW4.out HQ5.out⟩
     case measure=>simp[intOf];omega
   ·have hcut:gQ k hM.1=gQ 25 hM.1:=by
     by_cases h:k<hM.1.length
     ·rw[show k=25 by omega]
     ·exact aLy _ _ _ (by omega) hk2
    have hlen:k=(gQ 25 hM.1).length:=(by rw[←hcut,aLz _ _ hk]);rw[hcut] at hown;have HO:Hid (wr.ownsRow (w.heap.size+1+1+1) 9 1 va (gQ 25 hM.1).length (lM (gQ 25 hM.1))):=lhid (by rw[←hlen];exact hown);have ST:=lhid st
    skip
    have hle:∀ (K:Prop),((hM.1.length≤k)→K)→((k<hM.1.length∧25≤k)→K)→K:=fun K h1 h2=>by
     by_cases h:k<hM.1.length
     ·exact h2 ⟨h,by omega⟩
     ·exact h1 (by omega)
    clear hcut hlen hown st;refine hle _ (fun hs1=>?_) (fun hs2=>?_)
    all_goals
     clear hle hlt;(go_wp2_with fail);go_meet;exact⟨_,HO.out,ST.out⟩
 case rest=>
  clear st0;obtain⟨vs,hown1,st0⟩:=hcut;have hwc:w.heap.size+1+1<wc.heap.size:=st0.o.lt;have HN1:Hid (∀ k,vs.ownBlock=some k→k<wc.heap.size):=lhid (fun k hk=>(hown1.lt k hk).2);go_upto_block 2 with fail
  go_cut [5] (fun _ wx=>∃ va:Value,wx.ownsRow wc.heap.size 9 1 va (gQ 45 hM.2.1).length (lM (gQ 45 hM.2.1))∧nV w wx (.slice p0 hM.1.length c0) (.slice p1 hM.2.1.length c1) (.slice p2 hM.2.2.length c2) (vs) (va) (.slice none 0 0)∧wx.ownsRow (w.heap.size+1+1+1) 9 1 vs (gQ 25 hM.1).length (lM (gQ 25 hM.1)))
  case first=>
   go_wp2_with fail
   go_loopw [5] (fun i wr=>∃ (k:Nat) (va:Value),k≤hM.2.1.length∧k≤45∧i=.int .i64 k∧wr.ownsRow wc.heap.size 9 1 va k (lM (gQ k hM.2.1))∧nV w wr (.slice p0 hM.1.length c0) (.slice p1 hM.2.1.length c1) (.slice p2 hM.2.2.length c2) (vs) (va) (.slice none 0 0)∧wr.ownsRow (w.heap.size+1+1+1) 9 1 vs (gQ 25 hM.1).length (lM (gQ 25 hM.1))∧wc.heap.size≤wr.heap.size) (fun i _=>hM.2.1.length-(intOf i).toNat)
   case atStart=>exact⟨0,_,Nat.zero_le _,Nat.zero_le _,rfl,World.ownsRow_nil _ _ _ _,st0,hown1,Nat.le_refl _⟩
   case round=>
    obtain⟨k,va,hk,hk2,rfl,hown,st,hown1,hbs⟩:=hrel;have q0:=st.h.cell 1 rfl;have q3:=st.o.cell 1 rfl;have q4:=st.o.frozen 1;have hsz:=st.o.lt;by_cases hlt:k<hM.2.1.length∧k<45
    ·obtain⟨hl1,hl2⟩:=hlt;obtain⟨a,rfl,hc,hxl⟩:=aPd A1.out k hl1;have hc':=cell_later st.b hc;have hnx:=aHb hM.2.1 k hl1;obtain⟨x,hx⟩:∃ x,hM.2.1[k]=x:=⟨_,rfl⟩;rw[hx] at hc' hxl hnx;have b1:0≤x.length:=Nat.zero_le _;have hsz2:wc.heap.size≤wr.heap.size:=hbs;have hsz3:w.heap.size+1+1<wr.heap.size+1:=(by omega);have HLA:Hid ((a.add k).block<w.heap.size+1+1):=lhid (by have:=World.block_lt_of_cell? w (a.add k) hc;omega);have HS:Hid (∀ w',Below (w.heap.size+1+1+1) wr w'→(w'.cell? ⟨w.heap.size,1,none⟩=some (.slice (some a) hM.2.1.length c1)∧w'.cell? (a.add k)=some (.string (bs x))∧w'.cell? ⟨w.heap.size+1+1,1,none⟩=some va∧Below (w.heap.size+1+1) wr w')):=lhid (fun w' hb=>⟨(hb.cell (p:=⟨w.heap.size,1,none⟩) (by show w.heap.size<_;omega)).trans q0,(hb.cell (p:=a.add k) (by have:=HLA.out;omega)).trans hc',(hb.cell (p:=⟨w.heap.size+1+1,1,none⟩) (by show w.heap.size+1+1<_;omega)).trans q3,hb.mono (by omega)⟩);have ST:=lhid st;clear hx hc st
     have hcs:(x.length≤100∧x.take 100=x)∨100<x.length:=by
      by_cases h:x.length≤100
      ·exact .inl ⟨h,List.take_of_length_le h⟩
      ·exact .inr (by omega)
     rcases hcs with ⟨hx1,hx2⟩ | hx1
     ·rw[hx2] at hnx;have HNx:=lhid hnx;clear hx2 hnx;have hmn:(if (100:Int)<(x.length:Int) then (100:Int) else (x.length:Int))=(x.length:Int):=if_neg (by omega);have hmm:min (x.length:Int) 100=(x.length:Int):=(by omega);(go_wp2_with fail);refine wp_region_noPanic ?_;refine mI (fun w'=>w'.cell? ⟨w.heap.size,1,none⟩=some (.slice (some a) hM.2.1.length c1)∧w'.cell? (a.add k)=some (.string (bs x))∧w'.cell? ⟨w.heap.size+1+1,1,none⟩=some va∧Below (w.heap.size+1+1) wr w') 18 (by kernel_rfl) ?_;have hS0:=HS.out wr.drew (Below.drew (Below.refl _ _));refine aG 0 (v:=?_) rfl (by kernel_rfl) (by kernel_rfl) (by kernel_rfl) (by kernel_rfl) (by kernel_rfl) (fun _ _ _ h=>h) (Or.inl ⟨by rfl,?_⟩) hS0 ?_;rotate_left
      ·intro w' hw';(try dsimp only at hw');go_simp;try with_reducible rfl
      (try simp only[Act.put,sq]);refine aG 1 (v:=?_) rfl (by kernel_rfl) (by kernel_rfl) (by kernel_rfl) (by kernel_rfl) (by kernel_rfl) (fun _ _ _ h=>h) (Or.inl ⟨by rfl,?_⟩) hS0 ?_;rotate_left
      ·intro w' hw';(try dsimp only at hw');go_simp;try with_reducible rfl
      (try simp only[Act.put,sq]);refine aG 2 (v:=?_) rfl (by kernel_rfl) (by kernel_rfl) (by kernel_rfl) (by kernel_rfl) (by kernel_rfl) (fun _ _ _ h=>h) (Or.inl ⟨by rfl,?_⟩) hS0 ?_;rotate_left
      ·intro w' hw';(try dsimp only at hw');go_simp;try with_reducible rfl
      (try simp only[Act.put,sq]);refine aG 3 (v:=?_) rfl (by kernel_rfl) (by kernel_rfl) (by kernel_rfl) (by kernel_rfl) (by kernel_rfl) (fun _ _ _ h=>h) (Or.inl ⟨by rfl,?_⟩) hS0 ?_;rotate_left
      ·intro w' hw';(try dsimp only at hw');go_simp;try with_reducible rfl
      (try simp only[Act.put,sq]);refine aG 4 (v:=?_) rfl (by kernel_rfl) (by kernel_rfl) (by kernel_rfl) (by kernel_rfl) (by kernel_rfl) (fun _ _ _ h=>h) (Or.inl ⟨by rfl,?_⟩) hS0 ?_;rotate_left
      ·intro w' hw';(try dsimp only at hw');go_simp;try with_reducible rfl
      (try simp only[Act.put,sq]);refine aG 5 (v:=?_) rfl (by kernel_rfl) (by kernel_rfl) (by kernel_rfl) (by kernel_rfl) (by kernel_rfl) (fun _ _ _ h=>h) (Or.inl ⟨by rfl,?_⟩) hS0 ?_;rotate_left
      ·intro w' hw';(try dsimp only at hw');go_simp;try with_reducible rfl
      (try simp only[Act.put,sq]);refine aG 6 (v:=?_) rfl (by kernel_rfl) (by kernel_rfl) (by kernel_rfl) (by kernel_rfl) (by kernel_rfl) (fun _ _ _ h=>h) (Or.inl ⟨by rfl,?_⟩) hS0 ?_;rotate_left
      ·intro w' hw';(try dsimp only at hw');go_simp;try with_reducible rfl
      (try simp only[Act.put,sq]);refine aG 7 (v:=?_) rfl (by kernel_rfl) (by kernel_rfl) (by kernel_rfl) (by kernel_rfl) (by kernel_rfl) (fun _ _ _ h=>h) (Or.inl ⟨by rfl,?_⟩) hS0 ?_;rotate_left
      ·intro w' hw';(try dsimp only at hw');go_simp;try with_reducible rfl
      (try simp only[Act.put,sq]);refine aG 8 (v:=?_) rfl (by kernel_rfl) (by kernel_rfl) (by kernel_rfl) (by kernel_rfl) (by kernel_rfl) (fun _ _ _ h=>h) (Or.inl ⟨by rfl,?_⟩) hS0 ?_;rotate_left
      ·intro w' hw';(try dsimp only at hw');go_simp;try with_reducible rfl
      (try simp only[Act.put,sq]);refine aG 9 (v:=?_) rfl (by kernel_rfl) (by kernel_rfl) (by kernel_rfl) (by kernel_rfl) (by kernel_rfl) (fun _ _ _ h=>h) (Or.inl ⟨by rfl,?_⟩) hS0 ?_;rotate_left
      ·intro w' hw';(try dsimp only at hw');go_simp;try with_reducible rfl
      (try simp only[Act.put,sq]);refine aG 10 (v:=?_) rfl (by kernel_rfl) (by kernel_rfl) (by kernel_rfl) (by kernel_rfl) (by kernel_rfl) (fun _ _ _ h=>h) (Or.inl ⟨by rfl,?_⟩) hS0 ?_;rotate_left
      ·intro w' hw';(try dsimp only at hw');go_simp;try with_reducible rfl
      (try simp only[Act.put,sq]);refine aG 11 (v:=?_) rfl (by kernel_rfl) (by kernel_rfl) (by kernel_rfl) (by kernel_rfl) (by kernel_rfl) (fun _ _ _ h=>h) (Or.inl ⟨by rfl,?_⟩) hS0 ?_;rotate_left
      ·intro w' hw';(try dsimp only at hw');go_simp;try with_reducible rfl
      (try simp only[Act.put,sq]);refine aG 12 (v:=?_) rfl (by kernel_rfl) (by kernel_rfl) (by kernel_rfl) (by kernel_rfl) (by kernel_rfl) (fun _ _ _ h=>h) (Or.inl ⟨by rfl,?_⟩) hS0 ?_;rotate_left
      ·intro w' hw';(try dsimp only at hw');go_simp;try with_reducible rfl
      (try simp only[Act.put,sq]);refine aG 13 (v:=?_) rfl (by kernel_rfl) (by kernel_rfl) (by kernel_rfl) (by kernel_rfl) (by kernel_rfl) (fun _ _ _ h=>h) (Or.inl ⟨by rfl,?_⟩) hS0 ?_;rotate_left
      ·intro w' hw';(try dsimp only at hw');go_simp;try with_reducible rfl
      (try simp only[Act.put,sq]);refine aG 14 (v:=?_) rfl (by kernel_rfl) (by kernel_rfl) (by kernel_rfl) (by kernel_rfl) (by kernel_rfl) (fun _ _ _ h=>h) (Or.inl ⟨by rfl,?_⟩) hS0 ?_;rotate_left
      ·intro w' hw';(try dsimp only at hw');go_simp;try with_reducible rfl
      (try simp only[Act.put,sq]);refine gB 15 rfl (by kernel_rfl) (fun K hK=>?_);go_simp;refine hK.out _ _ (fun _=>HS.out _ (by(repeat (first | assumption | exact Below.refl _ _ | refine Below.drew ?_ | refine tB (by omega) ?_ _ | refine Below.setCell ?_ (by simp) _)))) ?_;clear hK K hS0 hmn hmm;(try simp only[Act.put,sq]);refine gB 16 rfl (by kernel_rfl) (fun K hK=>?_);refine aY (by rfl) _ _ 22 (by rfl) wc.heap.size 9 i0 (.string ByteArray.empty) 1 16 Tryz.underlying22 hi hz0 hz1 hz2 rfl (by decide) va k (lM (gQ k hM.2.1)) (by rfl) (by first | exact(hown.alloc _).drew | exact hown.drew.alloc _) ⟨wr.heap.size,0,none⟩ 1 1 [_] (by rfl) rfl (by first | exact qM _ _ _ | exact uZ _ _ _) (xI _) (by unfold maxLen;omega) (by omega) (by simp;omega) ?_;intro v' w4 hown4 hgrow hnil;obtain⟨g4,cap4,rfl⟩:=lV hown4;have hbw4:Below (w.heap.size+1+1) wr w4:=(by first | exact kP (tB (by omega) (Below.refl _ _) _).drew (by omega) (by omega) (hown.alloc _).drew hgrow | exact kP (tB (by omega) (Below.drew (Below.refl _ _)) _) (by omega) (by omega) (hown.drew.alloc _) hgrow);have q5:Blk w4 (w.heap.size+1+1) 25 [vs,va,.slice none 0 0]:=(by first | exact(ST.out.o.alloc _).drew.grown (hown.alloc _).drew (by omega) hgrow | exact(ST.out.o.drew.alloc _).grown (hown.drew.alloc _) (by omega) hgrow);have q6:=q5.cell 1 rfl;have q7:=q5.frozen 1;have HO4:=lhid hown4;have HQ5:=lhid q5;have hown14:w4.ownsRow (w.heap.size+1+1+1) 9 1 vs (gQ 25 hM.1).length (lM (gQ 25 hM.1)):=(by first | exact sM (hown1.alloc _).drew HN1.out (hown.alloc _).drew hgrow | exact sM (hown1.drew.alloc _) HN1.out (hown.drew.alloc _) hgrow);have hown15:=lhid hown14;have HW4:=lhid hbw4;have hS4:w4.cell? ⟨w.heap.size,1,none⟩=some (.slice (some a) hM.2.1.length c1)∧w4.cell? (a.add k)=some (.string (bs x))∧w4.cell? ⟨w.heap.size+1+1,1,none⟩=some va∧Below (w.heap.size+1+1) wr w4:=⟨(hbw4.cell (p:=⟨w.heap.size,1,none⟩) (by show w.heap.size<_;omega)).trans q0,(hbw4.cell (p:=a.add k) (HLA.out)).trans hc',q6,hbw4⟩;clear hnil hgrow hown4 q5 hbw4 hown14;refine hK.out _ _ (fun _=>hS4) ?_;clear hK K;(try simp only[Act.put,sq]);refine aG 17 (v:=?_) rfl (by kernel_rfl) (by kernel_rfl) (by kernel_rfl) (by kernel_rfl) (by kernel_rfl) (fun _ _ _ h=>h) (Or.inl ⟨by rfl,?_⟩) hS4 ?_;rotate_left
      ·intro w' hw';(try dsimp only at hw');go_simp;try with_reducible rfl
      (try simp only[Act.put,sq]);refine gB 18 rfl (by kernel_rfl) (fun K hK=>?_);go_simp;refine hK.out _ _ (fun h=>absurd rfl h) ?_;clear hK K hS4;refine pE (by kernel_rfl) (NoPanic.normal ?_) _;have hbs4:wc.heap.size≤(w4.setCell ⟨w.heap.size+1+1,1,none⟩ (.slice (some ⟨g4,0,none⟩) (k+1) cap4)).heap.size:=(by have:=HW4.out.size;simp;omega);clear q6 q7 q3 q4 q0 hc';(try simp only[Act.put,sq]);(go_wp2_with fail);go_roundw
      case rel=>exact⟨k+1,_,by omega,by omega,by go_num,dP (by rw[HNx.out, ←nU];exact HO4.out) (by show w.heap.size+1+1<_;omega) _,aHg ST.out HW4.out HQ5.out,dP hown15.out (by show w.heap.size+1+1<_;omega) _,hbs4⟩
      case measure=>simp[intOf];omega
     ·have HNx:=lhid hnx;clear hnx;have hmn:(if (100:Int)<(x.length:Int) then (100:Int) else (x.length:Int))=100∧(100:Int)≤(x.length:Int):=⟨if_pos (by omega),by omega⟩;have hmm:min (x.length:Int) 100=100:=(by omega);(go_wp2_with fail);refine wp_region_noPanic ?_;refine mI (fun w'=>w'.cell? ⟨w.heap.size,1,none⟩=some (.slice (some a) hM.2.1.length c1)∧w'.cell? (a.add k)=some (.string (bs x))∧w'.cell? ⟨w.heap.size+1+1,1,none⟩=some va∧Below (w.heap.size+1+1) wr w') 18 (by kernel_rfl) ?_;have hS0:=HS.out wr.drew (Below.drew (Below.refl _ _));refine aG 0 (v:=?_) rfl (by kernel_rfl) (by kernel_rfl) (by kernel_rfl) (by kernel_rfl) (by kernel_rfl) (fun _ _ _ h=>h) (Or.inl ⟨by rfl,?_⟩) hS0 ?_;rotate_left
      ·intro w' hw';(try dsimp only at hw');go_simp;try with_reducible rfl
      (try simp only[Act.put,sq]);refine aG 1 (v:=?_) rfl (by kernel_rfl) (by kernel_rfl) (by kernel_rfl) (by kernel_rfl) (by kernel_rfl) (fun _ _ _ h=>h) (Or.inl ⟨by rfl,?_⟩) hS0 ?_;rotate_left
      ·intro w' hw';(try dsimp only at hw');go_simp;try with_reducible rfl
      (try simp only[Act.put,sq]);refine aG 2 (v:=?_) rfl (by kernel_rfl) (by kernel_rfl) (by kernel_rfl) (by kernel_rfl) (by kernel_rfl) (fun _ _ _ h=>h) (Or.inl ⟨by rfl,?_⟩) hS0 ?_;rotate_left
      ·intro w' hw';(try dsimp only at hw');go_simp;try with_reducible rfl
      (try simp only[Act.put,sq]);refine aG 3 (v:=?_) rfl (by kernel_rfl) (by kernel_rfl) (by kernel_rfl) (by kernel_rfl) (by kernel_rfl) (fun _ _ _ h=>h) (Or.inl ⟨by rfl,?_⟩) hS0 ?_;rotate_left
      ·intro w' hw';(try dsimp only at hw');go_simp;try with_reducible rfl
      (try simp only[Act.put,sq]);refine aG 4 (v:=?_) rfl (by kernel_rfl) (by kernel_rfl) (by kernel_rfl) (by kernel_rfl) (by kernel_rfl) (fun _ _ _ h=>h) (Or.inl ⟨by rfl,?_⟩) hS0 ?_;rotate_left
      ·intro w' hw';(try dsimp only at hw');go_simp;try with_reducible rfl
      (try simp only[Act.put,sq]);refine aG 5 (v:=?_) rfl (by kernel_rfl) (by kernel_rfl) (by kernel_rfl) (by kernel_rfl) (by kernel_rfl) (fun _ _ _ h=>h) (Or.inl ⟨by rfl,?_⟩) hS0 ?_;rotate_left
      ·intro w' hw';(try dsimp only at hw');go_simp;try with_reducible rfl
      (try simp only[Act.put,sq]);refine aG 6 (v:=?_) rfl (by kernel_rfl) (by kernel_rfl) (by kernel_rfl) (by kernel_rfl) (by kernel_rfl) (fun _ _ _ h=>h) (Or.inl ⟨by rfl,?_⟩) hS0 ?_;rotate_left
      ·intro w' hw';(try dsimp only at hw');go_simp;try with_reducible rfl
      (try simp only[Act.put,sq]);refine aG 7 (v:=?_) rfl (by kernel_rfl) (by kernel_rfl) (by kernel_rfl) (by kernel_rfl) (by kernel_rfl) (fun _ _ _ h=>h) (Or.inl ⟨by rfl,?_⟩) hS0 ?_;rotate_left
      ·intro w' hw';(try dsimp only at hw');go_simp;try with_reducible rfl
      (try simp only[Act.put,sq]);refine aG 8 (v:=?_) rfl (by kernel_rfl) (by kernel_rfl) (by kernel_rfl) (by kernel_rfl) (by kernel_rfl) (fun _ _ _ h=>h) (Or.inl ⟨by rfl,?_⟩) hS0 ?_;rotate_left
      ·intro w' hw';(try dsimp only at hw');go_simp;try with_reducible rfl
      (try simp only[Act.put,sq]);refine aG 9 (v:=?_) rfl (by kernel_rfl) (by kernel_rfl) (by kernel_rfl) (by kernel_rfl) (by kernel_rfl) (fun _ _ _ h=>h) (Or.inl ⟨by rfl,?_⟩) hS0 ?_;rotate_left
      ·intro w' hw';(try dsimp only at hw');go_simp;try with_reducible rfl
      (try simp only[Act.put,sq]);refine aG 10 (v:=?_) rfl (by kernel_rfl) (by kernel_rfl) (by kernel_rfl) (by kernel_rfl) (by kernel_rfl) (fun _ _ _ h=>h) (Or.inl ⟨by rfl,?_⟩) hS0 ?_;rotate_left
      ·intro w' hw';(try dsimp only at hw');go_simp;try with_reducible rfl
      (try simp only[Act.put,sq]);refine aG 11 (v:=?_) rfl (by kernel_rfl) (by kernel_rfl) (by kernel_rfl) (by kernel_rfl) (by kernel_rfl) (fun _ _ _ h=>h) (Or.inl ⟨by rfl,?_⟩) hS0 ?_;rotate_left
      ·intro w' hw';(try dsimp only at hw');go_simp;try with_reducible rfl
      (try simp only[Act.put,sq]);refine aG 12 (v:=?_) rfl (by kernel_rfl) (by kernel_rfl) (by kernel_rfl) (by kernel_rfl) (by kernel_rfl) (fun _ _ _ h=>h) (Or.inl ⟨by rfl,?_⟩) hS0 ?_;rotate_left
      ·intro w' hw';(try dsimp only at hw');go_simp;try with_reducible rfl
      (try simp only[Act.put,sq]);refine aG 13 (v:=?_) rfl (by kernel_rfl) (by kernel_rfl) (by kernel_rfl) (by kernel_rfl) (by kernel_rfl) (fun _ _ _ h=>h) (Or.inl ⟨by rfl,?_⟩) hS0 ?_;rotate_left
      ·intro w' hw';(try dsimp only at hw');go_simp;try with_reducible rfl
      (try simp only[Act.put,sq]);refine aG 14 (v:=?_) rfl (by kernel_rfl) (by kernel_rfl) (by kernel_rfl) (by kernel_rfl) (by kernel_rfl) (fun _ _ _ h=>h) (Or.inl ⟨by rfl,?_⟩) hS0 ?_;rotate_left
      ·intro w' hw';(try dsimp only at hw');go_simp;try with_reducible rfl
      (try simp only[Act.put,sq]);refine gB 15 rfl (by kernel_rfl) (fun K hK=>?_);go_simp;refine hK.out _ _ (fun _=>HS.out _ (by(repeat (first | assumption | exact Below.refl _ _ | refine Below.drew ?_ | refine tB (by omega) ?_ _ | refine Below.setCell ?_ (by simp) _)))) ?_;clear hK K hS0 hmn hmm;(try simp only[Act.put,sq]);refine gB 16 rfl (by kernel_rfl) (fun K hK=>?_);refine aY (by rfl) _ _ 22 (by rfl) wc.heap.size 9 i0 (.string ByteArray.empty) 1 16 Tryz.underlying22 hi hz0 hz1 hz2 rfl (by decide) va k (lM (gQ k hM.2.1)) (by rfl) (by first | exact(hown.alloc _).drew | exact hown.drew.alloc _) ⟨wr.heap.size,0,none⟩ 1 1 [_] (by rfl) rfl (by first | exact qM _ _ _ | exact uZ _ _ _) (xI _) (by unfold maxLen;omega) (by omega) (by simp;omega) ?_;intro v' w4 hown4 hgrow hnil;obtain⟨g4,cap4,rfl⟩:=lV hown4;have hbw4:Below (w.heap.size+1+1) wr w4:=(by first | exact kP (tB (by omega) (Below.refl _ _) _).drew (by omega) (by omega) (hown.alloc _).drew hgrow | exact kP (tB (by omega) (Below.drew (Below.refl _ _)) _) (by omega) (by omega) (hown.drew.alloc _) hgrow);have q5:Blk w4 (w.heap.size+1+1) 25 [vs,va,.slice none 0 0]:=(by first | exact(ST.out.o.alloc _).drew.grown (hown.alloc _).drew (by omega) hgrow | exact(ST.out.o.drew.alloc _).grown (hown.drew.alloc _) (by omega) hgrow);have q6:=q5.cell 1 rfl;have q7:=q5.frozen 1;have HO4:=lhid hown4;have HQ5:=lhid q5;have hown14:w4.ownsRow (w.heap.size+1+1+1) 9 1 vs (gQ 25 hM.1).length (lM (gQ 25 hM.1)):=(by first | exact sM (hown1.alloc _).drew HN1.out (hown.alloc _).drew hgrow | exact sM (hown1.drew.alloc _) HN1.out (hown.drew.alloc _) hgrow);have hown15:=lhid hown14;have HW4:=lhid hbw4;have hS4:w4.cell? ⟨w.heap.size,1,none⟩=some (.slice (some a) hM.2.1.length c1)∧w4.cell? (a.add k)=some (.string (bs x))∧w4.cell? ⟨w.heap.size+1+1,1,none⟩=some va∧Below (w.heap.size+1+1) wr w4:=⟨(hbw4.cell (p:=⟨w.heap.size,1,none⟩) (by show w.heap.size<_;omega)).trans q0,(hbw4.cell (p:=a.add k) (HLA.out)).trans hc',q6,hbw4⟩;clear hnil hgrow hown4 q5 hbw4 hown14;refine hK.out _ _ (fun _=>hS4) ?_;clear hK K;(try simp only[Act.put,sq]);refine aG 17 (v:=?_) rfl (by kernel_rfl) (by kernel_rfl) (by kernel_rfl) (by kernel_rfl) (by kernel_rfl) (fun _ _ _ h=>h) (Or.inl ⟨by rfl,?_⟩) hS4 ?_;rotate_left
      ·intro w' hw';(try dsimp only at hw');go_simp;try with_reducible rfl
      (try simp only[Act.put,sq]);refine gB 18 rfl (by kernel_rfl) (fun K hK=>?_);go_simp;refine hK.out _ _ (fun h=>absurd rfl h) ?_;clear hK K hS4;refine pE (by kernel_rfl) (NoPanic.normal ?_) _;have hbs4:wc.heap.size≤(w4.setCell ⟨w.heap.size+1+1,1,none⟩ (.slice (some ⟨g4,0,none⟩) (k+1) cap4)).heap.size:=(by have:=HW4.out.size;simp;omega);clear q6 q7 q3 q4 q0 hc';(try simp only[Act.put,sq]);(go_wp2_with fail);go_roundw
      case rel=>exact⟨k+1,_,by omega,by omega,by go_num,dP (by rw[HNx.out, ←nU];exact HO4.out) (by show w.heap.size+1+1<_;omega) _,aHg ST.out HW4.out HQ5.out,dP hown15.out (by show w.heap.size+1+1<_;omega) _,hbs4⟩
      case measure=>simp[intOf];omega
    ·have hcut:gQ k hM.2.1=gQ 45 hM.2.1:=by
      by_cases h:k<hM.2.1.length
      ·rw[show k=45 by omega]
      ·exact aLy _ _ _ (by omega) hk2
     have hlen:k=(gQ 45 hM.2.1).length:=(by rw[←hcut,aLz _ _ hk]);rw[hcut] at hown;have HO:Hid (wr.ownsRow wc.heap.size 9 1 va (gQ 45 hM.2.1).length (lM (gQ 45 hM.2.1))):=lhid (by rw[←hlen];exact hown);have ST:=lhid st;have hown15:=lhid hown1
     have hle:∀ (K:Prop),((hM.2.1.length≤k)→K)→((k<hM.2.1.length∧45≤k)→K)→K:=fun K h1 h2=>by
      by_cases h:k<hM.2.1.length
      ·exact h2 ⟨h,by omega⟩
      ·exact h1 (by omega)
     clear hcut hlen hown st hown1;refine hle _ (fun hs1=>?_) (fun hs2=>?_)
     all_goals
      clear hle hlt;(go_wp2_with fail);go_meet;exact⟨_,HO.out,ST.out,hown15.out⟩
  case rest=>
   clear st0;obtain⟨vk,hown2,st0,hown1'⟩:=hcut;clear hown1;have hwc:=st0.o.lt;obtain⟨i3,hi3,hy0,hy1,hy2⟩:=info_parts bHt;obtain⟨i4,hi4,hw0,hw1,hw2⟩:=info_parts bDb;go_wp2_with fail
   go_loopw [6] (fun i wr=>∃ (k:Nat) (vt:Value) (LV:List aLn),k≤hM.2.2.length∧k≤45∧i=.int .i64 k∧LV.map (·.1)=(hM.2.2.take k).map tH∧bGq w wc.heap.size wr (.slice p0 hM.1.length c0) (.slice p1 hM.2.1.length c1) (.slice p2 hM.2.2.length c2) vs vk vt (gQ 25 hM.1) (gQ 45 hM.2.1) LV) (fun i _=>hM.2.2.length-(intOf i).toNat)
   case atStart=>exact⟨0,_,[],Nat.zero_le _,Nat.zero_le _,rfl,rfl,World.ownsRow_nil _ _ _ _,(fun t ht=>by cases ht),cQ hown1' (Nat.zero_le _),cQ hown2 (Nat.zero_le _),st0,Nat.le_refl _,hwc⟩
   case round=>
    obtain⟨k,vt,LV,hk,hk2,rfl,hLV,st⟩:=hrel
    have hll:LV.length=k:=by
     have:=congrArg List.length hLV;simpa [hk] using this
    have q0:=st.b.h.cell 2 rfl;have q3:=st.b.o.cell 2 rfl;have q4:=st.b.o.frozen 2;by_cases hlt:k<hM.2.2.length∧k<45
    ·obtain⟨hl1,hl2⟩:=hlt;obtain⟨a,sv,rfl,hc0,hc1,hc2,hops⟩:=bFs A2.out k hl1;have r0:=cell_later st.b.b hc0;have r1:=cell_later st.b.b hc1;have r2:=cell_later st.b.b hc2;have hops':=hops.below st.b.b
     have hnx:(hM.2.2.take (k+1)).map tH=(hM.2.2.take k).map tH++[tH hM.2.2[k]]:=by
      rw[List.take_add_one,List.map_append];congr 1;simp[hl1]
     obtain⟨t,ht⟩:∃ t,hM.2.2[k]=t:=⟨_,rfl⟩;rw[ht] at r0 r1 hops' hnx;obtain⟨ts,tf,tl⟩:=t;simp only[tH] at r0 r1 hops' hnx;have ST:=lhid st;have HNx:=lhid hnx;have HLV:=lhid hLV;have hws:w.heap.size+1+1<wr.heap.size:=Nat.lt_of_lt_of_le hwc st.c;have t0:=Blk.new wr 67 [.int .i64 ts,.int .i64 tf,sv]
     have hown0:((wr.alloc (.cells #[.int .i64 ts,.int .i64 tf,sv] 67)).alloc (.cells #[] 82)).ownsRow (wr.heap.size+1) 82 4 (.slice (some ⟨wr.heap.size+1,0,none⟩) 0 0) 0 (bR []):=by
      have:=World.ownsRow_made (base:=wr.heap.size+1) (size:=4) (e:=82) (wr.alloc (.cells #[.int .i64 ts,.int .i64 tf,sv] 67)) #[] 0 (by simp) (Nat.zero_le _) rfl;simpa [bR] using this
     clear hnx hLV st ht hc0 hc1 hc2 hops;obtain⟨p4,c4,rfl,l4,m4,ho4⟩:=hops';unfold maxLen at m4;have HOP:=lhid ho4;clear ho4
     have hcs:tl=[]∧p4=none∨(∃ a4,p4=some a4∧tl.length≤25∧tl.take 25=tl)∨(∃ a4,p4=some a4∧25<tl.length):=by
      cases p4 with
      | none=>
       left
       cases tl with
       | nil=>exact⟨rfl,rfl⟩
       | cons x l=>obtain⟨_,_,h,-⟩:=HOP.out 0 (by simp);cases h
      | some a4=>
       by_cases h:tl.length≤25
       ·exact .inr (.inl ⟨a4,rfl,h,List.take_of_length_le h⟩)
       ·exact .inr (.inr ⟨a4,rfl,by omega⟩)
     rcases hcs with ⟨rfl,rfl⟩ | ⟨a4,rfl,h25,e25⟩ | ⟨a4,rfl,h25⟩
     ·have hb3:Below wr.heap.size wr ((wr.alloc (.cells #[.int .i64 ts,.int .i64 tf,.slice (some ⟨wr.heap.size+1,0,none⟩) 0 0] 67)).alloc (.cells #[] 82)):=(((Below.refl _ _).alloc (Nat.le_refl _) _).alloc (by simp) _)
      have hx5:((wr.alloc (.cells #[.int .i64 ts,.int .i64 tf,.slice (some ⟨wr.heap.size+1,0,none⟩) 0 0] 67)).alloc (.cells #[] 82)).ownsRow wc.heap.size 82 4 (.slice (some ⟨wr.heap.size+1,0,none⟩) 0 0) 0 (bR []):=by
       have hc:=ST.out.c;have:=World.ownsRow_made (base:=wc.heap.size) (size:=4) (e:=82) (wr.alloc (.cells #[.int .i64 ts,.int .i64 tf,.slice (some ⟨wr.heap.size+1,0,none⟩) 0 0] 67)) #[] 0 (by simp;omega) (Nat.zero_le _) rfl;simpa [bR] using this
      have HX5:=lhid hx5;have HB3:=lhid hb3;have hq1:w.heap.size+1+1<wr.heap.size+1:=(by omega);have hq2:w.heap.size+1+1<wr.heap.size+1+1:=(by omega);have o3:=ST.out.b.o.later hb3;have y2:=o3.cell 2 rfl;have yf:=o3.frozen 2;clear hb3 hx5 o3 t0 hown0;(go_wp2_with (at_builtin;refine wpList_append_own _ rfl (.tmp 94) (.tmp 96) 23 rfl wc.heap.size 67 i4 (.agg #[.int .i64 0,.int .i64 0,.slice none 0 0]) 3 40 Tryz.underlying23 hi4 hw0 hw1 hw2 rfl (by decide) vt LV.length (jR LV) rfl ((aS ST.out.t HB3.out).alloc _) ⟨wr.heap.size+1+1,0,none⟩ 1 1 [.int .i64 ts,.int .i64 tf,.slice (some ⟨wr.heap.size+1,0,none⟩) 0 0] rfl rfl (dB _ _ _ _ (by simp)) (by intro u hu;simp at hu;rcases hu with rfl | rfl | rfl<;>rfl) (by unfold maxLen;omega) (by omega) (by have:=ST.out.c;simp;omega) ?_));intro v6 w6 hown6 hgrow6 hnil6;obtain⟨g6,c6,rfl⟩:=lV hown6;have st6:=yK (tl:=[]) ST.out HB3.out HX5.out hll hown6 hgrow6;have o6:=(ST.out.b.o.later ((HB3.out).alloc HB3.out.size (.cells #[.int .i64 ts,.int .i64 tf,.slice (some ⟨wr.heap.size+1,0,none⟩) 0 0] 67))).grown ((aS ST.out.t HB3.out).alloc _) hwc hgrow6;have q7:=o6.cell 2 rfl;have q8:=o6.frozen 2;have S6:=lhid st6;clear hown6 hgrow6 hnil6 st6 o6 y2 yf q0 q3 q4 r0 r1 r2;(go_wp2_with fail);go_roundw
      case rel=>exact⟨k+1,_,_,by omega,by omega,by go_num,by rw[HNx.out,List.map_append,HLV.out];rfl,S6.out⟩
      case measure=>simp[intOf];omega
     ·have hm25:min (tl.length:Int) 25=(tl.length:Int):=(by omega);rw[e25] at HNx;have hnw:=aOa HOP.out (Nat.le_refl _);rw[List.take_length] at hnw;have HNW:=lhid hnw;clear hnw;(go_wp2_with (at_builtin;refine wpList_append_own _ rfl (.tmp 83) (.tmp 90) 65 rfl (wr.heap.size+1) 82 i3 (.agg #[.bool false,.int .i64 0,.int .i64 0,.int .i64 0]) 4 32 Tryz.underlying65 hi3 hy0 hy1 hy2 rfl (by decide) _ 0 (bR []) rfl hown0 a4 tl.length c4 (bR tl) rfl (by rw[sL]) (fun q u hq=>lQ _ (lQ _ (HNW.out q u hq))) (aNx _) (by unfold maxLen;omega) (by omega) (by simp) ?_));intro v5 w2 hown5 hgrow5 hnil5;rw[show bR []++(bR tl)=(bR tl) from rfl] at hown5;have hb2:Below wr.heap.size wr w2:=(((Below.refl _ _).alloc (Nat.le_refl _) _).alloc (by simp) _).grown hgrow5 (by simp;omega) (fun k hk=>by simp[Value.ownBlock] at hk;omega);have t2:Blk w2 wr.heap.size 67 [.int .i64 ts,.int .i64 tf,.slice (some a4) tl.length c4]:=(t0.alloc _).kept hgrow5 (by simp[Value.ownBlock]);obtain⟨p5,c5,rfl⟩:=aF hown5;have z0:=t2.cell 0 rfl;have z1:=t2.cell 1 rfl;have z2:=t2.cell 2 rfl;have zf:=t2.frozen 2;have o2:=ST.out.b.o.later hb2;have y2:=o2.cell 2 rfl;have yf:=o2.frozen 2;have hne1:wr.heap.size<w2.heap.size:=t2.lt;have hb3:=hb2.setCell (p:=⟨wr.heap.size,2,none⟩) (Nat.le_refl _) (.slice p5 tl.length c5);have hx5:(w2.setCell ⟨wr.heap.size,2,none⟩ (.slice p5 tl.length c5)).ownsRow wc.heap.size 82 4 (.slice p5 tl.length c5) tl.length (bR tl):=cQ (dP hown5 (by show wr.heap.size<wr.heap.size+1;omega) _) (by have:=ST.out.c;omega);have HX5:=lhid hx5;have HB3:=lhid hb3;have hne2:¬(w.heap.size+1+1=wr.heap.size):=(by omega);have hne3:¬(wr.heap.size=w.heap.size+1+1):=(by omega);clear hown5 hgrow5 hnil5 hb2 t2 o2 q0 q3 q4 r0 r1 r2 t0 hown0 hb3 hx5;(go_wp2_with (at_builtin;refine wpList_append_own _ rfl (.tmp 94) (.tmp 96) 23 rfl wc.heap.size 67 i4 (.agg #[.int .i64 0,.int .i64 0,.slice none 0 0]) 3 40 Tryz.underlying23 hi4 hw0 hw1 hw2 rfl (by decide) vt LV.length (jR LV) rfl ((aS ST.out.t HB3.out).alloc _) ⟨w2.heap.size,0,none⟩ 1 1 [.int .i64 ts,.int .i64 tf,.slice p5 tl.length c5] rfl rfl (dB _ _ _ _ (by simp[World.setCell])) (by intro u hu;simp at hu;rcases hu with rfl | rfl | rfl<;>rfl) (by unfold maxLen;omega) (by omega) (by have:=ST.out.c;simp[World.setCell];omega) ?_));intro v6 w6 hown6 hgrow6 hnil6;obtain⟨g6,c6,rfl⟩:=lV hown6;have st6:=yK ST.out HB3.out HX5.out hll hown6 hgrow6;have o6:=(ST.out.b.o.later ((HB3.out).alloc HB3.out.size (.cells #[.int .i64 ts,.int .i64 tf,.slice p5 tl.length c5] 67))).grown ((aS ST.out.t HB3.out).alloc _) hwc hgrow6;have q7:=o6.cell 2 rfl;have q8:=o6.frozen 2;have S6:=lhid st6;clear hown6 hgrow6 hnil6 st6 o6 z0 z1 z2 zf y2 yf;(go_wp2_with fail);go_roundw
      case rel=>exact⟨k+1,_,_,by omega,by omega,by go_num,by rw[HNx.out,List.map_append,HLV.out];rfl,S6.out⟩
      case measure=>simp[intOf];omega
     ·have hm25:min (tl.length:Int) 25=25:=(by omega);have hnw:=aOa HOP.out (m:=25) (by omega);have HNW:=lhid hnw;have e25:(tl.take 25).length=25:=(by rw[List.length_take];omega);clear hnw;(go_wp2_with (at_builtin;refine wpList_append_own _ rfl (.tmp 83) (.tmp 90) 65 rfl (wr.heap.size+1) 82 i3 (.agg #[.bool false,.int .i64 0,.int .i64 0,.int .i64 0]) 4 32 Tryz.underlying65 hi3 hy0 hy1 hy2 rfl (by decide) _ 0 (bR []) rfl hown0 a4 25 c4 (bR (tl.take 25)) rfl (by rw[sL,e25]) (fun q u hq=>lQ _ (lQ _ (HNW.out q u hq))) (aNx _) (by unfold maxLen;omega) (by omega) (by simp) ?_));intro v5 w2 hown5 hgrow5 hnil5;rw[show bR []++(bR (tl.take 25))=(bR (tl.take 25)) from rfl] at hown5;have hb2:Below wr.heap.size wr w2:=(((Below.refl _ _).alloc (Nat.le_refl _) _).alloc (by simp) _).grown hgrow5 (by simp;omega) (fun k hk=>by simp[Value.ownBlock] at hk;omega);have t2:Blk w2 wr.heap.size 67 [.int .i64 ts,.int .i64 tf,.slice (some a4) tl.length c4]:=(t0.alloc _).kept hgrow5 (by simp[Value.ownBlock]);obtain⟨p5,c5,rfl⟩:=aF hown5;have z0:=t2.cell 0 rfl;have z1:=t2.cell 1 rfl;have z2:=t2.cell 2 rfl;have zf:=t2.frozen 2;have o2:=ST.out.b.o.later hb2;have y2:=o2.cell 2 rfl;have yf:=o2.frozen 2;have hne1:wr.heap.size<w2.heap.size:=t2.lt;have hb3:=hb2.setCell (p:=⟨wr.heap.size,2,none⟩) (Nat.le_refl _) (.slice p5 25 c5);have hx5:(w2.setCell ⟨wr.heap.size,2,none⟩ (.slice p5 25 c5)).ownsRow wc.heap.size 82 4 (.slice p5 25 c5) 25 (bR (tl.take 25)):=cQ (dP hown5 (by show wr.heap.size<wr.heap.size+1;omega) _) (by have:=ST.out.c;omega);have HX5:=lhid hx5;have HB3:=lhid hb3;have hne2:¬(w.heap.size+1+1=wr.heap.size):=(by omega);have hne3:¬(wr.heap.size=w.heap.size+1+1):=(by omega);clear hown5 hgrow5 hnil5 hb2 t2 o2 q0 q3 q4 r0 r1 r2 t0 hown0 hb3 hx5;(go_wp2_with (at_builtin;refine wpList_append_own _ rfl (.tmp 94) (.tmp 96) 23 rfl wc.heap.size 67 i4 (.agg #[.int .i64 0,.int .i64 0,.slice none 0 0]) 3 40 Tryz.underlying23 hi4 hw0 hw1 hw2 rfl (by decide) vt LV.length (jR LV) rfl ((aS ST.out.t HB3.out).alloc _) ⟨w2.heap.size,0,none⟩ 1 1 [.int .i64 ts,.int .i64 tf,.slice p5 25 c5] rfl rfl (dB _ _ _ _ (by simp[World.setCell])) (by intro u hu;simp at hu;rcases hu with rfl | rfl | rfl<;>rfl) (by unfold maxLen;omega) (by omega) (by have:=ST.out.c;simp[World.setCell];omega) ?_));intro v6 w6 hown6 hgrow6 hnil6;obtain⟨g6,c6,rfl⟩:=lV hown6;have st6:=yK (tl:=tl.take 25) ST.out HB3.out (by rw[e25];exact HX5.out) hll hown6 hgrow6;have o6:=(ST.out.b.o.later ((HB3.out).alloc HB3.out.size (.cells #[.int .i64 ts,.int .i64 tf,.slice p5 25 c5] 67))).grown ((aS ST.out.t HB3.out).alloc _) hwc hgrow6;have q7:=o6.cell 2 rfl;have q8:=o6.frozen 2;have S6:=lhid st6;clear hown6 hgrow6 hnil6 st6 o6 z0 z1 z2 zf y2 yf;(go_wp2_with fail);go_roundw
      case rel=>exact⟨k+1,_,_,by omega,by omega,by go_num,by rw[HNx.out,List.map_append,HLV.out];rfl,S6.out⟩
      case measure=>simp[intOf];omega
    ·have hall:LV.map (·.1)=(hM.2.2.take 45).map tH:=by
      rw[hLV];by_cases h:k<hM.2.2.length
      ·rw[show k=45 by omega]
      ·rw[List.take_of_length_le (show hM.2.2.length≤k by omega),List.take_of_length_le (show hM.2.2.length≤45 by omega)]
     obtain⟨x0,y0,rfl⟩:=aF st.s;obtain⟨x1,y1,rfl⟩:=aF st.k;obtain⟨x2,y2,rfl⟩:=aF st.t;have e1:=bCm st hall;rw[hll] at e1;have r3:=((st.b.r.set 0 (.slice x0 (gQ 25 hM.1).length y0)).set 1 (.slice x1 (gQ 45 hM.2.1).length y1)).set 2 (.slice x2 k y2);have E:=lhid e1;have R:=lhid r3;clear e1 r3;rw[hll] at q3;have g0:=st.b.o.cell 0 rfl;have g1:=st.b.o.cell 1 rfl;have f0:=st.b.r.cell 0 rfl;have f1:=st.b.r.cell 1 rfl;have f2:=st.b.r.cell 2 rfl;have n0:=st.b.r.frozen 0;have n1:=st.b.r.frozen 1;have n2:=st.b.r.frozen 2
     have hle:∀ (K:Prop),((hM.2.2.length≤k)→K)→((k<hM.2.2.length∧45≤k)→K)→K:=fun K h1 h2=>by
      by_cases h:k<hM.2.2.length
      ·exact h2 ⟨h,by omega⟩
      ·exact h1 (by omega)
     clear hall hLV st;refine hle _ (fun hs1=>?_) (fun hs2=>?_)
     all_goals
      clear hle hlt;(go_wp2_with fail);have c0:=R.out.cell 0 rfl;have c1:=R.out.cell 1 rfl;have c2:=R.out.cell 2 rfl;refine bodyPost_ret (v:=.agg #[.slice x0 (gQ 25 hM.1).length y0,.slice x1 (gQ 45 hM.2.1).length y1,.slice x2 k y2]) ?_ rfl ⟨_,rfl,E.out.1,E.out.2.1,E.out.2.2⟩;simp[results,Tryz.results25,go_sem,c0,c1,c2]
end Go.Proofs.YtdfegfagedeilaaGreatDoor
