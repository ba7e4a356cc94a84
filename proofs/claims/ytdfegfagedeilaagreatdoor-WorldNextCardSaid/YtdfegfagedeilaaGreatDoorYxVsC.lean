/-
  slices.Compact at a row of values, walked: of elements that are the same, one behind the other, one stays. No conditions.
-/
import Derived.Test.YtdfegfagedeilaaGreatDoorYNj
import Derived.Lib.LazyBuf
namespace Go.Proofs.YtdfegfagedeilaaGreatDoor
open Go.RowKit Go.Lib
structure kA (w:World) (g c:Nat) (d:Array bZ):Prop where
 lies:∃ cur:Array Value,w.heap[g]? = some (.cells cur 57 (0,0))∧cur.size=c
 cells:∀ j,j<d.size→w.cell? ⟨g,j*2,none⟩=some (.int .i64 d[j]!.1)∧w.cell? ⟨g,j*2+1,none⟩=some (.int .i64 d[j]!.2)∧w.frozen? ⟨g,j*2,none⟩=false∧w.frozen? ⟨g,j*2+1,none⟩=false
theorem kA.lt {w:World} {g c:Nat} {d:Array bZ} (h:kA w g c d):g<w.heap.size:=by
 obtain⟨cur,hc,-⟩:=h.lies;exact(Array.getElem?_eq_some_iff.1 hc).1
theorem kA.later {w w':World} {g c B:Nat} {d:Array bZ} (h:kA w g c d) (hb:Below B w w') (hg:g<B):kA w' g c d:=by
 have e:=hb.block g hg;refine⟨by rw[e];exact h.lies,fun j hj=>?_⟩;have hc:∀ i,w'.cell? ⟨g,i,none⟩=w.cell? ⟨g,i,none⟩:=fun i=>(by simp only[World.cell?,e]);have hf:∀ i,w'.frozen? ⟨g,i,none⟩=w.frozen? ⟨g,i,none⟩:=fun i=>(by simp only[World.frozen?,e]);rw[hc,hc,hf,hf];exact h.cells j hj
theorem pD (L:List bZ) (i:Nat) (hi:i<L.length*2):(aJ L)[i]? = some (.int .i64 (if i % 2=0 then (L.getD (i / 2) (0,0)).1 else (L.getD (i / 2) (0,0)).2)):=by
 induction L generalizing i with
 | nil=>exact absurd hi (by simp)
 | cons x r ih=>
  have e:aJ (x::r)=.int .i64 x.1::.int .i64 x.2::aJ r:=rfl;rw[e]
  match i with
  | 0=>rfl
  | 1=>rfl
  | i+2=>
   rw[List.getElem?_cons_succ,List.getElem?_cons_succ,ih i (by simp at hi;omega),show(i+2) % 2=i % 2 by omega,show(i+2) / 2=i / 2+1 by omega];rfl
theorem aDj {w:World} {g c:Nat} {e:TypeId} (h:∃ cur:Array Value,w.heap[g]? = some (.cells cur e (0,0))∧cur.size=c) (i:Nat) (v:Value):∃ cur:Array Value,(w.setCell ⟨g,i,none⟩ v).heap[g]? = some (.cells cur e (0,0))∧cur.size=c:=by
 obtain⟨cur,hc,hs⟩:=h;exact⟨cur.setIfInBounds i v,by simp[World.setCell,Array.getElem?_modify,hc],by simpa using hs⟩
theorem kA.put {w:World} {g c:Nat} {d:Array bZ} (h:kA w g c d) (k:Nat) (hk:k<d.size) (x:bZ):kA ((w.setCell ⟨g,k*2,none⟩ (.int .i64 x.1)).setCell ⟨g,k*2+1,none⟩ (.int .i64 x.2)) g c (d.setIfInBounds k x):=by
 refine⟨aDj (aDj h.lies _ _) _ _,fun j hj=>?_⟩;have hj':j<d.size:=(by simpa using hj);obtain⟨c1,c2,f1,f2⟩:=h.cells j hj';have hne:∀ a b:Nat,a≠b→(⟨g,a,none⟩:Addr)≠⟨g,b,none⟩:=fun a b hab e=>hab (by injection e);refine⟨?_,?_,by simpa using f1,by simpa using f2⟩
 ·rw[World.cell?_setCell_other _ _ _ _ (hne _ _ (by omega))];by_cases e:j=k
  ·subst e;rw[World.cell?_setCell_same _ _ _ c1];simp[hj']
  ·rw[World.cell?_setCell_other _ _ _ _ (hne _ _ (by omega)),c1];simp[hj',Ne.symm e]
 ·by_cases e:j=k
  ·subst e
   have c2':(w.setCell ⟨g,j*2,none⟩ (.int .i64 x.1)).cell? ⟨g,j*2+1,none⟩=some (.int .i64 d[j]!.2):=by
    rw[World.cell?_setCell_other _ _ _ _ (hne _ _ (by omega)),c2]
   rw[World.cell?_setCell_same _ _ _ c2'];simp[hj']
  ·rw[World.cell?_setCell_other _ _ _ _ (hne _ _ (by omega)),World.cell?_setCell_other _ _ _ _ (hne _ _ (by omega)),c2];simp[hj',Ne.symm e]
theorem aBp {B:Nat} {a:World}:∀ (vs:List Value) (o:Nat) (w:World),Below B a w→Below B a (w.setCells B o vs)
 | [],_,_,h=>h
 | v::r,_,_,h=>aBp r _ _ (h.setCell (Nat.le_refl _) v)
theorem aHs {g c:Nat} {e:TypeId}:∀ (vs:List Value) (o:Nat) (w:World),(∃ cur:Array Value,w.heap[g]? = some (.cells cur e (0,0))∧cur.size=c)→∃ cur:Array Value,(w.setCells g o vs).heap[g]? = some (.cells cur e (0,0))∧cur.size=c
 | [],_,_,h=>h
 | v::r,_,_,h=>aHs r _ _ (aDj h _ v)
theorem kA.clear {w:World} {g c:Nat} {d:Array bZ} (h:kA w g c d) (k:Nat) (vs:List Value) (L:Array bZ) (hL:L.size=k) (hk:k≤d.size) (he:∀ j,j<k→L[j]! = d[j]!):kA (w.setCells g (k*2) vs) g c L:=by
 refine⟨aHs _ _ _ h.lies,fun j hj=>?_⟩;rw[World.cell?_setCells_out _ _ _ _ _ (fun _ _=>.inl (by show j*2<k*2;omega)),World.cell?_setCells_out _ _ _ _ _ (fun _ _=>.inl (by show j*2+1<k*2;omega)),World.frozen?_setCells,World.frozen?_setCells,he j (by omega)];exact h.cells j (by omega)
theorem aEw (w:World) (t e ty:TypeId) (ht:Tryz.prog.underlying t=some (.slice e)) (hv:∀ w,(zeroValue e).run Tryz.prog w=.ok (.agg #[.int .i64 0,.int .i64 0]) w) (b o n c:Nat) (hn:0<n)
  (hc:∀ j,j<n*2→(w.cell? ⟨b,o+j,none⟩).isSome=true) (hf:∀ j,j<n*2→w.frozen? ⟨b,o+j,none⟩=false) :
  (Builtin.clear_ #[t] ty #[.slice (some ⟨b,o,none⟩) n c]).run Tryz.prog w=.ok (.tuple #[]) (w.setCells b o (List.replicate (n*2) (.int .i64 0))):=by
 have hz:(Value.agg #[.int .i64 0,.int .i64 0]).cells=#[.int .i64 0,.int .i64 0]:=by rfl
 have hzc:(Builtin.zeroCells (Value.agg #[.int .i64 0,.int .i64 0]).cells n).toList=List.replicate (n*2) (.int .i64 0):=by
  rw[hz];simp only[Builtin.zeroCells];apply List.ext_getElem
  ·simp
  ·intro i h1 h2;have:i % 2=0∨i % 2=1:=(by omega);rcases this with h | h<;>simp[h]
 have hst:=run_storeCells_cells (P:=Tryz.prog) b o (List.replicate (n*2) (.int .i64 0)) 0 w (by simpa using hc) (by simpa using hf) (by intro v hv';rw[List.eq_of_mem_replicate hv'];rfl);simp only[Nat.add_zero] at hst;obtain⟨m,rfl⟩:∃ m,n=m+1:=⟨n-1,by omega⟩;simp[Builtin.clear_,run_underlying ht,hv,hzc,hst]
theorem kA.owns {w:World} {g c cap B:Nat} {L:List bZ} (h:kA w g c L.toArray) (hB:B≤g) (hl:L.length≤cap) (hcap:cap≤maxLen) (hc:c=cap*2):w.ownsRow B 57 2 (.slice (some ⟨g,0,none⟩) L.length cap) L.length (aJ L):=by
 obtain⟨cur,hcur,hs⟩:=h.lies;refine⟨bC L,.inr ⟨g,cap,cur,rfl,hB,hcur,hl,hcap,by rw[hs,hc],?_⟩⟩;apply List.ext_getElem?;intro i;by_cases hi:i<L.length*2
 ·rw[List.getElem?_take_of_lt hi,Array.getElem?_toList,pD L i hi];have hq:i % 2=0∨i % 2=1:=(by omega);obtain⟨c1,c2,-,-⟩:=h.cells (i / 2) (by simp;omega);have hg:∀ q,w.cell? ⟨g,q,none⟩=cur[q]?:=fun q=>by simp[World.cell?,hcur]
  have hL:L.toArray[i / 2]! = L.getD (i / 2) (0,0):=by
   have:i / 2<L.length:=(by omega);simp[this]
  rw[hg,hL] at c1 c2;rcases hq with hq | hq
  ·rw[if_pos hq, ←c1];congr 1;omega
  ·rw[if_neg (by omega), ←c2];congr 1;omega
 ·rw[List.getElem?_eq_none (by simp;omega),List.getElem?_eq_none (by rw[bC];omega)]
set_option maxRecDepth 100000 in
set_option maxHeartbeats 4000000 in
theorem aJq (g c cap:Nat) (d:Array bZ) (w:World) (hH:kA w g c d) (hsz:d.size≤1000000) (hcap:d.size≤cap) :
  Calls Tryz.prog 104 #[.slice (some ⟨g,0,none⟩) d.size cap] w fun e w'=>e=.returned (.slice (some ⟨g,0,none⟩) (compactUpTo d d.size).length cap)∧kA w' g c (compactUpTo d d.size).toArray∧Below g w w':=by
 have hall:(∀ j,j<d.size→keeps d j=true)→compactUpTo d d.size=d.toList:=fun h=>(by rw[compactUpTo_all d _ h,range_map_get]);have HAll:=lhid hall;have HH:=lhid hH;clear hall hH;by_cases h2:d.size<2
 ·go_enter Tryz.func104,Tryz.ntmps104;(go_wp2_with fail);go_ret;have e1:=HAll.out (fun j hj=>keeps_lt_one d j (by omega));rw[e1];exact⟨by simp,by simpa using HH.out,Below.refl _ _⟩
 ·go_enter Tryz.func104,Tryz.ntmps104;go_wp2_with fail
  go_loopw [3] (fun i wr=>∃ k:Nat,1≤k∧k≤d.size∧i=.int .i64 (k:Nat)∧kA wr g c d∧Below w.heap.size w wr∧∀ j,j<k→keeps d j=true) (fun i _=>d.size-(intOf i).toNat)
  case atStart=>exact⟨1,Nat.le_refl _,by omega,rfl,HH.out,Below.refl _ _,keeps_lt_one d⟩
  case round=>
   obtain⟨k,hk1,hk,rfl,hr,hbw,hkp⟩:=hrel;have HK:=lhid hkp;clear hkp;by_cases hlt:k<d.size
   ·obtain⟨m,hkm⟩:∃ m,k=m+1:=⟨k-1,by omega⟩;have e1:(k:Int)-1=(m:Int):=(by omega);have hmd:m<d.size:=(by omega);have e2:IntKind.i64.wrap (m:Int)=(m:Int):=(by rw[IntKind.wrap_i64];omega);have HKm:=lhid hkm;obtain⟨a1,a2,-,-⟩:=hr.cells k hlt;obtain⟨b1,b2,-,-⟩:=hr.cells m hmd;have HR:=lhid hr;have HB:=lhid hbw;obtain⟨⟨x1,x2⟩,hx⟩:∃ q,d[k]! = q:=⟨_,rfl⟩;obtain⟨⟨y1,y2⟩,hy⟩:∃ q,d[m]! = q:=⟨_,rfl⟩;rw[hx] at a1 a2;rw[hy] at b1 b2;have HX:=lhid hx;have HY:=lhid hy;have hcs:(x1=y1∧x2=y2)∨(¬x1=y1)∨(x1=y1∧¬x2=y2):=(by omega);rcases hcs with ⟨h1,h2⟩ | hne | ⟨h1,hne⟩
    ·subst h1;subst h2;have HS:Hid (∀ w',Below wr.heap.size wr w'→w'.cell? ⟨g,k*2,none⟩=some (.int .i64 x1)∧w'.cell? ⟨g,k*2+1,none⟩=some (.int .i64 x2)∧w'.cell? ⟨g,m*2,none⟩=some (.int .i64 x1)∧w'.cell? ⟨g,m*2+1,none⟩=some (.int .i64 x2)∧Below wr.heap.size wr w'):=lhid (fun w' hb=>⟨cell_later hb a1,cell_later hb a2,cell_later hb b1,cell_later hb b2,hb⟩);clear hr hbw hx hy a1 a2 b1 b2 hkm;(go_upto_region 6 with fail);refine wpk HS [] (by kernel_rfl) fun hB0 hS0=>?_;refine wF 0 ?_;refine wF 1 ?_;refine wF 2 ?_;refine wT 3 10 hS0 ?_;refine wF 4 ?_;refine wO 5 ?_;refine wO 6 ?_;refine wO 7 ?_;refine wO 8 ?_;refine wO 9 ?_;refine wD ?_;clear hS0;obtain⟨W6,hW6⟩:∃ q,wr.drew=q:=⟨_,rfl⟩;rw[hW6] at hB0 ⊢;have HR6:=lhid (HR.out.later hB0 HR.out.lt);have HB6:=lhid (aB HB.out hB0);clear hW6 hB0 HS HR HB e1 e2;have HI:=lhid (CompInv.start (k0:=k) HK.out (keeps_neg (by omega) (by rw[HX.out,show k-1=m by have:=HKm.out;omega,HY.out])));go_wp2_with fail
     go_loopw [3,5] (fun i x wr=>∃ (kk e:Nat) (dk:Array bZ),i=.int .i64 (kk:Nat)∧x=.int .i64 (e:Nat)∧1≤e∧k+e≤d.size∧kA wr g c dk∧Below g w wr∧CompInv d (k+e) kk dk) (fun _ e _=>d.size-(intOf e).toNat)
     case atStart=>exact⟨k,1,d,rfl,rfl,Nat.le_refl _,hlt,HR6.out,HB6.out.mono (Nat.le_of_lt HH.out.lt),HI.out⟩
     case round=>
      obtain⟨kk,e,dk,rfl,rfl,he1,hke,hr,hbw,hinv⟩:=hrel;have hkl:=hinv.lt;have hds:=hinv.size;have hmd:kk<d.size:=(by omega);by_cases hl2:e<d.size-k
      ·obtain⟨m,hkm⟩:∃ m,e=m+1:=⟨e-1,by omega⟩;have e1:(e:Int)-1=(m:Int):=(by omega);have e2:IntKind.i64.wrap (m:Int)=(m:Int):=(by rw[IntKind.wrap_i64];omega);have hm2:m<d.size-k:=(by omega);have hs2:((d.size-k:Nat):Int)=(d.size:Int)-(k:Int):=(by omega);have hm3:(m:Int)<(d.size:Int)-(k:Int):=(by omega);have HKe:=lhid hkm;obtain⟨a1,a2,-,-⟩:=hr.cells (k+e) (by omega);obtain⟨b1,b2,-,-⟩:=hr.cells (k+m) (by omega);rw[hinv.high _ (by omega),show(k+e)*2=k*2+e*2 by omega] at a1 a2;rw[hinv.high _ (by omega),show(k+m)*2=k*2+m*2 by omega] at b1 b2;have HR:=lhid hr;have HB:=lhid hbw;have HI2:=lhid hinv;clear hinv;obtain⟨⟨x1,x2⟩,hx⟩:∃ q,d[k+e]! = q:=⟨_,rfl⟩;obtain⟨⟨y1,y2⟩,hy⟩:∃ q,d[k+m]! = q:=⟨_,rfl⟩;rw[hx] at a1 a2;rw[hy] at b1 b2;have HX2:=lhid hx;have HY2:=lhid hy;have hcs:(x1=y1∧x2=y2)∨(¬x1=y1)∨(x1=y1∧¬x2=y2):=(by omega);rcases hcs with ⟨h1,h2⟩ | hne | ⟨h1,hne⟩
       ·subst h1;subst h2;have HS:Hid (∀ w',Below wr.heap.size wr w'→w'.cell? ⟨g,k*2+e*2,none⟩=some (.int .i64 x1)∧w'.cell? ⟨g,k*2+e*2+1,none⟩=some (.int .i64 x2)∧w'.cell? ⟨g,k*2+m*2,none⟩=some (.int .i64 x1)∧w'.cell? ⟨g,k*2+m*2+1,none⟩=some (.int .i64 x2)∧Below wr.heap.size wr w'):=lhid (fun w' hb=>⟨cell_later hb a1,cell_later hb a2,cell_later hb b1,cell_later hb b2,hb⟩);clear hr hbw hx hy a1 a2 b1 b2 hkm;(go_upto_region 11 with fail);refine wpk HS [] (by kernel_rfl) fun hB0 hS0=>?_;refine wF 0 ?_;refine wF 1 ?_;refine wF 2 ?_;refine wT 3 10 hS0 ?_;refine wF 4 ?_;refine wO 5 ?_;refine wO 6 ?_;refine wO 7 ?_;refine wO 8 ?_;refine wO 9 ?_;refine wD ?_;clear hS0;obtain⟨W6,hW6⟩:∃ q,wr.drew=q:=⟨_,rfl⟩;rw[hW6] at hB0 ⊢;have HR6:=lhid (HR.out.later hB0 HR.out.lt);have HB6:=lhid (HB.out.trans (hB0.mono (Nat.le_of_lt HR.out.lt)));clear hW6 hB0 HS HR HB e1 e2;(go_wp2_with fail);go_roundw
        case rel=>exact⟨kk,e+1,dk,rfl,by go_num,by omega,by omega,HR6.out,HB6.out,HI2.out.skip (keeps_neg (by omega) (by rw[HX2.out,show k+e-1=k+m by have:=HKe.out;omega,HY2.out]))⟩
        case measure=>simp[intOf];omega
       ·have HS:Hid (∀ w',Below wr.heap.size wr w'→w'.cell? ⟨g,k*2+e*2,none⟩=some (.int .i64 x1)∧w'.cell? ⟨g,k*2+e*2+1,none⟩=some (.int .i64 x2)∧w'.cell? ⟨g,k*2+m*2,none⟩=some (.int .i64 y1)∧w'.cell? ⟨g,k*2+m*2+1,none⟩=some (.int .i64 y2)∧Below wr.heap.size wr w'):=lhid (fun w' hb=>⟨cell_later hb a1,cell_later hb a2,cell_later hb b1,cell_later hb b2,hb⟩);clear hr hbw hx hy a1 a2 b1 b2 hkm;(go_upto_region 11 with fail);refine wpk HS [] (by kernel_rfl) fun hB0 hS0=>?_;refine wF 0 ?_;refine wF 1 ?_;refine wF 2 ?_;refine wT 3 10 hS0 ?_;refine wF 4 ?_;refine wO 5 ?_;refine wO 6 ?_;refine wO 7 ?_;refine wO 8 ?_;refine wO 9 ?_;refine wD ?_;clear hS0;obtain⟨W6,hW6⟩:∃ q,wr.drew=q:=⟨_,rfl⟩;rw[hW6] at hB0 ⊢;have HR6:=lhid (HR.out.later hB0 HR.out.lt);have HB6:=lhid (HB.out.trans (hB0.mono (Nat.le_of_lt HR.out.lt)));clear hW6 hB0 HS HR HB e1 e2;obtain⟨a1,a2,-,-⟩:=HR6.out.cells (k+e) (by omega);rw[HI2.out.high _ (by omega),show(k+e)*2=k*2+e*2 by omega,HX2.out] at a1 a2;obtain⟨c1,c2,f1,f2⟩:=HR6.out.cells kk (by omega);(go_wp2_with fail);go_roundw
        case rel=>exact⟨kk+1,e+1,dk.setIfInBounds kk (x1,x2),by go_num,by go_num,by omega,by omega,HR6.out.put kk (by omega) (x1,x2),(HB6.out.setCell (Nat.le_refl _) _).setCell (Nat.le_refl _) _,by have:=HI2.out.keep (by omega) (keeps_pos (by rw[HX2.out,show k+e-1=k+m by have:=HKe.out;omega,HY2.out];intro h;injection h with h1 h2;first | exact hne h1 | exact hne h2));rwa [HX2.out] at this⟩
        case measure=>simp[intOf];omega
       ·subst h1;have HS:Hid (∀ w',Below wr.heap.size wr w'→w'.cell? ⟨g,k*2+e*2,none⟩=some (.int .i64 x1)∧w'.cell? ⟨g,k*2+e*2+1,none⟩=some (.int .i64 x2)∧w'.cell? ⟨g,k*2+m*2,none⟩=some (.int .i64 x1)∧w'.cell? ⟨g,k*2+m*2+1,none⟩=some (.int .i64 y2)∧Below wr.heap.size wr w'):=lhid (fun w' hb=>⟨cell_later hb a1,cell_later hb a2,cell_later hb b1,cell_later hb b2,hb⟩);clear hr hbw hx hy a1 a2 b1 b2 hkm;(go_upto_region 11 with fail);refine wpk HS [] (by kernel_rfl) fun hB0 hS0=>?_;refine wF 0 ?_;refine wF 1 ?_;refine wF 2 ?_;refine wT 3 10 hS0 ?_;refine wF 4 ?_;refine wO 5 ?_;refine wO 6 ?_;refine wO 7 ?_;refine wO 8 ?_;refine wO 9 ?_;refine wD ?_;clear hS0;obtain⟨W6,hW6⟩:∃ q,wr.drew=q:=⟨_,rfl⟩;rw[hW6] at hB0 ⊢;have HR6:=lhid (HR.out.later hB0 HR.out.lt);have HB6:=lhid (HB.out.trans (hB0.mono (Nat.le_of_lt HR.out.lt)));clear hW6 hB0 HS HR HB e1 e2;obtain⟨a1,a2,-,-⟩:=HR6.out.cells (k+e) (by omega);rw[HI2.out.high _ (by omega),show(k+e)*2=k*2+e*2 by omega,HX2.out] at a1 a2;obtain⟨c1,c2,f1,f2⟩:=HR6.out.cells kk (by omega);(go_wp2_with fail);go_roundw
        case rel=>exact⟨kk+1,e+1,dk.setIfInBounds kk (x1,x2),by go_num,by go_num,by omega,by omega,HR6.out.put kk (by omega) (x1,x2),(HB6.out.setCell (Nat.le_refl _) _).setCell (Nat.le_refl _) _,by have:=HI2.out.keep (by omega) (keeps_pos (by rw[HX2.out,show k+e-1=k+m by have:=HKe.out;omega,HY2.out];intro h;injection h with h1 h2;first | exact hne h1 | exact hne h2));rwa [HX2.out] at this⟩
        case measure=>simp[intOf];omega
      ·have hend:k+e=d.size:=by omega
       have hcl:∀ ty,(Builtin.clear_ #[27] ty #[.slice (some ⟨g,kk*2,none⟩) (d.size-kk) (cap-kk)]).run Tryz.prog wr=.ok (.tuple #[]) (wr.setCells g (kk*2) (List.replicate ((d.size-kk)*2) (.int .i64 0))):=fun ty=>
        aEw wr _ _ ty Tryz.underlying27 (fun w=>by go_simp) g (kk*2) _ _ (by omega)
         (fun j hj=>by
          have hq:j % 2=0∨j % 2=1:=(by omega);obtain⟨c1,c2,-,-⟩:=hr.cells (kk+j / 2) (by omega);rcases hq with hq | hq
          ·rw[show kk*2+j=(kk+j / 2)*2 by omega,c1];rfl
          ·rw[show kk*2+j=(kk+j / 2)*2+1 by omega,c2];rfl)
         (fun j hj=>by
          have hq:j % 2=0∨j % 2=1:=(by omega);obtain⟨-,-,f1,f2⟩:=hr.cells (kk+j / 2) (by omega);rcases hq with hq | hq
          ·rw[show kk*2+j=(kk+j / 2)*2 by omega,f1]
          ·rw[show kk*2+j=(kk+j / 2)*2+1 by omega,f2])
       have HR:=lhid hr;have HB:=lhid hbw;have HI2:=lhid hinv;have HEn:=lhid hend;clear hr hbw hinv hend;(go_wp2_with fail);go_ret;have hI:=HI2.out;rw[HEn.out] at hI;refine⟨by rw[hI.len]<;>rfl,HR.out.clear kk _ _ (by simpa using hI.len) (by omega) (fun j hj=>?_),aBp _ _ _ HB.out⟩;have h1:=hI.low j hj;have h2:j<(compactUpTo d d.size).length:=(by rw[hI.len];exact hj);rw[List.getElem?_eq_getElem h2] at h1;have h3:(compactUpTo d d.size)[j]=dk[j]!:=(by injection h1);rw[←h3];simp[h2]
    ·have HS:Hid (∀ w',Below wr.heap.size wr w'→w'.cell? ⟨g,k*2,none⟩=some (.int .i64 x1)∧w'.cell? ⟨g,k*2+1,none⟩=some (.int .i64 x2)∧w'.cell? ⟨g,m*2,none⟩=some (.int .i64 y1)∧w'.cell? ⟨g,m*2+1,none⟩=some (.int .i64 y2)∧Below wr.heap.size wr w'):=lhid (fun w' hb=>⟨cell_later hb a1,cell_later hb a2,cell_later hb b1,cell_later hb b2,hb⟩);clear hr hbw hx hy a1 a2 b1 b2 hkm;(go_upto_region 6 with fail);refine wpk HS [] (by kernel_rfl) fun hB0 hS0=>?_;refine wF 0 ?_;refine wF 1 ?_;refine wF 2 ?_;refine wT 3 10 hS0 ?_;refine wF 4 ?_;refine wO 5 ?_;refine wO 6 ?_;refine wO 7 ?_;refine wO 8 ?_;refine wO 9 ?_;refine wD ?_;clear hS0;obtain⟨W6,hW6⟩:∃ q,wr.drew=q:=⟨_,rfl⟩;rw[hW6] at hB0 ⊢;have HR6:=lhid (HR.out.later hB0 HR.out.lt);have HB6:=lhid (aB HB.out hB0);clear hW6 hB0 HS HR HB e1 e2;(go_wp2_with fail);go_roundw
     case rel=>
      refine⟨k+1,by omega,by omega,by go_num,HR6.out,HB6.out,fun j hj=>?_⟩;by_cases e:j=k
      ·subst e;exact keeps_pos (by rw[HX.out,show j-1=m by have:=HKm.out;omega,HY.out];intro h;injection h with h1 h2;first | exact hne h1 | exact hne h2)
      ·exact HK.out j (by omega)
     case measure=>simp[intOf];omega
    ·subst h1;have HS:Hid (∀ w',Below wr.heap.size wr w'→w'.cell? ⟨g,k*2,none⟩=some (.int .i64 x1)∧w'.cell? ⟨g,k*2+1,none⟩=some (.int .i64 x2)∧w'.cell? ⟨g,m*2,none⟩=some (.int .i64 x1)∧w'.cell? ⟨g,m*2+1,none⟩=some (.int .i64 y2)∧Below wr.heap.size wr w'):=lhid (fun w' hb=>⟨cell_later hb a1,cell_later hb a2,cell_later hb b1,cell_later hb b2,hb⟩);clear hr hbw hx hy a1 a2 b1 b2 hkm;(go_upto_region 6 with fail);refine wpk HS [] (by kernel_rfl) fun hB0 hS0=>?_;refine wF 0 ?_;refine wF 1 ?_;refine wF 2 ?_;refine wT 3 10 hS0 ?_;refine wF 4 ?_;refine wO 5 ?_;refine wO 6 ?_;refine wO 7 ?_;refine wO 8 ?_;refine wO 9 ?_;refine wD ?_;clear hS0;obtain⟨W6,hW6⟩:∃ q,wr.drew=q:=⟨_,rfl⟩;rw[hW6] at hB0 ⊢;have HR6:=lhid (HR.out.later hB0 HR.out.lt);have HB6:=lhid (aB HB.out hB0);clear hW6 hB0 HS HR HB e1 e2;(go_wp2_with fail);go_roundw
     case rel=>
      refine⟨k+1,by omega,by omega,by go_num,HR6.out,HB6.out,fun j hj=>?_⟩;by_cases e:j=k
      ·subst e;exact keeps_pos (by rw[HX.out,show j-1=m by have:=HKm.out;omega,HY.out];intro h;injection h with h1 h2;first | exact hne h1 | exact hne h2)
      ·exact HK.out j (by omega)
     case measure=>simp[intOf];omega
   ·have hend:k=d.size:=(by omega);subst hend;have e1:=HAll.out HK.out;have HR:=lhid hr;have HB:=lhid hbw;clear hr hbw;(go_wp2_with fail);go_ret;rw[e1];exact⟨by simp,by simpa using HR.out,HB.out.mono (Nat.le_of_lt HH.out.lt)⟩
end Go.Proofs.YtdfegfagedeilaaGreatDoor
