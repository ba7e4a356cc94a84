/-
  Several texts of these walks, joined and squeezed (as templates they lie in wip/tpl): NameZ NameR NameT NameV PaM Sls PaK LayO Row HistM.
-/
import Derived.Test.YtdfegfagedeilaaGreatDoorYxNameX
import Derived.Test.YtdfegfagedeilaaGreatDoorYxNameY
import Derived.Test.YtdfegfagedeilaaGreatDoorYNc
import Derived.Maps.OwnSet
import Derived.Ground.SlsfProg
import Derived.Shelf.SlLaysF
import Derived.Shelf.SlLaysF0
import Derived.Shelf.SlSortCmp.NoneTotal
import Derived.Shelf.Slices.CompactS
import Derived.OwnWalk
namespace Go.Proofs.YtdfegfagedeilaaGreatDoor
open Go.RowKit Go.Lib
theorem aVk (l:List UInt8) (p:Nat) (hp:p<l.length) (hs:l.length≤4611686018427387904) (w:World) :
  Calls Tryz.prog 98 #[.string (bs l),.int .i64 p] w fun e w'=>e=.returned (.tuple #[.int .i64 ((bH l p).2:Nat),.int .i64 ((bH l p).1:Nat)])∧w=w':=by
 by_cases h1:l[p].toNat<194
 ·exact aVl l p hp (by omega) w
 ·by_cases h2:l[p].toNat≤223
  ·exact bId l p hp hs (by omega) h2 w
  ·by_cases h3:l[p].toNat≤239
   ·exact aZb l p hp hs (by omega) h3 w
   ·by_cases h4:l[p].toNat≤244
    ·exact bDx l p hp hs (by omega) h4 w
    ·exact aVl l p hp (by omega) w
end Go.Proofs.YtdfegfagedeilaaGreatDoor

namespace Go.Proofs.YtdfegfagedeilaaGreatDoor
open Go.RowKit Go.Lib
theorem aFa (l:List UInt8) (p:Nat) (done:List Nat) (hp:p<l.length) (h:aQ l=done++aQ (l.drop p)) :
  aQ l=(done++[(bH l p).1])++aQ (l.drop (p+(bH l p).2))∧1≤(bH l p).2∧p+(bH l p).2≤l.length:=by
 have hne:l.drop p≠[]:=by
  intro e;have:=congrArg List.length e;simp at this;omega
 have hw:=oV (l.drop p) hne;rw[List.length_drop] at hw;refine⟨?_,hw.1,by unfold bH;omega⟩;rw[h,uE _ hne,List.append_assoc,List.drop_drop];rfl
def aXt (r:List Nat):List Value:=r.map fun (n:Nat)=>Value.int .i64 (n:Int)
theorem aXu (r:List Nat) (n:Nat):aXt r++[.int .i64 (n:Int)]=aXt (r++[n]):=by simp[aXt]
theorem bIp {w:World} {B:Nat} {e:TypeId} {v:Value} {r:List Nat} (h:w.ownsRow B e 1 v r.length (aXt r)) (hn:v≠.slice none 0 0) :
  ∃ g cap,v=.slice (some ⟨g,0,none⟩) r.length cap∧B≤g∧g<w.heap.size∧r.length≤cap∧∀ j,j<r.length→w.cell? ⟨g,j,none⟩=some (.int .i64 ((r.getD j 0:Nat):Int)):=by
 obtain⟨-,⟨h0,-⟩ | ⟨g,cap,cur,hv,hB,hw,hc,-,-,ht⟩⟩:=h
 ·exact absurd h0 hn
 ·refine⟨g,cap,hv,hB,(Array.getElem?_eq_some_iff.1 hw).1,hc,fun j hj=>?_⟩;have h1:=congrArg (fun x:List Value=>x[j]?) ht;simp only[Nat.mul_one,List.getElem?_take,hj,if_true,Array.getElem?_toList] at h1;rw[cell_of_row w g j _ _ (0,0) hw,h1];simp[aXt,hj]
theorem bDa:(Tryz.prog.info? 3).map (fun i=>(i.zero,i.size,i.bytes))=some (some (.int .i64 0),1,8):=by kernel_rfl
set_option maxRecDepth 100000 in
set_option maxHeartbeats 1000000 in
theorem zD (l:List UInt8) (hs:l.length≤1000000) (w:World) :
  Calls Tryz.prog 79 #[.string (bs l)] w fun e w'=>∃ g cap,e=.returned (.slice (some ⟨g,0,none⟩) (aQ l).length cap)∧w.heap.size≤g∧g<w'.heap.size∧(aQ l).length≤cap ∧
   (∀ j,j<(aQ l).length→w'.cell? ⟨g,j,none⟩=some (.int .i64 (((aQ l).getD j 0:Nat):Int)))∧Below w.heap.size w w':=by
 obtain⟨i0,hi,hz0,hz1,hz2⟩:=info_parts bDa;go_enter Tryz.func79,Tryz.ntmps79
 go_wp2
 go_loopw [3,4] (fun v i wr=>∃ p:Nat,∃ done:List Nat,p≤l.length∧i=.int .i64 p∧wr.ownsRow w.heap.size 3 1 v done.length (aXt done)∧Below w.heap.size w wr∧done.length≤p∧aQ l=done++aQ (l.drop p)∧v≠.slice none 0 0)
  (fun _ i _=>l.length-(intOf i).toNat)
 case atStart=>
  exact⟨0,[],Nat.zero_le _,rfl,World.ownsRow_made w #[] 0 (Nat.le_refl _) (Nat.zero_le _) rfl,(Below.refl _ _).alloc (Nat.le_refl _) _,Nat.le_refl _,rfl,by simp⟩
 case round=>
  obtain⟨p,done,hp,rfl,hown,hbw,hdp,hdone,hnn⟩:=hrel;have HD:=lhid hdone;have HN:=lhid hnn;clear hdone hnn;by_cases hlt:p<l.length
  ·obtain⟨s1,s2,s3⟩:=aFa l p done hlt HD.out;obtain⟨D,hD⟩:∃ D,bH l p=D:=⟨_,rfl⟩;have HC:=lhid (aVk l p hlt (by omega));rw[hD] at HC s1 s2 s3;have HS:=lhid s1;clear s1 hD
   go_wp2_with (first
    | (go_at_call 98;refine(HC.out _).mono ?_;rintro e w1 ⟨rfl,rfl⟩)
    | (at_builtin;refine wpList_append_own _ rfl _ _ 49 rfl w.heap.size 3 i0 (.int .i64 0) 1 8 Tryz.underlying49 hi hz0 hz1 hz2 rfl (by decide) _ _ _ rfl (hown.alloc _) ⟨wr.heap.size,0,none⟩ 1 1 [.int .i64 (D.1:Nat)] rfl rfl ?c1 ?c2 ?c3 ?c4 ?c5 ?_))
   case c1=>
    intro j u hj
    match j,hj with
    | 0,hj=>simp at hj;subst hj;simp[Addr.add]
   case c2=>intro u hu;simp at hu;subst hu;rfl
   case c3=>unfold maxLen;omega
   case c4=>omega
   case c5=>have:=hbw.size;simp;omega
   ·intro v' w1 hown' hgrow hnil;have HV:=lhid hnil;clear hnil;have HO:=lhid hown';clear hown';have hb1:Below w.heap.size w w1:=(hbw.alloc (by have:=hbw.size;omega) _).grown hgrow (by have:=hbw.size;simp;omega) (fun k hk=>(hown.lt k hk).1)
    go_wp2
    go_roundw
    case rel=>
     refine⟨p+D.2,done++[D.1],s3,by go_num,?_,hb1,by simp;omega,HS.out,HV.out⟩;have:=HO.out;rw[aXu] at this;simpa using this
    case measure=>simp[intOf];omega
  ·have e:l.drop p=[]:=List.drop_eq_nil_of_le (by omega);have h2:=HD.out;rw[e,aEz,List.append_nil] at h2;have H2:=lhid h2;clear h2 e
   go_wp2
   go_ret;rw[H2.out];obtain⟨g,cap,rfl,h1,h2,h3,h4⟩:=bIp hown HN.out;exact⟨g,cap,rfl,h1,h2,h3,h4,hbw⟩
theorem aQu (n b0 b1 b2 b3:Nat):(decodeN n b0 b1 b2 b3).1=65533→(decodeN n b0 b1 b2 b3).2=1∨(decodeN n b0 b1 b2 b3).2=3:=by
 unfold decodeN;(repeat' split);all_goals first | (intro _;exact .inl rfl) | (intro _;exact .inr rfl) | (intro h;exfalso;simp only at h;omega)
theorem aWv (l:List UInt8) (h:(decodeL l).1=65533):(decodeL l).2=1∨(decodeL l).2=3:=by
 rw[decodeL_N] at h ⊢;exact aQu _ _ _ _ _ h
theorem aUb (l:List UInt8) (p:Nat) (hp:p<l.length) :
  validD (l.drop p)=(if (bH l p).1=65533∧(bH l p).2≠3 then false else validD (l.drop (p+(bH l p).2)))∧1≤(bH l p).2∧p+(bH l p).2≤l.length:=by
 have hne:l.drop p≠[]:=by
  intro e;have:=congrArg List.length e;simp at this;omega
 have hw:=oV (l.drop p) hne;have h3:=aWv (l.drop p);rw[List.length_drop] at hw;refine⟨?_,hw.1,by unfold bH;omega⟩;rw[validD_step _ hne,List.drop_drop];unfold bH;by_cases h:(decodeL (l.drop p)).1=65533
 ·rcases h3 h with h4 | h4<;>simp[h,h4]
 ·simp[h]
set_option maxRecDepth 100000 in
set_option maxHeartbeats 1000000 in
theorem aWn (l:List UInt8) (hs:l.length≤1000000) (w:World) :
  Calls Tryz.prog 81 #[.string (bs l)] w fun e w'=>e=.returned (.bool (validD l))∧w=w':=by
 obtain⟨R,hR⟩:∃ R,validD l=R:=⟨_,rfl⟩;rw[hR];have HR:=lhid hR;clear hR;go_enter Tryz.func81,Tryz.ntmps81
 go_wp2
 go_loop [3] (fun i=>∃ p:Nat,p≤l.length∧i=.int .i64 p∧validD (l.drop p)=R) (fun i=>l.length-(intOf i).toNat)
 case atStart=>exact⟨0,Nat.zero_le _,rfl,HR.out⟩
 case round=>
  obtain⟨p,hp,rfl,hv⟩:=hrel;have HV:=lhid hv;clear hv;by_cases hlt:p<l.length
  ·obtain⟨s1,s2,s3⟩:=aUb l p hlt;obtain⟨D,hD⟩:∃ D,bH l p=D:=⟨_,rfl⟩;have HC:=lhid (aVk l p hlt (by omega));rw[hD] at HC s1 s2 s3;rw[HV.out] at s1;have HS:=lhid s1;clear s1 hD;rcases(show(D.1=65533∧D.2≠3)∨(D.1=65533∧D.2=3)∨D.1≠65533 by omega) with ⟨d1,d2⟩ | ⟨d1,d2⟩ | d1
   ·have H1:=HS.out;rw[if_pos ⟨d1,d2⟩] at H1;have H2:=lhid H1;have e1:((D.1:Int)==65533)=true:=(by simp[d1]);have e2:((D.2:Int)==3)=false:=(by simp;omega);clear H1 d1 d2;(go_wp2_with (go_at_call 98;refine(HC.out _).mono ?_;rintro e w1 ⟨rfl,rfl⟩));go_ret;exact⟨by rw[H2.out];rfl,rfl⟩
   ·have H1:=HS.out;rw[if_neg (by omega)] at H1;have H2:=lhid H1;have e1:((D.1:Int)==65533)=true:=(by simp[d1]);have e2:((D.2:Int)==3)=true:=(by simp[d2]);clear H1 d1 d2;(go_wp2_with (go_at_call 98;refine(HC.out _).mono ?_;rintro e w1 ⟨rfl,rfl⟩));go_round
    case rel=>exact⟨p+D.2,s3,by go_num,H2.out.symm⟩
    case measure=>simp[intOf];omega
   ·have H1:=HS.out;rw[if_neg (fun x=>d1 x.1)] at H1;have H2:=lhid H1;have e1:((D.1:Int)==65533)=false:=(by simp;omega);clear H1 d1;(go_wp2_with (go_at_call 98;refine(HC.out _).mono ?_;rintro e w1 ⟨rfl,rfl⟩));go_round
    case rel=>exact⟨p+D.2,s3,by go_num,H2.out.symm⟩
    case measure=>simp[intOf];omega
  ·have e:l.drop p=[]:=List.drop_eq_nil_of_le (by omega);have h2:=HV.out;rw[e,validD_nil] at h2;have H2:=lhid h2;clear h2 e
   go_wp2
   go_ret;exact⟨by rw[H2.out];rfl,rfl⟩
end Go.Proofs.YtdfegfagedeilaaGreatDoor

namespace Go.Proofs.YtdfegfagedeilaaGreatDoor
open Go.RowKit Go.Lib
def rowR (w:World) (l:List UInt8):Array Value:=
 ((aQ l).map fun (n:Nat)=>Value.int .i32 (n:Int)).toArray++Array.replicate (grownCap w (aQ l).length 0 21-(aQ l).length) (.int .i32 0)
theorem sD (l:List UInt8) (hs:l.length≤1000000) (w:World) :
  (convert 9 187 (.string (bs l))).run Tryz.prog w=.ok (.slice (some ⟨w.heap.size,0,none⟩) (aQ l).length (grownCap w (aQ l).length 0 21)) (w.drew.alloc (.cells (rowR w l) 21)):=by
 have h:=run_runes_of_string (P:=Tryz.prog) w 9 187 21 (bs l) Tryz.underlying9 Tryz.underlying187 Tryz.underlying21;have e:=aGt l;have hl:=kG l;have hz:(Conv.runesFrom (bs l) (bs l).size 0 #[]).size=(aQ l).length:=(by rw[e];simp);rw[hz,e] at h;exact h (by omega)
theorem rowR_cell (w w':World) (l:List UInt8) (j:Nat) (hj:j<(aQ l).length):(w'.alloc (.cells (rowR w l) 21)).cell? ⟨w'.heap.size,j,none⟩=some (.int .i32 (((aQ l).getD j 0:Nat):Int)):=by
 rw[cell_of_row _ _ j _ _ (0,0) (heap_alloc_new w' _)];unfold rowR;rw[Array.getElem?_append_left (by simpa using hj)];simp[hj]
set_option maxRecDepth 100000 in
set_option maxHeartbeats 1000000 in
theorem aKd (a b:List UInt8) (ha:a.length≤1000000) (hb:b.length≤1000000) (w:World) :
  Calls Tryz.prog 120 #[.string (bs a),.string (bs b)] w fun e w'=>e=.returned (.int .i64 (lJ (aQ a) (aQ b)))∧Below w.heap.size w w':=by
 have hca:=sD a ha;have hcb:=sD b hb;go_enter Tryz.func120,Tryz.ntmps120;(go_wp2_with fail);refine(zS (aQ a) (aQ b) _ _ _ _ _ ?_ ?_ (by have:=kG a;omega)).mono ?_
 ·intro j hj;exact lQ _ (mP (rowR_cell w w.drew a j hj))
 ·intro j hj;have h:=rowR_cell (w.alloc (.cells (rowR w a) 21)).drew (w.alloc (.cells (rowR w a) 21)) b j hj;rw[show(w.alloc (.cells (rowR w a) 21)).heap.size=w.heap.size+1 by simp] at h;exact mP (mP h)
 ·rintro e w1 ⟨rfl,rfl⟩;(go_wp2_with fail);go_ret;exact⟨rfl,bel⟩
set_option maxRecDepth 100000 in
set_option maxHeartbeats 1000000 in
theorem aYy (a b:List UInt8) (ha:a.length≤1000000) (hb:b.length≤1000000) (w:World) :
  Calls Tryz.prog 95 #[.string (bs a),.string (bs b)] w fun e w'=>e=.returned (.bool (bE (aQ a) (aQ b)))∧Below w.heap.size w w':=by
 have HC:=lhid (aKd a b ha hb);have HL:=lhid (tR (aQ a) (aQ b));generalize bE (aQ a) (aQ b)=L at *;generalize lJ (aQ a) (aQ b)=C at *;go_enter Tryz.func95,Tryz.ntmps95;(go_wp2_with (go_at_call 120;refine(HC.out _).mono ?_;rintro e w1 ⟨rfl,hw1⟩));go_ret;exact⟨by rw[HL.out];rfl,hw1⟩
theorem aJz (x y:List Nat) (k:Nat) (hx:k<x.length) (hy:k<y.length) :
  bE (x.drop k) (y.drop k)=if x.getD k 0=y.getD k 0 then bE (x.drop (k+1)) (y.drop (k+1)) else decide (x.getD k 0<y.getD k 0):=by
 rw[List.drop_eq_getElem_cons hx,List.drop_eq_getElem_cons hy];simp[bE,hx,hy]
theorem aNd (x y:List Nat) (k:Nat) (h:x.length≤k∨y.length≤k) (hx:k≤x.length) (hy:k≤y.length):bE (x.drop k) (y.drop k)=decide (x.length<y.length):=by
 by_cases h1:x.length≤k
 ·rw[List.drop_eq_nil_of_le h1];by_cases h2:k<y.length
  ·rw[List.drop_eq_getElem_cons h2];simp[bE];omega
  ·rw[List.drop_eq_nil_of_le (by omega)];simp[bE];omega
 ·rw[List.drop_eq_nil_of_le (show y.length≤k by omega),List.drop_eq_getElem_cons (show k<x.length by omega)];simp[bE];omega
set_option maxRecDepth 100000 in
set_option maxHeartbeats 2000000 in
theorem aZy (a b:List UInt8) (ha:a.length≤1000000) (hb:b.length≤1000000) (w:World) :
  Calls Tryz.prog 61 #[.string (bs a),.string (bs b)] w fun e w'=>e=.returned (.bool (bE (aQ a) (aQ b)))∧Below w.heap.size w w':=by
 have HA:=lhid (zD a ha);have HB:=lhid (zD b hb);have hla:=kG a;have hlb:=kG b;generalize aQ a=x at *;generalize aQ b=y at *;obtain⟨R,hR⟩:∃ R,bE x y=R:=⟨_,rfl⟩;rw[hR];have HR:=lhid hR;have hlx:x.length≤1000000:=(by omega);have hly:y.length≤1000000:=(by omega);clear hR hla hlb;go_enter Tryz.func61,Tryz.ntmps61;(go_wp2_with fail);refine(HA.out _).mono ?_;rintro e w1 ⟨g,c,rfl,hg,hgs,hgc,hx,hb1⟩;(go_wp2_with fail);refine(HB.out _).mono ?_;rintro e w2 ⟨g',c',rfl,hg',hgs',hgc',hy,hb2⟩;have hx2:∀ j,j<x.length→w2.cell? ⟨g,j,none⟩=some (.int .i64 ((x.getD j 0:Nat):Int)):=fun j hj=>cell_later hb2 (hx j hj);have hbw:=aB hb1 hb2;have HX:=lhid hx2;have HY:=lhid hy;clear hx hx2 hy hb1 hb2 hg hgs hg' hgs' HA HB;go_wp2_with fail
 go_loopw [7] (fun i wr=>∃ k:Nat,k≤x.length∧i=.int .i64 k∧k≤y.length∧bE (x.drop k) (y.drop k)=R∧∃ n,wr=w2.drewN n) (fun i _=>x.length-(intOf i).toNat)
 case atStart=>exact⟨0,Nat.zero_le _,rfl,Nat.zero_le _,HR.out,0,rfl⟩
 case round=>
  obtain⟨k,hk,rfl,hky,hv,n,rfl⟩:=hrel;have HV:=lhid hv;clear hv;by_cases hlt:k<x.length∧k<y.length
  ·have c1:=HX.out k hlt.1;have c2:=HY.out k hlt.2;have h1:=aJz x y k hlt.1 hlt.2;rw[HV.out] at h1;obtain⟨hk1,hk2⟩:=hlt;obtain⟨p,hp⟩:∃ p,x.getD k 0=p:=⟨_,rfl⟩;obtain⟨q,hq⟩:∃ q,y.getD k 0=q:=⟨_,rfl⟩;rw[hp] at h1 c1;rw[hq] at h1 c2;clear hp hq;by_cases h:p=q
   ·rw[if_pos h] at h1;have H1:=lhid h1;have e1:((p:Int) != (q:Int))=false:=(by simp[h]);clear h1 h;go_wp2_with fail
    go_region
    (go_wp2_with fail);go_roundw
    case rel=>exact⟨k+1,by omega,by go_num,by omega,H1.out.symm,n+1,rfl⟩
    case measure=>simp[intOf];omega
   ·rw[if_neg h] at h1;have H1:=lhid h1;have e1:((p:Int) != (q:Int))=true:=(by simp;omega);clear h1 h;go_wp2_with fail
    go_region
    go_wp2_with fail
    go_region
    (go_wp2_with fail);go_ret;exact⟨by rw[H1.out];first | rfl | simp,(Go.below_drewN hbw n).drew.drew⟩
  ·have h1:=aNd x y k (by omega) hk hky;rw[HV.out] at h1;have H1:=lhid h1;clear h1;by_cases hx1:k<x.length
   ·have hy1:¬k<y.length:=fun h=>hlt ⟨hx1,h⟩;clear hlt;(go_wp2_with fail);go_ret;refine⟨?_,Go.below_drewN hbw n⟩;rw[H1.out];simp
   ·clear hlt;(go_wp2_with fail);go_ret;refine⟨?_,Go.below_drewN hbw n⟩;rw[H1.out];simp
end Go.Proofs.YtdfegfagedeilaaGreatDoor

namespace Go.Proofs.YtdfegfagedeilaaGreatDoor
open Go.RowKit Go.Lib
theorem bAy (l:List UInt8) (hs:l.length≤1000000) (w:World) (hT:Lib.Utf8Tabs 1 2 w) :
  Calls Tryz.prog 117 #[.string (bs l)] w fun e w'=>e=.returned (.bool (validD l))∧Below w.heap.size w w':=by
 have h:=Any.utf8_ValidString Tryz.laysValid (bs l) w (by rw[gG];omega) hT;have e:(bs l).data.toList=l:=(by simp[bs]);rw[e] at h;exact h
theorem bIa (l:List UInt8) (p:Nat) (hp:p<l.length) (w:World) (ty:TypeId) :
  (Instr.next (.pointer (some ⟨w.heap.size,0,none⟩)) true ty).run Tryz.prog (w.iter (bs l) p)=.ok (.tuple #[.bool true,.int .i64 p,.int .i32 ((bH l p).1:Nat)]) (w.iter (bs l) (p+(bH l p).2)):=by
 have h:=run_next_any (P:=Tryz.prog) w (bs l) p ty (by rw[gG];exact hp);rw[←decodeL_drop] at h;have e:(bs l).data.toList=l:=(by simp[bs]);rw[e] at h;exact h
theorem bNd (w:World) (s:ByteArray) (p:Nat):Below w.heap.size w (w.iter s p):=(Below.refl _ _).alloc (Nat.le_refl _) _
theorem bGb (done rest:List Nat) (c:Nat) (h:oR c=false):xV (done++c::rest)=false:=by
 simp[xV,h]
theorem bGc (rest:List Nat) (c:Nat) (h:dig c=true):xV (c::rest)=false:=by
 simp[xV,h]
theorem bGd (done:List Nat) (h:done.all oR=true) (h0:done≠[]→dig (done.getD 0 0)=false):xV done=(decide (0<done.length)&&decide (done.length≤20)):=by
 unfold xV;rw[h]
 cases done with
 | nil=>rfl
 | cons a r=>rw[h0 (by simp)];simp
set_option maxRecDepth 100000 in
set_option maxHeartbeats 2000000 in
theorem vA (l:List UInt8) (hs:l.length≤1000000) (w:World) (hT:Lib.Utf8Tabs 1 2 w) :
  Calls Tryz.prog 94 #[.string (bs l)] w fun e w'=>e=.returned (.bool (bA l))∧Below w.heap.size w w':=by
 have HS:=lhid (aKo l);have HV:=lhid (bAy l hs w hT);clear hT;have hN:bA l=(!aGq l&&validD l&&xV (aQ l)):=rfl;rw[hN];clear hN;generalize validD l=V at *;generalize aGq l=S at *
 cases S with
 | true=>
  go_enter Tryz.func94,Tryz.ntmps94;(go_wp2_with (go_at_call 116;refine(HS.out _).mono ?_;rintro e w2 ⟨rfl,rfl⟩));go_ret;exact⟨rfl,Below.refl _ _⟩
 | false=>
  cases V with
  | false=>
   go_enter Tryz.func94,Tryz.ntmps94;(go_wp2_with (first | (go_at_call 116;refine(HS.out _).mono ?_;rintro e w2 ⟨rfl,rfl⟩) | (go_at_call 117;refine HV.out.mono ?_;rintro e w2 ⟨rfl,hb2⟩)));go_ret;exact⟨rfl,hb2⟩
  | true=>
   obtain⟨R,hR⟩:∃ R,(!false&&true&&xV (aQ l))=R:=⟨_,rfl⟩;have HR:=lhid hR;rw[hR];clear hR;go_enter Tryz.func94,Tryz.ntmps94;(go_wp2_with (first | (go_at_call 116;refine(HS.out _).mono ?_;rintro e w2 ⟨rfl,rfl⟩) | (go_at_call 117;refine HV.out.mono ?_;rintro e w2 ⟨rfl,hb2⟩)));clear HS HV
   go_loopw [3] (fun i wr=>∃ p:Nat,∃ done:List Nat,p≤l.length∧i=.int .i64 done.length∧wr=w2.iter (bs l) p∧done.length≤p∧aQ l=done++aQ (l.drop p)∧done.all oR=true∧(done≠[]→dig (done.getD 0 0)=false))
    (fun _ wr=>l.length-wr.iterPos w2.heap.size)
   case atStart=>exact⟨0,[],Nat.zero_le _,rfl,rfl,Nat.le_refl _,rfl,rfl,fun h=>absurd rfl h⟩
   case round=>
    obtain⟨p,done,hp,rfl,rfl,hdp,hd,hall,hdig⟩:=hrel;have HD:=lhid hd;have HL:=lhid hall;have HG:=lhid hdig;clear hd hall hdig;by_cases hlt:p<l.length
    ·obtain⟨s1,s2,s3⟩:=aFa l p done hlt HD.out;have hnx:=bIa l p hlt w2;have hr:(bH l p).1≤1114111:=decodeL_rune _;obtain⟨D,hD⟩:∃ D,bH l p=D:=⟨_,rfl⟩;rw[hD] at s1 s2 s3 hnx hr;have HS1:=lhid s1;have HCP:=lhid (bEp D.1 hr);have HCD:=lhid (aHd D.1 hr);clear s1 hD;by_cases hpt:oR D.1=true
     ·have HL2:Hid ((done++[D.1]).all oR=true):=lhid (by rw[List.all_append,HL.out];simp[hpt]);rw[hpt] at HCP;by_cases hn:done.length=0
      ·have e0:((done.length:Int)==0)=true:=(by simp[hn]);have hnil:done=[]:=List.eq_nil_of_length_eq_zero hn;have HNil:=lhid hnil;clear hnil hpt;by_cases hdg:dig D.1=true
       ·have H1:Hid (R=false):=lhid (by have h1:=HS1.out;rw[HNil.out] at h1;rw[←HR.out,h1];simpa using bGc _ _ hdg);rw[hdg] at HCD;clear hdg hn;(go_wp2_with (first | (go_at_call 118;refine(HCP.out _).mono ?_;rintro e w4 ⟨rfl,rfl⟩) | (go_at_call 119;refine(HCD.out _).mono ?_;rintro e w4 ⟨rfl,rfl⟩)));go_ret;refine⟨by rw[H1.out];rfl,aB hb2 (bNd _ _ _)⟩
       ·have hdf:dig D.1=false:=(by simpa using hdg);have HG2:Hid (done++[D.1]≠[]→dig ((done++[D.1]).getD 0 0)=false):=lhid (by rw[HNil.out];simpa using hdf);rw[hdf] at HCD;clear hdg hdf hn;(go_wp2_with (first | (go_at_call 118;refine(HCP.out _).mono ?_;rintro e w4 ⟨rfl,rfl⟩) | (go_at_call 119;refine(HCD.out _).mono ?_;rintro e w4 ⟨rfl,rfl⟩)));go_roundw
        case rel=>exact⟨p+D.2,done++[D.1],s3,by simp,rfl,by simp;omega,HS1.out,HL2.out,HG2.out⟩
        case measure=>simp;omega
      ·have e0:((done.length:Int)==0)=false:=beq_eq_false_iff_ne.2 (by omega)
       have HG2:Hid (done++[D.1]≠[]→dig ((done++[D.1]).getD 0 0)=false):=lhid (by
        have h1:done≠[]:=fun e=>hn (by rw[e];rfl);intro _;rw[←HG.out h1]
        cases done with
        | nil=>exact absurd rfl h1
        | cons a t=>rfl)
       have hlen:done.length≤1000000:=(by omega);clear hn hpt;(go_wp2_with (first | (go_at_call 118;refine(HCP.out _).mono ?_;rintro e w4 ⟨rfl,rfl⟩) | (go_at_call 119;refine(HCD.out _).mono ?_;rintro e w4 ⟨rfl,rfl⟩)));go_roundw
       case rel=>exact⟨p+D.2,done++[D.1],s3,by simp,rfl,by simp;omega,HS1.out,HL2.out,HG2.out⟩
       case measure=>simp;omega
     ·have hpf:oR D.1=false:=(by simpa using hpt);have H1:Hid (R=false):=lhid (by have h1:=HS1.out;rw[←HR.out,h1,List.append_assoc];simpa using bGb done _ _ hpf);rw[hpf] at HCP;clear hpf hpt;(go_wp2_with (first | (go_at_call 118;refine(HCP.out _).mono ?_;rintro e w4 ⟨rfl,rfl⟩) | (go_at_call 119;refine(HCD.out _).mono ?_;rintro e w4 ⟨rfl,rfl⟩)));go_ret;exact⟨by rw[H1.out];rfl,aB hb2 (bNd _ _ _)⟩
    ·have hnx:=fun ty=>run_next_end (P:=Tryz.prog) w2 (bs l) p ty (by rw[gG];exact hlt)
     have H1:Hid (R=(decide (0<done.length)&&decide (done.length≤20))):=lhid (by
      have h1:=HD.out;rw[List.drop_eq_nil_of_le (by omega),aEz,List.append_nil] at h1;rw[←HR.out,h1]
      simpa using bGd done HL.out HG.out)
     go_wp2_with fail
     all_goals
      go_ret;refine⟨?_,aB hb2 (bNd _ _ _)⟩;rw[H1.out];refine congrArg (fun b=>Ending.returned (Value.bool b)) ?_;rw[Bool.eq_iff_iff];simp;try omega
end Go.Proofs.YtdfegfagedeilaaGreatDoor

namespace Go.Proofs.YtdfegfagedeilaaGreatDoor
open Go.RowKit Go.Lib Go.Maps Go.WideMaps
theorem cW (w:World) (o:Obj) {r:Nat} (h:r<w.heap.size):(w.alloc o).heap[r]? = w.heap[r]?:=by
 show(w.heap.push o)[r]? = _;rw[Array.getElem?_push,if_neg (by omega)]
theorem bEl {w:World} {base size n m c:Nat} {e:TypeId} {v:Value} {xs:List Value} {p:Option Addr} (h:w.ownsRow base e size v n xs) (hv:v=.slice p m c):n≤c:=by
 rcases h.2 with ⟨rfl,rfl⟩ | ⟨g,cap,cur,rfl,-,-,hc,-⟩
 ·exact Nat.zero_le _
 ·injection hv with _ _ hv;rw[←hv];exact hc
theorem sI:Keyed Tryz.prog 9:=string_keyed Tryz.underlying9
theorem yR (l:List UInt8) (h:l.length≤9223372036854775807):keyOf Tryz.prog 9 (.string (bs l))=some (.string l):=by
 have h1:=keyOf_string_mk Tryz.underlying9 (s:=bs l) (by rw[gG];unfold maxLen;exact h);rw[h1];simp[bs]
theorem wI {H:Type} {w w':World} {P:Program} {k:TypeId} {R:Value→Option (DataW H×List MemPlace)} {b n:Nat} {D:DataW H} (h:w.ownsMap P k R b n D) (e:w'.heap[b]? = w.heap[b]?):w'.ownsMap P k R b n D:=by
 obtain⟨es,clock,hb,r⟩:=h;exact⟨es,clock,e.trans hb,r⟩
theorem vJ {H:Type} {w:World} {P:Program} {k:TypeId} {R:Value→Option (DataW H×List MemPlace)} {b n:Nat} {D:DataW H} (h:w.ownsMap P k R b n D):w.ownsMap P k R b (Maps.size D) D:=by
 obtain⟨es,clock,hb,F,_,rfl⟩:=h;exact⟨es,clock,hb,F,by simp[Maps.size,length_sorted],rfl⟩
def oP (w:World) (b:Nat) (ks:List (List UInt8)) (N:Nat):Prop:=
 ∃ D:DataW Unit,w.ownsMap Tryz.prog 9 (plainElem Tryz.prog 3) b (Maps.size D) D∧Maps.size D=ks.length∧(∀ l,Maps.has D (.string l)=decide (l∈ks)) ∧
  ∀ l,∃ c:Int,(∀ z,l∈ks→D.atKey (.string l) z=.lit (.int .i64 c))∧(l∈ks→1≤c∧c≤N)
theorem oP.at {w w':World} {b:Nat} {ks:List (List UInt8)} {N:Nat} (h:oP w b ks N) (e:w'.heap[b]? = w.heap[b]?):oP w' b ks N:=by
 obtain⟨D,h1,h2⟩:=h;exact⟨D,wI h1 e,h2⟩
theorem oP.lt {w:World} {b:Nat} {ks:List (List UInt8)} {N:Nat} (h:oP w b ks N):b<w.heap.size:=by
 obtain⟨D,h1,h2⟩:=h;exact h1.lt
theorem aUs (w:World):oP (w.alloc (.map #[] 0)) w.heap.size [] 0:=
 ⟨.map [],vJ (World.ownsMap_made w _ _ _),rfl,fun l=>by simp[Maps.has],fun l=>⟨0,fun _ h=>(by cases h),fun h=>(by cases h)⟩⟩
theorem aQc (w:World):(zeroValue 3).run Tryz.prog w=.ok (.int .i64 0) w:=by kernel_rfl
set_option maxRecDepth 10000 in
theorem aLv {w:World} {b:Nat} {ks:List (List UInt8)} {N:Nat} (h:oP w b ks N) (hN:ks.length≤1000000∧N≤1000000) (l:List UInt8) (hl:l.length≤9223372036854775807) :
  ∃ c:Int,(c=0↔l∉ks)∧0≤c∧c≤N∧∀ w1:World,w1.heap[b]? = w.heap[b]?→(Instr.lookup 125 (.map (some b)) (.string (bs l)) false).run Tryz.prog w1=.ok (.int .i64 c) w1 ∧
   ∃ w',(Instr.mapUpdate 125 (.map (some b)) (.string (bs l)) (.int .i64 (c+1))).run Tryz.prog w1=.ok () w'∧oP w' b (if l∈ks then ks else ks++[l]) (N+1)∧w1.mapTurned w' b:=by
 obtain⟨D,h1,h2,h3,h4⟩:=h;obtain⟨c,-,hat,-⟩:=h1.lookup_int sI Tryz.underlying125 Tryz.underlying3 (aQc w) (yR l hl);have hat0:=hat
 have hc:(c=0↔l∉ks)∧0≤c∧c≤N:=by
  by_cases hk:l∈ks
  ·obtain⟨c',e1,e2⟩:=h4 l;rw[e1 _ hk] at hat;have e:c'=c:=(by injection hat with hat;injection hat);have:=e2 hk;subst e;exact⟨⟨fun h=>by omega,fun h=>absurd hk h⟩,by omega,by omega⟩
  ·have e:=atKey_of_not_has (D:=D) (k:=.string l) (by rw[h3];exact decide_eq_false hk) (.lit (.int .i64 0));rw[e] at hat;have e:0=c:=(by injection hat with hat;injection hat);subst e;exact⟨⟨fun _=>hk,fun _=>rfl⟩,Int.le_refl _,by omega⟩
 have hsz:Maps.size D<maxLen:=(by unfold maxLen;omega);refine⟨c,hc.1,hc.2.1,hc.2.2,fun w1 hw1=>?_⟩;replace h1:=wI h1 hw1;obtain⟨c',hrun,hat',-⟩:=h1.lookup_int sI Tryz.underlying125 Tryz.underlying3 (aQc w1) (yR l hl);have ecc:c'=c:=(by rw[hat0] at hat';injection hat' with hat';injection hat' with _ hat';exact hat'.symm);subst ecc;obtain⟨w',r1,r2,r3⟩:=h1.store sI Tryz.underlying125 hsz (yR l hl) (plainElem_int Tryz.underlying3 (WalkArith.wf_i64 (n:=c'+1) (by omega)));refine⟨hrun,w',r1,⟨D.put (.string l) (.lit (.int .i64 (c'+1))),vJ r2,?_,fun k=>?_,fun k=>?_⟩,r3⟩
 ·rw[size_put (h1.tidy sI),h3,h2];by_cases hk:l∈ks
  ·rw[if_pos (decide_eq_true hk),if_pos hk]
  ·rw[if_neg (by simpa using hk),if_neg hk];simp
 ·by_cases e:k=l
  ·subst e;rw[has_put_same h1.isMap (show WideAt.IsKeyLit (.string k) from trivial)];by_cases hk:k∈ks
   ·simp[hk]
   ·simp[hk]
  ·rw[has_put_other (by simpa using e),h3];by_cases hk:l∈ks
   ·simp[hk]
   ·simp[hk,e]
 ·by_cases e:k=l
  ·subst e;refine⟨c'+1,fun z _=>atKey_put_same h1.isMap (show WideAt.IsKeyLit (.string k) from trivial) _ _,fun _=>⟨by omega,by omega⟩⟩
  ·obtain⟨c2,e1,e2⟩:=h4 k
   have hm:k∈(if l∈ks then ks else ks++[l])→k∈ks:=by
    by_cases hk:l∈ks
    ·rw[if_pos hk];exact id
    ·rw[if_neg hk];simp[e]
   exact⟨c2,fun z h=>by rw[atKey_put_other (by simpa using e)];exact e1 z (hm h),fun h=>by have:=e2 (hm h);omega⟩
theorem aUq {w:World} {b:Nat} {ks:List (List UInt8)} {N:Nat} (h:oP w b ks N) (ty:TypeId):(Builtin.len_ #[125] ty #[.map (some b)]).run Tryz.prog w=.ok (.int .i64 ks.length) w:=by
 obtain⟨D,h1,h2,-⟩:=h;rw[←h2];exact h1.len Tryz.underlying125 ty
def aBd:Value→Option (DataW Unit×List MemPlace)
 | .pointer none=>some (.lit (.int .i64 (-1)),[])
 | .pointer (some ⟨g,0,none⟩)=>some (.lit (.int .i64 g),[])
 | _=>none
def bEs:Option Nat→Value
 | none=>.pointer none
 | some g=>.pointer (some ⟨g,0,none⟩)
def aDy:Option Nat→Int
 | none=>-1
 | some g=>g
theorem bEt (o:Option Nat):aBd (bEs o)=some (.lit (.int .i64 (aDy o)),[]):=by cases o<;>rfl
theorem bIt {v:Value} {o:Option Nat} {ps:List MemPlace} (h:aBd v=some (.lit (.int .i64 (aDy o)),ps)):v=bEs o:=by
 have lit:∀ (a b:Int) (q q':List MemPlace),(some ((.lit (.int .i64 a):DataW Unit),q)=some ((.lit (.int .i64 b):DataW Unit),q'))→a=b:=fun a b q q' e=>by
  simpa using (Prod.mk.inj (Option.some.inj e)).1
 unfold aBd at h;split at h
 ·have e:=lit _ _ _ _ h
  cases o with
  | none=>rfl
  | some g=>simp only[aDy] at e;omega
 ·have e:=lit _ _ _ _ h
  cases o with
  | none=>simp only[aDy] at e;omega
  | some g=>
   simp only[aDy] at e;rename_i g';have e2:g'=g:=(by omega);rw[e2];rfl
 ·cases h
def aGw (f:List UInt8→Option Nat) (l:List UInt8) (o:Option Nat) (k:List UInt8):Option Nat:=if k=l then o else f k
theorem xS (f:List UInt8→Option Nat) (l:List UInt8) (o:Option Nat):aGw f l o l=o:=if_pos rfl
theorem vF (f:List UInt8→Option Nat) (l:List UInt8) (o:Option Nat) {k:List UInt8} (h:k≠l):aGw f l o k=f k:=if_neg h
def nC (w:World) (b:Nat) (f:List UInt8→Option Nat) (n:Nat):Prop:=
 ∃ D:DataW Unit,w.ownsMap Tryz.prog 9 aBd b n D∧(∀ l,Maps.has D (.string l)=(f l).isSome)∧∀ l z,(f l).isSome=true→D.atKey (.string l) z=.lit (.int .i64 (aDy (f l)))
theorem nC.at {w w':World} {b n:Nat} {f:List UInt8→Option Nat} (h:nC w b f n) (e:w'.heap[b]? = w.heap[b]?):nC w' b f n:=by
 obtain⟨D,h1,h2⟩:=h;exact⟨D,wI h1 e,h2⟩
theorem nC.lt {w:World} {b n:Nat} {f:List UInt8→Option Nat} (h:nC w b f n):b<w.heap.size:=by
 obtain⟨D,h1,h2⟩:=h;exact h1.lt
theorem bIl (w:World):nC (w.alloc (.map #[] 0)) w.heap.size (fun _=>none) 0:=
 ⟨.map [],World.ownsMap_made w _ _ _,fun l=>by simp[Maps.has],fun l z h=>(by cases h)⟩
theorem bGl (w:World):(zeroValue 128).run Tryz.prog w=.ok (.pointer none) w:=by kernel_rfl
theorem gU {w:World} {b n:Nat} {f:List UInt8→Option Nat} (h:nC w b f n) (l:List UInt8) (hl:l.length≤9223372036854775807) :
  (Instr.lookup 124 (.map (some b)) (.string (bs l)) false).run Tryz.prog w=.ok (bEs (f l)) w:=by
 obtain⟨D,h1,h2,h3⟩:=h;obtain⟨v,ps,hrun,hv⟩:=h1.lookup sI Tryz.underlying124 (bGl w) (zd:=.lit (.int .i64 (-1))) (zp:=[]) rfl (yR l hl)
 have e:D.atKey (.string l) (.lit (.int .i64 (-1)))=.lit (.int .i64 (aDy (f l))):=by
  cases hf:f l with
  | some g=>
   have h4:=h3 l (.lit (.int .i64 (-1))) (by rw[hf];rfl);rw[hf] at h4;exact h4
  | none=>exact atKey_of_not_has (by rw[h2,hf];rfl) _
 rw[e] at hv;rw[hrun,bIt hv]
theorem aVn {w:World} {b n:Nat} {f:List UInt8→Option Nat} (h:nC w b f n) (hn:n≤1000000) (l:List UInt8) (hl:l.length≤9223372036854775807) (g:Nat) :
  ∃ w',(Instr.mapUpdate 124 (.map (some b)) (.string (bs l)) (.pointer (some ⟨g,0,none⟩))).run Tryz.prog w=.ok () w'∧nC w' b (aGw f l (some g)) (n+1)∧w.mapTurned w' b:=by
 obtain⟨D,h1,h2,h3⟩:=h;obtain⟨w',r1,r2,r3⟩:=h1.store sI Tryz.underlying124 (by unfold maxLen;omega) (yR l hl) (bEt (some g));refine⟨w',r1,⟨_,r2,fun k=>?_,fun k z hk=>?_⟩,r3⟩
 ·by_cases e:k=l
  ·subst e;rw[has_put_same h1.isMap (show WideAt.IsKeyLit (.string k) from trivial),xS];rfl
  ·rw[has_put_other (by simpa using e),vF _ _ _ e,h2]
 ·by_cases e:k=l
  ·subst e;rw[atKey_put_same h1.isMap (show WideAt.IsKeyLit (.string k) from trivial),xS]
  ·rw[vF _ _ _ e] at hk ⊢;rw[atKey_put_other (by simpa using e)];exact h3 k z hk
theorem bIk {w:World} {b n:Nat} {f:List UInt8→Option Nat} (h:nC w b f n) (l:List UInt8) (hl:l.length≤9223372036854775807) (ty:TypeId) :
  ∃ w',(Builtin.delete_ #[124,9] ty #[.map (some b),.string (bs l)]).run Tryz.prog w=.ok (.tuple #[]) w'∧nC w' b (aGw f l none) n∧w.mapTurned w' b:=by
 obtain⟨D,h1,h2,h3⟩:=h;obtain⟨w',r1,r2,r3⟩:=h1.drop sI Tryz.underlying124 (yR l hl) ty;refine⟨w',r1,⟨_,r2,fun k=>?_,fun k z hk=>?_⟩,r3⟩
 ·by_cases e:k=l
  ·subst e;rw[has_del_same,xS];rfl
  ·rw[has_del_other (by simpa using e),vF _ _ _ e,h2]
 ·by_cases e:k=l
  ·subst e;rw[xS] at hk;cases hk
  ·rw[vF _ _ _ e] at hk ⊢;rw[atKey_del_other (by simpa using e)];exact h3 k z hk
end Go.Proofs.YtdfegfagedeilaaGreatDoor

namespace Go.Proofs.YtdfegfagedeilaaGreatDoor
open Go.RowKit
theorem aUt {α:Type} (f:α→List Value) (s:Nat) (hf:∀ x,(f x).length=s) (d:α):∀ (L:List α) (j i:Nat),j<L.length→i<s→(L.flatMap f)[j*s+i]? = (f (L.getD j d))[i]?
 | [],j,_,hj,_=>absurd hj (Nat.not_lt_zero j)
 | x::L,0,i,_,hi=>by
  rw[List.flatMap_cons,Nat.zero_mul,Nat.zero_add,List.getElem?_append_left (by rw[hf];exact hi)];rfl
 | x::L,j+1,i,hj,hi=>by
  rw[List.flatMap_cons,List.getElem?_append_right (by rw[hf,Nat.add_mul];omega),hf,show(j+1)*s+i-s=j*s+i by rw[Nat.add_mul];omega];rw[aUt f s hf d L j i (by simpa using hj) hi];rfl
theorem aMj {α:Type} (f:α→List Value) (s:Nat) (hf:∀ x,(f x).length=s) (L:List α):(L.flatMap f).length=L.length*s:=by
 induction L with
 | nil=>simp
 | cons x L ih=>rw[List.flatMap_cons,List.length_append,ih,hf,List.length_cons,Nat.add_mul];omega
theorem bCq {α:Type} (f:α→List Value) (s:Nat) (hf:∀ x,(f x).length=s) (A B:List α) (x y:α) (i:Nat) (u:Value) (hi:i<s) (hy:f y=(f x).set i u):((A++x::B).flatMap f).set (A.length*s+i) u=(A++y::B).flatMap f:=by
 rw[List.flatMap_append,List.flatMap_append,List.flatMap_cons,List.flatMap_cons,List.set_append_right _ _ (by rw[aMj f s hf];omega),aMj f s hf,show A.length*s+i-A.length*s=i by omega,List.set_append_left _ _ (by rw[hf];exact hi),hy]
theorem yN {α:Type} (f:α→List Value) (L:List α) (x:α):L.flatMap f++f x=(L++[x]).flatMap f:=by simp
def SlS {α:Type} (f:α→List Value) (s:Nat) (d:α) (w:World) (v:Value) (L:List α):Prop:=∃ p cap,v=.slice p L.length cap∧∀ j,j<L.length→∃ g,p=some ⟨g,0,none⟩∧∀ i u,(f (L.getD j d))[i]? = some u→w.cell? ⟨g,j*s+i,none⟩=some u
theorem SlS.below {α:Type} {f:α→List Value} {s:Nat} {d:α} {w w':World} {v:Value} {L:List α} (h:SlS f s d w v L) (hb:Below w.heap.size w w'):SlS f s d w' v L:=by
 obtain⟨p,cap,hv,hc⟩:=h;refine⟨p,cap,hv,fun j hj=>?_⟩;obtain⟨g,hp,h1⟩:=hc j hj;exact⟨g,hp,fun i u hu=>cell_later hb (h1 i u hu)⟩
theorem bFk {α:Type} (f:α→List Value) (s:Nat) (d:α) (w:World):SlS f s d w (.slice none 0 0) []:=⟨none,0,rfl,fun j hj=>absurd hj (Nat.not_lt_zero j)⟩
theorem aKm {α:Type} {f:α→List Value} {s:Nat} (d:α) (hf:∀ x,(f x).length=s) {w:World} {B:Nat} {e:TypeId} {v:Value} {L:List α} (h:w.ownsRow B e s v L.length (L.flatMap f)):SlS f s d w v L:=by
 obtain⟨-,⟨h0,hn⟩ | ⟨g,cap,cur,hv,-,hw,-,-,-,ht⟩⟩:=h
 ·have:L=[]:=List.eq_nil_of_length_eq_zero hn;subst this h0;exact bFk f s d w
 ·refine⟨_,cap,hv,fun j hj=>⟨g,rfl,fun i u hu=>?_⟩⟩
  have hi:i<s:=by
   have:=(List.getElem?_eq_some_iff.1 hu).1;rw[hf] at this;exact this
  have hjs:j*s+i<L.length*s:=by
   have:(j+1)*s≤L.length*s:=Nat.mul_le_mul_right s hj;rw[Nat.add_mul] at this;omega
  have h1:=congrArg (fun x:List Value=>x[j*s+i]?) ht;simp only[List.getElem?_take,hjs,if_true,Array.getElem?_toList] at h1;rw[cell_of_row w g (j*s+i) _ _ (0,0) hw,h1,aUt f s hf d L j i hj hi];exact hu
end Go.Proofs.YtdfegfagedeilaaGreatDoor

namespace Go.Proofs.YtdfegfagedeilaaGreatDoor
open Go.RowKit Go.Lib Go.Maps
theorem jL {w w':World} {base size n:Nat} {e:TypeId} {v:Value} {xs:List Value} (h:w.ownsRow base e size v n xs) (hb:∀ k,v.ownBlock=some k→w'.heap[k]? = w.heap[k]?):w'.ownsRow base e size v n xs:=by
 obtain⟨h1,h2⟩:=h;refine⟨h1,?_⟩;rcases h2 with h2 | ⟨g,cap,cur,e1,hg,hw,r⟩
 ·exact .inl h2
 ·exact .inr ⟨g,cap,cur,e1,hg,(hb g (by subst e1;rfl)).trans hw,r⟩
theorem Blk.at {w w':World} {B:Nat} {t:TypeId} {cs:List Value} (h:Blk w B t cs) (e:w'.heap[B]? = w.heap[B]?):Blk w' B t cs:=e.trans h
def Ty (w:World) (g:Nat) (t:TypeId):Prop:=∃ cs fz,w.heap[g]? = some (.cells cs t fz)
theorem Ty.ne {w:World} {g g':Nat} {t t':TypeId} (h:Ty w g t) (h':Ty w g' t') (hne:t≠t'):g≠g':=by
 rintro rfl;obtain⟨_,_,h⟩:=h;obtain⟨_,_,h'⟩:=h';rw[h] at h';injection h' with h';injection h' with _ h';exact hne h'
theorem Blk.ty {w:World} {B:Nat} {t:TypeId} {cs:List Value} (h:Blk w B t cs):Ty w B t:=⟨_,_,h⟩
theorem aW {w:World} {base size n:Nat} {e:TypeId} {v:Value} {xs:List Value} (h:w.ownsRow base e size v n xs) {g:Nat} (hg:v.ownBlock=some g):Ty w g e:=by
 rcases h.2 with ⟨rfl,-⟩ | ⟨g',cap,cur,rfl,-,hw,-⟩
 ·cases hg
 ·have:g'=g:=(by simpa [Value.ownBlock] using hg);subst this;exact⟨_,_,hw⟩
theorem aSm {H:Type} {w:World} {P:Program} {k t:TypeId} {R:Value→Option (DataW H×List MemPlace)} {b n g:Nat} {D:DataW H} (h:w.ownsMap P k R b n D) (h':Ty w g t):b≠g:=by
 rintro rfl;obtain⟨es,clock,hb,-⟩:=h;obtain⟨_,_,h'⟩:=h';rw[hb] at h';cases h'
theorem nC.ty {w:World} {b n g:Nat} {t:TypeId} {f:List UInt8→Option Nat} (h:nC w b f n) (h':Ty w g t):b≠g:=by
 obtain⟨D,h1,-⟩:=h;exact aSm h1 h'
theorem oP.ty {w:World} {b n g:Nat} {t:TypeId} {ks:List (List UInt8)} (h:oP w b ks n) (h':Ty w g t):b≠g:=by
 obtain⟨D,h1,-⟩:=h;exact aSm h1 h'
def opc (o:OpM):List Value:=[.bool o.1,.int .i64 o.2.1,.int .i64 o.2.2.1,.int .i64 o.2.2.2]
theorem aVm (o:OpM):(opc o).length=4:=rfl
def nmc (l:List UInt8):List Value:=[.string (bs l)]
abbrev bV:=Nat×Value×Value
def bM:bV:=(0,.slice none 0 0,.slice none 0 0)
def drc (d:aH) (e:bV):List Value:=[.string (bs d.nm),e.2.1,.int .i64 d.ln,.int .i64 0,.int .i64 d.fate,e.2.2]
structure vV (w:World) (B:Nat) (e:bV) (d:aH):Prop where
 base:B≤e.1
 blk:Blk w e.1 130 (drc d e)
 ks:w.ownsRow B 9 1 e.2.1 d.ks.length (d.ks.flatMap nmc)
 ops:w.ownsRow B 82 4 e.2.2 d.ops.length (d.ops.flatMap opc)
theorem vV.at {w w':World} {B:Nat} {e:bV} {d:aH} (h:vV w B e d) (h1:w'.heap[e.1]? = w.heap[e.1]?) (h2:∀ k,e.2.1.ownBlock=some k→w'.heap[k]? = w.heap[k]?) (h3:∀ k,e.2.2.ownBlock=some k→w'.heap[k]? = w.heap[k]?):vV w' B e d:=
 ⟨h.base,h.blk.at h1,jL h.ks h2,jL h.ops h3⟩
def ptc (e:bV):List Value:=[.pointer (some ⟨e.1,0,none⟩)]
def bW (L:List aH) (E:List bV) (l:List UInt8):Option Nat:=if atD L l<L.length then some (E.getD (atD L l) bM).1 else none
structure MkI (w:World) (B gm:Nat) (L:List aH) (N:Nat) (lv:Value) (bo bz bk:Nat) (E:List bV):Prop where
 bx:Blk w gm 127 [lv,.map (some bo),.map (some bz),.map (some bk)]
 base:B≤gm∧B≤bo∧B≤bz∧B≤bk
 maps:bo≠bz∧bo≠bk∧bz≠bk
 row:w.ownsRow B 128 1 lv E.length (E.flatMap ptc)
 len:E.length=L.length
 opn:nC w bo (bW L E) N
 ses:∃ ks,oP w bz ks N∧ks.Nodup∧∀ x,x∈ks↔x∈gR L
 key:∃ ks,oP w bk ks N∧ks.Nodup∧∀ x,x∈ks↔x∈dT L
 dr:∀ i,i<L.length→vV w B (E.getD i bM) (L.getD i noD)
 ne:∀ i j,i<j→j<L.length→(E.getD i bM).1≠(E.getD j bM).1
 nek:∀ i j,i<j→j<L.length→∀ g,(E.getD i bM).2.1.ownBlock=some g→(E.getD j bM).2.1.ownBlock≠some g
 neo:∀ i j,i<j→j<L.length→∀ g,(E.getD i bM).2.2.ownBlock=some g→(E.getD j bM).2.2.ownBlock≠some g
theorem gV {w:World} {base size n:Nat} {e:TypeId} {v:Value} {xs:List Value} (h:w.ownsRow base e size v n xs) {k:Nat} (hk:v.ownBlock=some k):k<w.heap.size:=(h.lt k hk).2
theorem MkI.zlt {w:World} {B gm N bo bz bk:Nat} {L:List aH} {lv:Value} {E:List bV} (h:MkI w B gm L N lv bo bz bk E):bz<w.heap.size:=by
 obtain⟨ks,c1,-⟩:=h.ses;exact c1.lt
theorem MkI.below {w w':World} {B gm N bo bz bk:Nat} {L:List aH} {lv:Value} {E:List bV} (h:MkI w B gm L N lv bo bz bk E) (hb:Below w.heap.size w w'):MkI w' B gm L N lv bo bz bk E:=by
 have k:∀ g,g<w.heap.size→w'.heap[g]? = w.heap[g]?:=fun g hg=>hb.block g hg;obtain⟨k1,c1,n1,m1⟩:=h.ses;obtain⟨k2,c2,n2,m2⟩:=h.key
 exact⟨h.bx.at (k _ h.bx.lt),h.base,h.maps,jL h.row (fun g hg=>k g (gV h.row hg)),h.len,h.opn.at (k _ h.opn.lt),⟨k1,c1.at (k _ c1.lt),n1,m1⟩,⟨k2,c2.at (k _ c2.lt),n2,m2⟩,
  fun i hi=>(h.dr i hi).at (k _ (h.dr i hi).blk.lt) (fun g hg=>k g (gV (h.dr i hi).ks hg)) (fun g hg=>k g (gV (h.dr i hi).ops hg)),h.ne,h.nek,h.neo⟩
theorem jU (E:List bV) (e:bV) (i:Nat) (h:i<E.length):(E++[e]).getD i bM=E.getD i bM:=by simp[List.getElem?_append_left h]
theorem lZ (E:List bV) (e:bV):(E++[e]).getD E.length bM=e:=by simp
theorem aGj (E:List aH) (e:aH) (i:Nat) (h:i<E.length):(E++[e]).getD i noD=E.getD i noD:=by simp[List.getElem?_append_left h]
theorem aGg (E:List aH) (e:aH):(E++[e]).getD E.length noD=e:=by simp
theorem bBu (L:List aH) (d:aH) (s:List UInt8):atD (L++[d]) s=if atD L s<L.length then atD L s else if tD s d=true then L.length else L.length+1:=by
 unfold atD;rw[List.findIdx_append];by_cases h:List.findIdx (tD s) L<L.length
 ·rw[if_pos h,if_pos h]
 ·rw[if_neg h,if_neg h,List.findIdx_singleton];by_cases e:tD s d=true
  ·rw[if_pos e,if_pos e,Nat.zero_add]
  ·rw[if_neg e,if_neg e,Nat.add_comm]
theorem oP.mono {w:World} {b N N':Nat} {ks:List (List UInt8)} (h:oP w b ks N) (hN:N≤N'):oP w b ks N':=by
 obtain⟨D,h1,h2,h3,h4⟩:=h;refine⟨D,h1,h2,h3,fun l=>?_⟩;obtain⟨c,e1,e2⟩:=h4 l;exact⟨c,e1,fun hk=>by have:=e2 hk;omega⟩
theorem nC.mono {w:World} {b n n':Nat} {f:List UInt8→Option Nat} (h:nC w b f n) (hn:n≤n'):nC w b f n':=by
 obtain⟨D,h1,h2⟩:=h;exact⟨D,h1.mono hn,h2⟩
theorem uY {s:List UInt8} {ks M:List (List UInt8)} (hd:ks.Nodup) (hm:∀ x,x∈ks↔x∈M):(if s∈ks then ks else ks++[s]).Nodup∧∀ x,x∈(if s∈ks then ks else ks++[s])↔x∈M++[s]:=by
 by_cases h:s∈ks
 ·rw[if_pos h];refine⟨hd,fun x=>?_⟩;rw[hm,List.mem_append,List.mem_singleton];exact⟨fun h=>.inl h,fun h'=>h'.elim id (fun e=>by rw[e];exact(hm s).1 h)⟩
 ·rw[if_neg h];refine⟨List.nodup_append.2 ⟨hd,by simp,fun a ha b hb=>?_⟩,fun x=>by rw[List.mem_append,List.mem_append,hm]⟩;rw[List.mem_singleton] at hb;subst hb;intro e;subst e;exact h ha
theorem MkI.mono {w:World} {B gm N N' bo bz bk:Nat} {L:List aH} {lv:Value} {E:List bV} (h:MkI w B gm L N lv bo bz bk E) (hN:N≤N'):MkI w B gm L N' lv bo bz bk E:=by
 obtain⟨k1,c1,n1,m1⟩:=h.ses;obtain⟨k2,c2,n2,m2⟩:=h.key;exact⟨h.bx,h.base,h.maps,h.row,h.len,h.opn.mono hN,⟨k1,c1.mono hN,n1,m1⟩,⟨k2,c2.mono hN,n2,m2⟩,h.dr,h.ne,h.nek,h.neo⟩
theorem MkI.begin {w w':World} {B gm N N' bo bz bk g:Nat} {L:List aH} {lv lv':Value} {E:List bV} (s:List UInt8) (ln:Int) (h:MkI w B gm L N lv bo bz bk E) (hno:¬atD L s<L.length) (hg:w.heap.size≤g) (hB:B≤g)
  (hs:∀ k,k<w.heap.size→k≠gm→lv.ownBlock≠some k→k≠bo→k≠bz→w'.heap[k]? = w.heap[k]?) (hm:Blk w' gm 127 [lv',.map (some bo),.map (some bz),.map (some bk)])
  (hr:w'.ownsRow B 128 1 lv' (E.length+1) (E.flatMap ptc++[.pointer (some ⟨g,0,none⟩)])) (hd:Blk w' g 130 [.string (bs s),.slice none 0 0,.int .i64 ln,.int .i64 0,.int .i64 0,.slice none 0 0])
  (ho:nC w' bo (aGw (bW L E) s (some g)) N') (hz:∃ ks,oP w' bz ks N'∧ks.Nodup∧∀ x,x∈ks↔x∈gR L++[s]) (hN:N≤N'):MkI w' B gm (L++[⟨s,[],ln,0,[],true⟩]) N' lv' bo bz bk (E++[(g,.slice none 0 0,.slice none 0 0)]):=by
 obtain⟨k1,c1,-⟩:=h.ses;obtain⟨k2,c2,n2,m2⟩:=h.key;have hl:=h.len
 -- what is none of the turned blocks
 have far:∀ k t,k<w.heap.size→Ty w k t→t≠127→t≠128→w'.heap[k]? = w.heap[k]?:=fun k t hk ht e1 e2=>
  hs k hk (ht.ne h.bx.ty e1) (fun e=>(ht.ne (aW h.row e) e2) rfl) (fun e=>h.opn.ty ht e.symm) (fun e=>c1.ty ht e.symm)
 have lt:∀ i,i<L.length→(E.getD i bM).1<w.heap.size:=fun i hi=>(h.dr i hi).blk.lt;refine⟨hm,h.base,h.maps,?_,by rw[List.length_append,List.length_append,hl];rfl,?_,by rw[aDv];exact hz,⟨k2,(c2.at (hs bk c2.lt (c2.ty h.bx.ty) (fun e=>c2.ty (aW h.row e) rfl) (Ne.symm h.maps.2.1) (Ne.symm h.maps.2.2))).mono hN,n2,fun x=>by rw[aHp,List.append_nil];exact m2 x⟩,fun i hi=>?_,fun i j hij hj=>?_,fun i j hij hj k hk=>?_,fun i j hij hj k hk=>?_⟩
 ·rw[List.length_append,List.flatMap_append];exact hr
 ·have e:bW (L++[⟨s,[],ln,0,[],true⟩]) (E++[(g,.slice none 0 0,.slice none 0 0)])=aGw (bW L E) s (some g):=by
   funext x;unfold bW aGw;rw[bBu];by_cases hx:x=s
   ·subst hx;have e2:tD x (⟨x,[],ln,0,[],true⟩:aH)=true:=(by simp[tD]);rw[if_neg hno,if_pos e2,if_pos rfl,if_pos (by simp), ←hl,lZ]
   ·have e2:¬tD x (⟨s,[],ln,0,[],true⟩:aH)=true:=(by simp[tD,Ne.symm hx]);rw[if_neg e2,if_neg hx];by_cases h3:atD L x<L.length
    ·rw[if_pos h3,if_pos (by simp;omega),jU _ _ _ (by omega)];exact(if_pos h3).symm
    ·rw[if_neg h3,if_neg (by simp)];exact(if_neg h3).symm
  rw[e];exact ho
 ·rw[List.length_append] at hi;have hi':i<L.length∨i=L.length:=(by simp at hi;omega);rcases hi' with hi' | rfl
  ·rw[jU _ _ _ (by omega),aGj _ _ _ hi'];have d:=h.dr i hi';exact d.at (far _ _ d.blk.lt d.blk.ty (by decide) (by decide)) (fun k hk=>far k _ (gV d.ks hk) (aW d.ks hk) (by decide) (by decide)) (fun k hk=>far k _ (gV d.ops hk) (aW d.ops hk) (by decide) (by decide))
  ·rw[aGg, ←hl,lZ];exact⟨hB,hd,World.ownsRow_nil _ _ _ _,World.ownsRow_nil _ _ _ _⟩
 all_goals
  rw[List.length_append] at hj;have hj':j<L.length∨j=L.length:=by simp at hj;omega
 ·rcases hj' with hj' | rfl
  ·rw[jU _ _ _ (by omega),jU _ _ _ (by omega)];exact h.ne i j hij hj'
  ·have:=lt i hij;rw[jU _ _ _ (by omega), ←hl,lZ];simp only;omega
 ·rcases hj' with hj' | rfl
  ·rw[jU _ _ _ (by omega)] at hk ⊢;exact h.nek i j hij hj' k hk
  ·rw[←hl,lZ];simp[Value.ownBlock]
 ·rcases hj' with hj' | rfl
  ·rw[jU _ _ _ (by omega)] at hk ⊢;exact h.neo i j hij hj' k hk
  ·rw[←hl,lZ];simp[Value.ownBlock]
theorem kV (E:List bV) (i j:Nat) (e:bV) (hi:i<E.length):(E.set i e).getD j bM=if i=j then e else E.getD j bM:=by
 by_cases h:i=j
 ·subst h;simp[hi]
 ·rw[if_neg h];simp[List.getElem?_set_ne h]
theorem bCp (E:List bV) (i:Nat) (e:bV) (hi:i<E.length) (h:e.1=(E.getD i bM).1):(E.set i e).flatMap ptc=E.flatMap ptc:=by
 rw[List.flatMap_def,List.flatMap_def];congr 1;apply List.ext_getElem
 ·simp
 ·intro j h1 h2;simp only[List.length_map] at h2;rw[List.getElem_map,List.getElem_map,List.getElem_set];by_cases e2:i=j
  ·subst e2;have e3:E.getD i bM=E[i]:=(by simp[hi]);rw[if_pos rfl];unfold ptc;rw[h,e3]
  ·rw[if_neg e2]
theorem MkI.set {w w':World} {B gm N N' bo bz bk:Nat} {L:List aH} {lv:Value} {E:List bV} (h:MkI w B gm L N lv bo bz bk E) (i:Nat) (hi:i<L.length) (e:bV) (d:aH) (he:e.1=(E.getD i bM).1) (hn:d.nm=(L.getD i noD).nm)
  (hs:∀ k,k<w.heap.size→k≠(E.getD i bM).1→(E.getD i bM).2.1.ownBlock≠some k→(E.getD i bM).2.2.ownBlock≠some k→k≠bo→k≠bk→w'.heap[k]? = w.heap[k]?) (hd:vV w' B e d)
  (hk:e.2.1.ownBlock=(E.getD i bM).2.1.ownBlock∨∃ g,e.2.1.ownBlock=some g∧w.heap.size≤g) (ho:e.2.2.ownBlock=(E.getD i bM).2.2.ownBlock∨∃ g,e.2.2.ownBlock=some g∧w.heap.size≤g)
  (hp:nC w' bo (bW (L.set i d) (E.set i e)) N') (hy:∃ ks,oP w' bk ks N'∧ks.Nodup∧∀ x,x∈ks↔x∈dT (L.set i d)) (hN:N≤N'):MkI w' B gm (L.set i d) N' lv bo bz bk (E.set i e):=by
 obtain⟨k1,c1,n1,m1⟩:=h.ses;obtain⟨k2,c2,n2,m2⟩:=h.key;have hl:=h.len;have hiE:i<E.length:=(by omega);have di:=h.dr i hi
 have far:∀ k t,k<w.heap.size→Ty w k t→t≠130→t≠9→t≠82→w'.heap[k]? = w.heap[k]?:=fun k t hk ht e1 e2 e3=>
  hs k hk (ht.ne di.blk.ty e1) (fun e=>(ht.ne (aW di.ks e) e2) rfl) (fun e=>(ht.ne (aW di.ops e) e3) rfl) (fun e=>h.opn.ty ht e.symm) (fun e=>c2.ty ht e.symm)
 have near:∀ j,j<L.length→j≠i→vV w' B (E.getD j bM) (L.getD j noD):=fun j hj hji=>by
  have dj:=h.dr j hj
  have q1:(E.getD j bM).1≠(E.getD i bM).1:=by
   rcases Nat.lt_or_gt_of_ne hji with h1 | h1
   ·exact h.ne j i h1 hi
   ·exact(h.ne i j h1 hj).symm
  have q2:∀ k,(E.getD j bM).2.1.ownBlock=some k→(E.getD i bM).2.1.ownBlock≠some k:=fun k h3 h4=>by
   rcases Nat.lt_or_gt_of_ne hji with h1 | h1
   ·exact h.nek j i h1 hi k h3 h4
   ·exact h.nek i j h1 hj k h4 h3
  have q3:∀ k,(E.getD j bM).2.2.ownBlock=some k→(E.getD i bM).2.2.ownBlock≠some k:=fun k h3 h4=>by
   rcases Nat.lt_or_gt_of_ne hji with h1 | h1
   ·exact h.neo j i h1 hi k h3 h4
   ·exact h.neo i j h1 hj k h4 h3
  refine dj.at (hs _ dj.blk.lt q1 (fun e=>(dj.blk.ty.ne (aW di.ks e) (by decide)) rfl) (fun e=>(dj.blk.ty.ne (aW di.ops e) (by decide)) rfl) (fun e=>h.opn.ty dj.blk.ty e.symm) (fun e=>c2.ty dj.blk.ty e.symm)) (fun k hk=>?_) (fun k hk=>?_)
  ·have t:=aW dj.ks hk;exact hs k (gV dj.ks hk) (t.ne di.blk.ty (by decide)) (q2 k hk) (fun e=>(t.ne (aW di.ops e) (by decide)) rfl) (fun e=>h.opn.ty t e.symm) (fun e=>c2.ty t e.symm)
  ·have t:=aW dj.ops hk;exact hs k (gV dj.ops hk) (t.ne di.blk.ty (by decide)) (fun e=>(t.ne (aW di.ks e) (by decide)) rfl) (q3 k hk) (fun e=>h.opn.ty t e.symm) (fun e=>c2.ty t e.symm)
 refine⟨h.bx.at (far _ _ h.bx.lt h.bx.ty (by decide) (by decide) (by decide)),h.base,h.maps,?_,by rw[List.length_set,List.length_set];exact hl,hp,⟨k1,(c1.at (hs bz c1.lt (c1.ty di.blk.ty) (fun e=>c1.ty (aW di.ks e) rfl) (fun e=>c1.ty (aW di.ops e) rfl) (Ne.symm h.maps.1) h.maps.2.2)).mono hN,n1,fun x=>by rw[aId L i d hi hn];exact m1 x⟩,hy,fun j hj=>?_,fun a b hab hb=>?_,fun a b hab hb k h3 h4=>?_,fun a b hab hb k h3 h4=>?_⟩
 ·rw[List.length_set,bCp E i e hiE he];exact jL h.row (fun k hk=>far k _ (gV h.row hk) (aW h.row hk) (by decide) (by decide) (by decide))
 ·rw[List.length_set] at hj;rw[kV E i j e hiE,mQ L i j d hi];by_cases q:i=j
  ·rw[if_pos q,if_pos q];exact hd
  ·rw[if_neg q,if_neg q];exact near j hj (fun e=>q e.symm)
 all_goals rw[List.length_set] at hb
 ·rw[kV E i a e hiE,kV E i b e hiE]
  have q1:(if i=a then e else E.getD a bM).1=(E.getD a bM).1:=by
   by_cases q:i=a
   ·rw[if_pos q,he,q]
   ·rw[if_neg q]
  have q2:(if i=b then e else E.getD b bM).1=(E.getD b bM).1:=by
   by_cases q:i=b
   ·rw[if_pos q,he,q]
   ·rw[if_neg q]
  rw[q1,q2];exact h.ne a b hab hb
 ·rw[kV E i a e hiE] at h3;rw[kV E i b e hiE] at h4;by_cases qa:i=a
  ·rw[if_pos qa] at h3;rw[if_neg (by omega)] at h4;rcases hk with hk | ⟨g,hk,hg⟩
   ·rw[hk,qa] at h3;exact h.nek a b hab hb k h3 h4
   ·rw[hk] at h3;have:=gV (h.dr b hb).ks h4;injection h3 with h3;omega
  ·rw[if_neg qa] at h3;by_cases qb:i=b
   ·rw[if_pos qb] at h4;rcases hk with hk | ⟨g,hk,hg⟩
    ·rw[hk,qb] at h4;exact h.nek a b hab hb k h3 h4
    ·rw[hk] at h4;have:=gV (h.dr a (by omega)).ks h3;injection h4 with h4;omega
   ·rw[if_neg qb] at h4;exact h.nek a b hab hb k h3 h4
 ·rw[kV E i a e hiE] at h3;rw[kV E i b e hiE] at h4;by_cases qa:i=a
  ·rw[if_pos qa] at h3;rw[if_neg (by omega)] at h4;rcases ho with hk | ⟨g,hk,hg⟩
   ·rw[hk,qa] at h3;exact h.neo a b hab hb k h3 h4
   ·rw[hk] at h3;have:=gV (h.dr b hb).ops h4;injection h3 with h3;omega
  ·rw[if_neg qa] at h3;by_cases qb:i=b
   ·rw[if_pos qb] at h4;rcases ho with hk | ⟨g,hk,hg⟩
    ·rw[hk,qb] at h4;exact h.neo a b hab hb k h3 h4
    ·rw[hk] at h4;have:=gV (h.dr a (by omega)).ops h3;injection h4 with h4;omega
   ·rw[if_neg qb] at h4;exact h.neo a b hab hb k h3 h4
theorem pJ {α:Type} (p q:α→Bool):∀ (A B:List α),A.length=B.length→(∀ i (h1:i<A.length) (h2:i<B.length),p A[i]=q B[i])→A.findIdx p=B.findIdx q
 | [],[],_,_=>rfl
 | [],b::B,h,_=>by cases h
 | a::A,[],h,_=>by cases h
 | a::A,b::B,h,hp=>by
  rw[List.findIdx_cons,List.findIdx_cons];have h0:=hp 0 (by simp) (by simp);simp only[List.getElem_cons_zero] at h0;rw[h0,pJ p q A B (by simpa using h) (fun i h1 h2=>hp (i+1) (Nat.succ_lt_succ h1) (Nat.succ_lt_succ h2))]
theorem aEc (L:List aH) (E:List bV) (i:Nat) (d:aH) (e:bV) (hi:i<L.length) (hl:E.length=L.length) (hn:d.nm=(L.getD i noD).nm) (ho:d.op=(L.getD i noD).op) (he:e.1=(E.getD i bM).1):bW (L.set i d) (E.set i e)=bW L E:=by
 funext s
 have h1:atD (L.set i d) s=atD L s:=by
  refine pJ _ _ _ _ (by simp) (fun j g1 g2=>?_);rw[List.getElem_set];by_cases q:i=j
  ·subst q;rw[if_pos rfl];have e3:L.getD i noD=L[i]:=(by simp[hi]);unfold tD;rw[hn,ho,e3]
  ·rw[if_neg q]
 unfold bW;rw[h1,List.length_set,kV E i _ e (by omega)];by_cases q:i=atD L s
 ·rw[if_pos q,he,q]
 ·rw[if_neg q]
theorem zA (L:List aH) (E:List bV) (hL:mJ L) (s:List UInt8) (d:aH) (e:bV) (hi:atD L s<L.length) (hl:E.length=L.length) (ho:d.op=false):bW (L.set (atD L s) d) (E.set (atD L s) e)=aGw (bW L E) s none:=by
 obtain⟨o1,o2⟩:=nY L s hi;funext x;unfold bW aGw;by_cases hx:x=s
 ·subst hx;rw[if_pos rfl];refine if_neg ?_;rw[List.length_set];intro h9;have h8:atD (L.set (atD L x) d) x<(L.set (atD L x) d).length:=(by rw[List.length_set];exact h9);obtain⟨p1,p2⟩:=nY _ x h8;rw[mQ L _ _ d hi] at p1 p2;by_cases q:atD L x=atD (L.set (atD L x) d) x
  ·rw[if_pos q,ho] at p1;cases p1
  ·rw[if_neg q] at p1 p2;rcases Nat.lt_or_gt_of_ne q with h1 | h1
   ·exact hL.one _ _ h1 h9 o1 p1 (by rw[o2,p2])
   ·exact hL.one _ _ h1 hi p1 o1 (by rw[o2,p2])
 ·rw[if_neg hx]
  have h1:atD (L.set (atD L s) d) x=atD L x:=by
   refine pJ _ _ _ _ (by simp) (fun j g1 g2=>?_);rw[List.getElem_set];by_cases q:atD L s=j
   ·rw[if_pos q];have e3:L.getD j noD=L[j]:=(by simp[g2]);have e4:L[j].nm=s:=(by rw[←e3, ←q];exact o2);unfold tD;rw[ho,e4,decide_eq_false (Ne.symm hx)];simp
   ·rw[if_neg q]
  rw[h1,List.length_set,kV E _ _ e (by omega)];by_cases q:atD L s=atD L x
  ·by_cases h2:atD L x<L.length
   ·have:=(nY L x h2).2;rw[←q,o2] at this;exact absurd this.symm hx
   ·rw[if_neg h2];exact(if_neg h2).symm
  ·rw[if_neg q]
end Go.Proofs.YtdfegfagedeilaaGreatDoor

namespace Go.Proofs
open Go.Shelf
def Tryz.laysSort_ren:Go.Shelf.Ren:=⟨fun | 6=>161 | 15=>125 | 14=>175 | 28=>150 | 29=>151 | 20=>184 | 21=>185 | 22=>186 | 23=>187 | 24=>188 | 25=>189 | 26=>190 | 27=>191 | 46=>194 | 47=>165 | 48=>166 | 49=>195 | 50=>196 | 57=>197 | n=>n,fun | 22=>22 | 24=>9 | 25=>164 | 3=>3 | 39=>171 | 0=>0 | 53=>197 | 55=>199 | 4=>4 | 46=>191 | 45=>190 | 50=>131 | 5=>5 | 9=>9 | 66=>208 | 70=>212 | 76=>220 | 77=>140 | n=>n,fun | n=>n⟩
theorem Tryz.laysSort:Go.Proofs.SlLaysF.n6 Tryz.prog Tryz.laysSort_ren:={
 mixed:=by kernel_rfl
 f6:=⟨Tryz.f161.name,by decide,Tryz.func161.trans (congrArg some (by kernel_rfl))⟩
 f14:=⟨Tryz.f175.name,by decide,Tryz.func175.trans (congrArg some (by kernel_rfl))⟩
 f15:=Tryz.func125.trans (congrArg some (by kernel_rfl))
 f20:=⟨Tryz.f184.name,by decide,Tryz.func184.trans (congrArg some (by kernel_rfl))⟩
 f21:=⟨Tryz.f185.name,by decide,Tryz.func185.trans (congrArg some (by kernel_rfl))⟩
 f22:=⟨Tryz.f186.name,by decide,Tryz.func186.trans (congrArg some (by kernel_rfl))⟩
 f23:=⟨Tryz.f187.name,by decide,Tryz.func187.trans (congrArg some (by kernel_rfl))⟩
 f24:=⟨Tryz.f188.name,by decide,Tryz.func188.trans (congrArg some (by kernel_rfl))⟩
 f25:=⟨Tryz.f189.name,by decide,Tryz.func189.trans (congrArg some (by kernel_rfl))⟩
 f26:=⟨Tryz.f190.name,by decide,Tryz.func190.trans (congrArg some (by kernel_rfl))⟩
 f27:=⟨Tryz.f191.name,by decide,Tryz.func191.trans (congrArg some (by kernel_rfl))⟩
 f28:=Tryz.func150.trans (congrArg some (by kernel_rfl))
 f29:=Tryz.func151.trans (congrArg some (by kernel_rfl))
 f46:=⟨Tryz.f194.name,by decide,Tryz.func194.trans (congrArg some (by kernel_rfl))⟩
 f47:=Tryz.func165.trans (congrArg some (by kernel_rfl))
 f48:=Tryz.func166.trans (congrArg some (by kernel_rfl))
 f49:=⟨Tryz.f195.name,by decide,Tryz.func195.trans (congrArg some (by kernel_rfl))⟩
 f50:=⟨Tryz.f196.name,by decide,Tryz.func196.trans (congrArg some (by kernel_rfl))⟩
 f57:=⟨Tryz.f197.name,by decide,Tryz.func197.trans (congrArg some (by kernel_rfl))⟩
 t0:=Tryz.underlying0
 a0:=Tryz.isAgg0
 z0:=Tryz.sizeOf0
 v0:=Tryz.zeroValue0
 t3:=Tryz.underlying3
 a3:=Tryz.isAgg3
 z3:=Tryz.sizeOf3
 v3:=Tryz.zeroValue3
 t4:=Tryz.underlying4
 a4:=Tryz.isAgg4
 z4:=Tryz.sizeOf4
 v4:=Tryz.zeroValue4
 t5:=Tryz.underlying5
 a5:=Tryz.isAgg5
 z5:=Tryz.sizeOf5
 v5:=Tryz.zeroValue5
 t9:=Tryz.underlying9
 a9:=Tryz.isAgg9
 z9:=Tryz.sizeOf9
 v9:=Tryz.zeroValue9
 t22:=Tryz.underlying22
 a22:=Tryz.isAgg22
 z22:=Tryz.sizeOf22
 v22:=Tryz.zeroValue22
 a24:=Tryz.isAgg9
 z24:=Tryz.sizeOf9
 t25:=Tryz.underlying164
 a25:=Tryz.isAgg164
 z25:=Tryz.sizeOf164
 v25:=Tryz.zeroValue164
 t39:=Tryz.underlying171
 a39:=Tryz.isAgg171
 z39:=Tryz.sizeOf171
 v39:=Tryz.zeroValue171
 t45:=Tryz.underlying190
 a45:=Tryz.isAgg190
 z45:=Tryz.sizeOf190
 v45:=Tryz.zeroValue190
 t46:=Tryz.underlying191
 a46:=Tryz.isAgg191
 z46:=Tryz.sizeOf191
 v46:=Tryz.zeroValue191
 t50:=Tryz.underlying131
 a50:=Tryz.isAgg131
 z50:=Tryz.sizeOf131
 v50:=Tryz.zeroValue131
 t53:=Tryz.underlying197
 a53:=Tryz.isAgg197
 z53:=Tryz.sizeOf197
 v53:=Tryz.zeroValue197
 t55:=Tryz.underlying199
 a55:=Tryz.isAgg199
 z55:=Tryz.sizeOf199
 v55:=Tryz.zeroValue199
 t66:=Tryz.underlying208
 a66:=Tryz.isAgg208
 z66:=Tryz.sizeOf208
 v66:=Tryz.zeroValue208
 t70:=Tryz.underlying212
 a70:=Tryz.isAgg212
 z70:=Tryz.sizeOf212
 v70:=Tryz.zeroValue212
 t76:=Tryz.underlying220
 a76:=Tryz.isAgg220
 z76:=Tryz.sizeOf220
 v76:=Tryz.zeroValue220
 t77:=Tryz.underlying140
 a77:=Tryz.isAgg140
 z77:=Tryz.sizeOf140
 v77:=Tryz.zeroValue140 }
def Tryz.laysSort0_ren:Go.Shelf.Ren:=⟨fun | 6=>161 | 15=>125 | 14=>175 | 28=>150 | 29=>151 | 20=>184 | 21=>185 | 22=>186 | 23=>187 | 24=>188 | 25=>189 | 26=>190 | 27=>191 | 46=>194 | 47=>165 | 48=>166 | 49=>195 | 50=>196 | 57=>197 | n=>n,fun | 22=>22 | 24=>9 | 25=>164 | 3=>3 | 39=>171 | 0=>0 | 53=>197 | 55=>199 | 4=>4 | 46=>191 | 45=>190 | 50=>131 | 5=>5 | 9=>9 | 66=>208 | 70=>212 | 76=>220 | 77=>140 | n=>n,fun | n=>n⟩
theorem Tryz.laysSort0:Go.Proofs.SlLaysF0.n6 Tryz.prog Tryz.laysSort0_ren:={
 mixed:=by kernel_rfl
 f6:=⟨Tryz.f161.name,by decide,Tryz.func161.trans (congrArg some (by kernel_rfl))⟩
 f14:=⟨Tryz.f175.name,by decide,Tryz.func175.trans (congrArg some (by kernel_rfl))⟩
 f15:=Tryz.func125.trans (congrArg some (by kernel_rfl))
 f20:=⟨Tryz.f184.name,by decide,Tryz.func184.trans (congrArg some (by kernel_rfl))⟩
 f21:=⟨Tryz.f185.name,by decide,Tryz.func185.trans (congrArg some (by kernel_rfl))⟩
 f22:=⟨Tryz.f186.name,by decide,Tryz.func186.trans (congrArg some (by kernel_rfl))⟩
 f23:=⟨Tryz.f187.name,by decide,Tryz.func187.trans (congrArg some (by kernel_rfl))⟩
 f24:=⟨Tryz.f188.name,by decide,Tryz.func188.trans (congrArg some (by kernel_rfl))⟩
 f25:=⟨Tryz.f189.name,by decide,Tryz.func189.trans (congrArg some (by kernel_rfl))⟩
 f26:=⟨Tryz.f190.name,by decide,Tryz.func190.trans (congrArg some (by kernel_rfl))⟩
 f27:=⟨Tryz.f191.name,by decide,Tryz.func191.trans (congrArg some (by kernel_rfl))⟩
 f28:=Tryz.func150.trans (congrArg some (by kernel_rfl))
 f29:=Tryz.func151.trans (congrArg some (by kernel_rfl))
 f46:=⟨Tryz.f194.name,by decide,Tryz.func194.trans (congrArg some (by kernel_rfl))⟩
 f47:=Tryz.func165.trans (congrArg some (by kernel_rfl))
 f48:=Tryz.func166.trans (congrArg some (by kernel_rfl))
 f49:=⟨Tryz.f195.name,by decide,Tryz.func195.trans (congrArg some (by kernel_rfl))⟩
 f50:=⟨Tryz.f196.name,by decide,Tryz.func196.trans (congrArg some (by kernel_rfl))⟩
 f57:=⟨Tryz.f197.name,by decide,Tryz.func197.trans (congrArg some (by kernel_rfl))⟩
 t0:=Tryz.underlying0
 a0:=Tryz.isAgg0
 z0:=Tryz.sizeOf0
 v0:=Tryz.zeroValue0
 t3:=Tryz.underlying3
 a3:=Tryz.isAgg3
 z3:=Tryz.sizeOf3
 v3:=Tryz.zeroValue3
 t4:=Tryz.underlying4
 a4:=Tryz.isAgg4
 z4:=Tryz.sizeOf4
 v4:=Tryz.zeroValue4
 t5:=Tryz.underlying5
 a5:=Tryz.isAgg5
 z5:=Tryz.sizeOf5
 v5:=Tryz.zeroValue5
 t9:=Tryz.underlying9
 a9:=Tryz.isAgg9
 z9:=Tryz.sizeOf9
 v9:=Tryz.zeroValue9
 t22:=Tryz.underlying22
 a22:=Tryz.isAgg22
 z22:=Tryz.sizeOf22
 v22:=Tryz.zeroValue22
 t25:=Tryz.underlying164
 a25:=Tryz.isAgg164
 z25:=Tryz.sizeOf164
 v25:=Tryz.zeroValue164
 t39:=Tryz.underlying171
 a39:=Tryz.isAgg171
 z39:=Tryz.sizeOf171
 v39:=Tryz.zeroValue171
 t45:=Tryz.underlying190
 a45:=Tryz.isAgg190
 z45:=Tryz.sizeOf190
 v45:=Tryz.zeroValue190
 t46:=Tryz.underlying191
 a46:=Tryz.isAgg191
 z46:=Tryz.sizeOf191
 v46:=Tryz.zeroValue191
 t50:=Tryz.underlying131
 a50:=Tryz.isAgg131
 z50:=Tryz.sizeOf131
 v50:=Tryz.zeroValue131
 t53:=Tryz.underlying197
 a53:=Tryz.isAgg197
 z53:=Tryz.sizeOf197
 v53:=Tryz.zeroValue197
 t55:=Tryz.underlying199
 a55:=Tryz.isAgg199
 z55:=Tryz.sizeOf199
 v55:=Tryz.zeroValue199
 t66:=Tryz.underlying208
 a66:=Tryz.isAgg208
 z66:=Tryz.sizeOf208
 v66:=Tryz.zeroValue208
 t70:=Tryz.underlying212
 a70:=Tryz.isAgg212
 z70:=Tryz.sizeOf212
 v70:=Tryz.zeroValue212
 t76:=Tryz.underlying220
 a76:=Tryz.isAgg220
 z76:=Tryz.sizeOf220
 v76:=Tryz.zeroValue220
 t77:=Tryz.underlying140
 a77:=Tryz.isAgg140
 z77:=Tryz.sizeOf140
 v77:=Tryz.zeroValue140 }
def Tryz.laysCompact_ren:Go.Shelf.Ren:=⟨fun | 194=>162 | n=>n,fun | 31=>22 | 9=>9 | 3=>3 | 4=>4 | 0=>0 | n=>n,fun | n=>n⟩
theorem Tryz.laysCompact:Go.Proofs.Lays.n194 Tryz.prog Tryz.laysCompact_ren:={
 mixed:=by kernel_rfl
 f194:=Tryz.func162.trans (congrArg some (by kernel_rfl))
 t0:=Tryz.underlying0
 a0:=Tryz.isAgg0
 z0:=Tryz.sizeOf0
 v0:=Tryz.zeroValue0
 t3:=Tryz.underlying3
 a3:=Tryz.isAgg3
 z3:=Tryz.sizeOf3
 v3:=Tryz.zeroValue3
 t4:=Tryz.underlying4
 a4:=Tryz.isAgg4
 z4:=Tryz.sizeOf4
 v4:=Tryz.zeroValue4
 t9:=Tryz.underlying9
 a9:=Tryz.isAgg9
 z9:=Tryz.sizeOf9
 v9:=Tryz.zeroValue9
 t31:=Tryz.underlying22
 a31:=Tryz.isAgg22
 z31:=Tryz.sizeOf22
 v31:=Tryz.zeroValue22 }
end Go.Proofs

namespace Go.Proofs.YtdfegfagedeilaaGreatDoor
open Go.RowKit Go.Lib
theorem aMl (L:List (List UInt8)) (k:Nat) (h:k<L.length):L.getD k []∈L:=by
 have:L.getD k []=L[k]:=(by simp[h]);rw[this];exact List.getElem_mem h
theorem aY {P:Program} {w:World} {ops:Array Oper} {o:Oper} {a:Act} {K:Act→World→Prop} {Q:Exit→Act→World→Prop} {E:Prop} (hgd:o.guard=none) (s x:Operand) (t:TypeId)
  (ho:o.op=.call { callee:=.builtin .append,args:=#[s,x],argTypes:=#[t,t] })
  (base:Nat) (e:TypeId) (i:TypeInfo) (z:Value) (size bytes:Nat) (ht:P.underlying t=some (.slice e)) (hi:P.info? e=some i) (hz:i.zero=some z)
  (hsize:i.size=size) (hby:i.bytes=bytes) (hzs:z.cells.size=size) (hsz:0<size)
  (v:Value) (n:Nat) (xs:List Value) (hs:a.eval s=v) (hown:w.ownsRow base e size v n xs)
  (ad:Addr) (m c:Nat) (news:List Value) (hx:a.eval x=.slice (some ad) m c) (hl:news.length=m*size) (hnews:∀ j u,news[j]? = some u→w.cell? (ad.add j)=some u) (h1:∀ u∈news,u.oneCell'=true)
  (h63:n+m≤maxLen) (hbytes:(n+m)*bytes≤140737488355328) (hbase:base≤w.heap.size)
  (h:∀ v' w',w'.ownsRow base e size v' (n+m) (xs++news)→w.grownBy w' v.ownBlock→(v'=.slice none 0 0↔v=.slice none 0 0∧m=0)→K (a.put o.dst v') w') :
  if Region.wanted o (yielded ops a.tmps)=true then Oper.wp P o a w K Q else E:=by
 have hw:Region.wanted o (yielded ops a.tmps)=true:=(by simp[Region.wanted,hgd]);rw[if_pos hw];exact wp_append_own w s x t ho base e i z size bytes ht hi hz hsize hby hzs hsz v n xs hs hown ad m c news hx hl hnews h1 h63 hbytes hbase h
theorem qM (w:World) (x:ByteArray) (e:TypeId):∀ (j:Nat) (u:Value),([.string x]:List Value)[j]? = some u→(w.alloc (.cells #[.string x] e)).cell? ((⟨w.heap.size,0,none⟩:Addr).add j)=some u:=by
 intro j u hj
 match j,hj with
 | 0,hj=>simp at hj;subst hj;simp[Addr.add]
theorem xI (x:ByteArray):∀ u∈([.string x]:List Value),u.oneCell'=true:=by
 intro u hu;simp at hu;subst hu;rfl
end Go.Proofs.YtdfegfagedeilaaGreatDoor

namespace Go.Proofs.YtdfegfagedeilaaGreatDoor
open Go.RowKit
def pF (w:World) (p:Option Addr) (L:List OpM):Prop:=∀ j,j<L.length→∃ g,p=some ⟨g,0,none⟩∧w.cell? ⟨g,j*4,none⟩=some (.bool (L.getD j cG).1)∧w.cell? ⟨g,j*4+1,none⟩=some (.int .i64 (L.getD j cG).2.1) ∧
 w.cell? ⟨g,j*4+2,none⟩=some (.int .i64 (L.getD j cG).2.2.1)∧w.cell? ⟨g,j*4+3,none⟩=some (.int .i64 (L.getD j cG).2.2.2)
theorem pF.below {w w':World} {p:Option Addr} {L:List OpM} (h:pF w p L) (hb:Below w.heap.size w w'):pF w' p L:=fun j hj=>by
 obtain⟨g,hp,h1,h2,h3,h4⟩:=h j hj;exact⟨g,hp,cell_later hb h1,cell_later hb h2,cell_later hb h3,cell_later hb h4⟩
def qF (w:World) (v:Value) (L:List OpM):Prop:=∃ p cap,v=.slice p L.length cap∧L.length≤cap∧pF w p L
theorem qF.below {w w':World} {v:Value} {L:List OpM} (h:qF w v L) (hb:Below w.heap.size w w'):qF w' v L:=by
 obtain⟨p,cap,hv,hc,ht⟩:=h;exact⟨p,cap,hv,hc,ht.below hb⟩
def aAv (w:World) (p:Option Addr) (L:List bB):Prop:=∀ j,j<L.length→∃ g sv,p=some ⟨g,0,none⟩∧w.cell? ⟨g,j*3,none⟩=some (.int .i64 (L.getD j aM).1)∧w.cell? ⟨g,j*3+1,none⟩=some (.int .i64 (L.getD j aM).2.1) ∧
 w.cell? ⟨g,j*3+2,none⟩=some sv∧qF w sv (L.getD j aM).2.2
theorem aAv.below {w w':World} {p:Option Addr} {L:List bB} (h:aAv w p L) (hb:Below w.heap.size w w'):aAv w' p L:=fun j hj=>by
 obtain⟨g,sv,hp,h1,h2,h3,h4⟩:=h j hj;exact⟨g,sv,hp,cell_later hb h1,cell_later hb h2,cell_later hb h3,h4.below hb⟩
def kM (w:World) (v:Value) (L:List bB):Prop:=∃ p cap,v=.slice p L.length cap∧aAv w p L
theorem kM.below {w w':World} {v:Value} {L:List bB} (h:kM w v L) (hb:Below w.heap.size w w'):kM w' v L:=by
 obtain⟨p,cap,hv,ht⟩:=h;exact⟨p,cap,hv,ht.below hb⟩
def cJ (w:World) (v:Value) (h:aI):Prop:=∃ v0 v1 v2,v=.agg #[v0,v1,v2]∧bF w v0 h.1∧bF w v1 h.2.1∧kM w v2 h.2.2
theorem cJ.below {w w':World} {v:Value} {h:aI} (hh:cJ w v h) (hb:Below w.heap.size w w'):cJ w' v h:=by
 obtain⟨v0,v1,v2,hv,h0,h1,h2⟩:=hh;exact⟨v0,v1,v2,hv,h0.below hb,h1.below hb,h2.below hb⟩
end Go.Proofs.YtdfegfagedeilaaGreatDoor
