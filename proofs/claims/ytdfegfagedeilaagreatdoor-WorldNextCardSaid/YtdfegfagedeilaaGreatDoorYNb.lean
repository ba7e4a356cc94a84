/-
  Several texts of these walks, joined and squeezed (as templates they lie in wip/tpl): LayL LineW Texts LineO LineQ LineR SplitP LayS SplitW SplitA CellA DigW DigV DigX LayV IntA.
-/
import Derived.Ground.NamesProg
import Derived.Shelf.LaysM
import Derived.Shelf.Strings.Prefix
import Derived.Shelf.Strings.Split
import Derived.Test.YtdfegfagedeilaaGreatDoorProg
import Derived.Test.YtdfegfagedeilaaGreatDoorYNa
import Derived.Laws.RangeAny
import Derived.WalkKit
import Derived.Laws.AppendOwn
import Derived.Shelf.GgClosure.StringsTrimFunc
import Derived.Shelf.Strings.Cut
import Derived.Shelf.Strings.Search3
import Derived.Shelf.Strings.OnBuilder
import Derived.WalkSmall
import Derived.Deep.AppendLies
import Derived.IntWalk
import Derived.Lib.Join
import Derived.Shelf.SlGeneric
import Derived.Shelf.Unicode.ValidAny
namespace Go.Proofs
open Go.Shelf
def Tryz.laysHasPrefix_ren:Go.Shelf.Ren:=⟨fun | 99=>130 | 206=>158 | n=>n,fun | 9=>9 | 4=>4 | 3=>3 | n=>n,fun | n=>n⟩
theorem Tryz.laysHasPrefix:Go.Proofs.Lays.n99 Tryz.prog Tryz.laysHasPrefix_ren:={
 mixed:=by kernel_rfl
 f99:=Tryz.func130.trans (congrArg some (by kernel_rfl))
 f206:=Tryz.func158.trans (congrArg some (by kernel_rfl))
 t3:=Tryz.underlying3
 a3:=Tryz.isAgg3
 z3:=Tryz.sizeOf3
 v3:=Tryz.zeroValue3
 t4:=Tryz.underlying4
 a4:=Tryz.isAgg4
 z4:=Tryz.sizeOf4
 v4:=Tryz.zeroValue4
 t9:=Tryz.underlying9
 a9:=Tryz.isAgg9
 z9:=Tryz.sizeOf9
 v9:=Tryz.zeroValue9 }
def Tryz.laysTrimSuffix_ren:Go.Shelf.Ren:=⟨fun | 102=>107 | 209=>129 | 207=>157 | n=>n,fun | 9=>9 | 4=>4 | 3=>3 | n=>n,fun | n=>n⟩
theorem Tryz.laysTrimSuffix:Go.Proofs.Lays.n102 Tryz.prog Tryz.laysTrimSuffix_ren:={
 mixed:=by kernel_rfl
 f102:=Tryz.func107.trans (congrArg some (by kernel_rfl))
 f207:=Tryz.func157.trans (congrArg some (by kernel_rfl))
 f209:=Tryz.func129.trans (congrArg some (by kernel_rfl))
 t3:=Tryz.underlying3
 a3:=Tryz.isAgg3
 z3:=Tryz.sizeOf3
 v3:=Tryz.zeroValue3
 t4:=Tryz.underlying4
 a4:=Tryz.isAgg4
 z4:=Tryz.sizeOf4
 v4:=Tryz.zeroValue4
 t9:=Tryz.underlying9
 a9:=Tryz.isAgg9
 z9:=Tryz.sizeOf9
 v9:=Tryz.zeroValue9 }
def Tryz.laysSplit_ren:Go.Shelf.Ren:=⟨fun | 146=>106 | 221=>128 | 268=>154 | 138=>155 | 143=>156 | 195=>169 | 197=>170 | 218=>171 | 219=>172 | 260=>178 | 217=>179 | 225=>180 | 224=>181 | 267=>182 | 266=>192 | 314=>193 | n=>n,fun | 9=>9 | 31=>22 | 3=>3 | 4=>4 | 0=>0 | 105=>214 | 21=>21 | 5=>5 | 46=>171 | 119=>182 | 139=>185 | 138=>184 | 146=>228 | 51=>197 | n=>n,fun | 1=>3 | 3=>1 | 4=>2 | n=>n⟩
theorem Tryz.laysSplit:Go.Proofs.LaysM.n146 Tryz.prog Tryz.laysSplit_ren:={
 mixed:=by kernel_rfl
 f138:=Tryz.func155.trans (congrArg some (by kernel_rfl))
 f143:=Tryz.func156.trans (congrArg some (by kernel_rfl))
 f146:=Tryz.func106.trans (congrArg some (by kernel_rfl))
 f195:=Tryz.func169.trans (congrArg some (by kernel_rfl))
 f197:=Tryz.func170.trans (congrArg some (by kernel_rfl))
 f217:=Tryz.func179.trans (congrArg some (by kernel_rfl))
 f218:=Tryz.func171.trans (congrArg some (by kernel_rfl))
 f219:=Tryz.func172.trans (congrArg some (by kernel_rfl))
 f221:=Tryz.func128.trans (congrArg some (by kernel_rfl))
 f224:=Tryz.func181.trans (congrArg some (by kernel_rfl))
 f225:=Tryz.func180.trans (congrArg some (by kernel_rfl))
 f260:=Tryz.func178.trans (congrArg some (by kernel_rfl))
 f266:=Tryz.func192.trans (congrArg some (by kernel_rfl))
 f267:=Tryz.func182.trans (congrArg some (by kernel_rfl))
 f268:=Tryz.func154.trans (congrArg some (by kernel_rfl))
 f314:=Tryz.func193.trans (congrArg some (by kernel_rfl))
 t0:=Tryz.underlying0
 a0:=Tryz.isAgg0
 z0:=Tryz.sizeOf0
 v0:=Tryz.zeroValue0
 t3:=Tryz.underlying3
 a3:=Tryz.isAgg3
 z3:=Tryz.sizeOf3
 v3:=Tryz.zeroValue3
 t4:=Tryz.underlying4
 a4:=Tryz.isAgg4
 z4:=Tryz.sizeOf4
 v4:=Tryz.zeroValue4
 t5:=Tryz.underlying5
 a5:=Tryz.isAgg5
 z5:=Tryz.sizeOf5
 v5:=Tryz.zeroValue5
 t9:=Tryz.underlying9
 a9:=Tryz.isAgg9
 z9:=Tryz.sizeOf9
 v9:=Tryz.zeroValue9
 t21:=Tryz.underlying21
 a21:=Tryz.isAgg21
 z21:=Tryz.sizeOf21
 v21:=Tryz.zeroValue21
 t31:=Tryz.underlying22
 a31:=Tryz.isAgg22
 z31:=Tryz.sizeOf22
 v31:=Tryz.zeroValue22
 t46:=Tryz.underlying171
 a46:=Tryz.isAgg171
 z46:=Tryz.sizeOf171
 v46:=Tryz.zeroValue171
 t51:=Tryz.underlying197
 a51:=Tryz.isAgg197
 z51:=Tryz.sizeOf197
 v51:=Tryz.zeroValue197
 t105:=Tryz.underlying214
 a105:=Tryz.isAgg214
 z105:=Tryz.sizeOf214
 v105:=Tryz.zeroValue214
 t119:=Tryz.underlying182
 a119:=Tryz.isAgg182
 z119:=Tryz.sizeOf182
 t138:=Tryz.underlying184
 a138:=Tryz.isAgg184
 z138:=Tryz.sizeOf184
 v138:=Tryz.zeroValue184
 t139:=Tryz.underlying185
 a139:=Tryz.isAgg185
 z139:=Tryz.sizeOf185
 v139:=Tryz.zeroValue185
 t146:=Tryz.underlying228
 a146:=Tryz.isAgg228
 z146:=Tryz.sizeOf228
 v146:=Tryz.zeroValue228
 g1:=by kernel_rfl
 g3:=by kernel_rfl
 g4:=by kernel_rfl
 i0:=by kernel_rfl
 i3:=by kernel_rfl
 i4:=by kernel_rfl
 i5:=by kernel_rfl
 i9:=by kernel_rfl
 i21:=by kernel_rfl
 i31:=by kernel_rfl
 i46:=by kernel_rfl
 i51:=by kernel_rfl
 i105:=by kernel_rfl
 i138:=by kernel_rfl
 i139:=by kernel_rfl
 i146:=by kernel_rfl
 m1:=by kernel_rfl
 s1_3:=fun w h=>Go.Proofs.cell_of_shapedOpen_int (zero:=#[.int .i64 0]) (t:=3) h (of_decide_eq_true (by kernel_rfl)) (by kernel_rfl) rfl (by kernel_rfl) (by kernel_rfl) Tryz.underlying3
 m3:=by kernel_rfl
 m4:=by kernel_rfl }
end Go.Proofs

namespace Go.Proofs.YtdfegfagedeilaaGreatDoor
open Go.RowKit Go.Lib
theorem bDj (l:List UInt8) (p:Nat) (hp:p<l.length) (w:World) (ty:TypeId) :
  (Instr.next (.pointer (some ⟨w.heap.size,0,none⟩)) true ty).run Tryz.prog (w.iter (bs l) p)=.ok (.tuple #[.bool true,.int .i64 p,.int .i32 ((bH l p).1:Nat)]) (w.iter (bs l) (p+(bH l p).2)):=by
 have h:=run_next_any (P:=Tryz.prog) w (bs l) p ty (by rw[gG];exact hp);rw[←decodeL_drop] at h;have e:(bs l).data.toList=l:=(by simp[bs]);rw[e] at h;exact h
theorem zW (w:World) (s:ByteArray) (p:Nat):Below w.heap.size w (w.iter s p):=(Below.refl _ _).alloc (Nat.le_refl _) _
theorem aGl (l p:List UInt8) (w:World) :
  Calls Tryz.prog 130 #[.string (bs l),.string (bs p)] w fun e w'=>e=.returned (.bool (hasPrefix l p))∧w=w':=by
 have h:=Any.strings_HasPrefix Tryz.laysHasPrefix (bs l) (bs p) w;have e:∀ l,(bs l).data.toList=l:=fun l=>(by simp[bs]);rw[e,e] at h;exact h.mono fun _ _ ⟨a,b⟩=>⟨a,b.symm⟩
set_option maxRecDepth 100000 in
set_option maxHeartbeats 2000000 in
theorem aDp (l:List UInt8) (hs:l.length≤1000000) (w:World) :
  Calls Tryz.prog 108 #[.string (bs l)] w fun e w'=>e=.returned (.tuple #[.int .i64 ((sR l).1:Nat),.bool (sR l).2])∧Below w.heap.size w w':=by
 obtain⟨R,hR⟩:∃ R,sR l=R:=⟨_,rfl⟩;rw[hR];have HR:=lhid ((aAq l).trans hR);clear hR;go_enter Tryz.func108,Tryz.ntmps108
 go_wp2
 go_loopw [4] (fun i wr=>∃ p k:Nat,p≤l.length∧k≤p∧i=.int .i64 k∧wr=w.iter (bs l) p∧runesFrom l p k=R)
  (fun _ wr=>l.length-wr.iterPos w.heap.size)
 case atStart=>exact⟨0,0,Nat.zero_le _,Nat.le_refl _,rfl,rfl,HR.out⟩
 case round=>
  obtain⟨p,k,hp,hk,rfl,rfl,hr⟩:=hrel;by_cases hlt:p<l.length
  ·have hb:=kS l p hlt;rw[aEx l p k hlt] at hr;have hnx:=bDj l p hlt w;have hm:=aSn l p hlt;have hg:=aOy l p;have HP:=lhid (aGl ((l.drop p).take (l.length-p)) [239,191,189]);rw[show hasPrefix ((l.drop p).take (l.length-p)) [239,191,189]=hasPrefix (l.drop p) [239,191,189] by rw[List.take_of_length_le (by rw[List.length_drop];omega)]] at HP
   have hz:(bH l p).1≠65533→pX l p≠0:=fun h=>by
    unfold pX szD;rw[if_neg (fun x=>h x.1)];omega
   have hle:(bH l p).1≤1114111:=decodeL_rune _;obtain⟨S,hS⟩:∃ S,pX l p=S:=⟨_,rfl⟩;obtain⟨D,hD⟩:∃ D,bH l p=D:=⟨_,rfl⟩;rw[hS] at hm hg hr hz;rw[hD] at hm hg hr hb hnx hz hle;clear hS hD;have HR2:=lhid hr;clear hr;by_cases h3:D.1=65533
   ·have hp3:=hm h3;rw[hp3] at HP;have e1:((D.1:Int)==65533)=true:=(by simp[h3]);clear hp3 hm hz;by_cases h0:S=0
    ·have HS:=HR2.out;rw[if_pos h0] at HS;have HS2:=lhid HS;subst h0;clear HS h3;simp only[decide_true,Bool.not_true] at HP;(go_wp2_with fail);refine(HP.out _).mono ?_;rintro e w1 ⟨rfl,rfl⟩;go_wp2_with fail
     go_ret2
     rw[←HS2.out];exact⟨rfl,zW _ _ _⟩
    ·have HS:=HR2.out;rw[if_neg h0] at HS;have HS2:=lhid HS;have hd:decide (S=0)=false:=decide_eq_false h0;rw[hd] at HP;clear HS h3 h0 hd;simp only[Bool.not_false] at HP;(go_wp2_with fail);refine(HP.out _).mono ?_;rintro e w1 ⟨rfl,rfl⟩;(go_wp2_with fail);go_roundw
     case rel=>exact⟨p+D.2,k+1,hb.2,by omega,by go_num,rfl,HS2.out⟩
     case measure=>simp;omega
   ·have HS:=HR2.out;rw[if_neg (hz h3)] at HS;have HS2:=lhid HS;have e1:((D.1:Int)==65533)=false:=(by simp;omega);clear HS hm hz hg h3;(go_wp2_with fail);go_roundw
    case rel=>exact⟨p+D.2,k+1,hb.2,by omega,by go_num,rfl,HS2.out⟩
    case measure=>simp;omega
  ·have hnx:=fun ty=>run_next_end (P:=Tryz.prog) w (bs l) p ty (by rw[gG];exact hlt);rw[aGu l p k (by omega)] at hr;have HS:=lhid hr;clear hr;go_wp2_with fail
   go_ret2
   rw[←HS.out];exact⟨rfl,zW _ _ _⟩
end Go.Proofs.YtdfegfagedeilaaGreatDoor

namespace Go.Proofs.YtdfegfagedeilaaGreatDoor
open Go.RowKit
def qB (w:World) (p:Option Addr) (L:List (List UInt8)):Prop:=∀ j,j<L.length→∃ g,p=some ⟨g,0,none⟩∧w.cell? ⟨g,j,none⟩=some (.string (bs (L.getD j [])))
theorem qB.below {w w':World} {p:Option Addr} {L:List (List UInt8)} (h:qB w p L) (hb:Below w.heap.size w w'):qB w' p L:=fun j hj=>by
 obtain⟨g,hp,hc⟩:=h j hj;exact⟨g,hp,cell_later hb hc⟩
def bF (w:World) (v:Value) (L:List (List UInt8)):Prop:=∃ p cap,v=.slice p L.length cap∧qB w p L
theorem bF.below {w w':World} {v:Value} {L:List (List UInt8)} (h:bF w v L) (hb:Below w.heap.size w w'):bF w' v L:=by
 obtain⟨p,cap,hv,ht⟩:=h;exact⟨p,cap,hv,ht.below hb⟩
theorem mT (w:World):bF w (.slice none 0 0) []:=⟨none,0,rfl,fun j hj=>absurd hj (Nat.not_lt_zero j)⟩
def lM (L:List (List UInt8)):List Value:=L.map fun l=>.string (bs l)
theorem nU (L:List (List UInt8)) (l:List UInt8):lM L++[.string (bs l)]=lM (L++[l]):=by simp[lM]
theorem qQ {w:World} {B:Nat} {e:TypeId} {v:Value} {L:List (List UInt8)} (h:w.ownsRow B e 1 v L.length (lM L)):bF w v L:=by
 obtain⟨-,⟨h0,hn⟩ | ⟨g,cap,cur,hv,-,hw,-,-,-,ht⟩⟩:=h
 ·have:L=[]:=List.eq_nil_of_length_eq_zero hn;subst this h0;exact mT w
 ·refine⟨_,cap,hv,fun j hj=>⟨g,rfl,?_⟩⟩;have h1:=congrArg (fun x:List Value=>x[j]?) ht;simp only[Nat.mul_one,List.getElem?_take,hj,if_true,Array.getElem?_toList] at h1;rw[cell_of_row w g j _ _ (0,0) hw,h1];simp[lM,hj]
theorem tL:(Tryz.prog.info? 9).map (fun i=>(i.zero,i.size,i.bytes))=some (some (.string ByteArray.empty),1,16):=by kernel_rfl
end Go.Proofs.YtdfegfagedeilaaGreatDoor

namespace Go.Proofs.YtdfegfagedeilaaGreatDoor
open Go.RowKit Go.Lib
def HasMax (w:World):Prop:=∃ m,w.cell? ⟨Tryz.laysSplit_ren.g 1,0,none⟩=some (.int .i64 m)
theorem HasMax.below {w w':World} (h:HasMax w) (hb:Below w.heap.size w w'):HasMax w':=by
 obtain⟨m,hm⟩:=h;exact⟨m,cell_later hb hm⟩
theorem aFl (l p:List UInt8) (hs:l.length≤9223372036854775807) (w:World) :
  Calls Tryz.prog 107 #[.string (bs l),.string (bs p)] w fun e w'=>e=.returned (.string (bs (trimSuffix l p)))∧w=w':=by
 have h:=Any.strings_TrimSuffix Tryz.laysTrimSuffix (bs l) (bs p) w (by rw[gG];exact hs);have e:∀ l,(bs l).data.toList=l:=fun l=>(by simp[bs]);rw[e,e] at h;exact h.mono fun _ _ ⟨a,b⟩=>⟨a,b.symm⟩
theorem bAj (s:List UInt8) (hs:s.length≤1000000) (w:World) (hm:HasMax w) :
  Calls Tryz.prog 106 #[.string (bs s),.string (bs [10])] w fun e w'=>e=.returned (.slice (some ⟨w.heap.size,0,none⟩) (cP [] s).length (cP [] s).length)∧qB w' (some ⟨w.heap.size,0,none⟩) (cP [] s)∧Below w.heap.size w w':=by
 obtain⟨m,hm⟩:=hm;have h:=Any.strings_Split { Tryz.laysSplit with } Tryz.laysSplit.i9 (bs s) (bs [10]) m w (by rw[gG];omega) hm (by rw[gG];exact Nat.le_refl _);have e:∀ l,(bs l).data.toList=l:=fun l=>(by simp[bs]);have hd:=splitB_data (bs [10]) 0 (countB (bs s) (bs [10])) (bs s);rw[e,e] at hd;have hc:countB (bs s) (bs [10])=count s [10]:=(by unfold countB;rw[e,e]);rw[hc,bFl] at hd;rw[hc] at h;obtain⟨L,hL⟩:∃ L,splitB (bs [10]) 0 (count s [10]) (bs s)=L:=⟨_,rfl⟩;have hlen:=splitB_all (bs [10]) (by rw[gG];exact Nat.le_refl _) 0 _ (bs s) hc;rw[hL] at hd h hlen;have hl:(cP [] s).length=count s [10]+1:=(by rw[←hd,List.length_map,hlen]);rw[hl];refine h.mono fun e' w' ⟨h1,h2⟩=>⟨h1,?_,?_⟩
 ·intro j hj;refine⟨_,rfl,?_⟩;rw[h2,cell_of_row _ _ j _ _ (0,0) (heap_alloc_new w _)];rw[←hd] at hj ⊢;rw[List.length_map] at hj;simp[hj, ←uL]
 ·rw[h2];exact(Below.refl _ _).alloc (Nat.le_refl _) _
theorem aEy (l:List UInt8):(sR l).2=validD l:=by
 unfold sR;split<;>simp[*]
theorem bHc (L:List (List UInt8)) (k:Nat) (h:k<L.length):L.drop k=L.getD k []::L.drop (k+1):=by
 rw[List.drop_eq_getElem_cons h];simp[h]
theorem aEo:∀ (t cur:List UInt8),(cP cur t).length≤t.length+1
 | [],cur=>by simp[cP]
 | b::t,cur=>by
  unfold cP;split
  ·have:=aEo t [];simp only[List.length_cons];omega
  ·have:=aEo t (cur++[b]);simp only[List.length_cons];omega
theorem aEp:∀ (t cur:List UInt8),∀ x∈cP cur t,x.length≤cur.length+t.length
 | [],cur=>by simp[cP]
 | b::t,cur=>by
  unfold cP;split
  ·intro x hx;rcases List.mem_cons.1 hx with rfl | hx
   ·simp
   ·have:=aEp t [] x hx;simp only[List.length_cons,List.length_nil] at this ⊢;omega
  ·intro x hx;have:=aEp t _ x hx;simp only[List.length_append,List.length_cons,List.length_nil] at this ⊢;omega
set_option maxRecDepth 100000 in
set_option maxHeartbeats 1000000 in
theorem bHw (l:List UInt8) (hs:l.length≤1000000) (w:World) (hm:HasMax w) :
  Calls Tryz.prog 87 #[.string (bs l)] w fun e w'=>∃ v,e=.returned (.tuple #[v,.int .i64 ((ofL l).2.1:Nat),.int .i64 ((ofL l).2.2:Nat)])∧bF w' v (ofL l).1∧Below w.heap.size w w':=by
 by_cases hlong:65536<l.length
 ·have e:ofL l=([],0,6):=if_pos hlong;rw[e];clear e;go_enter Tryz.func87,Tryz.ntmps87;go_wp2_with fail
  go_ret3
  exact⟨_,rfl,mT _,Below.refl _ _⟩
 ·by_cases hnil:l=[]
  ·subst hnil;have e:ofL []=([],0,0):=rfl;rw[e];clear e hlong;go_enter Tryz.func87,Tryz.ntmps87;go_wp2_with fail
   go_ret3
   exact⟨_,rfl,mT _,Below.refl _ _⟩
  ·have e0:(l==[])=false:=beq_eq_false_iff_ne.2 hnil;have hll:=aPa l hnil;have hle:=trimSuffix_le l [10];have HT:=lhid (aFl l [10] (by omega));have HS:=lhid (bAj (trimSuffix l [10]) (by omega));have hmem:=aEp (trimSuffix l [10]) [];have hcnt:=aEo (trimSuffix l [10]) [];rw[hll] at HS hmem hcnt;obtain⟨M,hM⟩:∃ M,pR l=M:=⟨_,rfl⟩;have e:ofL l=mZ (pR l) 0 (pR l):=if_neg hlong;rw[e];rw[hM] at HS hmem hcnt ⊢;obtain⟨R,hR⟩:∃ R,mZ M 0 M=R:=⟨_,rfl⟩;rw[hR];have HR:=lhid hR;have HE:=lhid (fun x hx=>Nat.le_trans (hmem x hx) (show([]:List UInt8).length+(trimSuffix l [10]).length≤1000000 by simp only[List.length_nil];omega));generalize trimSuffix l [10]=t at *;have HM:=lhid hm;have hM2:M.length≤1000001:=(by omega);clear hR hll e hM hmem hcnt hle hm hnil;go_enter Tryz.func87,Tryz.ntmps87;(go_wp2_with fail);refine(HT.out _).mono ?_;rintro e w' ⟨rfl,rfl⟩;(go_wp2_with fail);refine(HS.out _ HM.out).mono ?_;rintro e w1 ⟨rfl,ht,hb1⟩;have HX:=lhid ht;clear ht;go_wp2_with fail
   go_loopw [20] (fun i wr=>∃ k:Nat,k≤M.length∧i=.int .i64 k∧Below w1.heap.size w1 wr∧mZ M k (M.drop k)=R) (fun i _=>M.length-(intOf i).toNat)
   case atStart=>exact⟨0,Nat.zero_le _,rfl,Below.refl _ _,HR.out⟩
   case round=>
    obtain⟨k,hk,rfl,hbr,hr⟩:=hrel;by_cases hlt:k<M.length
    ·obtain⟨g,hg,hc⟩:=HX.out k hlt;obtain rfl:w.heap.size=g:=(by simpa using hg);have hc':=cell_later hbr hc;rw[bHc M k hlt] at hr;simp only[mZ] at hr
     have hx:=HE.out (M.getD k []) (by
      have:M.getD k []=M[k]:=(by simp[hlt]);rw[this]
      exact List.getElem_mem hlt)
     obtain⟨x,hx'⟩:∃ x,M.getD k []=x:=⟨_,rfl⟩;rw[hx'] at hr hc' hx;have HC:=lhid (aDp x hx);have hv:=aEy x;generalize sR x=N at *;obtain⟨N1,N2⟩:=N;simp only at HC hv;subst hv;clear hc hg hx' hx;by_cases hval:validD x=true
     ·rw[if_pos hval] at hr;rw[hval] at HC;have H2:=lhid hr;clear hr hval;(go_wp2_with fail);refine(HC.out _).mono ?_;rintro e w2 ⟨rfl,hb2⟩;(go_wp2_with fail);go_roundw
      case rel=>exact⟨k+1,by omega,by go_num,aB hbr hb2,H2.out⟩
      case measure=>simp[intOf];omega
     ·rw[if_neg hval] at hr;have hval':validD x=false:=(by simpa using hval);rw[hval'] at HC;have H2:=lhid hr;clear hr hval hval';(go_wp2_with fail);refine(HC.out _).mono ?_;rintro e w2 ⟨rfl,hb2⟩;go_wp2_with fail
      go_ret3
      rw[←H2.out];exact⟨_,rfl,mT _,aB hb1 (aB hbr hb2)⟩
    ·have ek:k=M.length:=(by omega);subst ek;rw[List.drop_eq_nil_of_le (Nat.le_refl _)] at hr;have H2:=lhid hr;clear hr;go_wp2_with fail
     go_ret3
     rw[←H2.out];exact⟨_,rfl,⟨_,_,rfl,HX.out.below hbr⟩,aB hb1 hbr⟩
def aLx (l:List UInt8) (f i:Nat):List UInt8:=(l.drop f).take (i-f)
theorem bCc (l:List UInt8) (f i:Nat):(aLx l f i).length≤l.length:=by
 unfold aLx;rw[List.length_take,List.length_drop];omega
end Go.Proofs.YtdfegfagedeilaaGreatDoor

namespace Go.Proofs.YtdfegfagedeilaaGreatDoor
open Go.Lib
def mO (c:Nat):Bool:=decide (c=9)||decide (c=13)||decide (c=32)
def mN (b:UInt8):Bool:=mO b.toNat
theorem aBs (b:UInt8) (h:mN b=true):b.toNat<128:=by
 unfold mN mO at h;simp only[Bool.or_eq_true,decide_eq_true_eq] at h;omega
theorem zP (c:Nat) (h:128≤c):mO c=false:=by
 unfold mO;simp only[Bool.or_eq_false_iff,decide_eq_false_iff_not];omega
theorem aWu (n b0 b1 b2 b3:Nat) (h:128≤b0):128≤(decodeN n b0 b1 b2 b3).1:=by
 unfold decodeN;(repeat' split);all_goals (simp only;omega)
theorem aHc (b:UInt8) (t:List UInt8):mO (decodeL (b::t)).1=mN b∧(mN b=true→(decodeL (b::t)).2=1):=by
 by_cases h:b.toNat<128
 ·rw[decodeL_ascii b t h];exact⟨rfl,fun _=>rfl⟩
 ·have h2:=aWu (b::t).length ((b::t).getD 0 0).toNat ((b::t).getD 1 0).toNat ((b::t).getD 2 0).toNat ((b::t).getD 3 0).toNat (by simp only[List.getD_cons_zero];omega);rw[←decodeL_N] at h2;rw[zP _ h2];refine⟨(zP _ (by omega)).symm,fun hb=>absurd (aBs b hb) h⟩
def bAk (l:List UInt8):List UInt8:=l.dropWhile mN
theorem bAl (b:UInt8) (t:List UInt8):bAk (b::t)=if mN b then bAk t else b::t:=by
 unfold bAk;rw[List.dropWhile_cons]
theorem uM (l:List UInt8):(bs l).data.toList=l:=by simp[bs]
theorem aMq (l:List UInt8):∀ (f p:Nat),p≤l.length→l.length-p≤f →
  (bAk (l.drop p)=[]∧idxFuncFrom mO false (bs l) f p=-1)∨(∃ q:Nat,p≤q∧q<l.length∧idxFuncFrom mO false (bs l) f p=q∧bAk (l.drop p)=l.drop q)
 | 0,p,hp,hf=>by
  have e:l.drop p=[]:=List.drop_eq_nil_of_le (by omega);rw[e];exact .inl ⟨rfl,rfl⟩
 | f+1,p,hp,hf=>by
  unfold idxFuncFrom;rw[gG];by_cases h:p<l.length
  ·rw[if_pos h, ←decodeL_drop,uM];have e:l.drop p=l[p]::l.drop (p+1):=List.drop_eq_getElem_cons h;rw[e];obtain⟨h1,h2⟩:=aHc l[p] (l.drop (p+1));rw[h1,bAl];by_cases hb:mN l[p]=true
   ·rw[h2 hb,hb];simp only[if_true,Bool.true_eq_false,if_false];rcases aMq l f (p+1) (by omega) (by omega) with ⟨h3,h4⟩ | ⟨q,h3,h4,h5,h6⟩
    ·exact .inl ⟨h3,h4⟩
    ·exact .inr ⟨q,by omega,h4,h5,h6⟩
   ·rw[if_neg hb];have hb':mN l[p]=false:=(by simpa using hb);rw[hb'];simp only[if_true];exact .inr ⟨p,Nat.le_refl _,h,rfl,e.symm⟩
  ·rw[if_neg h];have e:l.drop p=[]:=List.drop_eq_nil_of_le (by omega);rw[e];exact .inl ⟨rfl,rfl⟩
theorem left_eq (l:List UInt8):trimLeftF mO (bs l)=bs (bAk l):=by
 unfold trimLeftF idxFunc;rcases aMq l (bs l).size 0 (Nat.zero_le _) (by rw[gG];omega) with ⟨h1,h2⟩ | ⟨q,-,h2,h3,h4⟩
 ·rw[h2,if_pos rfl];rw[List.drop_zero] at h1;rw[h1];rfl
 ·rw[h3,if_neg (by omega)];rw[List.drop_zero] at h4;rw[h4,aBv,gG,show((q:Int)).toNat=q by omega,List.take_of_length_le (by rw[List.length_drop];omega)]
end Go.Proofs.YtdfegfagedeilaaGreatDoor

namespace Go.Proofs.YtdfegfagedeilaaGreatDoor
open Go.RowKit Go.Lib
def aBx:Nat→List UInt8→Nat→Int→Nat
 | 0,_,_,_=>0
 | f+1,l,p,at'=>if p<l.length∧(p:Int)<at' then 1+aBx f l (p+(bH l p).2) at' else 0
def yD (l:List UInt8) (p:Nat) (at':Int):Nat:=aBx (l.length-p) l p at'
theorem aBy (l:List UInt8) (at':Int):∀ (f g p:Nat),l.length-p≤f→l.length-p≤g→aBx f l p at'=aBx g l p at'
 | 0,0,_,_,_=>rfl
 | 0,g+1,p,hf,_=>by
  unfold aBx;rw[if_neg (by omega)]
 | f+1,0,p,_,hg=>by
  unfold aBx;rw[if_neg (by omega)]
 | f+1,g+1,p,hf,hg=>by
  unfold aBx;by_cases h:p<l.length∧(p:Int)<at'
  ·have hb:=kS l p h.1;rw[if_pos h,if_pos h,aBy l at' f g (p+(bH l p).2) (by omega) (by omega)]
  ·rw[if_neg h,if_neg h]
theorem aLw (l:List UInt8) (p:Nat) (at':Int) (hp:p<l.length):yD l p at'=if (p:Int)<at' then 1+yD l (p+(bH l p).2) at' else 0:=by
 have hb:=kS l p hp;unfold yD;obtain⟨f,hf⟩:∃ f,l.length-p=f+1:=⟨l.length-p-1,by omega⟩;rw[hf];by_cases h:(p:Int)<at'
 ·rw[if_pos h];show(if p<l.length∧(p:Int)<at' then _ else _)=_;rw[if_pos ⟨hp,h⟩,aBy l at' f _ (p+(bH l p).2) (by omega) (Nat.le_refl _)]
 ·rw[if_neg h];show(if p<l.length∧(p:Int)<at' then _ else _)=_;rw[if_neg (fun x=>h x.2)]
theorem bHa (l:List UInt8) (p:Nat) (at':Int) (hp:l.length≤p):yD l p at'=0:=by
 unfold yD;rw[show l.length-p=0 by omega];rfl
theorem bBz (l:List UInt8) (p:Nat) (at':Int) (h:at'≤(p:Int)):yD l p at'=0:=by
 by_cases hp:p<l.length
 ·rw[aLw l p at' hp,if_neg (by omega)]
 ·exact bHa l p at' (by omega)
end Go.Proofs.YtdfegfagedeilaaGreatDoor

namespace Go.Proofs.YtdfegfagedeilaaGreatDoor
open Go.Lib
theorem bCg (l:List UInt8) (j:Nat) (hj:1≤j) (h:j<(decodeL l).2):128≤(l.getD j 0).toNat:=by
 rw[decodeL_N] at h;generalize (l.getD 0 0).toNat=b0 at h;generalize h1:(l.getD 1 0).toNat=b1 at h;generalize h2:(l.getD 2 0).toNat=b2 at h;generalize h3:(l.getD 3 0).toNat=b3 at h
 have hj3:j=1∨j=2∨j=3:=by
  have:(decodeN l.length b0 b1 b2 b3).2≤4:=by
   unfold decodeN;(repeat' split);all_goals simp
  omega
 unfold decodeN at h;split at h
 ·simp only at h;omega
 ·split at h
  ·rename_i hc;split at h
   ·simp only at h;obtain rfl:j=1:=(by omega);rw[h1];omega
   ·simp only at h;omega
  ·split at h
   ·rename_i hc;split at h
    ·simp only at h;rcases(show j=1∨j=2 by omega) with rfl | rfl
     ·rw[h1];omega
     ·rw[h2];omega
    ·simp only at h;omega
   ·split at h
    ·rename_i hc;split at h
     ·simp only at h;rcases hj3 with rfl | rfl | rfl
      ·rw[h1];omega
      ·rw[h2];omega
      ·rw[h3];omega
     ·simp only at h;omega
    ·simp only at h;omega
def jV (l:List UInt8):Nat→Nat→Option Nat→List (Nat×Nat)
 | 0,_,none=>[]
 | 0,i,some f=>[(f,i)]
 | n+1,i,fr=>if mN (l.getD i 0) then (match fr with | some f=>(f,i)::jV l n (i+1) none | none=>jV l n (i+1) none) else jV l n (i+1) (some (fr.getD i))
def bNj:Option Nat→Nat→List (Nat×Nat)
 | some f,i=>[(f,i)]
 | none,_=>[]
def bKb (l:List UInt8):List (Nat×Nat):=jV l l.length 0 none
theorem aTl (l:List UInt8) (i:Nat) (fr:Option Nat) (hi:i<l.length) (hb:mN l[i]=true) :
  jV l (l.length-i) i fr=bNj fr i++jV l (l.length-(i+1)) (i+1) none:=by
 rw[show l.length-i=(l.length-(i+1))+1 by omega]
 conv=>lhs;unfold jV
 rw[kU l i hi,if_pos hb];cases fr<;>rfl
theorem aVs (l:List UInt8) (i:Nat) (fr:Option Nat) (hi:i<l.length) (hb:mN l[i]=false) :
  jV l (l.length-i) i fr=jV l (l.length-(i+1)) (i+1) (some (fr.getD i)):=by
 rw[show l.length-i=(l.length-(i+1))+1 by omega]
 conv=>lhs;unfold jV
 rw[kU l i hi,hb];rfl
theorem bFg (l:List UInt8) (i:Nat) (fr:Option Nat) (hi:l.length≤i):jV l (l.length-i) i fr=bNj fr i:=by
 rw[show l.length-i=0 by omega];cases fr<;>rfl
theorem aIt (l:List UInt8) (f:Nat):∀ (k i:Nat),i+k≤l.length→(∀ j,j<k→mN (l.getD (i+j) 0)=false)→jV l (l.length-i) i (some f)=jV l (l.length-(i+k)) (i+k) (some f)
 | 0,i,_,_=>rfl
 | k+1,i,hk,hb=>by
  have h0:=hb 0 (by omega);rw[Nat.add_zero,kU l i (by omega)] at h0;rw[aVs l i (some f) (by omega) h0];show jV l (l.length-(i+1)) (i+1) (some f)=_;rw[aIt l f k (i+1) (by omega) (fun j hj=>by have:=hb (j+1) (by omega);rwa [show i+(j+1)=i+1+j by omega] at this),show i+1+k=i+(k+1) by omega]
theorem bAc (l:List UInt8) (p:Nat) (fr:Option Nat) (hp:p<l.length) :
  (mO (bH l p).1=true→jV l (l.length-p) p fr=bNj fr p++jV l (l.length-(p+(bH l p).2)) (p+(bH l p).2) none) ∧
  (mO (bH l p).1=false→jV l (l.length-p) p fr=jV l (l.length-(p+(bH l p).2)) (p+(bH l p).2) (some (fr.getD p))):=by
 have e:l.drop p=l[p]::l.drop (p+1):=List.drop_eq_getElem_cons hp;have eo:bH l p=decodeL (l.drop p):=rfl;have hb:=kS l p hp;obtain⟨h1,h2⟩:=aHc l[p] (l.drop (p+1));rw[←e, ←eo] at h1 h2;constructor
 ·intro h;rw[h1] at h;rw[h2 h];exact aTl l p fr hp h
 ·intro h;rw[h1] at h;rw[aVs l p fr hp h,aIt l _ ((bH l p).2-1) (p+1) (by omega) ?_,show p+1+((bH l p).2-1)=p+(bH l p).2 by omega];intro j hj;have hc:=bCg (l.drop p) (j+1) (by omega) (by rw[←eo];omega);rw[getD_dropU,show p+(j+1)=p+1+j by omega] at hc
  cases hz:mN (l.getD (p+1+j) 0) with
  | true=>have:=aBs _ hz;omega
  | false=>rfl
def wW (l:List UInt8) (p n:Nat):Prop:=∀ at':Int,(p:Int)≤at'→yD l 0 at'=n+yD l p at'
theorem aGv (l:List UInt8):wW l 0 0:=fun _ _=>by omega
theorem aKp (l:List UInt8) (p n:Nat) (hp:p<l.length) (h:wW l p n):wW l (p+(bH l p).2) (n+1):=fun at' hat=>by
 have hb:=kS l p hp;have:=h at' (by omega);rw[aLw l p at' hp,if_pos (by omega)] at this;omega
theorem aOx (l:List UInt8) (p n:Nat) (h:wW l p n):yD l 0 p=n:=by
 have:=h p (Int.le_refl _);rw[bBz l p p (Int.le_refl _)] at this;omega
def aFv (l:List UInt8) (r:Nat×Nat):List UInt8×Nat:=(aLx l r.1 r.2,yD l 0 r.1+1)
def aFw (l:List UInt8):List (List UInt8×Nat):=(bKb l).map (aFv l)
def dD (s:List UInt8):List UInt8:=s.takeWhile (fun b=>decide (b≠35))
theorem xZ (s:List UInt8):dD s=s∨∃ y,s=dD s++35::y:=by
 unfold dD;have h:=List.takeWhile_append_dropWhile (p:=fun b:UInt8=>decide (b≠35)) (l:=s)
 cases hd:s.dropWhile (fun b=>decide (b≠35)) with
 | nil=>left;rw[hd,List.append_nil] at h;exact h
 | cons b y=>
  right
  have hb:b=35:=by
   have:=List.head?_dropWhile_not (fun b:UInt8=>decide (b≠35)) s;rw[hd] at this;simpa using this
  rw[hd,hb] at h;exact⟨y,h.symm⟩
theorem aWb (s:List UInt8):(dD s).length≤s.length:=by
 rcases xZ s with h | ⟨y,h⟩
 ·rw[h];exact Nat.le_refl _
 ·conv=>rhs;rw[h]
  rw[List.length_append];omega
end Go.Proofs.YtdfegfagedeilaaGreatDoor

namespace Go.Proofs
open Go.Shelf
def Tryz.laysContains_ren:Go.Shelf.Ren:=⟨fun | 144=>131 | 143=>156 | 219=>172 | 217=>179 | 225=>180 | 224=>181 | 267=>182 | 266=>192 | 314=>193 | n=>n,fun | 9=>9 | 4=>4 | 3=>3 | 5=>5 | 46=>171 | 146=>228 | 51=>197 | n=>n,fun | 1=>3 | n=>n⟩
theorem Tryz.laysContains:Go.Proofs.Lays.n144 Tryz.prog Tryz.laysContains_ren:={
 mixed:=by kernel_rfl
 f143:=Tryz.func156.trans (congrArg some (by kernel_rfl))
 f144:=Tryz.func131.trans (congrArg some (by kernel_rfl))
 f217:=Tryz.func179.trans (congrArg some (by kernel_rfl))
 f219:=Tryz.func172.trans (congrArg some (by kernel_rfl))
 f224:=Tryz.func181.trans (congrArg some (by kernel_rfl))
 f225:=Tryz.func180.trans (congrArg some (by kernel_rfl))
 f266:=Tryz.func192.trans (congrArg some (by kernel_rfl))
 f267:=Tryz.func182.trans (congrArg some (by kernel_rfl))
 f314:=Tryz.func193.trans (congrArg some (by kernel_rfl))
 t3:=Tryz.underlying3
 a3:=Tryz.isAgg3
 z3:=Tryz.sizeOf3
 v3:=Tryz.zeroValue3
 t4:=Tryz.underlying4
 a4:=Tryz.isAgg4
 z4:=Tryz.sizeOf4
 v4:=Tryz.zeroValue4
 t5:=Tryz.underlying5
 a5:=Tryz.isAgg5
 z5:=Tryz.sizeOf5
 v5:=Tryz.zeroValue5
 t9:=Tryz.underlying9
 a9:=Tryz.isAgg9
 z9:=Tryz.sizeOf9
 v9:=Tryz.zeroValue9
 t46:=Tryz.underlying171
 a46:=Tryz.isAgg171
 z46:=Tryz.sizeOf171
 v46:=Tryz.zeroValue171
 t51:=Tryz.underlying197
 a51:=Tryz.isAgg197
 z51:=Tryz.sizeOf197
 v51:=Tryz.zeroValue197
 t146:=Tryz.underlying228
 a146:=Tryz.isAgg228
 z146:=Tryz.sizeOf228
 v146:=Tryz.zeroValue228
 g1:=by kernel_rfl }
def Tryz.laysCut_ren:Go.Shelf.Ren:=⟨fun | 145=>132 | 220=>159 | 219=>172 | 217=>179 | 225=>180 | 224=>181 | 267=>182 | 266=>192 | 314=>193 | n=>n,fun | 9=>9 | 4=>4 | 59=>175 | 3=>3 | 5=>5 | 46=>171 | 146=>228 | 51=>197 | n=>n,fun | 1=>3 | n=>n⟩
theorem Tryz.laysCut:Go.Proofs.Lays.n145 Tryz.prog Tryz.laysCut_ren:={
 mixed:=by kernel_rfl
 f145:=Tryz.func132.trans (congrArg some (by kernel_rfl))
 f217:=Tryz.func179.trans (congrArg some (by kernel_rfl))
 f219:=Tryz.func172.trans (congrArg some (by kernel_rfl))
 f220:=Tryz.func159.trans (congrArg some (by kernel_rfl))
 f224:=Tryz.func181.trans (congrArg some (by kernel_rfl))
 f225:=Tryz.func180.trans (congrArg some (by kernel_rfl))
 f266:=Tryz.func192.trans (congrArg some (by kernel_rfl))
 f267:=Tryz.func182.trans (congrArg some (by kernel_rfl))
 f314:=Tryz.func193.trans (congrArg some (by kernel_rfl))
 t3:=Tryz.underlying3
 a3:=Tryz.isAgg3
 z3:=Tryz.sizeOf3
 v3:=Tryz.zeroValue3
 t4:=Tryz.underlying4
 a4:=Tryz.isAgg4
 z4:=Tryz.sizeOf4
 v4:=Tryz.zeroValue4
 t5:=Tryz.underlying5
 a5:=Tryz.isAgg5
 z5:=Tryz.sizeOf5
 v5:=Tryz.zeroValue5
 t9:=Tryz.underlying9
 a9:=Tryz.isAgg9
 z9:=Tryz.sizeOf9
 v9:=Tryz.zeroValue9
 t46:=Tryz.underlying171
 a46:=Tryz.isAgg171
 z46:=Tryz.sizeOf171
 v46:=Tryz.zeroValue171
 t51:=Tryz.underlying197
 a51:=Tryz.isAgg197
 z51:=Tryz.sizeOf197
 v51:=Tryz.zeroValue197
 t59:=Tryz.underlying175
 a59:=Tryz.isAgg175
 z59:=Tryz.sizeOf175
 v59:=Tryz.zeroValue175
 t146:=Tryz.underlying228
 a146:=Tryz.isAgg228
 z146:=Tryz.sizeOf228
 v146:=Tryz.zeroValue228
 g1:=by kernel_rfl }
end Go.Proofs

namespace Go.Proofs.YtdfegfagedeilaaGreatDoor
open Go.RowKit Go.Lib
def pZ (W:List (List UInt8×Nat)):List Value:=W.flatMap fun x=>[.string (bs x.1),.int .i64 (x.2:Int)]
theorem aAb (W:List (List UInt8×Nat)) (x:List UInt8) (n:Nat):pZ W++[.string (bs x),.int .i64 ((n:Int)+1)]=pZ (W++[(x,n+1)]):=by simp[pZ]
theorem zK:∀ (W:List (List UInt8×Nat)) (j:Nat),j<W.length→(pZ W)[j*2]? = some (.string (bs (W.getD j ([],0)).1))∧(pZ W)[j*2+1]? = some (.int .i64 ((W.getD j ([],0)).2:Nat))
 | [],j,h=>absurd h (Nat.not_lt_zero j)
 | x::W,0,_=>⟨rfl,rfl⟩
 | x::W,j+1,h=>by
  have:=zK W j (by simpa using h);have e:pZ (x::W)=.string (bs x.1)::.int .i64 (x.2:Int)::pZ W:=(by simp[pZ]);rw[e,show(j+1)*2=j*2+1+1 by omega];simpa using this
def bNm (w:World) (p:Option Addr) (W:List (List UInt8×Nat)):Prop:=
 ∀ j,j<W.length→∃ g,p=some ⟨g,0,none⟩∧w.cell? ⟨g,j*2,none⟩=some (.string (bs (W.getD j ([],0)).1))∧w.cell? ⟨g,j*2+1,none⟩=some (.int .i64 ((W.getD j ([],0)).2:Nat))
theorem bNm.below {w w':World} {p:Option Addr} {W:List (List UInt8×Nat)} (h:bNm w p W) (hb:Below w.heap.size w w'):bNm w' p W:=fun j hj=>by
 obtain⟨g,hp,hc,hd⟩:=h j hj;exact⟨g,hp,cell_later hb hc,cell_later hb hd⟩
def aUn (w:World) (v:Value) (W:List (List UInt8×Nat)):Prop:=∃ p cap,v=.slice p W.length cap∧bNm w p W∧W.length≤cap∧cap≤maxLen
theorem bNl (w:World):aUn w (.slice none 0 0) []:=⟨none,0,rfl,fun j hj=>absurd hj (Nat.not_lt_zero j),Nat.le_refl _,Nat.zero_le _⟩
theorem aIl {w:World} {B:Nat} {e:TypeId} {v:Value} {W:List (List UInt8×Nat)} (h:w.ownsRow B e 2 v W.length (pZ W)):aUn w v W:=by
 obtain⟨-,⟨h0,hn⟩ | ⟨g,cap,cur,hv,-,hw,hnc,hcm,-,ht⟩⟩:=h
 ·have:W=[]:=List.eq_nil_of_length_eq_zero hn;subst this h0;exact bNl w
 ·refine⟨_,cap,hv,fun j hj=>⟨g,rfl,?_,?_⟩,hnc,hcm⟩
  ·have h1:=congrArg (fun x:List Value=>x[j*2]?) ht;simp only[List.getElem?_take,show j*2<W.length*2 by omega,if_true,Array.getElem?_toList] at h1;rw[cell_of_row w g (j*2) _ _ (0,0) hw,h1];exact(zK W j hj).1
  ·have h1:=congrArg (fun x:List Value=>x[j*2+1]?) ht;simp only[List.getElem?_take,show j*2+1<W.length*2 by omega,if_true,Array.getElem?_toList] at h1;rw[cell_of_row w g (j*2+1) _ _ (0,0) hw,h1];exact(zK W j hj).2
theorem aXq:(Tryz.prog.info? 157).map (fun i=>(i.zero,i.size,i.bytes))=some (some (.agg #[.string ByteArray.empty,.int .i64 0]),2,24):=by kernel_rfl
theorem aTk (c:Nat) (w:World) :
  Calls Tryz.prog 133 #[.int .i32 c] w fun e w'=>e=.returned (.bool (mO c))∧w=w':=by
 go_enter Tryz.func133,Tryz.ntmps133
 go_wp2
 all_goals
  go_ret;refine⟨?_,rfl⟩;unfold mO;refine congrArg (fun b=>Ending.returned (Value.bool b)) ?_;rw[Bool.eq_iff_iff];simp;try omega
def aAx (s:List UInt8):Bool:=decide (0≤index s [10])
theorem aJs (l:List UInt8) (hs:l.length≤1000000) (w:World) (hm:HasMax w) :
  Calls Tryz.prog 131 #[.string (bs l),.string (bs [10])] w fun e w'=>e=.returned (.bool (aAx l))∧w=w':=by
 obtain⟨m,hm⟩:=hm;have h:=Any.strings_Contains Tryz.laysContains (bs l) (bs [10]) m w (by rw[gG];omega) hm;rw[uM,uM] at h;exact h.mono fun _ _ ⟨a,b⟩=>⟨a,b.symm⟩
theorem aRm (b:UInt8) (l:List UInt8) (h:b≠35):index (b::l) [35]=if index l [35] == -1 then -1 else index l [35]+1:=by
 have hp:([35]:List UInt8).isPrefixOf (b::l)=false:=(by simp[List.isPrefixOf,Ne.symm h]);rw[index,hp];simp
theorem aUv:∀ l:List UInt8,(index l [35]=-1∧dD l=l)∨(index l [35]=(dD l).length∧(dD l).length<l.length)
 | []=>.inl ⟨by simp[index],rfl⟩
 | b::t=>by
  by_cases hb:b=35
  ·subst hb
   right
   have hi:index ((35:UInt8)::t) [35]=0:=(by rw[index];simp[List.isPrefixOf]);rw[hi];simp[dD]
  ·have e:dD (b::t)=b::dD t:=(by simp[dD,hb]);rw[aRm b t hb,e];rcases aUv t with ⟨h1,h2⟩ | ⟨h1,h2⟩
   ·left
    rw[h1,h2];exact⟨rfl,rfl⟩
   ·right
    have hm':¬(((dD t).length:Int) == -1)=true:=fun e=>(by have:=beq_iff_eq.1 e;omega);rw[h1,if_neg hm'];simp only[List.length_cons];omega
theorem aQg (l:List UInt8):dD l=l.take (dD l).length:=by
 rcases xZ l with h | ⟨y,h⟩
 ·rw[h,List.take_length]
 ·have e:=congrArg (List.take (dD l).length) h;rw[List.take_left] at e;exact e.symm
theorem bHb (l:List UInt8) (hs:l.length≤1000000) (w:World) (hm:HasMax w) :
  Calls Tryz.prog 132 #[.string (bs l),.string (bs [35])] w fun e w'=>e=.returned (.tuple #[.string (bs (dD l)),.string (bs (l.drop ((dD l).length+1))),.bool (decide ((dD l).length<l.length))])∧∃ n,w'=w.drewN n:=by
 obtain⟨m,hm⟩:=hm;have h:=Any.strings_Cut Tryz.laysCut (bs l) (bs [35]) m w (by rw[gG];omega) hm;rw[uM,uM] at h
 have e:cut l [35]=(dD l,l.drop ((dD l).length+1),decide ((dD l).length<l.length)):=by
  unfold cut;rcases aUv l with ⟨h1,h2⟩ | ⟨h1,h2⟩
  ·rw[h1,h2,if_neg (by decide),List.drop_eq_nil_of_le (by omega),decide_eq_false (Nat.lt_irrefl _)]
  ·rw[h1,if_pos (by omega),show((dD l).length:Int).toNat=(dD l).length by omega, ←aQg,decide_eq_true h2];rfl
 rw[e] at h;exact h
def frV:Option Nat→Value
 | some f=>.int .i64 (f:Int)
 | none=>.int .i64 (-1)
def jJ (s:List UInt8):List (List UInt8×Nat)×Nat:=if validD s && !aAx s then (aFw (dD s),0) else ([],5)
def bGt (t:List UInt8) (w wr:World) (k0:Nat) (v fr fi n:Value) (R:List (Nat×Nat)):Prop:=
 ∃ p k:Nat,∃ st:Option Nat,∃ done:List (Nat×Nat),p≤t.length∧k≤p∧n=.int .i64 k∧fr=frV st∧(∀ f,st=some f→f≤p∧fi=.int .i64 ((yD t 0 f+1:Nat):Int)) ∧
  wr.ownsRow (k0+1) 157 2 v done.length (pZ (done.map (aFv t)))∧wr.heap[k0]? = some (.stringIter (bs t) p)∧Below w.heap.size w wr∧k0<wr.heap.size ∧
  wW t p k∧R=done++jV t (t.length-p) p st∧done.length≤p
set_option maxRecDepth 100000 in
set_option maxHeartbeats 2000000 in
theorem aTu (s:List UInt8) (hs:s.length≤1000000) (w:World) (hm:HasMax w) :
  Calls Tryz.prog 109 #[.string (bs s)] w fun e w'=>∃ v,e=.returned (.tuple #[v,.int .i64 ((jJ s).2:Nat)])∧aUn w' v (jJ s).1∧Below w.heap.size w w':=by
 have HC:=lhid (aDp s hs);have hv:=aEy s;generalize sR s=N at *;obtain⟨N1,N2⟩:=N;simp only at HC hv;subst hv;have HF:=lhid (aJs s hs);have HX:=lhid (bHb s hs);have HM:=lhid hm;clear hm;have eR:jJ s=if validD s && !aAx s then (aFw (dD s),0) else ([],5):=rfl;rw[eR];clear eR;have hlen:=aWb s;generalize validD s=V at *;generalize aAx s=F at *
 cases V with
 | false=>
  go_enter Tryz.func109,Tryz.ntmps109;(go_wp2_with fail);refine(HC.out _).mono ?_;rintro e w1 ⟨rfl,hb1⟩;go_wp2_with fail
  go_ret2
  exact⟨_,rfl,bNl _,hb1⟩
 | true=>
  cases F with
  | true=>
   go_enter Tryz.func109,Tryz.ntmps109;(go_wp2_with fail);refine(HC.out _).mono ?_;rintro e w1 ⟨rfl,hb1⟩;have HM1:=lhid (HM.out.below hb1);(go_wp2_with fail);refine(HF.out _ HM1.out).mono ?_;rintro e w' ⟨rfl,rfl⟩;go_wp2_with fail
   go_ret2
   exact⟨_,rfl,bNl _,hb1⟩
  | false=>
   show Calls _ _ _ _ fun e w'=>∃ v,e=.returned (.tuple #[v,.int .i64 ((0:Nat):Int)])∧aUn w' v (aFw (dD s))∧Below w.heap.size w w';have hlt:(dD s).length≤1000000:=(by omega);generalize dD s=t at *;obtain⟨R,hR⟩:∃ R,bKb t=R:=⟨_,rfl⟩;have eW:aFw t=R.map (aFv t):=(by rw[←hR];rfl);rw[eW];have HR:=lhid hR;clear hR eW hlen;obtain⟨i0,hi,hz0,hz1,hz2⟩:=info_parts aXq;go_enter Tryz.func109,Tryz.ntmps109;(go_wp2_with fail);refine(HC.out _).mono ?_;rintro e w1 ⟨rfl,hb1⟩;have HM1:=lhid (HM.out.below hb1);(go_wp2_with fail);refine(HF.out _ HM1.out).mono ?_;rintro e w' ⟨rfl,rfl⟩;(go_wp2_with fail);refine(HX.out _ HM1.out).mono ?_;rintro e w2 ⟨rfl,q,rfl⟩;have hb2:Below w.heap.size w (w1.drewN q):=hb1.trans ⟨rfl,rfl,rfl,Nat.le_refl _,fun _ _=>rfl⟩;go_wp2_with fail
   go_loopw [6,7,8,9] (fun v fr fi n wr=>bGt t w wr w1.heap.size v fr fi n R) (fun _ _ _ _ wr=>t.length-wr.iterPos w1.heap.size)
   case atStart=>
    refine⟨0,0,none,[],Nat.zero_le _,Nat.le_refl _,rfl,rfl,(fun f hf=>by cases hf),World.ownsRow_nil _ _ _ _,?_,hb2.alloc (by have:=hb1.size;simpa using this) _,by simp[World.iter],aGv t,by rw[←HR.out];rfl,Nat.le_refl _⟩;have h5:=World.iter_heap (w1.drewN q) (bs t) 0;exact h5
   case round=>
    obtain⟨p,k,st,done,hp,hkp,rfl,rfl,hfi,hown,hit,hbw,hk0,hrt,hR,hdl⟩:=hrel;have HFI:=lhid hfi;have HRT:=lhid hrt;have HRR:=lhid hR;clear hfi hrt hR;by_cases hlt:p<t.length
    ·have hb:=kS t p hlt;have hnx:=fun ty=>run_next_any_at (P:=Tryz.prog) wr w1.heap.size (bs t) p ty hit (by rw[gG];exact hlt);rw[←decodeL_drop,uM] at hnx;have eo:decodeL (t.drop p)=bH t p:=rfl;rw[eo] at hnx;have hit2:=iterAt_heap wr w1.heap.size (bs t) p (p+(bH t p).2) hit;have hbw2:=below_iterAt hbw (k:=w1.heap.size) (by have:=hb1.size;omega) (bs t) (p+(bH t p).2);have hown':=ownsRow_iterAt hown (k:=w1.heap.size) (by omega) (bs t) (p+(bH t p).2);have hsz:=iterAt_size wr w1.heap.size (bs t) (p+(bH t p).2);obtain⟨sr1,sr2⟩:=bAc t p st hlt;have hrt2:=lhid (aKp t p k hlt HRT.out);have hcol:=aOx t p k HRT.out;have hle:(bH t p).1≤1114111:=decodeL_rune _;have HB:=lhid (aTk (bH t p).1);obtain⟨D,hD⟩:∃ D,bH t p=D:=⟨_,rfl⟩;rw[hD] at hb hnx hit2 hbw2 hown' sr1 sr2 hrt2 hle HB hsz;obtain⟨WW,hWW⟩:∃ WW,wr.iterAt w1.heap.size (bs t) (p+D.2)=WW:=⟨_,rfl⟩;rw[hWW] at hnx hit2 hbw2 hown' hsz;have hpos:WW.iterPos w1.heap.size=p+D.2:=iterPos_of hit2;have hpos0:wr.iterPos w1.heap.size=p:=iterPos_of hit;have hk1:w1.heap.size<WW.heap.size:=(by omega);have hk2:=hbw2.size;clear eo hD hWW hown hit hbw hsz
     cases hbl:mO D.1 with
     | true=>
      rw[hbl] at HB;have hs1:=lhid (sr1 hbl);clear sr1 sr2 hbl
      cases st with
      | none=>
       have hR2:=lhid (HRR.out.trans (congrArg (done ++ ·) hs1.out));clear HRR hs1;simp only[frV,bNj,List.nil_append] at hR2 ⊢;(go_wp2_with (go_at_call 133;refine(HB.out _).mono ?_;rintro e w3 ⟨rfl,rfl⟩));go_roundw
       case rel=>exact⟨p+D.2,k+1,none,done,hb.2,by omega,by go_num,rfl,(fun f hf=>by cases hf),hown',hit2,hbw2,hk1,hrt2.out,hR2.out,by omega⟩
       case measure=>rw[hpos,hpos0];omega
      | some f=>
       obtain⟨hfp,rfl⟩:=HFI.out f rfl;have hR2:=lhid (HRR.out.trans (congrArg (done ++ ·) hs1.out));clear HRR hs1 HFI;simp only[frV,bNj] at hR2 ⊢
       go_wp2_with (first
        | (go_at_call 133;refine(HB.out _).mono ?_;rintro e w3 ⟨rfl,rfl⟩)
        | (at_builtin;refine wpList_append_own _ rfl _ _ 152 rfl (w1.heap.size+1) 157 i0 (.agg #[.string ByteArray.empty,.int .i64 0]) 2 24 Tryz.underlying152 hi hz0 hz1 hz2 rfl (by decide) _ _ _ rfl (hown'.alloc _) ⟨WW.heap.size,0,none⟩ 1 1 [.string (bs (aLx t f p)),.int .i64 ((yD t 0 f+1:Nat):Int)] rfl rfl ?c1 ?c2 ?c3 ?c4 ?c5 ?_))
       case c1=>
        intro j u hj
        match j,hj with
        | 0,hj=>simp at hj;subst hj;simp[Addr.add,aLx]
        | 1,hj=>simp at hj;subst hj;simp[Addr.add]
       case c2=>intro u hu;simp at hu;rcases hu with rfl | rfl<;>rfl
       case c3=>unfold maxLen;omega
       case c4=>omega
       case c5=>simp;omega
       ·intro v' w4 hown4 hgrow hnil;have hlow:=hown'.lt
        have hit4:w4.heap[w1.heap.size]? = some (.stringIter (bs t) (p+D.2)):=by
         rw[hgrow.block w1.heap.size (by simp;omega) (fun e=>by have:=(hlow _ e.symm).1;omega),heap_alloc_old WW _ hk1];exact hit2
        have hb4:Below w.heap.size w w4:=(hbw2.alloc hk2 _).grown hgrow (by simp;omega) (fun k hk=>by have:=(hlow k hk).1;have:=hb1.size;omega);have hk4:w1.heap.size<w4.heap.size:=(by have:=hgrow.size;simp at this;omega);have hpos4:w4.iterPos w1.heap.size=p+D.2:=iterPos_of hit4;have HO:=lhid hown4;clear hown4 hnil hit2 hbw2 hown' hgrow hlow;(go_wp2_with fail);go_roundw
        case rel=>
         refine⟨p+D.2,k+1,none,done++[(f,p)],hb.2,by omega,by go_num,rfl,(fun f hf=>by cases hf),?_,hit4,hb4,hk4,hrt2.out,by rw[hR2.out];simp,by simp;omega⟩;have h5:=HO.out;rw[aAb] at h5;simpa [aFv] using h5
        case measure=>rw[hpos4,hpos0];omega
     | false=>
      rw[hbl] at HB;have hs2:=lhid (sr2 hbl);clear sr1 sr2 hbl
      cases st with
      | none=>
       have hR2:=lhid (HRR.out.trans (congrArg (done ++ ·) hs2.out));clear HRR hs2;simp only[frV,Option.getD_none] at hR2 ⊢;(go_wp2_with (go_at_call 133;refine(HB.out _).mono ?_;rintro e w3 ⟨rfl,rfl⟩));go_roundw
       case rel=>exact⟨p+D.2,k+1,some p,done,hb.2,by omega,by go_num,rfl,(fun f hf=>by obtain rfl:=Option.some.inj hf;exact⟨by omega,by rw[hcol];go_num⟩),hown',hit2,hbw2,hk1,hrt2.out,hR2.out,by omega⟩
       case measure=>rw[hpos,hpos0];omega
      | some f=>
       obtain⟨hfp,rfl⟩:=HFI.out f rfl;have hR2:=lhid (HRR.out.trans (congrArg (done ++ ·) hs2.out));clear HRR hs2 HFI;simp only[frV,Option.getD_some] at hR2 ⊢;(go_wp2_with (go_at_call 133;refine(HB.out _).mono ?_;rintro e w3 ⟨rfl,rfl⟩));go_roundw
       case rel=>exact⟨p+D.2,k+1,some f,done,hb.2,by omega,by go_num,rfl,(fun g hg=>by obtain rfl:=Option.some.inj hg;exact⟨by omega,rfl⟩),hown',hit2,hbw2,hk1,hrt2.out,hR2.out,by omega⟩
       case measure=>rw[hpos,hpos0];omega
    ·have hnx:=fun ty=>run_next_end_at (P:=Tryz.prog) wr w1.heap.size (bs t) p ty hit (by rw[gG];exact hlt);have hep:p=t.length:=(by omega);have hR2:=lhid (HRR.out.trans (congrArg (done ++ ·) (bFg t p st (by omega))));subst hep;clear HRR
     cases st with
     | none=>
      simp only[frV,bNj,List.append_nil] at hR2 ⊢;go_wp2_with fail
      go_ret2
      rw[hR2.out];exact⟨_,rfl,aIl (by rw[List.length_map];exact hown),hbw⟩
     | some f=>
      obtain⟨hfp,rfl⟩:=HFI.out f rfl;simp only[frV,bNj] at hR2 ⊢;go_wp2_with (at_builtin;refine wpList_append_own _ rfl _ _ 152 rfl (w1.heap.size+1) 157 i0 (.agg #[.string ByteArray.empty,.int .i64 0]) 2 24 Tryz.underlying152 hi hz0 hz1 hz2 rfl (by decide) _ _ _ rfl (hown.alloc _) ⟨wr.heap.size,0,none⟩ 1 1 [.string (bs (aLx t f t.length)),.int .i64 ((yD t 0 f+1:Nat):Int)] rfl rfl ?c1 ?c2 ?c3 ?c4 ?c5 ?_)
      case c1=>
       intro j u hj
       match j,hj with
       | 0,hj=>simp at hj;subst hj;simp[Addr.add,aLx]
       | 1,hj=>simp at hj;subst hj;simp[Addr.add]
      case c2=>intro u hu;simp at hu;rcases hu with rfl | rfl<;>rfl
      case c3=>unfold maxLen;omega
      case c4=>omega
      case c5=>simp;omega
      ·intro v' w4 hown4 hgrow hnil;have HO:=lhid hown4;clear hown4 hnil;go_wp2_with fail
       go_ret2
       rw[hR2.out];refine⟨_,rfl,aIl (B:=w1.heap.size+1) (e:=157) ?_,?_⟩
       ·have h5:=HO.out;rw[aAb] at h5;simpa [aFv] using h5
       ·exact(hbw.alloc hbw.size _).grown hgrow (by have:=hbw.size;simp;omega) (fun k hk=>by have:=(hown.lt k hk).1;have:=hb1.size;omega)
end Go.Proofs.YtdfegfagedeilaaGreatDoor

namespace Go.Proofs.YtdfegfagedeilaaGreatDoor
open Go.RowKit Go.Lib
def bNa (l:List UInt8) (i:Nat):Option Nat→List UInt8
 | some f=>aLx l f i
 | none=>[]
end Go.Proofs.YtdfegfagedeilaaGreatDoor

namespace Go.Proofs.YtdfegfagedeilaaGreatDoor
open Go.RowKit
theorem aJn (t:Nat) (w:World) (h:t=2∨t=3):(Instr.typeAssert .nilIface 20 t true).run Tryz.prog w=.ok (.tuple #[.int .i64 0,.bool false]) w:=by
 rcases h with rfl | rfl<;>kernel_rfl
theorem oU (w:World):(Instr.typeAssert .nilIface 20 166 true).run Tryz.prog w=.ok (.tuple #[.agg #[],.bool false]) w:=by kernel_rfl
theorem wY (v:Value) (w:World):(Instr.typeAssert (.iface 2 v) 20 2 true).run Tryz.prog w=.ok (.tuple #[v,.bool true]) w:=by kernel_rfl
theorem pG (v:Value) (w:World):(Instr.typeAssert (.iface 2 v) 20 2 false).run Tryz.prog w=.ok v w:=by kernel_rfl
theorem aQk (v:Value) (w:World):(Instr.typeAssert (.iface 3 v) 20 3 true).run Tryz.prog w=.ok (.tuple #[v,.bool true]) w:=by kernel_rfl
theorem aAw (v:Value) (w:World):(Instr.typeAssert (.iface 166 v) 20 166 true).run Tryz.prog w=.ok (.tuple #[v,.bool true]) w:=by kernel_rfl
theorem aUk (w:World):((do pure (Value.tuple #[←zeroValue 2,.bool false])):Sem Value).run Tryz.prog w=.ok (.tuple #[.int .i64 0,.bool false]) w:=by kernel_rfl
theorem bGk (w:World):((do pure (Value.tuple #[←zeroValue 3,.bool false])):Sem Value).run Tryz.prog w=.ok (.tuple #[.int .i64 0,.bool false]) w:=by kernel_rfl
theorem bBk (w:World):((do pure (Value.tuple #[←zeroValue 166,.bool false])):Sem Value).run Tryz.prog w=.ok (.tuple #[.agg #[],.bool false]) w:=by kernel_rfl
theorem oT (u:TypeId) (v:Value) (w:World) (h:(u==2)=false):(Instr.typeAssert (.iface u v) 20 2 true).run Tryz.prog w=.ok (.tuple #[.int .i64 0,.bool false]) w:=by
 have e:(Instr.typeAssert (.iface u v) 20 2 true).run Tryz.prog w=(if u=2 then (pure (Value.tuple #[v,.bool true]):Sem Value) else (do pure (Value.tuple #[←zeroValue 2,.bool false]))).run Tryz.prog w:=by kernel_rfl
 rw[e,if_neg (by simpa using h)];exact aUk w
theorem yA (u:TypeId) (v:Value) (w:World) (h:(u==3)=false):(Instr.typeAssert (.iface u v) 20 3 true).run Tryz.prog w=.ok (.tuple #[.int .i64 0,.bool false]) w:=by
 have e:(Instr.typeAssert (.iface u v) 20 3 true).run Tryz.prog w=(if u=3 then (pure (Value.tuple #[v,.bool true]):Sem Value) else (do pure (Value.tuple #[←zeroValue 3,.bool false]))).run Tryz.prog w:=by kernel_rfl
 rw[e,if_neg (by simpa using h)];exact bGk w
theorem qZ (u:TypeId) (v:Value) (w:World) (h:(u==166)=false):(Instr.typeAssert (.iface u v) 20 166 true).run Tryz.prog w=.ok (.tuple #[.agg #[],.bool false]) w:=by
 have e:(Instr.typeAssert (.iface u v) 20 166 true).run Tryz.prog w=(if u=166 then (pure (Value.tuple #[v,.bool true]):Sem Value) else (do pure (Value.tuple #[←zeroValue 166,.bool false]))).run Tryz.prog w:=by kernel_rfl
 rw[e,if_neg (by simpa using h)];exact bBk w
end Go.Proofs.YtdfegfagedeilaaGreatDoor

namespace Go.Proofs.YtdfegfagedeilaaGreatDoor
open Go.RowKit
set_option maxHeartbeats 400000 in
theorem bCd (l:List UInt8) (hs:l.length≤9223372036854775807) (w:World) :
  Calls Tryz.prog 174 #[.string (bs l),.string ⟨#[45]⟩] w fun e w'=>e=.returned (.tuple #[.string (bs (mC l)),.bool (pU l)])∧w=w':=by
 cases l with
 | nil=>
  go_enter Tryz.func174,Tryz.ntmps174
  go_wp2
  go_ret2
  exact⟨rfl,rfl⟩
 | cons a l=>
  by_cases h:a=45
  ·subst h;simp only[List.length_cons] at hs;go_enter Tryz.func174,Tryz.ntmps174
   go_wp2
   go_ret2
   exact⟨by simp[mC,pU],rfl⟩
  ·have h':(a==45)=false:=(by simpa using h);simp only[List.length_cons] at hs;go_enter Tryz.func174,Tryz.ntmps174
   go_wp2
   go_ret2
   exact⟨by simp[mC,pU,h'],rfl⟩
theorem aCj (l t:List UInt8) (neg:Bool) (ht:mC l=t) (hn:pU l=neg) (hs:l.length≤9223372036854775807) (w:World) :
  Calls Tryz.prog 174 #[.string (bs l),.string ⟨#[45]⟩] w fun e w'=>e=.returned (.tuple #[.string (bs t),.bool neg])∧w=w':=by
 subst ht;subst hn;exact bCd l hs w
theorem aFz (t:List UInt8) (k:Nat) (hk:k<t.length) (h:(t.take k).all nH=true) (hd:nH t[k]=true):(t.take (k+1)).all nH=true:=by
 rw[List.take_succ_eq_append_getElem hk,List.all_append,h];simp[hd]
theorem bIb (t:List UInt8) (k:Nat) (hk:k<t.length) (hd:nH t[k]=false):t.all nH=false:=by
 rw[List.all_eq_false];exact⟨t[k],List.getElem_mem hk,by simp[hd]⟩
theorem aOu {a b:Bool} (h:a=b):Ending.returned (.bool a)=.returned (.bool b):=by rw[h]
theorem bMt (a b:UInt8):((a.toNat:Int)==(b.toNat:Int))=(a==b):=by
 rw[Bool.eq_iff_iff];simp only[beq_iff_eq, ←UInt8.toNat_inj];omega
set_option maxHeartbeats 1000000 in
theorem aQx (l:List UInt8) (a:UInt8) (r:List UInt8) (neg:Bool) (ht:mC l=a::r) (hn:pU l=neg) (hs:l.length≤9223372036854775807) (hr:r.length+1≤9223372036854775807)
  (hc:(a==48)=false) (res:Bool) (hres:(a::r).all nH=res) (w:World) :
  Calls Tryz.prog 173 #[.string (bs l)] w fun e w'=>e=.returned (.bool res)∧w=w':=by
 have HR:=lhid hres;clear hres;have HC:=lhid (aCj l (a::r) neg ht hn hs);clear ht hn hs;have ha:((a.toNat:Int)==48)=false:=(by rw[←hc];exact bMt a 48);go_enter Tryz.func173,Tryz.ntmps173;(go_wp2_with (go_at_call 174;refine(HC.out _).mono ?_;rintro e w1 ⟨rfl,rfl⟩));clear HC ha hc;have e1:((r.length:Int)+1)=((a::r).length:Int):=(by simp);have e2:(a::r).length≤9223372036854775807:=(by simpa using hr);rw[e1];clear e1 hr;generalize a::r=t at *
 go_loop [5,28] (fun _ i=>∃ k:Nat,k≤t.length∧i=.int .i64 k∧(t.take k).all nH=true) (fun _ i=>t.length-(intOf i).toNat)
 case atStart=>exact⟨0,Nat.zero_le _,rfl,rfl⟩
 case round=>
  obtain⟨k,hk,rfl,hall⟩:=hrel;have HA:=lhid hall;clear hall;by_cases hlt:k<t.length
  ·by_cases hd:nH t[k]=true
   ·have HS:=lhid (aFz t k hlt HA.out hd);have hd1:=((uS _).1 hd).1;have hd2:=((uS _).1 hd).2;clear hd
    go_wp2
    go_round
    case rel=>exact⟨k+1,by omega,by go_num,HS.out⟩
    case measure=>simp[intOf];omega
   ·have hf:nH t[k]=false:=(by simpa using hd);have HF:=lhid (bIb t k hlt hf)
    have hor:t[k].toNat<48∨(48≤t[k].toNat∧57<t[k].toNat):=by
     have:¬(48≤t[k].toNat∧t[k].toNat≤57):=fun h=>hd ((uS _).2 h);omega
    clear hd hf;rcases hor with h1 | ⟨h1,h2⟩
    all_goals
     go_wp2
     go_ret;exact⟨aOu (HF.out.symm.trans HR.out),rfl⟩
  ·have e:t.take k=t:=List.take_of_length_le (by omega);have HA':=HA.out;rw[e] at HA';have HB:=lhid HA';clear HA HA' e
   go_wp2
   go_ret;exact⟨aOu (HB.out.symm.trans HR.out),rfl⟩
set_option maxHeartbeats 1000000 in
theorem aMb (l:List UInt8) (ht:mC l=[48]) (hn:pU l=false) (hs:l.length≤9223372036854775807) (w:World) :
  Calls Tryz.prog 173 #[.string (bs l)] w fun e w'=>e=.returned (.bool true)∧w=w':=by
 have HC:=lhid (aCj l [48] false ht hn hs);clear ht hn hs;go_enter Tryz.func173,Tryz.ntmps173;go_wp2_with (go_at_call 174;refine(HC.out _).mono ?_;rintro e w1 ⟨rfl,rfl⟩)
 go_rounds 2
 go_ret;exact⟨rfl,rfl⟩
set_option maxHeartbeats 1000000 in
theorem aQw (l:List UInt8) (neg:Bool) (ht:mC l=[]) (hn:pU l=neg) (hs:l.length≤9223372036854775807) (w:World) :
  Calls Tryz.prog 173 #[.string (bs l)] w fun e w'=>e=.returned (.bool false)∧w=w':=by
 have HC:=lhid (aCj l [] neg ht hn hs);clear ht hn hs;go_enter Tryz.func173,Tryz.ntmps173;(go_wp2_with (go_at_call 174;refine(HC.out _).mono ?_;rintro e w1 ⟨rfl,rfl⟩));go_ret;exact⟨rfl,rfl⟩
set_option maxHeartbeats 1000000 in
theorem aMa (l r:List UInt8) (neg:Bool) (ht:mC l=48::r) (hn:pU l=neg) (hs:l.length≤9223372036854775807) (hr:r.length+1≤9223372036854775807) (hc:neg=true∨(neg=false∧0<r.length)) (w:World) :
  Calls Tryz.prog 173 #[.string (bs l)] w fun e w'=>e=.returned (.bool false)∧w=w':=by
 have HC:=lhid (aCj l (48::r) neg ht hn hs);clear ht hn hs;rcases hc with rfl | ⟨rfl,hc⟩
 all_goals
  go_enter Tryz.func173,Tryz.ntmps173;(go_wp2_with (go_at_call 174;refine(HC.out _).mono ?_;rintro e w1 ⟨rfl,rfl⟩));go_ret;exact⟨rfl,rfl⟩
theorem aOt (l:List UInt8):(mC l).length≤l.length:=by unfold mC;split<;>simp
theorem aCk (l:List UInt8) (hs:l.length≤9223372036854775807) (w:World) :
  Calls Tryz.prog 173 #[.string (bs l)] w fun e w'=>e=.returned (.bool (yG l))∧w=w':=by
 have hl:=aOt l;unfold yG
 cases ht:mC l with
 | nil=>exact aQw l _ ht rfl hs w
 | cons a r=>
  rw[ht] at hl;simp only[List.length_cons] at hl;by_cases ha:a=48
  ·subst ha;by_cases hc:pU l=true∨0<r.length
   ·have e:aQv (48::r) (pU l)=false:=by
     rcases hc with h | h<;>simp[aQv,h]
    rw[e];refine aMa l r _ ht rfl hs (by omega) ?_ w;cases hn:pU l
    ·rw[hn] at hc;exact .inr ⟨rfl,by simpa using hc⟩
    ·exact .inl rfl
   ·have hn:pU l=false:=by
     cases h:pU l
     ·rfl
     ·exact absurd (.inl h) hc
    have hr : r = [] := List.eq_nil_of_length_eq_zero (by have : ¬ 0 < r.length := fun h => hc (.inr h)
                                                          omega)
    subst hr;rw[hn,show aQv [48] false=true from rfl];exact aMb l ht hn hs w
  ·have ha':(a==48)=false:=by simpa using ha
   have e:aQv (a::r) (pU l)=(a::r).all nH:=by
    unfold aQv;rw[List.head?_cons,show((some a:Option UInt8)==some 48)=false by simpa using ha];simp
   rw[e];exact aQx l a r _ ht rfl hs (by omega) ha' _ rfl w
end Go.Proofs.YtdfegfagedeilaaGreatDoor

namespace Go.Proofs.YtdfegfagedeilaaGreatDoor
open Go.RowKit
theorem aHk (t:List UInt8) (k:Nat) (h:mK (t.take k)=none):mK t=none:=by
 have e:mK t=(t.drop k).foldl xP (mK (t.take k)):=by
  unfold mK;rw[←List.foldl_append,List.take_append_drop]
 rw[e,h];generalize t.drop k=r
 induction r with
 | nil=>rfl
 | cons a r ih=>simpa [xP] using ih
theorem uO (t:List UInt8) (k:Nat) (hk:k<t.length) (n:Int) (h:mK (t.take k)=some n):mK (t.take (k+1))=xP (some n) t[k]:=by
 rw[List.take_succ_eq_append_getElem hk,aRc,h]
theorem aIw (n:Int) (c:UInt8) (h:n < -922337203685477580∨(n=-922337203685477580∧56<c.toNat)):xP (some n) c=none:=by
 simp only[xP,Option.bind_some];rw[if_pos (by omega)]
theorem aVt (n:Int) (c:UInt8) (h1:48≤c.toNat) (h:¬(n < -922337203685477580∨(n=-922337203685477580∧56<c.toNat))):xP (some n) c=some (n*10-((c.toNat:Int)-48)):=by
 simp only[xP,Option.bind_some];rw[if_neg (by omega)];congr 1;omega
theorem aEn (l:List UInt8) (hd:yG l=true) (h:mK (mC l)=none):jQ l=(0,8):=by
 unfold jQ;rw[if_pos hd,h]
theorem aZq (l:List UInt8) (n:Int) (hd:yG l=true) (h:mK (mC l)=some n) (hn:pU l=true):jQ l=(n,0):=by
 unfold jQ;rw[if_pos hd,h];simp[hn]
theorem aOj (l:List UInt8) (n:Int) (hd:yG l=true) (h:mK (mC l)=some n) (hn:pU l=false) (hl:n=-9223372036854775808):jQ l=(0,8):=by
 unfold jQ;rw[if_pos hd,h];simp[hn,hl]
theorem aZs (l:List UInt8) (n:Int) (hd:yG l=true) (h:mK (mC l)=some n) (hn:pU l=false) (hl:-9223372036854775808<n):jQ l=(-n,0):=by
 unfold jQ;rw[if_pos hd,h];simp only[hn,Bool.false_eq_true,if_false];rw[if_neg (by omega)]
theorem bEo (l:List UInt8) (hd:yG l=false):jQ l=(0,5):=by
 unfold jQ;rw[hd];simp
theorem uC {a b c d:Int} (h:(a,b)=(c,d)):Ending.returned (.tuple #[.int .i64 a,.int .i64 b])=.returned (.tuple #[.int .i64 c,.int .i64 d]):=by
 injection h with h1 h2;rw[h1,h2]
theorem bCj (l:List UInt8) (h:yG l=true):(mC l).all nH=true:=by
 unfold yG aQv at h;simp only[Bool.and_eq_true] at h;exact h.2
theorem bBo (t:List UInt8) (h:t.all nH=true) (k:Nat) (hk:k<t.length):48≤t[k].toNat∧t[k].toNat≤57:=
 (uS _).1 (List.all_eq_true.1 h _ (List.getElem_mem hk))
set_option maxHeartbeats 2000000 in
theorem aZt (l t:List UInt8) (neg:Bool) (ht:mC l=t) (hn:pU l=neg) (hd:yG l=true) (hs:l.length≤9223372036854775806) (v c:Int) (hres:jQ l=(v,c)) (w:World) :
  Calls Tryz.prog 160 #[.string (bs l)] w fun e w'=>e=.returned (.tuple #[.int .i64 v,.int .i64 c])∧w=w':=by
 have HR:=lhid hres;have HD:=lhid (fun W=>by simpa only [hd] using aCk l (by omega) W);have HC:=lhid (aCj l t neg ht hn (by omega));have HT:=lhid ht;have HN:=lhid hn;have HG:=lhid hd;have hta:t.all nH=true:=(by rw[←ht];exact bCj l hd);have HTA:=lhid hta;have htl:t.length≤9223372036854775806:=(by have:=aOt l;rw[ht] at this;omega);clear hres hn hd hta;clear ht hs;go_enter Tryz.func160,Tryz.ntmps160
 go_wp2_with (first
  | (go_at_call 173;refine(HD.out _).mono ?_;rintro e w1 ⟨rfl,rfl⟩)
  | (go_at_call 174;refine(HC.out _).mono ?_;rintro e w1 ⟨rfl,rfl⟩))
 clear HD HC
 go_loop [6,7,8,19] (fun a _ _ i=>∃ (k:Nat) (n:Int),k≤t.length∧i=.int .i64 k∧a=.int .i64 n∧-9223372036854775808≤n∧n≤0∧mK (t.take k)=some n) (fun _ _ _ i=>t.length-(intOf i).toNat)
 case atStart=>exact⟨0,0,Nat.zero_le _,rfl,rfl,by omega,by omega,rfl⟩
 case round=>
  obtain⟨k,n,hk,rfl,rfl,hn0,hn1,hf⟩:=hrel;have HF:=lhid hf;clear hf;by_cases hlt:k<t.length
  ·have hc1:=(bBo t HTA.out k hlt).1;have hc2:=(bBo t HTA.out k hlt).2;by_cases h1:n < -922337203685477580
   ·have HX:=lhid (aEn l HG.out (by rw[HT.out];exact aHk t (k+1) (by rw[uO t k hlt n HF.out];exact aIw _ _ (.inl h1))))
    go_wp2
    go_ret2
    exact⟨uC (HX.out.symm.trans HR.out),rfl⟩
   ·by_cases h2:n=-922337203685477580
    ·by_cases h3:56<t[k].toNat
     ·have HX:=lhid (aEn l HG.out (by rw[HT.out];exact aHk t (k+1) (by rw[uO t k hlt n HF.out];exact aIw _ _ (.inr ⟨h2,h3⟩))));subst h2;clear h1
      go_wp2
      go_ret2
      exact⟨uC (HX.out.symm.trans HR.out),rfl⟩
     ·have HX:=lhid (by rw[←aVt n t[k] hc1 (by omega)];exact uO t k hlt n HF.out:mK (t.take (k+1))=some (n*10-((t[k].toNat:Int)-48)));subst h2;clear h1;have h4:(t[k].toNat:Int)≤56:=(by omega);clear h3
      go_wp2
      go_round
      case rel=>exact⟨k+1,_,by omega,by go_num,rfl,by omega,by omega,HX.out⟩
      case measure=>simp[intOf];omega
    ·have HX:=lhid (by rw[←aVt n t[k] hc1 (by omega)];exact uO t k hlt n HF.out:mK (t.take (k+1))=some (n*10-((t[k].toNat:Int)-48)));have h3:-922337203685477579≤n:=(by omega);clear h1 h2
     go_wp2
     go_round
     case rel=>exact⟨k+1,_,by omega,by go_num,rfl,by omega,by omega,HX.out⟩
     case measure=>simp[intOf];omega
  ·have e:t.take k=t:=List.take_of_length_le (by omega);have hF:=HF.out;rw[e] at hF;have HB:=lhid hF;clear HF hF e
   cases neg with
   | true=>
    have HX:=lhid (aZq l n HG.out (by rw[HT.out];exact HB.out) HN.out)
    go_wp2
    go_ret2
    exact⟨uC (HX.out.symm.trans HR.out),rfl⟩
   | false=>
    by_cases hl:n=-9223372036854775808
    ·have HX:=lhid (aOj l n HG.out (by rw[HT.out];exact HB.out) HN.out hl);subst hl;clear hn0 hn1
     go_wp2
     go_ret2
     exact⟨uC (HX.out.symm.trans HR.out),rfl⟩
    ·have HX:=lhid (aZs l n HG.out (by rw[HT.out];exact HB.out) HN.out (by omega));have hn2:-9223372036854775808<n:=(by omega);clear hl hn0
     go_wp2
     go_ret2
     exact⟨uC (HX.out.symm.trans HR.out),rfl⟩
set_option maxHeartbeats 1000000 in
theorem aZo (l:List UInt8) (hd:yG l=false) (hs:l.length≤9223372036854775806) (w:World) :
  Calls Tryz.prog 160 #[.string (bs l)] w fun e w'=>e=.returned (.tuple #[.int .i64 0,.int .i64 5])∧w=w':=by
 have HD:=lhid (fun W=>by simpa only [hd] using aCk l (by omega) W);clear hd hs;go_enter Tryz.func160,Tryz.ntmps160;go_wp2_with (go_at_call 173;refine(HD.out _).mono ?_;rintro e w1 ⟨rfl,rfl⟩)
 go_ret2
 exact⟨rfl,rfl⟩
theorem aZn (l:List UInt8) (hs:l.length≤9223372036854775806) (w:World) :
  Calls Tryz.prog 160 #[.string (bs l)] w fun e w'=>e=.returned (.tuple #[.int .i64 (jQ l).1,.int .i64 (jQ l).2])∧w=w':=by
 cases hd:yG l
 ·rw[bEo l hd];exact aZo l hd hs w
 ·exact aZt l _ _ rfl rfl hd hs _ _ rfl w
end Go.Proofs.YtdfegfagedeilaaGreatDoor

namespace Go.Proofs.YtdfegfagedeilaaGreatDoor
open Go.RowKit
theorem bEn (l:List UInt8) (v c:Int) (hs:l.length≤9223372036854775806) (h:jQ l=(v,c)) (w:World) :
  Calls Tryz.prog 160 #[.string (bs l)] w fun e w'=>e=.returned (.tuple #[.int .i64 v,.int .i64 c])∧w=w':=by
 have:=aZn l hs w
 rwa [h] at this
end Go.Proofs.YtdfegfagedeilaaGreatDoor

namespace Go.Proofs
open Go.Shelf
def Tryz.laysValid_ren:Go.Shelf.Ren:=⟨fun | 196=>117 | 259=>139 | n=>n,fun | 9=>9 | 4=>4 | 3=>3 | 5=>5 | 12=>12 | 119=>182 | 0=>0 | 46=>171 | 139=>185 | 138=>184 | 53=>199 | n=>n,fun | 3=>1 | 4=>2 | n=>n⟩
theorem Tryz.laysValid:Go.Proofs.Lays.n196 Tryz.prog Tryz.laysValid_ren:={
 mixed:=by kernel_rfl
 f196:=Tryz.func117.trans (congrArg some (by kernel_rfl))
 f259:=Tryz.func139.trans (congrArg some (by kernel_rfl))
 t0:=Tryz.underlying0
 a0:=Tryz.isAgg0
 z0:=Tryz.sizeOf0
 v0:=Tryz.zeroValue0
 t3:=Tryz.underlying3
 a3:=Tryz.isAgg3
 z3:=Tryz.sizeOf3
 v3:=Tryz.zeroValue3
 t4:=Tryz.underlying4
 a4:=Tryz.isAgg4
 z4:=Tryz.sizeOf4
 v4:=Tryz.zeroValue4
 t5:=Tryz.underlying5
 a5:=Tryz.isAgg5
 z5:=Tryz.sizeOf5
 v5:=Tryz.zeroValue5
 t9:=Tryz.underlying9
 a9:=Tryz.isAgg9
 z9:=Tryz.sizeOf9
 v9:=Tryz.zeroValue9
 t12:=Tryz.underlying12
 a12:=Tryz.isAgg12
 z12:=Tryz.sizeOf12
 v12:=Tryz.zeroValue12
 t46:=Tryz.underlying171
 a46:=Tryz.isAgg171
 z46:=Tryz.sizeOf171
 v46:=Tryz.zeroValue171
 t53:=Tryz.underlying199
 a53:=Tryz.isAgg199
 z53:=Tryz.sizeOf199
 v53:=Tryz.zeroValue199
 t119:=Tryz.underlying182
 a119:=Tryz.isAgg182
 z119:=Tryz.sizeOf182
 t138:=Tryz.underlying184
 a138:=Tryz.isAgg184
 z138:=Tryz.sizeOf184
 v138:=Tryz.zeroValue184
 t139:=Tryz.underlying185
 a139:=Tryz.isAgg185
 z139:=Tryz.sizeOf185
 v139:=Tryz.zeroValue185
 g3:=by kernel_rfl
 g4:=by kernel_rfl }
end Go.Proofs

namespace Go.Proofs.YtdfegfagedeilaaGreatDoor
open Go.RowKit
theorem aDx (w:World) (x:Int) (e:TypeId):∀ (j:Nat) (u:Value),([.int .i64 x]:List Value)[j]? = some u→(w.alloc (.cells #[.int .i64 x] e)).cell? ((⟨w.heap.size,0,none⟩:Addr).add j)=some u:=by
 intro j u hj
 match j,hj with
 | 0,hj=>simp at hj;subst hj;simp[Addr.add]
theorem aEa (x:Int):∀ u∈([.int .i64 x]:List Value),u.oneCell'=true:=by
 intro u hu;simp at hu;subst hu;rfl
end Go.Proofs.YtdfegfagedeilaaGreatDoor
