/-
  Several texts of these walks, joined and squeezed (as templates they lie in wip/tpl): LayW VsS VsT IMap ErO WlE WlC WlP VMap IMapL HistN.
-/
import Derived.Test.YtdfegfagedeilaaGreatDoorYxVsC
import Derived.Test.YtdfegfagedeilaaGreatDoorYxVsG
import Derived.Maps.RangeWalk
import Derived.Test.YtdfegfagedeilaaGreatDoorYxHFew
namespace Go.Proofs
open Go.Shelf
def Tryz.laysSortV_ren:Go.Shelf.Ren:=⟨fun | 6=>101 | 15=>125 | 14=>124 | 28=>150 | 29=>151 | 20=>142 | 21=>143 | 22=>144 | 23=>145 | 24=>146 | 25=>147 | 26=>148 | 27=>149 | 46=>164 | 47=>165 | 48=>166 | 49=>167 | 50=>168 | 57=>177 | n=>n,fun | 22=>27 | 24=>57 | 25=>145 | 3=>3 | 39=>171 | 0=>0 | 53=>197 | 55=>199 | 4=>4 | 46=>191 | 45=>190 | 50=>131 | 5=>5 | 9=>9 | 66=>208 | 70=>212 | 76=>220 | 77=>140 | n=>n,fun | n=>n⟩
theorem Tryz.laysSortV:Go.Proofs.SlLaysF0.n6 Tryz.prog Tryz.laysSortV_ren:={
 mixed:=by kernel_rfl
 f6:=⟨Tryz.f101.name,by decide,Tryz.func101.trans (congrArg some (by kernel_rfl))⟩
 f14:=⟨Tryz.f124.name,by decide,Tryz.func124.trans (congrArg some (by kernel_rfl))⟩
 f15:=Tryz.func125.trans (congrArg some (by kernel_rfl))
 f20:=⟨Tryz.f142.name,by decide,Tryz.func142.trans (congrArg some (by kernel_rfl))⟩
 f21:=⟨Tryz.f143.name,by decide,Tryz.func143.trans (congrArg some (by kernel_rfl))⟩
 f22:=⟨Tryz.f144.name,by decide,Tryz.func144.trans (congrArg some (by kernel_rfl))⟩
 f23:=⟨Tryz.f145.name,by decide,Tryz.func145.trans (congrArg some (by kernel_rfl))⟩
 f24:=⟨Tryz.f146.name,by decide,Tryz.func146.trans (congrArg some (by kernel_rfl))⟩
 f25:=⟨Tryz.f147.name,by decide,Tryz.func147.trans (congrArg some (by kernel_rfl))⟩
 f26:=⟨Tryz.f148.name,by decide,Tryz.func148.trans (congrArg some (by kernel_rfl))⟩
 f27:=⟨Tryz.f149.name,by decide,Tryz.func149.trans (congrArg some (by kernel_rfl))⟩
 f28:=Tryz.func150.trans (congrArg some (by kernel_rfl))
 f29:=Tryz.func151.trans (congrArg some (by kernel_rfl))
 f46:=⟨Tryz.f164.name,by decide,Tryz.func164.trans (congrArg some (by kernel_rfl))⟩
 f47:=Tryz.func165.trans (congrArg some (by kernel_rfl))
 f48:=Tryz.func166.trans (congrArg some (by kernel_rfl))
 f49:=⟨Tryz.f167.name,by decide,Tryz.func167.trans (congrArg some (by kernel_rfl))⟩
 f50:=⟨Tryz.f168.name,by decide,Tryz.func168.trans (congrArg some (by kernel_rfl))⟩
 f57:=⟨Tryz.f177.name,by decide,Tryz.func177.trans (congrArg some (by kernel_rfl))⟩
 t0:=Tryz.underlying0
 a0:=Tryz.isAgg0
 z0:=Tryz.sizeOf0
 v0:=Tryz.zeroValue0
 t3:=Tryz.underlying3
 a3:=Tryz.isAgg3
 z3:=Tryz.sizeOf3
 v3:=Tryz.zeroValue3
 t4:=Tryz.underlying4
 a4:=Tryz.isAgg4
 z4:=Tryz.sizeOf4
 v4:=Tryz.zeroValue4
 t5:=Tryz.underlying5
 a5:=Tryz.isAgg5
 z5:=Tryz.sizeOf5
 v5:=Tryz.zeroValue5
 t9:=Tryz.underlying9
 a9:=Tryz.isAgg9
 z9:=Tryz.sizeOf9
 v9:=Tryz.zeroValue9
 t22:=Tryz.underlying27
 a22:=Tryz.isAgg27
 z22:=Tryz.sizeOf27
 v22:=Tryz.zeroValue27
 t25:=Tryz.underlying145
 a25:=Tryz.isAgg145
 z25:=Tryz.sizeOf145
 v25:=Tryz.zeroValue145
 t39:=Tryz.underlying171
 a39:=Tryz.isAgg171
 z39:=Tryz.sizeOf171
 v39:=Tryz.zeroValue171
 t45:=Tryz.underlying190
 a45:=Tryz.isAgg190
 z45:=Tryz.sizeOf190
 v45:=Tryz.zeroValue190
 t46:=Tryz.underlying191
 a46:=Tryz.isAgg191
 z46:=Tryz.sizeOf191
 v46:=Tryz.zeroValue191
 t50:=Tryz.underlying131
 a50:=Tryz.isAgg131
 z50:=Tryz.sizeOf131
 v50:=Tryz.zeroValue131
 t53:=Tryz.underlying197
 a53:=Tryz.isAgg197
 z53:=Tryz.sizeOf197
 v53:=Tryz.zeroValue197
 t55:=Tryz.underlying199
 a55:=Tryz.isAgg199
 z55:=Tryz.sizeOf199
 v55:=Tryz.zeroValue199
 t66:=Tryz.underlying208
 a66:=Tryz.isAgg208
 z66:=Tryz.sizeOf208
 v66:=Tryz.zeroValue208
 t70:=Tryz.underlying212
 a70:=Tryz.isAgg212
 z70:=Tryz.sizeOf212
 v70:=Tryz.zeroValue212
 t76:=Tryz.underlying220
 a76:=Tryz.isAgg220
 z76:=Tryz.sizeOf220
 v76:=Tryz.zeroValue220
 t77:=Tryz.underlying140
 a77:=Tryz.isAgg140
 z77:=Tryz.sizeOf140
 v77:=Tryz.zeroValue140 }
end Go.Proofs

namespace Go.Proofs.YtdfegfagedeilaaGreatDoor
open Go.RowKit Go.Lib Go.Sort
abbrev OkV:={ v:bZ // okV v=true }
instance:Inhabited OkV:=⟨⟨(0,0),by decide⟩⟩
def aGd (x:OkV):List Value:=aZ x.1
def cfV (x y:OkV):Int:=bBy x.1 y.1
theorem yZ (x y:OkV):ltOf cfV x y=ltV x.1 y.1:=by
 unfold ltOf cfV bBy
 cases ltV x.1 y.1 with
 | true=>simp
 | false=>cases ltV y.1 x.1<;>simp
theorem aVv:SWO (ltOf cfV) where
 irrefl x:=by rw[yZ];exact mS _
 trans x y z h1 h2:=by rw[yZ] at *;exact uW _ _ _ h1 h2
 ntrans x y z h1 h2:=by rw[yZ] at *;exact aSd _ _ _ h1 h2
def leV (x y:OkV):Bool:=!(ltOf cfV) y x
theorem aYd (a b c:OkV) (h1:leV a b=true) (h2:leV b c=true):leV a c=true:=by
 unfold leV at *;simp only[Bool.not_eq_true'] at *;exact aVv.ntrans c b a h2 h1
theorem aYc (a b:OkV):(leV a b||leV b a)=true:=by
 unfold leV;simp only[yZ]
 cases h1:ltV b.1 a.1 with
 | false=>rfl
 | true=>
  cases h2:ltV a.1 b.1 with
  | false=>rfl
  | true=>
   have:=uW _ _ _ h1 h2;rw[mS] at this;exact absurd this (by decide)
theorem aTq (d:List OkV) (L:List bZ) (h:∀ y,y∈d.map (·.1)↔y∈L∧okV y=true):compact ((d.mergeSort leV).map (·.1))=cH L:=by
 refine aAm _ L (fun y=>?_) ?_
 ·rw[←h,List.mem_map,List.mem_map];constructor
  ·rintro⟨x,hx,e⟩;exact⟨x,(List.mergeSort_perm d leV).mem_iff.1 hx,e⟩
  ·rintro⟨x,hx,e⟩;exact⟨x,(List.mergeSort_perm d leV).mem_iff.2 hx,e⟩
 ·rw[List.pairwise_map];refine(List.pairwise_mergeSort aYd aYc d).imp fun {a b} hab=>?_;unfold leV at hab;rw[yZ] at hab;simpa using hab
theorem aHt:∀ M:List bZ,(∀ x∈M,okV x=true)→∃ d:List OkV,d.map (·.1)=M
 | [],_=>⟨[],rfl⟩
 | x::M,h=>by
  obtain⟨d,hd⟩:=aHt M (fun y hy=>h y (List.mem_cons_of_mem _ hy));exact⟨⟨x,h x (List.mem_cons_self ..)⟩::d,by simp[hd]⟩
theorem aHm {w:World} {g c:Nat} {d:Array OkV} (h:kA w g c (d.map (·.1))):HoldsK aGd 2 w g 0 d:=by
 intro t ht;rw[size_flatK] at ht;rw[get_flatK _ _ _ _ ht,Nat.zero_add];have hj:t / 2<d.size:=(by omega);obtain⟨c1,c2,f1,f2⟩:=h.cells (t / 2) (by simpa using hj);have e:(d.map (·.1))[t / 2]! = (d[t / 2]!).1:=(by simp[hj]);rw[e] at c1 c2;have hq:t % 2=0∨t % 2=1:=(by omega);rcases hq with hq | hq
 ·rw[show t / 2*2=t by omega] at c1 f1;rw[hq];exact⟨c1,f1⟩
 ·rw[show t / 2*2+1=t by omega] at c2 f2;rw[hq];exact⟨c2,f2⟩
theorem aXg {w:World} {g n:Nat} {os:Array Obj} {cur:Array Value} {e:TypeId} {fr:Nat×Nat} (d:Array OkV) (hb:w.heap[g]? = some (.cells cur e fr)) :
  (sortWorldK aGd 2 w g 0 n d os).heap[g]? = some (.cells (putCells id 0 (flatK aGd 2 d) cur) e fr):=by
 have hg:g<w.heap.size:=(Array.getElem?_eq_some_iff.1 hb).1;unfold sortWorldK putRowK;rw[Go.Sort.heap_grow_old _ _ (by simpa using hg)];simp[putRow,mapBlock,Sort.ahead,Array.getElem?_modify,hb,onCells]
theorem aJv {w:World} {g c n:Nat} {os:Array Obj} {d D:Array OkV} (h:kA w g c (d.map (·.1))) (hs:D.size=d.size):kA (sortWorldK aGd 2 w g 0 n D os) g c (D.map (·.1)):=by
 obtain⟨cur,hcur,hsz⟩:=h.lies;have hK:=holdsK_sortWorldK_c aGd 2 w g 0 d D n os (aHm h) h.lt hs;refine⟨⟨_,aXg D hcur,by simp[putCells,hsz]⟩,fun j hj=>?_⟩;have hj':j<D.size:=(by simpa using hj);have e:(D.map (·.1))[j]! = (D[j]!).1:=(by simp[hj']);obtain⟨c1,f1⟩:=hK.cell (i:=j) (c:=0) hj' (by omega);obtain⟨c2,f2⟩:=hK.cell (i:=j) (c:=1) hj' (by omega);rw[Nat.zero_add] at c1 f1 c2 f2;rw[e];exact⟨c1,c2,f1,f2⟩
theorem aLq {B:Nat} {a w:World} {g n:Nat} {dk:Array OkV} {os:Array Obj} (h:Below B a w) (hg:B≤g) (hB:B≤w.heap.size):Below B a (sortWorldK aGd 2 w g 0 n dk os):=by
 refine⟨h.os,h.tape,h.output,Nat.le_trans h.size (size_sortWorldK_c aGd 2 w g 0 n dk os),fun k hk=>?_⟩;have hkw:k<w.heap.size:=Nat.lt_of_lt_of_le hk hB;rw[←h.block k hk];have hne:g≠k:=(by omega);unfold sortWorldK putRowK;rw[Go.Sort.heap_grow_old _ _ (by rw[size_putRow];exact hkw)];simp only[putRow,mapBlock,Array.getElem?_modify,if_neg hne];rfl
theorem aQs:∀ args w,(callFunc 102 args).run Tryz.prog w=.ok (.enter 102 args) w:=enters_of Tryz.func102 (by kernel_rfl) rfl
theorem bAg (g c cap:Nat) (d:List OkV) (w:World) (hH:kA w g c (d.map (·.1)).toArray) (hsz:d.length≤1000000) :
  Calls Tryz.prog 101 #[.slice (some ⟨g,0,none⟩) d.length cap,.func (.func 102) #[] #[]] w fun e w'=>
   e=.returned (.tuple #[])∧kA w' g c ((d.mergeSort leV).map (·.1)).toArray∧Below g w w':=by
 have e0:(d.toArray.map (·.1))=(d.map (·.1)).toArray:=(by simp);have hH':kA w g c (d.toArray.map (·.1)):=by rw[e0];exact hH
 have h:=AnyQ.slices_SortFunc_total Tryz.laysSortV 2 Tryz.isAgg57 Tryz.sizeOf57 aGd (fun _=>rfl) (fun x v hv=>by simp[aGd,aZ] at hv;rcases hv with rfl | rfl<;>rfl) cfV aVv 102 #[] g 0 cap d.toArray w aQs
  (fun m os dk _ x y=>(aWp x.1 y.1 x.2 y.2 _).mono fun e w' ⟨he,hg⟩=>⟨he,hg.form⟩) (aHm hH') hH.lt (by simp;omega)
  (fun x y h1 h2=>by rw[yZ] at h1 h2;exact Subtype.ext (uV _ _ x.2 y.2 h1 h2))
 refine h.mono fun e w' ⟨he,n,os,hw0⟩=>?_;have hw:w'=sortWorldK aGd 2 w g 0 n (d.mergeSort leV).toArray os:=hw0;clear hw0;refine⟨he,?_,?_⟩
 ·have:=aJv (n:=n) (os:=os) (D:=(d.mergeSort leV).toArray) hH' (by simp[List.length_mergeSort]);rw[hw];simpa using this
 ·rw[hw];exact aLq (Below.refl _ _) (Nat.le_refl _) (Nat.le_of_lt hH.lt)
theorem aXj {w:World} {g cap:Nat} {cur:Array Value} {M:List bZ} (hw:w.heap[g]? = some (.cells cur 57 (0,0))) (hs:cur.size=cap*2) (ht:cur.toList.take (M.length*2)=aJ M):kA w g (cap*2) M.toArray:=by
 refine⟨⟨cur,hw,hs⟩,fun j hj=>?_⟩;have hj':j<M.length:=by simpa using hj
 have hg:∀ i,i<M.length*2→w.cell? ⟨g,i,none⟩=some (.int .i64 (if i % 2=0 then (M.getD (i / 2) (0,0)).1 else (M.getD (i / 2) (0,0)).2)):=fun i hi=>by
  rw[cell_of_row w g i _ _ (0,0) hw, ←pD M i hi, ←ht,List.getElem?_take_of_lt hi,Array.getElem?_toList]
 have e:M.toArray[j]! = M.getD j (0,0):=(by simp[hj']);refine⟨?_,?_,frozen_of_row w g _ cur _ hw,frozen_of_row w g _ cur _ hw⟩
 ·rw[hg _ (by omega),if_pos (by omega),e,show j*2 / 2=j by omega]
 ·rw[hg _ (by omega),if_neg (by omega),e,show(j*2+1) / 2=j by omega]
theorem aGb (p:Option Addr) (cap:Nat) (w:World) :
  Calls Tryz.prog 104 #[.slice p 0 cap] w fun e w'=>e=.returned (.slice p 0 cap)∧w'=w:=by
 go_enter Tryz.func104,Tryz.ntmps104;(go_wp2_with fail);go_ret;exact⟨rfl,rfl⟩
end Go.Proofs.YtdfegfagedeilaaGreatDoor

namespace Go.Proofs.YtdfegfagedeilaaGreatDoor
open Go.RowKit Go.Lib Go.Sort
theorem aGo (L:List bZ) (k:Nat) (hk:k<L.length):(L.take (k+1)).filter okV=(L.take k).filter okV++(if okV (L.getD k aN) then [L.getD k aN] else []):=by
 have e:L.take (k+1)=L.take k++[L.getD k aN]:=by
  rw[List.take_add_one];simp[hk]
 rw[e,List.filter_append];congr 1;simp only[List.filter_cons,List.filter_nil]
theorem aOb {w w1:World} {B size n:Nat} {e:TypeId} {v:Value} {xs:List Value} (h:w.ownsRow B e size v n xs) (hb:Below w.heap.size w w1):w1.ownsRow B e size v n xs:=by
 obtain⟨h1,h2 | ⟨g,cap,cur,hv,hB,hw,hrest⟩⟩:=h
 ·exact⟨h1,.inl h2⟩
 ·exact⟨h1,.inr ⟨g,cap,cur,hv,hB,by rw[hb.block g (Array.getElem?_eq_some_iff.1 hw).1];exact hw,hrest⟩⟩
theorem aUc (L:List bZ) (x:bZ):aJ L++[.int .i64 x.1,.int .i64 x.2]=aJ (L++[x]):=by simp[aJ,aZ]
theorem dO (a b:Int):∀ u∈([.int .i64 a,.int .i64 b]:List Value),u.oneCell'=true:=by
 intro u hu;simp at hu;rcases hu with rfl | rfl<;>rfl
set_option maxRecDepth 100000 in
set_option maxHeartbeats 4000000 in
theorem bUx (w:World) (p:Option Addr) (c:Nat) (L:List bZ) (h:lF w p L) (hL:L.length≤100000) :
  Calls Tryz.prog 84 #[.slice p L.length c] w fun e w'=>∃ v',e=.returned v'∧w'.ownsRow w.heap.size 57 2 v' (cH L).length (aJ (cH L))∧Below w.heap.size w w':=by
 have HX:=lhid h;clear h;obtain⟨R,hR⟩:∃ R,cH L=R:=⟨_,rfl⟩;rw[hR];have HR:=lhid hR;clear hR;obtain⟨i1,hj,hj0,hj1,hj2⟩:=info_parts aCx;go_enter Tryz.func84,Tryz.ntmps84;go_wp2_with fail
 go_loopw [3,8] (fun out i wr=>∃ k:Nat,k≤L.length∧i=.int .i64 k∧wr.ownsRow w.heap.size 57 2 out ((L.take k).filter okV).length (aJ ((L.take k).filter okV))∧Below w.heap.size w wr) (fun _ i _=>L.length-(intOf i).toNat)
 case atStart=>exact⟨0,Nat.zero_le _,rfl,World.ownsRow_nil _ _ _ _,Below.refl _ _⟩
 case round=>
  obtain⟨k,hk,rfl,hown,hbw⟩:=hrel
  have hflen:((L.take k).filter okV).length≤100000:=by
   have h1:=List.length_filter_le okV (L.take k);rw[List.length_take] at h1;omega
  by_cases hlt:k<L.length
  ·obtain⟨gl,rfl,b0,b1⟩:=HX.out k hlt;have a0:=cell_later hbw b0;have a1:=cell_later hbw b1;have hnx:=aGo L k hlt;obtain⟨⟨x1,x2⟩,hx⟩:∃ x,L.getD k aN=x:=⟨_,rfl⟩;rw[hx] at a0 a1 hnx;dsimp only at a0 a1;obtain⟨M,hM⟩:∃ M,(L.take k).filter okV=M:=⟨_,rfl⟩;rw[hM] at hown hnx hflen;have HM:=lhid (wR x1 x2);have HBX:=lhid (Blk.new wr 57 [.int .i64 x1,.int .i64 x2]);have HBo:=lhid (hbw.alloc hbw.size (.cells #[.int .i64 x1,.int .i64 x2] 57));have HOo:=lhid (hown.alloc (.cells #[.int .i64 x1,.int .i64 x2] 57));clear hx hM b0 b1 hown hbw;obtain⟨b,hb⟩:∃ b,okV (x1,x2)=b:=⟨_,rfl⟩;rw[hb] at hnx;rw[show kW x1 x2=b from hb] at HM;clear hb;(go_upto_region 5 with fail);obtain⟨W1,hW1⟩:∃ q,wr.alloc (.cells #[.int .i64 x1,.int .i64 x2] 57)=q:=⟨_,rfl⟩;rw[hW1] at HBX HBo HOo ⊢;clear hW1;have y0:=HBX.out.cell 0 rfl;have y1:=HBX.out.cell 1 rfl;(go_wp2_with fail);refine(HM.out _).mono ?_;rintro e w1 ⟨rfl,hb1,-⟩;have HB1:=lhid (aB HBo.out hb1);have HO1:=lhid (aOb HOo.out hb1);have HX1:=lhid (HBX.out.later hb1);clear y0 y1 hb1
   cases b with
   | false=>
    simp only[Bool.false_eq_true,if_false,List.append_nil] at hnx;have HN:=lhid hnx;clear hnx;(go_wp2_with fail);go_roundw
    case rel=>exact⟨k+1,by omega,by go_num,by rw[HN.out];exact HO1.out,HB1.out⟩
    case measure=>simp[intOf];omega
   | true=>
    simp only[if_true] at hnx;have HN:=lhid hnx;clear hnx;have y0:=HX1.out.cell 0 rfl;have y1:=HX1.out.cell 1 rfl;have hown1:=HO1.out;have hbw1:=HB1.out;(go_wp2_with (at_builtin;refine wpList_append_own _ rfl _ _ 27 rfl w.heap.size 57 i1 (.agg #[.int .i64 0,.int .i64 0]) 2 16 Tryz.underlying27 hj hj0 hj1 hj2 rfl (by decide) _ _ _ rfl (hown1.alloc _) ⟨w1.heap.size,0,none⟩ 1 1 [.int .i64 x1,.int .i64 x2] rfl rfl (dB w1 [.int .i64 x1,.int .i64 x2] _ _ rfl) (dO _ _) (by unfold maxLen;omega) (by omega) (by have:=hbw1.size;simp;omega) ?_));intro v' w4 hown4 hgrow hnil;have hb4:Below w.heap.size w w4:=(hbw1.alloc hbw1.size _).grown hgrow (by have:=hbw1.size;simp;omega) (fun k hk=>(hown1.lt k hk).1)
    have HO:Hid (w4.ownsRow w.heap.size 57 2 v' (M++[(x1,x2)]).length (aJ (M++[(x1,x2)]))):=lhid (by
     rw[←aUc,List.length_append]
     exact hown4)
    clear hown4 hgrow hnil hown1 hbw1 y0 y1;(go_wp2_with fail);go_roundw
    case rel=>exact⟨k+1,by omega,by go_num,by rw[HN.out];exact HO.out,hb4⟩
    case measure=>simp[intOf];omega
  ·have hke:k=L.length:=(by omega);subst hke;rw[List.take_length] at hown hflen;have hmem:∀ y,y∈L.filter okV↔y∈L∧okV y=true:=fun y=>List.mem_filter;obtain⟨M,hM⟩:∃ M,L.filter okV=M:=⟨_,rfl⟩;rw[hM] at hown hflen hmem;clear hM;obtain⟨d,hd⟩:=aHt M (fun x hx=>((hmem x).1 hx).2);have hspec:=aTq d L (by rw[hd];exact hmem);by_cases hM0:M=[]
   ·subst hM0
    have hd0:d=[]:=by
     cases d with
     | nil=>rfl
     | cons a t=>exact absurd hd (by simp)
    subst hd0;have hsn:R=[]:=(by rw[←HR.out, ←hspec];simp[compact,compactUpTo]);have hfo:=hown;obtain⟨q,cq,hv,-⟩:=qR hown rfl;subst hv;have H1:=lhid (AnyF.slices_SortFunc_none Tryz.laysSortV q cq (.func (.func 102) #[] #[]));have H2:=lhid (aGb q cq);have HF:=lhid hfo;clear hspec hown hmem hfo;(go_wp2_with fail);refine(H1.out _).mono ?_;rintro e w1 ⟨rfl,rfl⟩;(go_wp2_with fail);refine(H2.out _).mono ?_;rintro e w1 ⟨rfl,rfl⟩;(go_wp2_with fail);go_ret;rw[hsn];exact⟨_,rfl,HF.out,hbw⟩
   ·obtain⟨-,⟨-,hn⟩ | ⟨g,cq,cur,rfl,hgB,hcur,hcq,hcm,hcsz,htk⟩⟩:=id hown
    ·exact absurd (List.eq_nil_of_length_eq_zero hn) hM0
    ·have hH:=aXj hcur hcsz htk;have hdl:d.length=M.length:=(by rw[←hd];simp);rw[←hd] at hH;have hB0:=hbw.size;have H1:=lhid (bAg g (cq*2) cq d wr hH (by omega));rw[hdl] at H1;have HS2:=lhid hspec;have HCm:=lhid hcm;have HGB:=lhid hgB;clear hown hcur htk hcsz hspec hH hcm hgB hB0;(go_wp2_with fail);refine H1.out.mono ?_;rintro e w1 ⟨rfl,hH1,hb1⟩;have hB1:Below w.heap.size w w1:=hbw.trans (hb1.mono HGB.out)
     have hSl:((d.mergeSort leV).map (·.1)).toArray.size=M.length:=by
      rw[List.size_toArray,List.length_map,List.length_mergeSort,hdl]
     have hcl:(compact ((d.mergeSort leV).map (·.1))).length≤((d.mergeSort leV).map (·.1)).length:=compact_length_le _;have H2:=lhid (aJq g (cq*2) cq ((d.mergeSort leV).map (·.1)).toArray w1 hH1 (by omega) (by omega));have HE:Hid (compactUpTo ((d.mergeSort leV).map (·.1)).toArray ((d.mergeSort leV).map (·.1)).toArray.size=R):=lhid (by rw[←HR.out, ←HS2.out];rfl);have hRl:R.length≤M.length:=(by rw[←HR.out, ←HS2.out];rw[List.size_toArray] at hSl;omega);rw[HE.out,hSl] at H2;clear hH1 HE hSl hcl hb1;(go_wp2_with fail);refine H2.out.mono ?_;rintro e w2 ⟨rfl,hH2,hb2⟩;have hB2:Below w.heap.size w w2:=hB1.trans (hb2.mono HGB.out);have hO:=kA.owns hH2 HGB.out (show R.length≤cq by omega) HCm.out rfl;clear hH2 hb2 H2 H1;(go_wp2_with fail);go_ret;exact⟨_,rfl,hO,hB2⟩
end Go.Proofs.YtdfegfagedeilaaGreatDoor

namespace Go.Proofs.YtdfegfagedeilaaGreatDoor
open Go.RowKit Go.Lib Go.Maps Go.WideMaps
def mW (w:World) (b n:Nat) (f:Int→Int):Prop:=
 ∃ D:DataW Unit,w.ownsMap Tryz.prog 3 (plainElem Tryz.prog 3) b n D∧∀ k,(Lit.int .i64 k).wf=true→D.atKey (.int .i64 k) (.lit (.int .i64 0))=.lit (.int .i64 (f k))
theorem bJm (w:World):(zeroValue 3).run Tryz.prog w=.ok (.int .i64 0) w:=by kernel_rfl
theorem mW.at {w w':World} {b n:Nat} {f:Int→Int} (h:mW w b n f) (e:w'.heap[b]? = w.heap[b]?):mW w' b n f:=by
 obtain⟨D,⟨es,clock,hb,r⟩,h2⟩:=h;exact⟨D,⟨es,clock,e.trans hb,r⟩,h2⟩
theorem mW.lt {w:World} {b n:Nat} {f:Int→Int} (h:mW w b n f):b<w.heap.size:=by
 obtain⟨D,h1,-⟩:=h;exact h1.lt
theorem mW.later {w w':World} {b n:Nat} {f:Int→Int} (h:mW w b n f) (hb:Below w.heap.size w w'):mW w' b n f:=h.at (hb.block b h.lt)
theorem mW.kept {w w':World} {row:Option Nat} {b n:Nat} {f:Int→Int} (h:mW w b n f) (hg:w.grownBy w' row) (hne:some b≠row):mW w' b n f:=h.at (hg.block b h.lt hne)
theorem mW.alloc {w:World} {b n:Nat} {f:Int→Int} (h:mW w b n f) (o:Obj):mW (w.alloc o) b n f:=h.kept (World.grownBy_alloc w o none) (by simp)
theorem bMm (w:World):mW (w.alloc (.map #[] 0)) w.heap.size 0 (fun _=>0):=
 ⟨.map [],World.ownsMap_made w _ _ _,fun k _=>by simp[DataW.atKey]⟩
theorem mW.row {w:World} {b n base size m:Nat} {f:Int→Int} {e:TypeId} {v:Value} {xs:List Value} (h:mW w b n f) (ho:w.ownsRow base e size v m xs):v.ownBlock≠some b:=by
 intro he;obtain⟨D,⟨es,clock,hb,r⟩,h2⟩:=h;rcases ho.2 with ⟨rfl,-⟩ | ⟨g,cap,cur,rfl,-,hw,-⟩
 ·cases he
 ·have e1:g=b:=(by simpa [Value.ownBlock] using he);subst e1;rw[hw] at hb;cases hb
set_option maxRecDepth 10000 in
theorem bLn {w:World} {b n:Nat} {f:Int→Int} (h:mW w b n f) (k:Int) (h1k:-9223372036854775808≤k) (h2k:k≤9223372036854775807):(Instr.lookup 68 (.map (some b)) (.int .i64 k) false).run Tryz.prog w=.ok (.int .i64 (f k)) w:=by
 obtain⟨D,h1,h2⟩:=h;have hk:(Lit.int .i64 k).wf=true:=WalkArith.wf_i64 (by omega);obtain⟨c,hr,hat,-⟩:=h1.lookup_int (int_keyed Tryz.underlying3) Tryz.underlying68 Tryz.underlying3 (bJm w) (keyOf_int_mk Tryz.underlying3 hk)
 have e:f k=c:=by
  have:=(h2 k hk).symm.trans hat;injection this with this;injection this
 rw[e];exact hr
set_option maxRecDepth 10000 in
theorem bMn {w:World} {b n:Nat} {f:Int→Int} (h:mW w b n f) (hn:n<maxLen) (k c:Int) (h1k:-9223372036854775808≤k) (h2k:k≤9223372036854775807) (h1c:-9223372036854775808≤c) (h2c:c≤9223372036854775807) :
  ∃ w',(Instr.mapUpdate 68 (.map (some b)) (.int .i64 k) (.int .i64 c)).run Tryz.prog w=.ok () w'∧mW w' b (n+1) (fun j=>if j=k then c else f j)∧w.mapTurned w' b:=by
 obtain⟨D,h1,h2⟩:=h;have hk:(Lit.int .i64 k).wf=true:=WalkArith.wf_i64 (by omega);obtain⟨w',r1,r2,r3⟩:=h1.store (int_keyed Tryz.underlying3) Tryz.underlying68 hn (keyOf_int_mk Tryz.underlying3 hk) (plainElem_int Tryz.underlying3 (WalkArith.wf_i64 (n:=c) (by omega)));refine⟨w',r1,⟨_,r2,fun j hj=>?_⟩,r3⟩;dsimp only;by_cases e:j=k
 ·subst e;rw[if_pos rfl];exact atKey_put_same h1.isMap (show WideAt.IsKeyLit (.int .i64 j) from trivial) _ _
 ·rw[if_neg e];rw[atKey_put_other (by intro h;cases h;exact e rfl)];exact h2 j hj
theorem mW.turn {w w':World} {b b' n:Nat} {f:Int→Int} (h:mW w b n f) (ht:w.mapTurned w' b') (hne:b≠b'):mW w' b n f:=h.kept ht.grown (by simpa using hne)
theorem Blk.turn {w w':World} {B b:Nat} {t:TypeId} {cs:List Value} (h:Blk w B t cs) (ht:w.mapTurned w' b):Blk w' B t cs:=h.kept ht.grown (by
 intro e;obtain⟨es,clock,es',clock',hb,-⟩:=ht;have h':w.heap[B]? = some (.cells cs.toArray t (0,0)):=h;have e1:B=b:=(by simpa using e);subst e1;rw[h'] at hb
 cases hb)
end Go.Proofs.YtdfegfagedeilaaGreatDoor

namespace Go.Proofs.YtdfegfagedeilaaGreatDoor
open Go.RowKit Go.Lib
theorem mW.far {w:World} {b n:Nat} {f:Int→Int} (h:mW w b n f) {a:Addr} {t:TypeId} {cs:List Value} (hB:Blk w a.block t cs) (u:Value):mW (w.setCell a u) b n f:=h.at (Below.heap_setCell w a u b (by
 intro e;obtain⟨D,⟨es,clock,hb,r⟩,h2⟩:=h;have h':w.heap[a.block]? = some (.cells cs.toArray t (0,0)):=hB;rw[e,h'] at hb
 cases hb))
end Go.Proofs.YtdfegfagedeilaaGreatDoor

namespace Go.Proofs.YtdfegfagedeilaaGreatDoor
def atW {α:Type} [BEq α] (t:List α) (v:α):Nat:=t.findIdx (· == v)
section
variable {α:Type}
def dI:List (List α)→Nat
 | []=>1
 | t::ts=>t.length*dI ts
def InV:List (List α)→List α→Prop
 | [],[]=>True
 | t::ts,v::vs=>v∈t∧InV ts vs
 | _,_=>False
theorem InV.len:∀ {ts:List (List α)} {vs:List α},InV ts vs→vs.length=ts.length
 | [],[],_=>rfl
 | _::_,_::_,h=>by rw[List.length_cons,List.length_cons,InV.len h.2]
theorem InV.first (d:α):∀ {ts:List (List α)},(∀ t∈ts,t≠[])→InV ts (ts.map fun t=>t.getD 0 d)
 | [],_=>trivial
 | t::ts,h=>by
  refine⟨?_,InV.first d fun t ht=>h t (List.mem_cons_of_mem _ ht)⟩;have h1:0<t.length:=List.length_pos_iff.2 (h t (List.mem_cons_self ..));show t.getD 0 d∈t;rw[show t.getD 0 d=t[0] by simp[h1]];exact List.getElem_mem h1
end
section
variable {α:Type} [BEq α] [LawfulBEq α]
theorem zN {t:List α} {v:α}:atW t v<t.length↔v∈t:=by
 unfold atW;rw[List.findIdx_lt_length];constructor
 ·rintro⟨x,hx,e⟩;rw[←eq_of_beq e];exact hx
 ·intro h;exact⟨v,h,beq_self_eq_true v⟩
theorem aJo {t:List α} {v:α} (d:α) (h:v∈t):t.getD (atW t v) d=v:=by
 have h1:=zN.2 h;have h2:(t[atW t v]==v)=true:=List.findIdx_getElem (p:=(· == v)) (w:=h1);rw[show t.getD (atW t v) d=t[atW t v] by simp[h1]];exact eq_of_beq h2
theorem bJv {t:List α} (hn:t.Nodup) (k:Nat) (hk:k<t.length):atW t t[k]=k:=by
 have h1:atW t t[k]<t.length:=zN.2 (List.getElem_mem hk);have h2:(t[atW t t[k]]==t[k])=true:=List.findIdx_getElem (p:=(· == t[k])) (w:=h1);exact(List.getElem_inj hn).1 (eq_of_beq h2)
def lB:List (List α)→List α→Nat
 | t::ts,v::vs=>atW t v*dI ts+lB ts vs
 | _,_=>0
theorem vC:∀ {ts:List (List α)} {vs:List α},InV ts vs→lB ts vs<dI ts
 | [],[],_=>by simp[lB,dI]
 | t::ts,v::vs,h=>by
  have h1:=zN.2 h.1;have h2:=vC h.2;show atW t v*dI ts+lB ts vs<t.length*dI ts;have h3:(atW t v+1)*dI ts≤t.length*dI ts:=Nat.mul_le_mul_right _ h1;rw[Nat.add_mul,Nat.one_mul] at h3;omega
def upV (d:α):List (List α)→List α→List α×Bool
 | t::ts,v::vs=>if (upV d ts vs).2 then (v::(upV d ts vs).1,true) else if atW t v+1<t.length then (t.getD (atW t v+1) d::(upV d ts vs).1,true) else (t.getD 0 d::(upV d ts vs).1,false)
 | _,_=>([],false)
theorem sP (d:α):∀ {ts:List (List α)},(∀ t∈ts,t≠[]∧t.Nodup)→lB ts (ts.map fun t=>t.getD 0 d)=0
 | [],_=>rfl
 | t::ts,h=>by
  have h0:=h t (List.mem_cons_self ..);have h1:0<t.length:=List.length_pos_iff.2 h0.1;show atW t (t.getD 0 d)*dI ts+lB ts (ts.map fun t=>t.getD 0 d)=0;rw[show t.getD 0 d=t[0] by simp[h1],bJv h0.2 0 h1,sP d fun t ht=>h t (List.mem_cons_of_mem _ ht)];simp
theorem aVx (d:α):∀ {ts:List (List α)} {vs:List α},(∀ t∈ts,t≠[]∧t.Nodup)→InV ts vs →
  ((upV d ts vs).2=true→InV ts (upV d ts vs).1∧lB ts (upV d ts vs).1=lB ts vs+1)∧((upV d ts vs).2=false→(upV d ts vs).1=(ts.map fun t=>t.getD 0 d)∧lB ts vs+1=dI ts)
 | [],[],_,_=>⟨fun h=>(by cases h),fun _=>⟨rfl,rfl⟩⟩
 | t::ts,v::vs,h,hin=>by
  have h0:=h t (List.mem_cons_self ..);have hts:∀ t∈ts,t≠[]∧t.Nodup:=fun t ht=>h t (List.mem_cons_of_mem _ ht);obtain⟨i1,i2⟩:=aVx d hts hin.2;have hr:=vC hin.2;have hf:=sP d hts;have hfi:=InV.first d (ts:=ts) fun t ht=>(hts t ht).1;unfold upV;by_cases hb:(upV d ts vs).2=true
  ·rw[if_pos hb];refine⟨fun _=>?_,fun e=>by cases e⟩;obtain⟨k1,k2⟩:=i1 hb;exact⟨⟨hin.1,k1⟩,by show _*_+lB ts _=_*_+lB ts vs+1;rw[k2];omega⟩
  ·have hb':(upV d ts vs).2=false:=(by simpa using hb);obtain⟨k1,k2⟩:=i2 hb';rw[if_neg hb];by_cases hk:atW t v+1<t.length
   ·rw[if_pos hk];refine⟨fun _=>?_,fun e=>by cases e⟩;have e1:t.getD (atW t v+1) d=t[atW t v+1]:=(by simp[hk]);refine⟨⟨by show t.getD _ d∈t;rw[e1];exact List.getElem_mem hk,by rw[k1];exact hfi⟩,?_⟩;show atW t (t.getD (atW t v+1) d)*dI ts+lB ts (upV d ts vs).1=atW t v*dI ts+lB ts vs+1;rw[e1,bJv h0.2 _ hk,k1,hf,Nat.add_mul];omega
   ·rw[if_neg hk];refine⟨fun e=>(by cases e),fun _=>⟨by rw[k1];rfl,?_⟩⟩;have h1:=zN.2 hin.1;show atW t v*dI ts+lB ts vs+1=t.length*dI ts;have:t.length=atW t v+1:=(by omega);rw[this,Nat.add_mul];omega
end
def gX:List Bool→Nat
 | []=>0
 | c::cs=>(if c then 2 ^ cs.length else 0)+gX cs
def upF:List Bool→List Bool×Bool
 | []=>([],false)
 | c::cs=>if (upF cs).2 then (c::(upF cs).1,true) else if c then (false::(upF cs).1,false) else (true::(upF cs).1,true)
theorem sT:∀ c:List Bool,(upF c).1.length=c.length
 | []=>rfl
 | c::cs=>by
  unfold upF;have:=sT cs;by_cases h:(upF cs).2=true
  ·rw[if_pos h,List.length_cons,List.length_cons,this]
  ·rw[if_neg h];cases c<;>simp[this]
theorem uA:∀ c:List Bool,gX c<2 ^ c.length
 | []=>by simp[gX]
 | c::cs=>by
  have:=uA cs;unfold gX;rw[List.length_cons,Nat.pow_succ];split<;>omega
theorem aPp:∀ c:List Bool,((upF c).2=true→gX (upF c).1=gX c+1)∧((upF c).2=false→gX (upF c).1=0∧gX c+1=2 ^ c.length)
 | []=>⟨fun h=>(by cases h),fun _=>⟨rfl,rfl⟩⟩
 | c::cs=>by
  obtain⟨h1,h2⟩:=aPp cs;have hl:=sT cs;unfold upF;by_cases h:(upF cs).2=true
  ·rw[if_pos h];refine⟨fun _=>?_,fun e=>by cases e⟩;have:=h1 h;simp only[gX,hl];omega
  ·have h':(upF cs).2=false:=(by simpa using h);obtain⟨k1,k2⟩:=h2 h';rw[if_neg h]
   cases c with
   | true=>
    rw[if_pos rfl];refine⟨fun e=>(by cases e),fun _=>?_⟩;simp only[gX,hl,k1,List.length_cons,Nat.pow_succ];simp;omega
   | false=>
    rw[if_neg (by simp)];refine⟨fun _=>?_,fun e=>by cases e⟩;simp only[gX,hl,k1];simp;omega
theorem zC:∀ {c d:List Bool},c.length=d.length→gX c=gX d→c=d
 | [],[],_,_=>rfl
 | [],_::_,h,_=>by simp at h
 | _::_,[],h,_=>by simp at h
 | c::cs,d::ds,h,e=>by
  have hl:cs.length=ds.length:=(by simpa using h);have h1:=uA cs;have h2:=uA ds;simp only[gX,hl] at e h1;have hcd:c=d:=(by cases c<;>cases d<;>simp at e ⊢<;>omega);subst hcd;rw[zC hl (by omega)]
def qG:Nat→Nat→List Bool
 | 0,_=>[]
 | m+1,k=>decide (2 ^ m≤k)::qG m (if 2 ^ m≤k then k-2 ^ m else k)
theorem yB:∀ m k,(qG m k).length=m
 | 0,_=>rfl
 | m+1,k=>by rw[qG,List.length_cons,yB]
theorem vY:∀ m k,k<2 ^ m→gX (qG m k)=k
 | 0,k,h=>by simp[gX,qG] at *;omega
 | m+1,k,h=>by
  rw[Nat.pow_succ] at h;unfold qG gX;rw[yB];by_cases hk:2 ^ m≤k
  ·rw[if_pos (by simpa using hk),if_pos hk,vY m _ (by omega)];omega
  ·rw[if_neg (by simpa using hk),if_neg hk,vY m _ (by omega)];omega
theorem wN (c:List Bool):qG c.length (gX c)=c:=
 zC (yB _ _) (vY _ _ (uA c))
section
variable {α:Type}
def nZ (m:Nat) (T:List Bool→List (List α)) (k:Nat):Nat:=((List.range k).map fun j=>dI (T (qG m j))).sum
theorem nM (m:Nat) (T:List Bool→List (List α)) (k:Nat):nZ m T (k+1)=nZ m T k+dI (T (qG m k)):=by
 unfold nZ;rw[List.range_succ,List.map_append,List.sum_append];simp
def aQj (m:Nat) (T:List Bool→List (List α)):Nat:=nZ m T (2 ^ m)
end
section
variable {α:Type} [BEq α] [LawfulBEq α]
def pV (T:List Bool→List (List α)) (c:List Bool) (vs:List α):Nat:=nZ c.length T (gX c)+lB (T c) vs
def goE (d:α) (T:List Bool→List (List α)) (c:List Bool) (vs:List α):(List Bool×List α)×Bool:=
 if (upV d (T c) vs).2 then ((c,(upV d (T c) vs).1),true) else if (upF c).2 then (((upF c).1,(T (upF c).1).map fun t=>t.getD 0 d),true) else (([],[]),false)
theorem aUu (d:α) (T:List Bool→List (List α)) (hT:∀ c,∀ t∈T c,t≠[]∧t.Nodup) (c:List Bool) (vs:List α) (h:InV (T c) vs) :
  ((goE d T c vs).2=true→(goE d T c vs).1.1.length=c.length∧InV (T (goE d T c vs).1.1) (goE d T c vs).1.2∧pV T (goE d T c vs).1.1 (goE d T c vs).1.2=pV T c vs+1)∧((goE d T c vs).2=false→pV T c vs+1=aQj c.length T):=by
 obtain⟨h1,h2⟩:=aVx d (hT c) h;obtain⟨f1,f2⟩:=aPp c;unfold goE;by_cases hb:(upV d (T c) vs).2=true
 ·rw[if_pos hb];obtain⟨k1,k2⟩:=h1 hb;refine⟨fun _=>⟨rfl,k1,?_⟩,fun e=>by cases e⟩;show nZ c.length T (gX c)+lB (T c) (upV d (T c) vs).1=nZ c.length T (gX c)+lB (T c) vs+1;rw[k2];omega
 ·have hb':(upV d (T c) vs).2=false:=(by simpa using hb);obtain⟨-,k2⟩:=h2 hb';rw[if_neg hb]
  have hnext:nZ c.length T (gX c+1)=pV T c vs+1:=by
   rw[nM,wN];unfold pV;omega
  by_cases hf:(upF c).2=true
  ·rw[if_pos hf];refine⟨fun _=>⟨sT c,InV.first d fun t ht=>(hT _ t ht).1,?_⟩,fun e=>by cases e⟩;show nZ (upF c).1.length T (gX (upF c).1)+lB _ _=_;rw[sP d (hT _),sT,f1 hf,hnext]
  ·have hf':(upF c).2=false:=(by simpa using hf);obtain⟨-,k3⟩:=f2 hf';rw[if_neg hf];refine⟨fun e=>(by cases e),fun _=>?_⟩;unfold aQj;rw[←k3,hnext]
end
end Go.Proofs.YtdfegfagedeilaaGreatDoor

namespace Go.Proofs.YtdfegfagedeilaaGreatDoor
def oJ:Nat→(List Bool→Nat)→Nat
 | 0,f=>f []
 | m+1,f=>oJ m (fun c=>f (false::c))+oJ m (fun c=>f (true::c))
theorem aPj (m:Nat) (k:Nat):∀ (f:List Bool→Nat),oJ m (fun c=>k*f c)=k*oJ m f:=by
 induction m with
 | zero=>intro f;rfl
 | succ m ih=>
  intro f;simp only[oJ];rw[ih,ih,Nat.mul_add]
theorem oM (m:Nat):∀ (f g:List Bool→Nat),(∀ c,c.length=m→f c=g c)→oJ m f=oJ m g:=by
 induction m with
 | zero=>intro f g h;exact h [] rfl
 | succ m ih=>
  intro f g h;simp only[oJ];rw[ih _ _ (fun c hc=>h (false::c) (by simp[hc])),ih _ _ (fun c hc=>h (true::c) (by simp[hc]))]
def aBq:Nat→Nat→List Bool
 | 0,_=>[]
 | m+1,k=>(k % 2==1)::aBq m (k / 2)
theorem aWg:∀ m k,(aBq m k).length=m
 | 0,_=>rfl
 | m+1,k=>by rw[aBq,List.length_cons,aWg]
theorem bIz (n:Nat) (f:Nat→Nat):((List.range (2*n)).map f).sum=((List.range n).map fun j=>f (2*j)+f (2*j+1)).sum:=by
 induction n with
 | zero=>rfl
 | succ n ih=>
  rw[show 2*(n+1)=2*n+1+1 by omega,List.range_succ,List.range_succ,List.range_succ,List.map_append,List.map_append,List.map_append,List.sum_append,List.sum_append,List.sum_append,ih];simp;omega
theorem bFo (n:Nat) (f g:Nat→Nat):((List.range n).map fun j=>f j+g j).sum=((List.range n).map f).sum+((List.range n).map g).sum:=by
 induction n with
 | zero=>rfl
 | succ n ih=>
  simp only[List.range_succ,List.map_append,List.sum_append,ih,List.map_cons,List.map_nil,List.sum_cons,List.sum_nil];omega
theorem aIx:∀ (m:Nat) (f:List Bool→Nat),((List.range (2 ^ m)).map fun j=>f (aBq m j)).sum=oJ m f
 | 0,f=>by simp[oJ,aBq]
 | m+1,f=>by
  rw[show 2 ^ (m+1)=2*2 ^ m by rw[Nat.pow_succ];omega,bIz,bFo];simp only[oJ];rw[←aIx m (fun c=>f (false::c)), ←aIx m (fun c=>f (true::c))];congr 2
  ·refine List.map_congr_left fun j _=>?_;simp only[aBq];rw[show 2*j / 2=j by omega,show(2*j % 2==1)=false by simp]
  ·refine List.map_congr_left fun j _=>?_;simp only[aBq];rw[show(2*j+1) / 2=j by omega,show((2*j+1) % 2==1)=true by rw[beq_iff_eq];omega]
theorem bAm (a b:Nat) (f:Nat→Nat):((List.range (a+b)).map f).sum=((List.range a).map f).sum+((List.range b).map fun j=>f (a+j)).sum:=by
 induction b with
 | zero=>simp
 | succ b ih=>
  rw[show a+(b+1)=a+b+1 by omega,List.range_succ,List.map_append,List.sum_append,ih,List.range_succ (n:=b),List.map_append,List.sum_append];simp;omega
theorem zE:∀ (m:Nat) (f:List Bool→Nat),((List.range (2 ^ m)).map fun j=>f (qG m j)).sum=oJ m f
 | 0,f=>by simp[oJ,qG]
 | m+1,f=>by
  rw[show 2 ^ (m+1)=2 ^ m+2 ^ m by rw[Nat.pow_succ];omega,bAm];simp only[oJ];rw[←zE m (fun c=>f (false::c)), ←zE m (fun c=>f (true::c))];congr 2
  ·refine List.map_congr_left fun j hj=>?_;have hj':j<2 ^ m:=List.mem_range.1 hj;simp only[qG];rw[if_neg (by omega),decide_eq_false (by omega)]
  ·refine List.map_congr_left fun j _=>?_;simp only[qG];rw[if_pos (by omega),decide_eq_true (by omega),show 2 ^ m+j-2 ^ m=j by omega]
theorem bGu {α:Type} (m:Nat) (T:List Bool→List (List α)):aQj m T=oJ m (fun c=>dI (T c)):=zE m (fun c=>dI (T c))
def nN (n:Nat):Nat:=min n 1000000
theorem bGy (a b:Nat):nN (nN a*b)=nN (a*b):=by
 unfold nN;by_cases h:a≤1000000
 ·rw[Nat.min_eq_left h]
 ·have h1:min a 1000000=1000000:=(by omega);rw[h1];rcases Nat.eq_zero_or_pos b with rfl | hb
  ·simp
  ·have e1:1000000≤1000000*b:=Nat.le_mul_of_pos_right _ hb;have e2:1000000≤a*b:=Nat.le_trans (by omega:1000000≤a) (Nat.le_mul_of_pos_right _ hb);rw[Nat.min_eq_right e1,Nat.min_eq_right e2]
theorem bLz (a b:Nat):nN (a*nN b)=nN (a*b):=by rw[Nat.mul_comm,bGy,Nat.mul_comm]
theorem bMu (a b:Nat):nN (nN a+b)=nN (a+b):=by unfold nN;omega
theorem bLy (a b:Nat):nN (a+nN b)=nN (a+b):=by unfold nN;omega
theorem bMa (a s:Nat) (ha:0<a):nN (a*(nN s+1))=nN (a*(s+1)):=by
 by_cases h:s≤1000000
 ·rw[show nN s=s by unfold nN;omega]
 ·have h1:nN s=1000000:=(by unfold nN;omega);rw[h1];have e1:1000000≤a*(1000000+1):=Nat.le_trans (by omega) (Nat.le_mul_of_pos_left _ ha);have e2:1000000≤a*(s+1):=Nat.le_trans (by omega:1000000≤s+1) (Nat.le_mul_of_pos_left _ ha);unfold nN;rw[Nat.min_eq_right e1,Nat.min_eq_right e2]
def lW:List (Int×Nat)→List Bool→Nat
 | [],_=>1
 | (f,s)::r,c=>if f=1 then s*lW r c else if f=3 then (if c.headD false then s else 1)*lW r c.tail else lW r c
def aVz (x:Int×Nat):Nat:=if x.1=1 then x.2 else if x.1=3 then x.2+1 else 1
def aVo (l:List (Int×Nat)):Nat:=(l.map aVz).prod
theorem aIy:∀ l:List (Int×Nat),oJ (l.filter fun x=>x.1==3).length (lW l)=aVo l
 | []=>rfl
 | (f,s)::r=>by
  have ih:=aIy r;unfold aVo at *;rw[List.map_cons,List.prod_cons,List.filter_cons];by_cases h1:f=1
  ·subst h1;rw[if_neg (by simp),oM _ _ (fun c=>s*lW r c) (fun c _=>by simp[lW]),aPj,ih];simp[aVz]
  ·by_cases h3:f=3
   ·subst h3;rw[if_pos (by simp),List.length_cons];simp only[oJ];rw[oM _ (fun c=>lW ((3,s)::r) (false::c)) (lW r) (fun c _=>by simp[lW]),oM _ (fun c=>lW ((3,s)::r) (true::c)) (fun c=>s*lW r c) (fun c _=>by simp[lW]),aPj,ih];simp only[aVz];rw[if_neg (by decide),if_pos trivial,Nat.add_mul];omega
   ·rw[if_neg (by simp[h3]),oM _ _ (lW r) (fun c _=>by simp[lW,h1,h3]),ih];simp[aVz,h1,h3]
end Go.Proofs.YtdfegfagedeilaaGreatDoor

namespace Go.Proofs.YtdfegfagedeilaaGreatDoor
open Go.RowKit Go.Lib
def tQ (key:Int) (t:bB):Option aR:=if (t.2.1 != 2)&&(dL key t.2.2).2 then some (dL key t.2.2).1 else none
def dW (T:List bB) (x:Nat) (key:Int) (k:Nat):List aR:=((List.range k).filter fun i=>i != x).filterMap fun i=>tQ key (T.getD i aM)
theorem aDd (T:List bB) (x:Nat) (key:Int) (k:Nat):dW T x key (k+1)=dW T x key k++(if k=x then [] else (tQ key (T.getD k aM)).toList):=by
 unfold dW;rw[List.range_succ,List.filter_append,List.filterMap_append];congr 1;by_cases h:k=x
 ·subst h;simp
 ·rw[if_neg h];have:(k != x)=true:=(by simpa using h);simp only[List.filter_cons,this,if_true,List.filter_nil]
  cases hq:tQ key (T.getD k aM) with
  | none=>rw[List.filterMap_cons_none (by exact hq)];rfl
  | some v=>rw[List.filterMap_cons_some (by exact hq)];rfl
theorem aNa (key:Int) (t:bB) (v:aR):tQ key t=some v↔dU key t=true∧v=(dL key t.2.2).1:=by
 unfold tQ dU;rw[bIu];by_cases h:((t.2.1 != 2)&&t.2.2.any (wrO key))=true
 ·rw[if_pos h];constructor
  ·intro e;injection e with e;exact⟨h,e.symm⟩
  ·rintro⟨-,rfl⟩;rfl
 ·rw[if_neg h];constructor
  ·intro e;cases e
  ·rintro⟨e,-⟩;exact absurd e h
theorem aYl (T:List bB) (x:Nat) (key:Int) (k:Nat) (v:aR):v∈dW T x key k↔∃ i,i<k∧i≠x∧dU key (T.getD i aM)=true∧v=(dL key (T.getD i aM).2.2).1:=by
 unfold dW;rw[List.mem_filterMap];constructor
 ·rintro⟨i,hi,e⟩;rw[List.mem_filter,List.mem_range] at hi;obtain⟨e1,e2⟩:=(aNa _ _ _).1 e;exact⟨i,hi.1,by simpa using hi.2,e1,e2⟩
 ·rintro⟨i,h1,h2,h3,h4⟩;exact⟨i,by rw[List.mem_filter,List.mem_range];exact⟨h1,by simpa using h2⟩,(aNa _ _ _).2 ⟨h3,h4⟩⟩
theorem yT (T:List bB) (x:Nat) (key:Int) (k:Nat):(dW T x key k).length≤k:=by
 induction k with
 | zero=>simp[dW]
 | succ k ih=>
  rw[aDd,List.length_append]
  have:(if k=x then [] else (tQ key (T.getD k aM)).toList).length≤1:=by
   split
   ·simp
   ·cases tQ key (T.getD k aM)<;>simp
  omega
def aEb (h:aI) (p:dK):OpM:=(h.2.2.getD p.1 aM).2.2.getD p.2 cG
def gW (h:aI) (p:dK):Int:=(aEb h p).2.1
def jE (h:aI) (p:dK):List aR:=cH (aN::dW h.2.2 p.1 (gW h p) h.2.2.length)
def jK (T:List bB) (key n:Int):Bool:=T.any fun t=>t.2.2.any fun o=>wrO key o&&o.2.2.2==n
theorem zL (T:List bB) (key n:Int):jK T key n=true↔∃ o∈T.flatMap (·.2.2),wrO key o=true∧o.2.2.2=n:=by
 unfold jK;rw[List.any_eq_true];constructor
 ·rintro⟨t,ht,h⟩;obtain⟨o,ho,h2⟩:=List.any_eq_true.1 h;rw[Bool.and_eq_true,beq_iff_eq] at h2;exact⟨o,List.mem_flatMap.2 ⟨t,ht,ho⟩,h2⟩
 ·rintro⟨o,ho,h2⟩;obtain⟨t,ht,ho⟩:=List.mem_flatMap.1 ho;exact⟨t,ht,List.any_eq_true.2 ⟨o,ho,by rw[Bool.and_eq_true,beq_iff_eq];exact h2⟩⟩
theorem wH {α:Type} [DecidableEq α] {l m:List α} (hd:l.Nodup) (hs:∀ x∈l,x∈m):l.length≤m.length:=by
 induction l generalizing m with
 | nil=>exact Nat.zero_le _
 | cons a l ih=>
  rw[List.nodup_cons] at hd;have ha:=hs a (List.mem_cons_self ..);have h1:=ih hd.2 (m:=m.erase a) (fun x hx=>(List.mem_erase_of_ne (fun (e:x=a)=>hd.1 (by rw[←e];exact hx))).2 (hs x (List.mem_cons_of_mem _ hx)));rw[List.length_erase_of_mem ha] at h1;have:=List.length_pos_of_mem ha;rw[List.length_cons];omega
theorem bCt (T:List bB) (key:Int):∃ n:Nat,n≤(T.flatMap (·.2.2)).length∧jK T key (n:Int)=false:=by
 refine Classical.byContradiction fun hno=>?_
 have h1:∀ n:Nat,n≤(T.flatMap (·.2.2)).length→jK T key (n:Int)=true:=fun n hn=>by
  cases hq:jK T key (n:Int) with
  | true=>rfl
  | false=>exact absurd ⟨n,hn,hq⟩ hno
 have h2:((List.range ((T.flatMap (·.2.2)).length+1)).map fun n:Nat=>(n:Int)).Nodup:=by
  rw[List.nodup_iff_pairwise_ne,List.pairwise_map];exact List.pairwise_lt_range.imp fun {a b} hab e=>by omega
 have h3:=wH (m:=(T.flatMap (·.2.2)).map fun o=>o.2.2.2) h2 (fun x hx=>by
  obtain⟨n,hn,rfl⟩:=List.mem_map.1 hx;obtain⟨o,ho,-,e⟩:=(zL T key n).1 (h1 n (by have:=List.mem_range.1 hn;omega))
  exact List.mem_map.2 ⟨o,ho,e⟩)
 rw[List.length_map,List.length_range,List.length_map] at h3;omega
def lT (T:List bB) (key:Int):Nat→Nat→Nat
 | 0,k=>k
 | m+1,k=>if jK T key (k:Int) then lT T key m (k+1) else k
def kI (T:List bB) (key:Int):Nat:=lT T key ((T.flatMap (·.2.2)).length) 0
theorem aCs (T:List bB) (key:Int):∀ m k,(∃ n:Nat,k≤n∧n≤k+m∧jK T key (n:Int)=false)→jK T key (lT T key m k:Nat)=false∧k≤lT T key m k∧lT T key m k≤k+m∧∀ j:Nat,k≤j→j<lT T key m k→jK T key (j:Int)=true
 | 0,k,⟨n,h1,h2,h3⟩=>by
  obtain rfl:n=k:=(by omega);exact⟨h3,Nat.le_refl _,Nat.le_refl _,fun j hj hk=>by simp only[lT] at hk;omega⟩
 | m+1,k,⟨n,h1,h2,h3⟩=>by
  unfold lT
  cases hw:jK T key (k:Int) with
  | false=>
   rw[if_neg (by simp)];exact⟨hw,Nat.le_refl _,by omega,fun j hj hk=>by omega⟩
  | true=>
   rw[if_pos rfl];have hkn:n≠k:=fun e=>(by rw[e,hw] at h3;cases h3);obtain⟨i1,i2,i3,i4⟩:=aCs T key m (k+1) ⟨n,by omega,by omega,h3⟩;refine⟨i1,by omega,by omega,fun j hj hk=>?_⟩;by_cases e:j=k
   ·rw[e];exact hw
   ·exact i4 j (by omega) hk
theorem oA (T:List bB) (key:Int):jK T key (kI T key:Nat)=false∧kI T key≤(T.flatMap (·.2.2)).length∧∀ j:Nat,j<kI T key→jK T key (j:Int)=true:=by
 obtain⟨n,hn,hw⟩:=bCt T key;obtain⟨h1,-,h3,h4⟩:=aCs T key ((T.flatMap (·.2.2)).length) 0 ⟨n,Nat.zero_le _,by omega,hw⟩;exact⟨h1,by unfold kI;omega,fun j hj=>h4 j (Nat.zero_le _) hj⟩
theorem aXa (T:List bB) (key:Int) (n:Nat) (h:jK T key (n:Int)=false) (hb:∀ j:Nat,j<n→jK T key (j:Int)=true):kI T key=n:=by
 obtain⟨h1,-,h3⟩:=oA T key;rcases Nat.lt_trichotomy (kI T key) n with q | q | q
 ·rw[hb _ q] at h1;cases h1
 ·exact q
 ·rw[h3 _ q] at h;cases h
def tJ (h:aI) (key:Int):aR:=(1,(kI h.2.2 key:Nat))
def nB (h:aI) (p:dK) (c:Bool):List aR:=if c then (if (nE h p.1 p.2).2 then [(nE h p.1 p.2).1] else jE h p)++[tJ h (gW h p)] else [aN]
def bD (h:aI) (f:List Bool):List (List aR):=(cY h).map fun p=>nB h p ((aL h.2.2 f).getD p.1 false)
theorem qU (h:aI) (f:List Bool):(bD h f).length=(cY h).length:=by simp[bD]
def sA (h:aI) (f:List Bool):bK:=(f,(bD h f).map fun t=>t.getD 0 aN)
def oW (h:aI):bK:=sA h (List.replicate (cA aP h).length false)
def nX (h:aI) (w:bK):Prop:=kX h w=true∧InV (bD h w.1) w.2
open Classical in
noncomputable def mB (h:aI) (w:bK):bK×Bool:=if nX h w then goE aN (bD h) w.1 w.2 else (([],[]),false)
theorem aOo (key:Int) (l:List OpM) (h:(dL key l).2=true):∃ o∈l,wrO key o=true∧(dL key l).1=o.2.2:=by
 have key2:∀ k,k≤l.length→(dL key (l.take k)).2=true→∃ o∈l,wrO key o=true∧(dL key (l.take k)).1=o.2.2:=by
  intro k
  induction k with
  | zero=>intro _ h;simp[dL,vI] at h
  | succ k ih=>
   intro hk h;rw[xK key l k (by omega)] at h ⊢;by_cases hw:wrO key (l.getD k cG)=true
   ·rw[if_pos hw];refine⟨l.getD k cG,?_,hw,rfl⟩;rw[show l.getD k cG=l[k] by simp[show k<l.length by omega]];exact List.getElem_mem _
   ·rw[if_neg hw] at h ⊢;exact ih (by omega) h
 have:=key2 l.length (Nat.le_refl _);rw[List.take_length] at this;exact this h
theorem aYk {key:Int} {t:bB} {v:aR} (h:tQ key t=some v):∃ o∈t.2.2,wrO key o=true∧v=o.2.2:=by
 unfold tQ at h;split at h
 ·rename_i hc;rw[Bool.and_eq_true] at hc;obtain⟨o,ho,h1,h2⟩:=aOo key t.2.2 hc.2;injection h with h;exact⟨o,ho,h1,by rw[←h,h2]⟩
 ·cases h
def xY (h:aI) (key:Int) (v:aR):Prop:=v.1=1∧jK h.2.2 key v.2=true
theorem aQa {h:aI} (hm:qD h) {key:Int} {o:OpM} (ho:o∈bU h) (hw:wrO key o=true):xY h key o.2.2:=by
 have h1:=hm.op o ho;unfold jS at h1;simp only[Bool.and_eq_true,Bool.or_eq_true,Bool.not_eq_true',beq_iff_eq] at h1;have hw':=hw;unfold wrO at hw';rw[Bool.and_eq_true] at hw';refine⟨?_,(zL _ _ _).2 ⟨o,ho,hw,rfl⟩⟩;rcases h1.2.2 with q | q
 ·rw[hw'.1] at q;cases q
 ·exact q
theorem aNb {h:aI} (hm:qD h) {x:Nat} {key:Int} {v:aR} (hv:v∈dW h.2.2 x key h.2.2.length):xY h key v:=by
 unfold dW at hv;obtain⟨i,hi,e⟩:=List.mem_filterMap.1 hv;have hi':i<h.2.2.length:=List.mem_range.1 (List.mem_filter.1 hi).1;obtain⟨o,ho,hw,rfl⟩:=aYk e;refine aQa hm (o:=o) (List.mem_flatMap.2 ⟨_,?_,ho⟩) hw;rw[show h.2.2.getD i aM=h.2.2[i] by simp[hi']];exact List.getElem_mem hi'
theorem aIm {h:aI} (hm:qD h) {p:dK} (hp:(nE h p.1 p.2).2=true):xY h (gW h p) (nE h p.1 p.2).1:=by
 have hmb:cZ h=true:=(dA h).2 hm;unfold nE at hp ⊢;by_cases hc:(0:Int)≤(p.2:Int)∧(p.2:Int)<((lL h (p.1:Int)).length:Int)
 ·have hc':(0:Int)≤(p.2:Int)∧(p.2:Int)<(lL h (p.1:Int)).length:=hc;rw[if_pos hc'] at hp ⊢
  have hlt:p.1<h.2.2.length:=by
   refine Classical.byContradiction fun q=>?_;rw[vB (p.1:Int) (by omega)] at hc;simp at hc;omega
  have e1:lL h (p.1:Int)=(h.2.2.getD p.1 aM).2.2:=qN hmb p.1 hlt;have e2:(((p.2:Nat):Int)).toNat=p.2:=(by simp);rw[e1,e2] at hp ⊢;obtain⟨o,ho,hw,e⟩:=aOo _ _ hp;rw[e];refine aQa hm (o:=o) (List.mem_flatMap.2 ⟨_,?_,List.mem_of_mem_take ho⟩) hw;rw[show h.2.2.getD p.1 aM=h.2.2[p.1] by simp[hlt]];exact List.getElem_mem hlt
 ·rw[if_neg hc] at hp;cases hp
theorem aAj {h:aI} {key:Int} {v:aR} (hv:xY h key v):v≠tJ h key:=fun e=>by
 have h1:=(oA h.2.2 key).1;have h2:=hv.2;rw[e] at h2;rw[show(tJ h key).2=((kI h.2.2 key:Nat):Int) from rfl,h1] at h2;cases h2
theorem aQb {h:aI} {key:Int} {v:aR} (hv:xY h key v):cF v=true:=by
 unfold cF;rw[hv.1];rfl
theorem bCu (h:aI) (key:Int):cF (tJ h key)=true:=rfl
theorem aFo {h:aI} (hm:qD h) {p:dK} {v:aR} (hv:v∈jE h p):v=aN∨xY h (gW h p) v:=by
 have h1:=((kZ _).2 v).1 hv;rcases List.mem_cons.1 h1.1 with e | e
 ·exact .inl e
 ·exact .inr (aNb hm e)
theorem aKx (h:aI) (p:dK):(jE h p).Nodup:=(kZ _).1.imp fun {a b} hab e=>by
 subst e;rw[mS] at hab;cases hab
theorem aTz (h:aI) (p:dK) (c:Bool):nB h p c≠[]:=by
 unfold nB;cases c<;>simp
theorem bLj {h:aI} (hm:qD h) (p:dK) (c:Bool):∀ v∈nB h p c,cF v=true:=by
 intro v hv;unfold nB at hv
 cases c with
 | false=>
  obtain rfl:v=aN:=(by simpa using hv);rfl
 | true=>
  rw[if_pos rfl] at hv;rcases List.mem_append.1 hv with hv | hv
  ·by_cases ho:(nE h p.1 p.2).2=true
   ·rw[if_pos ho] at hv;obtain rfl:v=(nE h p.1 p.2).1:=(by simpa using hv);exact aQb (aIm hm ho)
   ·rw[if_neg ho] at hv;rcases aFo hm hv with rfl | q
    ·rfl
    ·exact aQb q
  ·obtain rfl:v=tJ h (gW h p):=(by simpa using hv);exact bCu _ _
theorem bAt {h:aI} (hm:qD h) (p:dK) (c:Bool):(nB h p c).Nodup:=by
 unfold nB
 cases c with
 | false=>simp
 | true=>
  rw[if_pos rfl,List.nodup_append];refine⟨?_,by simp,?_⟩
  ·split
   ·simp
   ·exact aKx h p
  ·intro v hv u hu e;obtain rfl:u=tJ h (gW h p):=(by simpa using hu);subst e;by_cases ho:(nE h p.1 p.2).2=true
   ·rw[if_pos ho] at hv;have e2:tJ h (gW h p)=(nE h p.1 p.2).1:=(by simpa using hv);exact aAj (aIm hm ho) e2.symm
   ·rw[if_neg ho] at hv;rcases aFo hm hv with q | q
    ·have:=congrArg Prod.fst q;simp[tJ,aN] at this
    ·exact aAj q rfl
theorem sS {h:aI} (hm:qD h) (f:List Bool):∀ t∈bD h f,t≠[]∧t.Nodup:=by
 intro t ht;obtain⟨p,-,rfl⟩:=List.mem_map.1 ht;exact⟨aTz h p _,bAt hm p _⟩
theorem bJx:∀ {ts:List (List aR)} {vs:List aR},InV ts vs→(∀ t∈ts,∀ v∈t,cF v=true)→vs.all cF=true
 | [],[],_,_=>rfl
 | t::ts,v::vs,h,k=>by
  rw[List.all_cons,k t (List.mem_cons_self ..) v h.1,bJx h.2 fun t ht=>k t (List.mem_cons_of_mem _ ht)];rfl
theorem aHz {h:aI} (hm:cZ h=true) {f:List Bool} {vs:List aR} (hf:f.length=(cA aP h).length) (hv:InV (bD h f) vs):nX h (f,vs):=by
 refine⟨?_,hv⟩;unfold kX
 rw[hm,decide_eq_true hf,decide_eq_true (by rw[hv.len,qU]:vs.length=(cY h).length),bJx hv fun t ht v hv=>by
  obtain⟨p,-,rfl⟩:=List.mem_map.1 ht
  exact bLj ((dA h).1 hm) p _ v hv]
 rfl
theorem pC {h:aI} {w:bK} (hw:nX h w):cZ h=true∧w.1.length=(cA aP h).length∧w.2.length=(cY h).length:=by
 have h1:=hw.1;unfold kX at h1;simp only[Bool.and_eq_true,decide_eq_true_eq] at h1;exact⟨h1.1,h1.2.1,h1.2.2.1⟩
theorem bJw {h:aI} (hm:cZ h=true):nX h (oW h):=
 aHz hm (by simp) (InV.first aN fun t ht=>(sS ((dA h).1 hm) _ t ht).1)
theorem bKu {h:aI} {w:bK} (hw:nX h w) (hn:(mB h w).2=true):nX h (mB h w).1∧pV (bD h) (mB h w).1.1 (mB h w).1.2=pV (bD h) w.1 w.2+1:=by
 obtain⟨hm,h1,-⟩:=pC hw;unfold mB at hn ⊢;rw[if_pos hw] at hn ⊢;obtain⟨k1,k2,k3⟩:=(aUu aN (bD h) (fun c=>sS ((dA h).1 hm) c) w.1 w.2 hw.2).1 hn;exact⟨aHz hm (k1.trans h1) k2,k3⟩
theorem size_append {α:Type}:∀ a b:List (List α),dI (a++b)=dI a*dI b
 | [],b=>by simp[dI]
 | t::a,b=>by rw[List.cons_append,dI,dI,size_append a b,Nat.mul_assoc]
theorem aSc (a b:List vW):bY (a++b)=bY a++bY b:=by simp[bY]
def zX (T:List bB) (i:Nat):List dK:=bY (itT i (T.getD i aM).2.2 (T.getD i aM).2.2.length)
theorem aYn {T:List bB} {i:Nat} {p:dK} (h:p∈zX T i):p.1=i:=by
 unfold zX bY at h;obtain⟨x,hx,rfl⟩:=List.mem_map.1 h;have h1:=(List.mem_filter.1 hx).1;unfold itT at h1;obtain⟨k,-,rfl⟩:=List.mem_map.1 h1;rfl
theorem aYo (T:List bB) (n:Nat):bY (itH T (n+1))=bY (itH T n)++zX T n:=by
 rw[oD,aSc];rfl
def bFz (h:aI) (i:Nat):Nat:=dI ((zX h.2.2 i).map fun p=>nB h p true)
def aFt (h:aI):List (Int×Nat):=(List.range h.2.2.length).map fun i=>((h.2.2.getD i aM).2.1,bFz h i)
theorem bFj {h:aI} {i:Nat} (f:dK→Bool) (c:Bool) (hc:∀ p∈zX h.2.2 i,f p=c):dI ((zX h.2.2 i).map fun p=>nB h p (f p))=if c then bFz h i else 1:=by
 have e:(zX h.2.2 i).map (fun p=>nB h p (f p))=(zX h.2.2 i).map fun p=>nB h p c:=List.map_congr_left fun p hp=>(by rw[hc p hp]);rw[e]
 cases c with
 | true=>rfl
 | false=>
  rw[if_neg (by simp)]
  have:∀ l:List dK,dI (l.map fun p=>nB h p false)=1:=fun l=>by
   induction l with
   | nil=>rfl
   | cons p l ih=>rw[List.map_cons,dI,ih];simp[nB]
  exact this _
theorem aIv (h:aI) (c:List Bool):∀ n,dI ((bY (itH h.2.2 n)).map fun p=>nB h p (c.getD p.1 false))=((List.range n).map fun i=>if c.getD i false then bFz h i else 1).prod
 | 0=>by simp[itH,bY,dI]
 | n+1=>by
  rw[aYo,List.map_append,size_append,aIv h c n,List.range_succ,List.map_append,List.prod_append,bFj (fun p=>c.getD p.1 false) (c.getD n false) (fun p hp=>by rw[aYn hp])];simp
theorem aFd:∀ (T:List bB) (s:Nat→Nat) (c:List Bool),lW ((List.range T.length).map fun i=>((T.getD i aM).2.1,s i)) c=((List.range T.length).map fun i=>if (aL T c).getD i false then s i else 1).prod
 | [],_,_=>rfl
 | t::r,s,c=>by
  rw[List.length_cons,List.range_succ_eq_map,List.map_cons,List.map_map,List.map_cons,List.map_map,List.prod_cons];have ih:=fun c=>aFd r (fun i=>s (i+1)) c;have e0:((t::r).getD 0 aM).2.1=t.2.1:=rfl;have e1:((fun i=>(((t::r).getD i aM).2.1,s i)) ∘ Nat.succ)=fun i=>((r.getD i aM).2.1,s (i+1)):=(by funext i;simp);rw[e0,e1];by_cases h1:t.2.1=1
  ·have e2:aL (t::r) c=true::aL r c:=(by rw[aL,if_pos h1]);have e3:((fun i=>if (aL (t::r) c).getD i false then s i else 1) ∘ Nat.succ)=fun i=>if (aL r c).getD i false then s (i+1) else 1:=by funext i;rw[e2];simp
   rw[e3, ←ih c,lW,if_pos h1,e2];simp
  ·by_cases h3:t.2.1=3
   ·have e2:aL (t::r) c=c.headD false::aL r c.tail:=(by rw[aL,if_neg h1,if_pos h3]);have e3:((fun i=>if (aL (t::r) c).getD i false then s i else 1) ∘ Nat.succ)=fun i=>if (aL r c.tail).getD i false then s (i+1) else 1:=by funext i;rw[e2];simp
    rw[e3, ←ih c.tail,lW,if_neg h1,if_pos h3,e2];simp
   ·have e2:aL (t::r) c=false::aL r c:=(by rw[aL,if_neg h1,if_neg h3]);have e3:((fun i=>if (aL (t::r) c).getD i false then s i else 1) ∘ Nat.succ)=fun i=>if (aL r c).getD i false then s (i+1) else 1:=by funext i;rw[e2];simp
    rw[e3, ←ih c,lW,if_neg h1,if_neg h3,e2];simp
theorem aTm {h:aI} (hm:cZ h=true) (f:List Bool):dI (bD h f)=lW (aFt h) f:=by
 unfold bD aFt;rw[kF hm,aIv,aFd]
theorem aUg {h:aI} (hm:cZ h=true):((aFt h).filter fun x=>x.1==3).length=(cA aP h).length:=by
 have e1:cA aP h=jH aP h.2.2 h.2.2.length:=(by unfold cA;rw[if_pos hm]);rw[e1];unfold aFt jH;rw[List.filter_map,List.length_map,List.length_map];rfl
def bMy (h:aI):Nat:=if cZ h then nN (aVo (aFt h)) else 0
theorem bLl {h:aI} (hm:cZ h=true):aQj (cA aP h).length (bD h)=aVo (aFt h):=by
 rw[bGu,oM _ _ (lW (aFt h)) (fun c _=>aTm hm c), ←aUg hm,aIy]
end Go.Proofs.YtdfegfagedeilaaGreatDoor

namespace Go.Proofs.YtdfegfagedeilaaGreatDoor
open Go.RowKit Go.Lib Go.Maps Go.WideMaps
def vG (v:Value):Option (DataW Unit×List MemPlace):=
 match v with
 | .agg cs=>match cs.toList with
  | [.int .i64 a,.int .i64 b]=>some (.agg [.lit (.int .i64 a),.lit (.int .i64 b)],[])
  | _=>none
 | _=>none
def zI (x:aR):DataW Unit:=.agg [.lit (.int .i64 x.1),.lit (.int .i64 x.2)]
def uI (x:aR):Value:=.agg #[.int .i64 x.1,.int .i64 x.2]
theorem bFv (x:aR):vG (uI x)=some (zI x,[]):=rfl
theorem aVy {v:Value} {y:DataW Unit×List MemPlace} (h:vG v=some y):∃ x:aR,v=uI x∧y=(zI x,[]):=by
 unfold vG at h;split at h
 ·rename_i cs;split at h
  ·rename_i a b hl;injection h with h;refine⟨(a,b),?_,h.symm⟩;unfold uI;rw[show cs=#[Value.int .i64 a,Value.int .i64 b] from Array.toList_inj.1 hl]
  ·cases h
 ·cases h
theorem bFu {x y:aR} (h:zI x=zI y):x=y:=by
 unfold zI at h;injection h with h;injection h with h1 h2;injection h1 with h1;injection h1 with _ h1;injection h2 with h2 _;injection h2 with h2;injection h2 with _ h2;exact Prod.ext h1 h2
def qX (w:World) (b:Nat) (ks:List Int) (f:Int→aR):Prop:=
 ∃ D:DataW Unit,w.ownsMap Tryz.prog 3 vG b ks.length D∧Maps.size D=ks.length∧(∀ j:Int,(Lit.int .i64 j).wf=true→Maps.has D (.int .i64 j)=decide (j∈ks))∧∀ j z,j∈ks→D.atKey (.int .i64 j) z=zI (f j)
theorem qX.at {w w':World} {b:Nat} {ks:List Int} {f:Int→aR} (h:qX w b ks f) (e:w'.heap[b]? = w.heap[b]?):qX w' b ks f:=by
 obtain⟨D,⟨es,clock,hb,r⟩,h2⟩:=h;exact⟨D,⟨es,clock,e.trans hb,r⟩,h2⟩
theorem qX.lt {w:World} {b:Nat} {ks:List Int} {f:Int→aR} (h:qX w b ks f):b<w.heap.size:=by
 obtain⟨D,h1,-⟩:=h;exact h1.lt
theorem qX.later {w w':World} {b:Nat} {ks:List Int} {f:Int→aR} (h:qX w b ks f) (hb:Below w.heap.size w w'):qX w' b ks f:=h.at (hb.block b h.lt)
theorem bFw (w:World) (f:Int→aR):qX (w.alloc (.map #[] 0)) w.heap.size [] f:=
 ⟨.map [],World.ownsMap_made w _ _ _,rfl,fun j _=>by simp[Maps.has],fun j z hj=>absurd hj List.not_mem_nil⟩
set_option maxRecDepth 10000 in
theorem bFx {w:World} {b:Nat} {ks:List Int} {f:Int→aR} (h:qX w b ks f) (hn:ks.length<1000000) (k:Int) (hk:k∉ks) (h1k:-9223372036854775808≤k) (h2k:k≤9223372036854775807) (x:aR) :
  ∃ w',(Instr.mapUpdate 107 (.map (some b)) (.int .i64 k) (uI x)).run Tryz.prog w=.ok () w'∧qX w' b (ks++[k]) (fun j=>if j=k then x else f j)∧w.mapTurned w' b:=by
 obtain⟨D,h1,h2,h3,h4⟩:=h;have hkw:(Lit.int .i64 k).wf=true:=WalkArith.wf_i64 (by omega);obtain⟨w',r1,r2,r3⟩:=h1.store (int_keyed Tryz.underlying3) Tryz.underlying107 (by unfold maxLen;omega) (keyOf_int_mk Tryz.underlying3 hkw) (bFv x);have hK:WideAt.IsKeyLit (.int .i64 k):=trivial;refine⟨w',r1,⟨_,by rw[List.length_append];exact r2,?_,fun j hj=>?_,fun j z hj=>?_⟩,r3⟩
 ·rw[size_put (h1.tidy (int_keyed Tryz.underlying3)),h3 k hkw,h2,if_neg (by simpa using hk)];simp
 ·by_cases e:j=k
  ·subst e;rw[has_put_same h1.isMap hK];simp
  ·rw[has_put_other (by intro h;cases h;exact e rfl),h3 j hj];simp[e]
 ·dsimp only;by_cases e:j=k
  ·subst e;rw[if_pos rfl];exact atKey_put_same h1.isMap hK _ _
  ·rw[if_neg e,atKey_put_other (by intro h;cases h;exact e rfl)];exact h4 j z (by simpa [e] using hj)
theorem qX.congr {w:World} {b:Nat} {ks:List Int} {f g:Int→aR} (h:qX w b ks f) (hfg:∀ j∈ks,f j=g j):qX w b ks g:=by
 obtain⟨D,h1,h2,h3,h4⟩:=h;exact⟨D,h1,h2,h3,fun j z hj=>by rw[h4 j z hj,hfg j hj]⟩
end Go.Proofs.YtdfegfagedeilaaGreatDoor

namespace Go.Proofs.YtdfegfagedeilaaGreatDoor
open Go.RowKit Go.Lib Go.Maps Go.WideMaps
def dJ (w:World) (b n:Nat) (f:Int→Int):Prop:=
 ∃ D:DataW Unit,w.ownsMap Tryz.prog 2 (plainElem Tryz.prog 3) b n D∧∀ k,(Lit.int .i64 k).wf=true→D.atKey (.int .i64 k) (.lit (.int .i64 0))=.lit (.int .i64 (f k))
theorem bBj (w:World):(zeroValue 3).run Tryz.prog w=.ok (.int .i64 0) w:=by kernel_rfl
theorem dJ.at {w w':World} {b n:Nat} {f:Int→Int} (h:dJ w b n f) (e:w'.heap[b]? = w.heap[b]?):dJ w' b n f:=by
 obtain⟨D,⟨es,clock,hb,r⟩,h2⟩:=h;exact⟨D,⟨es,clock,e.trans hb,r⟩,h2⟩
theorem dJ.lt {w:World} {b n:Nat} {f:Int→Int} (h:dJ w b n f):b<w.heap.size:=by
 obtain⟨D,h1,-⟩:=h;exact h1.lt
theorem dJ.later {w w':World} {b n:Nat} {f:Int→Int} (h:dJ w b n f) (hb:Below w.heap.size w w'):dJ w' b n f:=h.at (hb.block b h.lt)
theorem dJ.kept {w w':World} {row:Option Nat} {b n:Nat} {f:Int→Int} (h:dJ w b n f) (hg:w.grownBy w' row) (hne:some b≠row):dJ w' b n f:=h.at (hg.block b h.lt hne)
theorem dJ.alloc {w:World} {b n:Nat} {f:Int→Int} (h:dJ w b n f) (o:Obj):dJ (w.alloc o) b n f:=h.kept (World.grownBy_alloc w o none) (by simp)
theorem aRk (w:World):dJ (w.alloc (.map #[] 0)) w.heap.size 0 (fun _=>0):=
 ⟨.map [],World.ownsMap_made w _ _ _,fun k _=>by simp[DataW.atKey]⟩
theorem dJ.row {w:World} {b n base size m:Nat} {f:Int→Int} {e:TypeId} {v:Value} {xs:List Value} (h:dJ w b n f) (ho:w.ownsRow base e size v m xs):v.ownBlock≠some b:=by
 intro he;obtain⟨D,⟨es,clock,hb,r⟩,h2⟩:=h;rcases ho.2 with ⟨rfl,-⟩ | ⟨g,cap,cur,rfl,-,hw,-⟩
 ·cases he
 ·have e1:g=b:=(by simpa [Value.ownBlock] using he);subst e1;rw[hw] at hb;cases hb
set_option maxRecDepth 10000 in
theorem zU {w:World} {b n:Nat} {f:Int→Int} (h:dJ w b n f) (k:Int) (h1k:-9223372036854775808≤k) (h2k:k≤9223372036854775807):(Instr.lookup 112 (.map (some b)) (.int .i64 k) false).run Tryz.prog w=.ok (.int .i64 (f k)) w:=by
 obtain⟨D,h1,h2⟩:=h;have hk:(Lit.int .i64 k).wf=true:=WalkArith.wf_i64 (by omega);obtain⟨c,hr,hat,-⟩:=h1.lookup_int (int_keyed Tryz.underlying2) Tryz.underlying112 Tryz.underlying3 (bBj w) (keyOf_int_mk Tryz.underlying2 hk)
 have e:f k=c:=by
  have:=(h2 k hk).symm.trans hat;injection this with this;injection this
 rw[e];exact hr
set_option maxRecDepth 10000 in
theorem aRl {w:World} {b n:Nat} {f:Int→Int} (h:dJ w b n f) (hn:n<maxLen) (k c:Int) (h1k:-9223372036854775808≤k) (h2k:k≤9223372036854775807) (h1c:-9223372036854775808≤c) (h2c:c≤9223372036854775807) :
  ∃ w',(Instr.mapUpdate 112 (.map (some b)) (.int .i64 k) (.int .i64 c)).run Tryz.prog w=.ok () w'∧dJ w' b (n+1) (fun j=>if j=k then c else f j)∧w.mapTurned w' b:=by
 obtain⟨D,h1,h2⟩:=h;have hk:(Lit.int .i64 k).wf=true:=WalkArith.wf_i64 (by omega);obtain⟨w',r1,r2,r3⟩:=h1.store (int_keyed Tryz.underlying2) Tryz.underlying112 hn (keyOf_int_mk Tryz.underlying2 hk) (plainElem_int Tryz.underlying3 (WalkArith.wf_i64 (n:=c) (by omega)));refine⟨w',r1,⟨_,r2,fun j hj=>?_⟩,r3⟩;dsimp only;by_cases e:j=k
 ·subst e;rw[if_pos rfl];exact atKey_put_same h1.isMap (show WideAt.IsKeyLit (.int .i64 j) from trivial) _ _
 ·rw[if_neg e];rw[atKey_put_other (by intro h;cases h;exact e rfl)];exact h2 j hj
theorem dJ.turn {w w':World} {b b' n:Nat} {f:Int→Int} (h:dJ w b n f) (ht:w.mapTurned w' b') (hne:b≠b'):dJ w' b n f:=h.kept ht.grown (by simpa using hne)
end Go.Proofs.YtdfegfagedeilaaGreatDoor

namespace Go.Proofs.YtdfegfagedeilaaGreatDoor
open Go.RowKit Go.Lib
section
variable {w:World} {B:Nat} {t:TypeId} {cs:List Value} (hB:aBk w B t cs) (i:Nat) (u:Value)
include hB
theorem bRz {α:Type} {size:Nat} {R:World→List Value→α→Prop} (hs:0<size) (hR:∀ cs m,R w cs m→R (w.setCell ⟨B,i,none⟩ u) cs m) (hf:∀ cs m,R w cs m→∀ x,cs[0]? = some x→∀ p n c,x≠.slice p n c) {v:Value} {L:List α} (h:SlR size R w v L):SlR size R (w.setCell ⟨B,i,none⟩ u) v L:=by
 obtain⟨p,cap,hv,hl,hm,hc⟩:=h;refine⟨p,cap,hv,hl,hm,fun j hj=>?_⟩;obtain⟨a,ds,hp,hs',h1,h2⟩:=hc j hj;obtain⟨x,hx⟩:∃ x,ds[0]? = some x:=⟨ds[0]'(by omega),by simp⟩;have hc0:=h1 0 x hx;have hne:(a.add (j*size+0)).block≠B:=hB.ne hc0 (hf _ _ h2 x hx)
 have hne':a.block≠B:=by
  intro e;apply hne;unfold Addr.add;split<;>exact e
 refine⟨a,ds,hp,hs',fun q y hy=>jB (h1 q y hy) ?_,hR _ _ h2⟩;unfold Addr.add;split<;>exact hne'
theorem bRy {v:Value} {L:List (List UInt8)} (h:zM w v L):zM (w.setCell ⟨B,i,none⟩ u) v L:=
 bRz hB i u (by omega) (fun _ _ h=>h) (fun cs m h x hx p n c=>by obtain⟨rfl,-⟩:=h;simp at hx;subst hx;simp) h
theorem bSm {v:Value} {L:List OpM} (h:aLm w v L):aLm (w.setCell ⟨B,i,none⟩ u) v L:=
 bRz hB i u (by omega) (fun _ _ h=>h) (fun cs m h x hx p n c=>by unfold OpR at h;subst h;simp[nO] at hx;subst hx;simp) h
theorem bSl {v:Value} {L:List bB} (h:aBl w v L):aBl (w.setCell ⟨B,i,none⟩ u) v L:=
 bRz hB i u (by omega) (fun _ _ ⟨sv,e,h⟩=>⟨sv,e,bSm hB i u h⟩) (fun cs m h x hx p n c=>by obtain⟨sv,rfl,-⟩:=h;simp at hx;subst hx;simp) h
theorem bTx {v:Value} {h:aI} (hv:aBj w v h):aBj (w.setCell ⟨B,i,none⟩ u) v h:=by
 obtain⟨v0,v1,v2,e,h0,h1,h2⟩:=hv;exact⟨v0,v1,v2,e,bRy hB i u h0,bRy hB i u h1,bSl hB i u h2⟩
end
theorem bUn (h:aI):cU (bHg h):=by
 refine⟨Nat.le_trans (bSj _ _) (by omega),Nat.le_trans (bSj _ _) (by omega),?_,?_,?_,?_⟩
 ·simp[bHg];omega
 ·intro x hx;have:=aQt _ _ x hx;omega
 ·intro x hx;have:=aQt _ _ x hx;omega
 ·intro t ht;obtain⟨t',-,rfl⟩:=List.mem_map.1 ht;simp[tH];omega
theorem bUy {w w1:World} {W0:World} {x0 x1 x2:Value} {h:aI} {p0 p1 p2:Option Addr} {n0 n1 n2 c0 c1 c2:Nat} (hb0:Below w.heap.size w W0) (hB:Blk W0 w.heap.size 25 [x0,x1,x2]) (hx:∀ x∈[x0,x1,x2],∃ p n c,x=Value.slice p n c) (hb:Below W0.heap.size W0 w1)
  (hv:cJ w1 (.agg #[.slice p0 n0 c0,.slice p1 n1 c1,.slice p2 n2 c2]) h) (ha:aBj w1 (.agg #[.slice p0 n0 c0,.slice p1 n1 c1,.slice p2 n2 c2]) h) :
  Blk (((w1.setCell ⟨w.heap.size,0,none⟩ (.slice p0 n0 c0)).setCell ⟨w.heap.size,1,none⟩ (.slice p1 n1 c1)).setCell ⟨w.heap.size,2,none⟩ (.slice p2 n2 c2)) w.heap.size 25 [.slice p0 n0 c0,.slice p1 n1 c1,.slice p2 n2 c2] ∧
  cJ (((w1.setCell ⟨w.heap.size,0,none⟩ (.slice p0 n0 c0)).setCell ⟨w.heap.size,1,none⟩ (.slice p1 n1 c1)).setCell ⟨w.heap.size,2,none⟩ (.slice p2 n2 c2)) (.agg #[.slice p0 n0 c0,.slice p1 n1 c1,.slice p2 n2 c2]) h ∧
  aBj (((w1.setCell ⟨w.heap.size,0,none⟩ (.slice p0 n0 c0)).setCell ⟨w.heap.size,1,none⟩ (.slice p1 n1 c1)).setCell ⟨w.heap.size,2,none⟩ (.slice p2 n2 c2)) (.agg #[.slice p0 n0 c0,.slice p1 n1 c1,.slice p2 n2 c2]) h ∧
  Below w.heap.size w (((w1.setCell ⟨w.heap.size,0,none⟩ (.slice p0 n0 c0)).setCell ⟨w.heap.size,1,none⟩ (.slice p1 n1 c1)).setCell ⟨w.heap.size,2,none⟩ (.slice p2 n2 c2)):=by
 have s0:aBk w1 w.heap.size 25 [x0,x1,x2]:=⟨hB.later hb,hx⟩;have s1:=s0.set 0 p0 n0 c0;have s2:=s1.set 1 p1 n1 c1;have s3:=s2.set 2 p2 n2 c2;refine⟨s3.1,bTv s2 2 _ (bTv s1 1 _ (bTv s0 0 _ hv)),bTx s2 2 _ (bTx s1 1 _ (bTx s0 0 _ ha)),?_⟩;exact(((aB hb0 hb).setCell (by show w.heap.size≤w.heap.size;omega) _).setCell (by show w.heap.size≤w.heap.size;omega) _).setCell (by show w.heap.size≤w.heap.size;omega) _
end Go.Proofs.YtdfegfagedeilaaGreatDoor
