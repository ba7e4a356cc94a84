/-
  Several texts of these walks, joined and squeezed (as templates they lie in wip/tpl): LogW PaV Lat2 NameI NameN LatT PcW SlBx ErP.
-/
import Derived.Test.YtdfegfagedeilaaGreatDoorYxEvR
import Derived.Maps.AppendAt
import Derived.Maps.OwnOps
import Derived.Lib.RowBridge
import Derived.SliceStrings
import Derived.Lib.SliceRun
import Derived.Maps.StringElems
import Derived.StringKeys
import Derived.LaidEqlPtr
import Derived.RangeFuncNested
import Derived.RangeFuncBound
import Derived.RangeFuncCalls
import Derived.RangeFuncLeaves
import Derived.Shelf.Abstract
import Derived.Shelf.RegionOpen
import Derived.OwnWalkIn
import Derived.TacticsInMore
import Derived.LoopNIn
import Derived.LoopIn
import Derived.Maps.OwnIn
import Derived.Maps.Views
import Derived.RangeFuncBox
import Derived.WalkArith
import Derived.Outline
namespace Go.Proofs.YtdfegfagedeilaaGreatDoor
section
open Go.RowKit Go.Lib
theorem bKm (t:List UInt8) (r:List (List UInt8)) (i:Nat) (out:List aV) (x:aV) (b:Bool) (e:Int) (h:dX t=(x,b,e)) (he:e≠0):lU (t::r) i out=([],((i+1:Nat):Int),e):=by
 unfold lU;rw[h,if_pos he]
theorem bCv (t:List UInt8) (r:List (List UInt8)) (i:Nat) (out:List aV) (x:aV) (h:dX t=(x,false,0)):lU (t::r) i out=lU r (i+1) out:=by
 rw[lU];rw[h,if_neg (by simp),if_pos rfl]
theorem bHj (t:List UInt8) (r:List (List UInt8)) (i:Nat) (out:List aV) (x:aV) (h:dX t=(x,true,0)) (hl:out.length=1000):lU (t::r) i out=([],((i+1:Nat):Int),7):=by
 unfold lU;rw[h,if_neg (by simp),if_neg (by simp),if_pos hl]
theorem bHk (t:List UInt8) (r:List (List UInt8)) (i:Nat) (out:List aV) (x:aV) (h:dX t=(x,true,0)) (hl:out.length≠1000):lU (t::r) i out=lU r (i+1) (out++[bDw x ((i+1:Nat):Int)]):=by
 rw[lU];rw[h,if_neg (by simp),if_neg (by simp),if_neg hl]
theorem aOg (t:List UInt8):(∃ x e,dX t=(x,false,e)∧(e != 0)=true)∨(∃ x,dX t=(x,false,0))∨(∃ x,dX t=(x,true,0)):=by
 obtain⟨⟨x,b,e⟩,h⟩:∃ y,dX t=y:=⟨_,rfl⟩;have hm:=aIn t;rw[h] at hm ⊢
 cases b with
 | false=>
  by_cases he:e=0
  ·subst he;exact .inr (.inl ⟨x,rfl⟩)
  ·exact .inl ⟨x,e,rfl,by simpa using he⟩
 | true=>
  have:=(hm rfl).1;simp only at this;subst this;exact .inr (.inr ⟨x,rfl⟩)
theorem aRz (l:List UInt8) (j:Nat):((ofL l).1.getD j []).length≤l.length:=by
 by_cases h:j<(ofL l).1.length
 ·have hm:(ofL l).1.getD j []∈(ofL l).1:=(by simp[h]);generalize (ofL l).1.getD j []=x at *
  have key:∀ (full:List (List UInt8)) (r:List (List UInt8)) (n:Nat),x∈(mZ full n r).1→x∈full:=by
   intro full r
   induction r with
   | nil=>intro n hx;exact hx
   | cons y r ih=>
    intro n hx;unfold mZ at hx;split at hx
    ·exact ih _ hx
    ·cases hx
  unfold ofL at hm;split at hm
  ·cases hm
  ·have h1:=key _ _ _ hm
   have lines:∀ (t cur:List UInt8),∀ y∈gC cur t,y.length≤cur.length+t.length:=by
    intro t
    induction t with
    | nil=>
     intro cur y hy;unfold gC at hy;split at hy
     ·cases hy
     ·obtain rfl:y=cur:=(by simpa using hy);simp
    | cons b t ih=>
     intro cur y hy;unfold gC at hy;split at hy
     ·rcases List.mem_cons.1 hy with rfl | hy
      ·omega
      ·have:=ih [] y hy;simp at this ⊢;omega
     ·have:=ih _ y hy;simp at this ⊢;omega
   have:=lines l [] x h1;simpa using this
 ·have:(ofL l).1.getD j []=[]:=(by simp[h]);rw[this];exact Nat.zero_le _
set_option maxRecDepth 100000 in
set_option maxHeartbeats 8000000 in
theorem bHx (l:List UInt8) (hl:l.length≤1000000) (w:World) (hT:Lib.Utf8Tabs 1 2 w) (hm:HasMax w) (hE:EvTab w) :
  Calls Tryz.prog 66 #[.string (bs l)] w fun e w'=>∃ v,e=.returned (.tuple #[v,.int .i64 (mL l).2.1,.int .i64 (mL l).2.2])∧aLk w' v (mL l).1∧Below w.heap.size w w':=by
 have HO:=lhid (bHw l hl w hm);have HP:=lhid (fun t (ht:t.length≤1000000) w' (h:Below w.heap.size w w')=>aQy t ht w' (Utf8Tabs_below hT h) (hm.below h) (hE.below h));have HLs:=lhid (fun j=>Nat.le_trans (aRz l j) hl)
 have hlen:(ofL l).1.length≤1000001:=by
  unfold ofL;split
  ·simp
  ·by_cases h:(mZ (pR l) 0 (pR l)).2.2=0
   ·rw[(aEu _ _ _ h).1];have:=yV l [];unfold pR;omega
   ·rw[(aIs _ _ _ h).1];simp
 clear hT hm hE;have hre:mL l=if (ofL l).2.2≠0 then ([],((ofL l).2.1:Int),((ofL l).2.2:Int)) else lU (ofL l).1 0 []:=rfl;obtain⟨⟨lns,en,ee⟩,hof⟩:∃ y,ofL l=y:=⟨_,rfl⟩;rw[hof] at HO HLs hlen hre;simp only at HO HLs hlen hre;generalize mL l=R at *;clear hof hl;by_cases he:ee=0
 ·subst he;rw[if_neg (by simp)] at hre;have HRe:=lhid hre;clear hre;obtain⟨i0,hi,hz0,hz1,hz2⟩:=info_parts bHs;go_enter Tryz.func66,Tryz.ntmps66;(go_wp2_with fail);refine HO.out.mono ?_;rintro e w1 ⟨v1,rfl,hv1,hb1⟩;obtain⟨p,cap,rfl,hc⟩:=hv1;have HC:=lhid hc;have HB1:=lhid hb1;clear hc hb1;go_wp2_with fail
  go_loopw [8,26] (fun v8 i wr=>∃ (k:Nat) (out:List aV),k≤lns.length∧out.length≤k∧i=.int .i64 k∧wr.ownsRow w1.heap.size 116 6 v8 out.length (yI out)∧Hid (lU (lns.drop k) k out=R)∧Below w1.heap.size w1 wr) (fun _ i _=>lns.length-(intOf i).toNat)
  case atStart=>exact⟨0,[],Nat.zero_le _,Nat.le_refl _,rfl,World.ownsRow_nil _ _ _ _,lhid (by rw[List.drop_zero];exact HRe.out.symm),Below.refl _ _⟩
  case round=>
   obtain⟨k,out,hk,hol,rfl,hown,HG,hbw⟩:=hrel;by_cases hlt:k<lns.length
   ·obtain⟨g,rfl,hcell⟩:=HC.out k hlt;have hc1:=cell_later hbw hcell
    have hd:lns.drop k=lns.getD k []::lns.drop (k+1):=by
     rw[List.drop_eq_getElem_cons hlt];simp[hlt]
    have HG2:=lhid HG.out;rw[hd] at HG2;have htl:=HLs.out k;have HPk:=lhid (HP.out (lns.getD k []) htl);generalize lns.getD k []=t at *;have HB:=lhid (aB HB1.out hbw);have HBw:=lhid hbw;have HOw:=lhid hown;clear HG hd hcell hown hbw htl;rcases aOg t with ⟨x,e,hp,he⟩ | ⟨x,hp⟩ | ⟨x,hp⟩
    ·rw[hp] at HPk;have HR:Hid (R=([],((k+1:Nat):Int),e)):=lhid (by rw[←HG2.out];exact bKm _ _ _ _ _ _ _ hp (by simpa using he));clear hp HG2;obtain⟨x1,x2,x3,x4,x5,x6⟩:=x;unfold evV at HPk;dsimp only at HPk;(go_wp2_with fail);refine(HPk.out _ HB.out).mono ?_;rintro e2 w2 ⟨rfl,hb2⟩;have hf2:=aB HB.out hb2;go_wp2_with fail
     go_ret3
     exact⟨_,by rw[HR.out];rfl,by rw[HR.out];exact xA _,hf2.alloc hf2.size _⟩
    ·rw[hp] at HPk;have HR:Hid (lU (lns.drop (k+1)) (k+1) out=R):=lhid (by rw[←HG2.out];exact(bCv _ _ _ _ _ hp).symm);clear hp HG2;obtain⟨x1,x2,x3,x4,x5,x6⟩:=x;unfold evV at HPk;dsimp only at HPk;(go_wp2_with fail);refine(HPk.out _ HB.out).mono ?_;rintro e2 w2 ⟨rfl,hb2⟩;have hf2:=aB HBw.out hb2;have ho2:=(aS HOw.out hb2);(go_wp2_with fail);go_roundw
     case rel=>exact⟨k+1,out,by omega,by omega,by go_num,ho2.alloc _,HR,hf2.alloc hf2.size _⟩
     case measure=>simp[intOf];omega
    ·rw[hp] at HPk;obtain⟨x1,x2,x3,x4,x5,x6⟩:=x;obtain⟨p8,c8,rfl⟩:=aF HOw.out;by_cases hfull:out.length=1000
     ·have HR:Hid (R=([],((k+1:Nat):Int),7)):=lhid (by rw[←HG2.out];exact bHj _ _ _ _ _ hp hfull);have hfb:((out.length:Int)==1000)=true:=(by simp;omega);clear hp HG2 hfull;unfold evV at HPk;dsimp only at HPk;(go_wp2_with fail);refine(HPk.out _ HB.out).mono ?_;rintro e2 w2 ⟨rfl,hb2⟩;have hf2:=aB HB.out hb2;go_wp2_with fail
      go_ret3
      exact⟨_,by rw[HR.out];rfl,by rw[HR.out];exact xA _,hf2.alloc hf2.size _⟩
     ·have HR:Hid (lU (lns.drop (k+1)) (k+1) (out++[(x1,x2,x3,x4,x5,(k:Int)+1)])=R):=lhid (by rw[←HG2.out];exact(bHk _ _ _ _ _ hp hfull).symm);have hfb:((out.length:Int)==1000)=false:=(by rw[beq_eq_false_iff_ne];omega);clear hp HG2 hfull;unfold evV at HPk;dsimp only at HPk;(go_wp2_with fail);refine(HPk.out _ HB.out).mono ?_;rintro e2 w2 ⟨rfl,hb2⟩;have hbx:=aB HBw.out hb2;have ho2:=aS HOw.out hb2;have hz:=hbx.size;clear hb2;(go_wp2_with (at_builtin;refine wpList_append_own _ rfl (.tmp 52) (.tmp 54) 93 rfl w1.heap.size 116 i0 (.agg #[.int .i64 0,.string ByteArray.empty,.string ByteArray.empty,.int .i64 0,.int .i64 0,.int .i64 0]) 6 64 Tryz.underlying93 hi hz0 hz1 hz2 rfl (by decide) _ _ _ rfl ((ho2.alloc _).alloc _) ⟨w2.heap.size+1,0,none⟩ 1 1 [.int .i64 x1,.string (bs x2),.string (bs x3),.int .i64 x4,.int .i64 x5,.int .i64 ((k:Int)+1)] rfl rfl (dB _ _ _ _ (by simp)) (bIg _ _ _ _ _ _) (by unfold maxLen;omega) (by omega) (by simp;omega) ?_));intro v4 w4 hown4 hgrow hnil;have hb4:Below w1.heap.size w1 w4:=((hbx.alloc hz _).alloc (by simp;omega) _).grown hgrow (by simp;omega) (fun k hk=>(ho2.lt k hk).1);have HO4:Hid (w4.ownsRow w1.heap.size 116 6 v4 (out++[(x1,x2,x3,x4,x5,(k:Int)+1)]).length (yI (out++[(x1,x2,x3,x4,x5,(k:Int)+1)]))):=lhid (by rw[←aWx,List.length_append];exact hown4);clear hown4 hgrow hnil ho2 hbx;(go_wp2_with fail);go_roundw
      case rel=>exact⟨k+1,_,by omega,by simp;omega,by go_num,HO4.out,HR,hb4⟩
      case measure=>simp[intOf];omega
   ·have hke:k=lns.length:=(by omega);subst hke;have HR:Hid (R=(out,0,0)):=lhid (by rw[←HG.out,List.drop_length];rfl);have HOw:=lhid (bIn hown);clear hown HG;go_wp2_with fail
    go_ret3
    exact⟨_,by rw[HR.out];rfl,by rw[HR.out];exact HOw.out,aB HB1.out hbw⟩
 ·have hd:(((ee:Nat):Int) != 0)=true:=(by simp;omega);rw[if_pos he] at hre;have HRe:=lhid hre;clear hre he;go_enter Tryz.func66,Tryz.ntmps66;(go_wp2_with fail);refine HO.out.mono ?_;rintro e w1 ⟨v1,rfl,hv1,hb1⟩;go_wp2_with fail
  go_ret3
  exact⟨_,by rw[HRe.out];rfl,by rw[HRe.out];exact xA _,hb1⟩
end
section
open Go.RowKit Go.Lib Go.Maps
theorem aMs:(Tryz.prog.info? 128).map (fun i=>(i.zero,i.size,i.bytes))=some (some (.pointer none),1,8):=by kernel_rfl
theorem aNy (g:Nat):∀ u∈([.pointer (some ⟨g,0,none⟩)]:List Value),u.oneCell'=true:=by
 intro u hu;simp at hu;subst hu;rfl
theorem jI {w w':World} {b:Nat} (h:w.mapTurned w' b) (k:Nat) (hk:k<w.heap.size) (hne:k≠b):w'.heap[k]? = w.heap[k]?:=h.grown.block k hk (fun e=>hne (by injection e))
theorem wP {w w' a:World} {b n:Nat} (h:w.mapTurned w' b) (hb:Below n a w) (hn:n≤a.heap.size) (hbn:n≤b):Below n a w':=
 hb.grown h.grown (Nat.le_trans hn hb.size) (fun k hk=>by injection hk with hk;omega)
theorem lH {w w':World} {b k:Nat} {t:TypeId} (ht:w.mapTurned w' b) (hk:Ty w k t):w'.heap[k]? = w.heap[k]?:=by
 obtain⟨cs,fz,h2⟩:=hk;refine jI ht k (Array.getElem?_eq_some_iff.1 h2).1 (fun e=>?_);obtain⟨es,clock,_,_,h1,_⟩:=ht;rw[e,h1] at h2;cases h2
theorem oG {w w':World} {k:Nat} (h:w'.heap[k]? = w.heap[k]?) (hk:k<w.heap.size):k<w'.heap.size:=by
 rcases Nat.lt_or_ge k w'.heap.size with h5 | h5
 ·exact h5
 ·rw[Array.getElem?_eq_none h5,Array.getElem?_eq_getElem hk] at h;cases h
theorem mD (w:World) (a:Addr) (v:Value):(w.setCell a v).heap.size=w.heap.size:=by simp
theorem aC {P:Program} {w:World} {ops:Array Oper} {o:Oper} {a:Act} {K:Act→World→Prop} {Q:Exit→Act→World→Prop} {F:Prop} (hgd:o.guard=none) (s x:Operand) (t:TypeId)
  (ho:o.op=.call { callee:=.builtin .append,args:=#[s,x],argTypes:=#[t,t] })
  (base:Nat) (e:TypeId) (i:TypeInfo) (z:Value) (size bytes:Nat) (ht:P.underlying t=some (.slice e)) (hi:P.info? e=some i) (hz:i.zero=some z)
  (hsize:i.size=size) (hby:i.bytes=bytes) (hzs:z.cells.size=size) (hsz:0<size)
  (v:Value) (n:Nat) (xs:List Value) (hs:a.eval s=v) (hown:w.ownsRow base e size v n xs)
  (ad:Addr) (m c:Nat) (news:List Value) (hx:a.eval x=.slice (some ad) m c) (hl:news.length=m*size) (hnews:∀ j u,news[j]? = some u→w.cell? (ad.add j)=some u) (h1:∀ u∈news,u.oneCell'=true)
  (h63:n+m≤maxLen) (hbytes:(n+m)*bytes≤140737488355328) (hbase:base≤w.heap.size)
  (h:∀ v' w',w'.ownsRow base e size v' (n+m) (xs++news)→w.grownBy w' v.ownBlock→(v'.ownBlock=v.ownBlock∨v'.ownBlock=some w.heap.size)→K (a.put o.dst v') w') :
  if Region.wanted o (yielded ops a.tmps)=true then Oper.wp P o a w K Q else F:=by
 have hw:Region.wanted o (yielded ops a.tmps)=true:=(by simp[Region.wanted,hgd]);rw[if_pos hw];obtain⟨v',w',hr,h2,h3,-,h5⟩:=run_append_own_at (P:=P) w base t o.type e i z size bytes ht hi hz hsize hby hzs hsz v n xs hown ad m c news hl hnews h1 h63 hbytes hbase;unfold Oper.wp execOp;simp only[ho,resolve,invoke,builtin,Sem.run_bind,Sem.run_pure,Result.andThen_ok,List.map_toArray,List.map_cons,List.map_nil,hs,hx,hr];exact h v' w' h2 h3 h5
theorem aFj {w:World} {ops:Array Oper} {o:Oper} {a:Act} {K:Act→World→Prop} {Q:Exit→Act→World→Prop} {F:Prop} {b n:Nat} {f:List UInt8→Option Nat} {l:List UInt8} (hgd:o.guard=none) (m key:Operand)
  (ho:o.op=.call { callee:=.builtin .delete,args:=#[m,key],argTypes:=#[124,9] }) (hm:a.eval m=.map (some b)) (hk:a.eval key=.string (bs l)) (h:nC w b f n) (hl:l.length≤9223372036854775807)
  (hK:∀ w',nC w' b (aGw f l none) n→w.mapTurned w' b→K (a.put o.dst (.tuple #[])) w'):if Region.wanted o (yielded ops a.tmps)=true then Oper.wp Tryz.prog o a w K Q else F:=by
 have hw:Region.wanted o (yielded ops a.tmps)=true:=(by simp[Region.wanted,hgd]);rw[if_pos hw];obtain⟨w',r1,r2,r3⟩:=bIk h l hl o.type;unfold Oper.wp execOp;simp only[ho,resolve,invoke,builtin,Sem.run_bind,Sem.run_pure,Result.andThen_ok,List.map_toArray,List.map_cons,List.map_nil,hm,hk,r1];exact hK w' r2 r3
structure StB (w0 w:World) (B gm N bo bz bk gx:Nat) (L:List aH) (lv:Value) (E:List bV) (x:aV):Prop where
 mi:MkI w B gm L N lv bo bz bk E
 box:Blk w gx 116 [.int .i64 x.1,.string (bs x.2.1),.string (bs x.2.2.1),.int .i64 x.2.2.2.1,.int .i64 x.2.2.2.2.1,.int .i64 x.2.2.2.2.2]
 bel:Below w0.heap.size w0 w
theorem StB.below {w0 w w':World} {B gm N bo bz bk gx:Nat} {L:List aH} {lv:Value} {E:List bV} {x:aV} (h:StB w0 w B gm N bo bz bk gx L lv E x) (hb:Below w.heap.size w w'):StB w0 w' B gm N bo bz bk gx L lv E x:=
 ⟨h.mi.below hb,h.box.later hb,aB h.bel hb⟩
def bKt (s:List UInt8) (ln:Int):List Value:=[.string (bs s),.slice none 0 0,.int .i64 ln,.int .i64 0,.int .i64 0,.slice none 0 0]
structure aJm (w0 w3 w:World) (B gm bo bz bk gx g n:Nat) (lv lv':Value) (E:List bV) (x:aV):Prop where
 mb:Blk w gm 127 [lv',.map (some bo),.map (some bz),.map (some bk)]
 box:Blk w gx 116 [.int .i64 x.1,.string (bs x.2.1),.string (bs x.2.2.1),.int .i64 x.2.2.2.1,.int .i64 x.2.2.2.2.1,.int .i64 x.2.2.2.2.2]
 dr:Blk w g 130 (bKt x.2.1 x.2.2.2.2.2)
 row:w.ownsRow B 128 1 lv' n (E.flatMap ptc++[.pointer (some ⟨g,0,none⟩)])
 far:∀ k,k<w3.heap.size→k≠gm→lv.ownBlock≠some k→k≠bo→k≠bz→w.heap[k]? = w3.heap[k]?
 bel:Below B w0 w
theorem aGz {w0 w3 w4:World} {B gm N bo bz bk gx:Nat} {L:List aH} {lv v4:Value} {E:List bV} {x:aV} {o:Obj} (h:StB w0 w3 B gm N bo bz bk gx L lv E x) (hB:B≤w0.heap.size)
  (hown:w4.ownsRow B 128 1 v4 (E.length+1) (E.flatMap ptc++[.pointer (some ⟨w3.heap.size,0,none⟩)]))
  (hg:((w3.alloc (.cells (bKt x.2.1 x.2.2.2.2.2).toArray 130)).alloc o).grownBy w4 lv.ownBlock) :
  Blk w4 gm 127 [lv,.map (some bo),.map (some bz),.map (some bk)]∧aJm w0 w3 (w4.setCell ⟨gm,0,none⟩ v4) B gm bo bz bk gx w3.heap.size (E.length+1) lv v4 E x∧nC (w4.setCell ⟨gm,0,none⟩ v4) bo (bW L E) N∧(w4.setCell ⟨gm,0,none⟩ v4).heap[bz]? = w3.heap[bz]?:=by
 have old:∀ k,k<w3.heap.size→lv.ownBlock≠some k→w4.heap[k]? = w3.heap[k]?:=fun k hk hne=>by
  rw[hg.block k (by simp;omega) (fun e=>hne e.symm),cW _ _ (by simp;omega),cW _ _ hk]
 have hm:=h.mi;have hmlt:=hm.bx.lt;have hmo:lv.ownBlock≠some gm:=fun e=>(hm.bx.ty.ne (aW hm.row e) (by decide)) rfl;have hm4:=hm.bx.at (old gm hmlt hmo);have hgx:=h.box.lt;have hxo:lv.ownBlock≠some gx:=fun e=>(h.box.ty.ne (aW hm.row e) (by decide)) rfl;have hxm:gx≠gm:=h.box.ty.ne hm.bx.ty (by decide)
 have hnew:Blk w4 w3.heap.size 130 (bKt x.2.1 x.2.2.2.2.2):=by
  refine((Blk.new w3 _ _).alloc o).at (hg.block _ (by simp;omega) (fun e=>?_));have:=gV hm.row e.symm;omega
 have old5:∀ k,k<w3.heap.size→k≠gm→lv.ownBlock≠some k→(w4.setCell ⟨gm,0,none⟩ v4).heap[k]? = w3.heap[k]?:=fun k hk h1 h2=>by
  rw[Below.heap_setCell _ _ _ _ h1];exact old k hk h2
 obtain⟨ks,c1,-⟩:=hm.ses;refine⟨hm4,⟨hm4.set 0 v4,(h.box.at (old gx hgx hxo)).far hxm v4,hnew.far (by simp;omega) v4,aD hown hm4 (by decide) 0 v4,fun k hk h1 h2 _ _=>old5 k hk h1 h2,?_⟩,hm.opn.at (old5 bo hm.opn.lt (hm.opn.ty hm.bx.ty) (fun e=>hm.opn.ty (aW hm.row e) rfl)),old5 bz c1.lt (c1.ty hm.bx.ty) (fun e=>c1.ty (aW hm.row e) rfl)⟩
 ·have hs:=h.bel.size;have hb:Below B w0 w3:=h.bel.mono hB;have h3:Below B w0 w4:=((hb.alloc (by omega) _).alloc (by simp;omega) o).grown hg (by simp;omega) (fun k hk=>(hm.row.lt k hk).1);exact h3.setCell hm.base.1 _
theorem aJm.drew {w0 w3 w:World} {B gm bo bz bk gx g n:Nat} {lv lv':Value} {E:List bV} {x:aV} (h:aJm w0 w3 w B gm bo bz bk gx g n lv lv' E x):aJm w0 w3 w.drew B gm bo bz bk gx g n lv lv' E x:=
 ⟨h.mb,h.box,h.dr,h.row,h.far,h.bel.drew⟩
theorem aJm.turn {w0 w3 w w':World} {B gm bo bz bk gx g n b:Nat} {lv lv':Value} {E:List bV} {x:aV} (h:aJm w0 w3 w B gm bo bz bk gx g n lv lv' E x) (ht:w.mapTurned w' b) (hb:b=bo∨b=bz) (hB:B≤w0.heap.size) (hBb:B≤b):aJm w0 w3 w' B gm bo bz bk gx g n lv lv' E x:=by
 refine⟨h.mb.at (lH ht h.mb.ty),h.box.at (lH ht h.box.ty),h.dr.at (lH ht h.dr.ty),jL h.row (fun k hk=>lH ht (aW h.row hk)),fun k hk h1 h2 h3 h4=>?_,wP ht h.bel hB hBb⟩;have hf:=h.far k hk h1 h2 h3 h4;rw[←hf];exact jI ht k (oG hf hk) (fun e=>hb.elim (fun e2=>h3 (e.trans e2)) (fun e2=>h4 (e.trans e2)))
structure kK (w0 w3 w:World) (B bo bk gx N:Nat) (f:List UInt8→Option Nat) (kl:List (List UInt8)) (e0 e:bV) (d:aH) (x:aV):Prop where
 box:Blk w gx 116 [.int .i64 x.1,.string (bs x.2.1),.string (bs x.2.2.1),.int .i64 x.2.2.2.1,.int .i64 x.2.2.2.2.1,.int .i64 x.2.2.2.2.2]
 dv:vV w B e d
 one:e.1=e0.1
 hk:e.2.1.ownBlock=e0.2.1.ownBlock∨∃ g,e.2.1.ownBlock=some g∧w3.heap.size≤g
 ho:e.2.2.ownBlock=e0.2.2.ownBlock∨∃ g,e.2.2.ownBlock=some g∧w3.heap.size≤g
 far:∀ k,k<w3.heap.size→k≠e0.1→e0.2.1.ownBlock≠some k→e0.2.2.ownBlock≠some k→k≠bo→k≠bk→w.heap[k]? = w3.heap[k]?
 opn:nC w bo f N
 cnt:oP w bk kl N
 bel:Below B w0 w
 sz:w3.heap.size≤w.heap.size
theorem kK.start {w0 w3:World} {B gm N bo bz bk gx:Nat} {L:List aH} {lv:Value} {E:List bV} {x:aV} (h:StB w0 w3 B gm N bo bz bk gx L lv E x) (hB:B≤w0.heap.size) (i:Nat) (hi:i<L.length) {kl:List (List UInt8)} (hc:oP w3 bk kl N) :
  kK w0 w3 w3 B bo bk gx N (bW L E) kl (E.getD i bM) (E.getD i bM) (L.getD i noD) x:=
 ⟨h.box,h.mi.dr i hi,rfl,.inl rfl,.inl rfl,fun _ _ _ _ _ _ _=>rfl,h.mi.opn,hc,h.bel.mono hB,Nat.le_refl _⟩
theorem kK.drew {w0 w3 w:World} {B bo bk gx N:Nat} {f:List UInt8→Option Nat} {kl:List (List UInt8)} {e0 e:bV} {d:aH} {x:aV} (h:kK w0 w3 w B bo bk gx N f kl e0 e d x):kK w0 w3 w.drew B bo bk gx N f kl e0 e d x:=
 ⟨h.box,⟨h.dv.base,h.dv.blk,h.dv.ks,h.dv.ops⟩,h.one,h.hk,h.ho,h.far,h.opn.at rfl,h.cnt.at rfl,h.bel.drew,h.sz⟩
theorem kK.turnK {w0 w3 w w':World} {B bo bk gx N:Nat} {f:List UInt8→Option Nat} {kl kl':List (List UInt8)} {e0 e:bV} {d:aH} {x:aV} (h:kK w0 w3 w B bo bk gx N f kl e0 e d x) (ht:w.mapTurned w' bk) (hc:oP w' bk kl' (N+1)) (hB:B≤w0.heap.size) (hBb:B≤bk) (hne:bo≠bk) :
  kK w0 w3 w' B bo bk gx (N+1) f kl' e0 e d x:=by
 refine⟨h.box.at (lH ht h.box.ty),h.dv.at (lH ht h.dv.blk.ty) (fun k hk=>lH ht (aW h.dv.ks hk)) (fun k hk=>lH ht (aW h.dv.ops hk)),h.one,h.hk,h.ho,fun k hk h1 h2 h3 h4 h5=>?_,(h.opn.at (jI ht bo h.opn.lt hne)).mono (Nat.le_succ N),hc,wP ht h.bel hB hBb,Nat.le_trans h.sz ht.grown.size⟩;have hf:=h.far k hk h1 h2 h3 h4 h5;rw[←hf];exact jI ht k (oG hf hk) h5
theorem kK.turnO {w0 w3 w w':World} {B bo bk gx N:Nat} {f f':List UInt8→Option Nat} {kl:List (List UInt8)} {e0 e:bV} {d:aH} {x:aV} (h:kK w0 w3 w B bo bk gx N f kl e0 e d x) (ht:w.mapTurned w' bo) (hc:nC w' bo f' N) (hB:B≤w0.heap.size) (hBb:B≤bo) (hne:bo≠bk) :
  kK w0 w3 w' B bo bk gx N f' kl e0 e d x:=by
 refine⟨h.box.at (lH ht h.box.ty),h.dv.at (lH ht h.dv.blk.ty) (fun k hk=>lH ht (aW h.dv.ks hk)) (fun k hk=>lH ht (aW h.dv.ops hk)),h.one,h.hk,h.ho,fun k hk h1 h2 h3 h4 h5=>?_,hc,h.cnt.at (jI ht bk h.cnt.lt (Ne.symm hne)),wP ht h.bel hB hBb,Nat.le_trans h.sz ht.grown.size⟩;have hf:=h.far k hk h1 h2 h3 h4 h5;rw[←hf];exact jI ht k (oG hf hk) h4
theorem kK.fate {w0 w3 w:World} {B bo bk gx N:Nat} {f:List UInt8→Option Nat} {kl:List (List UInt8)} {e0 e:bV} {d:aH} {x:aV} (h:kK w0 w3 w B bo bk gx N f kl e0 e d x) (u:Int) (o:Bool) :
  kK w0 w3 (w.setCell ⟨e.1,4,none⟩ (.int .i64 u)) B bo bk gx N f kl e0 e { d with fate:=u,op:=o } x:=by
 have hb:=h.dv.blk;have old5:∀ k,k≠e.1→(w.setCell ⟨e.1,4,none⟩ (.int .i64 u)).heap[k]? = w.heap[k]?:=fun k h1=>Below.heap_setCell _ _ _ _ h1
 refine⟨h.box.at (old5 gx (h.box.ty.ne hb.ty (by decide))),⟨h.dv.base,hb.set 4 _,jL h.dv.ks (fun k hk=>old5 k ((aW h.dv.ks hk).ne hb.ty (by decide))),jL h.dv.ops (fun k hk=>old5 k ((aW h.dv.ops hk).ne hb.ty (by decide)))⟩,h.one,h.hk,h.ho,fun k hk h1 h2 h3 h4 h5=>?_,
  h.opn.at (old5 bo (h.opn.ty hb.ty)),h.cnt.at (old5 bk (h.cnt.ty hb.ty)),h.bel.setCell h.dv.base _,by rw[mD];exact h.sz⟩
 rw[old5 k (by rw[h.one];exact h1)];exact h.far k hk h1 h2 h3 h4 h5
theorem kK.ops {w0 w3 w w4:World} {B bo bk gx N:Nat} {f:List UInt8→Option Nat} {kl:List (List UInt8)} {e0 e:bV} {d:aH} {x:aV} {v4:Value} {ob:Obj} (h:kK w0 w3 w B bo bk gx N f kl e0 e d x) (o:OpM)
  (hown:w4.ownsRow B 82 4 v4 (d.ops.length+1) (d.ops.flatMap opc++opc o)) (hg:(w.alloc ob).grownBy w4 e.2.2.ownBlock) (hat:v4.ownBlock=e.2.2.ownBlock∨v4.ownBlock=some (w.alloc ob).heap.size) (hB:B≤w0.heap.size) :
  Blk w4 e.1 130 (drc d e)∧kK w0 w3 (w4.setCell ⟨e.1,5,none⟩ v4) B bo bk gx N f kl e0 (e.1,e.2.1,v4) { d with ops:=d.ops++[o] } x:=by
 have hb:=h.dv.blk;have hBw:=Nat.le_trans hB h.bel.size
 have old:∀ k,k<w.heap.size→e.2.2.ownBlock≠some k→w4.heap[k]? = w.heap[k]?:=fun k hk hne=>by
  rw[hg.block k (by simp;omega) (fun e=>hne e.symm),cW _ _ hk]
 have no:∀ {k t},Ty w k t→t≠82→e.2.2.ownBlock≠some k:=fun {k t} hk ht he=>(hk.ne (aW h.dv.ops he) ht) rfl;have hb4:=hb.at (old e.1 hb.lt (no hb.ty (by decide)))
 have old5:∀ k,k<w.heap.size→e.2.2.ownBlock≠some k→k≠e.1→(w4.setCell ⟨e.1,5,none⟩ v4).heap[k]? = w.heap[k]?:=fun k hk hne h1=>by
  rw[Below.heap_setCell _ _ _ _ h1];exact old k hk hne
 have hsz:w.heap.size≤w4.heap.size:=Nat.le_trans (by simp) hg.size
 refine⟨hb4,h.box.at (old5 gx h.box.lt (no h.box.ty (by decide)) (h.box.ty.ne hb.ty (by decide))),⟨h.dv.base,hb4.set 5 v4,jL h.dv.ks (fun k hk=>old5 k (gV h.dv.ks hk) (no (aW h.dv.ks hk) (by decide)) ((aW h.dv.ks hk).ne hb.ty (by decide))),?_⟩,h.one,h.hk,?_,fun k hk h1 h2 h3 h4 h5=>?_,
  h.opn.at (old5 bo h.opn.lt (fun e=>h.opn.ty (aW h.dv.ops e) rfl) (h.opn.ty hb.ty)),h.cnt.at (old5 bk h.cnt.lt (fun e=>h.cnt.ty (aW h.dv.ops e) rfl) (h.cnt.ty hb.ty)),?_,by rw[mD];exact Nat.le_trans h.sz hsz⟩
 ·have:=aD hown hb4 (by decide) 5 v4;rw[yN] at this;simpa using this
 ·rcases hat with hat | hat
  ·simp only;rw[hat];exact h.ho
  ·exact .inr ⟨_,hat,Nat.le_trans h.sz (by simp)⟩
 ·rw[old5 k (Nat.lt_of_lt_of_le hk h.sz) (fun e=>?_) (by rw[h.one];exact h1)]
  ·exact h.far k hk h1 h2 h3 h4 h5
  ·rcases h.ho with h6 | ⟨g,h6,h7⟩
   ·rw[h6] at e;exact h3 e
   ·rw[h6] at e;injection e with e;omega
 ·exact((h.bel.alloc hBw ob).grown hg (by simp;omega) (fun k hk=>(h.dv.ops.lt k hk).1)).setCell h.dv.base _
theorem kK.ks {w0 w3 w w4:World} {B bo bk gx N:Nat} {f:List UInt8→Option Nat} {kl:List (List UInt8)} {e0 e:bV} {d:aH} {x:aV} {v4:Value} {ob:Obj} (h:kK w0 w3 w B bo bk gx N f kl e0 e d x) (o:List UInt8)
  (hown:w4.ownsRow B 9 1 v4 (d.ks.length+1) (d.ks.flatMap nmc++nmc o)) (hg:(w.alloc ob).grownBy w4 e.2.1.ownBlock) (hat:v4.ownBlock=e.2.1.ownBlock∨v4.ownBlock=some (w.alloc ob).heap.size) (hB:B≤w0.heap.size) :
  Blk w4 e.1 130 (drc d e)∧kK w0 w3 (w4.setCell ⟨e.1,1,none⟩ v4) B bo bk gx N f kl e0 (e.1,v4,e.2.2) { d with ks:=d.ks++[o] } x:=by
 have hb:=h.dv.blk;have hBw:=Nat.le_trans hB h.bel.size
 have old:∀ k,k<w.heap.size→e.2.1.ownBlock≠some k→w4.heap[k]? = w.heap[k]?:=fun k hk hne=>by
  rw[hg.block k (by simp;omega) (fun e=>hne e.symm),cW _ _ hk]
 have no:∀ {k t},Ty w k t→t≠9→e.2.1.ownBlock≠some k:=fun {k t} hk ht he=>(hk.ne (aW h.dv.ks he) ht) rfl;have hb4:=hb.at (old e.1 hb.lt (no hb.ty (by decide)))
 have old5:∀ k,k<w.heap.size→e.2.1.ownBlock≠some k→k≠e.1→(w4.setCell ⟨e.1,1,none⟩ v4).heap[k]? = w.heap[k]?:=fun k hk hne h1=>by
  rw[Below.heap_setCell _ _ _ _ h1];exact old k hk hne
 have hsz:w.heap.size≤w4.heap.size:=Nat.le_trans (by simp) hg.size
 refine⟨hb4,h.box.at (old5 gx h.box.lt (no h.box.ty (by decide)) (h.box.ty.ne hb.ty (by decide))),⟨h.dv.base,hb4.set 1 v4,?_,jL h.dv.ops (fun k hk=>old5 k (gV h.dv.ops hk) (no (aW h.dv.ops hk) (by decide)) ((aW h.dv.ops hk).ne hb.ty (by decide)))⟩,h.one,?_,h.ho,fun k hk h1 h2 h3 h4 h5=>?_,
  h.opn.at (old5 bo h.opn.lt (fun e=>h.opn.ty (aW h.dv.ks e) rfl) (h.opn.ty hb.ty)),h.cnt.at (old5 bk h.cnt.lt (fun e=>h.cnt.ty (aW h.dv.ks e) rfl) (h.cnt.ty hb.ty)),?_,by rw[mD];exact Nat.le_trans h.sz hsz⟩
 ·have:=aD hown hb4 (by decide) 1 v4;rw[yN] at this;simpa using this
 ·rcases hat with hat | hat
  ·simp only;rw[hat];exact h.hk
  ·exact .inr ⟨_,hat,Nat.le_trans h.sz (by simp)⟩
 ·rw[old5 k (Nat.lt_of_lt_of_le hk h.sz) (fun e=>?_) (by rw[h.one];exact h1)]
  ·exact h.far k hk h1 h2 h3 h4 h5
  ·rcases h.hk with h6 | ⟨g,h6,h7⟩
   ·rw[h6] at e;exact h2 e
   ·rw[h6] at e;injection e with e;omega
 ·exact((h.bel.alloc hBw ob).grown hg (by simp;omega) (fun k hk=>(h.dv.ks.lt k hk).1)).setCell h.dv.base _
theorem kK.done {w0 w3 w:World} {B gm N N' bo bz bk gx:Nat} {L:List aH} {lv:Value} {E:List bV} {f:List UInt8→Option Nat} {kl:List (List UInt8)} {e:bV} {d:aH} {x:aV} (i:Nat) (hi:i<L.length) (h0:StB w0 w3 B gm N bo bz bk gx L lv E x)
  (h:kK w0 w3 w B bo bk gx N' f kl (E.getD i bM) e d x) (hn:d.nm=(L.getD i noD).nm) (hf:bW (L.set i d) (E.set i e)=f) (hd:kl.Nodup) (hm:∀ y,y∈kl↔y∈dT (L.set i d)) (hN:N≤N'):MkI w B gm (L.set i d) N' lv bo bz bk (E.set i e):=
 h0.mi.set i hi e d h.one hn h.far h.dv h.hk h.ho (by rw[hf];exact h.opn) ⟨kl,h.cnt,hd,hm⟩ hN
def bN (w w':World):Prop:=∀ k,Ty w k 116→w'.heap[k]? = w.heap[k]?
theorem Ty.lt {w:World} {k:Nat} {t:TypeId} (h:Ty w k t):k<w.heap.size:=by
 obtain⟨cs,fz,h⟩:=h;exact(Array.getElem?_eq_some_iff.1 h).1
theorem Ty.at {w w':World} {k:Nat} {t:TypeId} (h:Ty w k t) (e:w'.heap[k]? = w.heap[k]?):Ty w' k t:=by
 obtain⟨cs,fz,h⟩:=h;exact⟨cs,fz,e.trans h⟩
theorem bN.below {w w':World} (h:Below w.heap.size w w'):bN w w':=fun k hk=>h.block k hk.lt
theorem bN.trans {a b c:World} (h:bN a b) (h':bN b c):bN a c:=fun k hk=>(h' k (hk.at (h k hk))).trans (h k hk)
theorem aJm.ev {w0 w3 w:World} {B gm N bo bz bk gx g n:Nat} {L:List aH} {lv lv':Value} {E:List bV} {x:aV} (h0:StB w0 w3 B gm N bo bz bk gx L lv E x) (h:aJm w0 w3 w B gm bo bz bk gx g n lv lv' E x):bN w0 w:=fun k hk=>by
 have e3:=h0.bel.block k hk.lt;have hk3:=hk.at e3;obtain⟨ks,c1,-⟩:=h0.mi.ses;exact(h.far k hk3.lt (hk3.ne h0.mi.bx.ty (by decide)) (fun e=>(hk3.ne (aW h0.mi.row e) (by decide)) rfl) (fun e=>h0.mi.opn.ty hk3 e.symm) (fun e=>c1.ty hk3 e.symm)).trans e3
theorem kK.ev {w0 w3 w:World} {B gm N N' bo bz bk gx i:Nat} {L:List aH} {lv:Value} {E:List bV} {f:List UInt8→Option Nat} {kl:List (List UInt8)} {e:bV} {d:aH} {x:aV} (h0:StB w0 w3 B gm N bo bz bk gx L lv E x) (hi:i<L.length) (h:kK w0 w3 w B bo bk gx N' f kl (E.getD i bM) e d x):bN w0 w:=fun k hk=>by
 have e3:=h0.bel.block k hk.lt;have hk3:=hk.at e3;obtain⟨ks,c1,-⟩:=h0.mi.key;have d0:=h0.mi.dr i hi;exact(h.far k hk3.lt (hk3.ne d0.blk.ty (by decide)) (fun e=>(hk3.ne (aW d0.ks e) (by decide)) rfl) (fun e=>(hk3.ne (aW d0.ops e) (by decide)) rfl) (fun e=>h0.mi.opn.ty hk3 e.symm) (fun e=>c1.ty hk3 e.symm)).trans e3
end
section
open Go.RowKit
section
variable {P:Program} {ops:Array Oper} {Q:Exit→Act→World→Prop} {md:Region.Mode} {S:World→Prop} {late:List Nat}
def bT (P:Program) (md:Region.Mode) (ops:Array Oper) (Q:Exit→Act→World→Prop) (S:World→Prop) (late:List Nat):Nat→Array Bool→Act→World→Prop
 | 0,listed,a,w=>Region.ready md ops listed=[]∧Q .normal a w
 | fuel+1,listed,a,w=>
  (Region.ready md ops listed=[]→Q .normal a w) ∧
  ∀ i∈Region.ready md ops listed,wpOp P ops Q i (fun a' w'=>(late.contains i=false→S w→S w')∧bT P md ops Q S late fuel (listed.setIfInBounds i true) a' w') a w
theorem vQ:∀ (fuel:Nat) (listed:Array Bool) (a:Act) (w:World),bT P md ops Q S late fuel listed a w→wpAny P md ops Q fuel listed a w
 | 0,_,_,_,h=>h
 | fuel+1,_,_,_,h=>⟨h.1,fun i hi=>wpOp_mono (fun a' w' h'=>vQ fuel _ a' w' h'.2) (h.2 i hi)⟩
def sX (md:Region.Mode) (ops:Array Oper):Nat→Nat→Nat→Bool
 | 0,_,_=>false
 | n+1,l,i=>match ops[l]? with
  | some o=>o.after.any fun e=>Region.binds md e&&(e.on==i||sX md ops n e.on i)
  | none=>false
def wZ (md:Region.Mode) (ops:Array Oper) (listed:Array Bool):Bool:=(List.range ops.size).all fun j=>!listed.getD j true||match ops[j]? with
 | some o=>o.after.all fun e=>!Region.binds md e||listed.getD e.on true
 | none=>true
def uK (md:Region.Mode) (ops:Array Oper) (listed:Array Bool):Prop:=∀ j o,ops[j]? = some o→listed.getD j true=true→∀ e∈o.after,Region.binds md e=true→listed.getD e.on true=true
theorem aQq {listed:Array Bool} (h:wZ md ops listed=true):uK md ops listed:=by
 intro j o ho hj e he hb;have hlt:j<ops.size:=(Array.getElem?_eq_some_iff.1 ho).1;have h1:=List.all_eq_true.1 h j (List.mem_range.2 hlt);simp only[hj,Bool.not_true,Bool.false_or,ho] at h1;have h2:=Array.all_eq_true_iff_forall_mem.1 h1 e he;simpa [hb] using h2
theorem aIq {listed:Array Bool} {j:Nat} {o:Oper} (hj:j∈Region.ready md ops listed) (ho:ops[j]? = some o):∀ e∈o.after,Region.binds md e=true→listed.getD e.on true=true:=by
 intro e he hb;obtain⟨-,o',ho',hall⟩:=mem_ready.1 hj;obtain rfl:=Option.some.inj (ho.symm.trans ho');have h1:=hall e he hb;rcases Nat.lt_or_ge e.on listed.size with h' | h'
 ·simp[h'] at h1 ⊢;exact h1
 ·simp[Array.getElem?_eq_none h'] at h1
theorem uK.next {listed:Array Bool} (h:uK md ops listed) {j:Nat} (hj:j∈Region.ready md ops listed):uK md ops (listed.setIfInBounds j true):=by
 have up:∀ k,listed.getD k true=true→(listed.setIfInBounds j true).getD k true=true:=by
  intro k hk;by_cases hjk:j=k
  ·subst hjk;rcases Nat.lt_or_ge j listed.size with h' | h'
   ·simp[h']
   ·simp
  ·rw[getD_set_ne true hjk];exact hk
 intro k o ho hk e he hb;apply up;by_cases hjk:j=k
 ·subst hjk;exact aIq hj ho e he hb
 ·rw[getD_set_ne true hjk] at hk;exact h k o ho hk e he hb
theorem aAa {i:Nat} {listed:Array Bool} (hc:uK md ops listed) (hi:listed.getD i true=false):∀ n l,sX md ops n l i=true→listed.getD l true=false∧l∉Region.ready md ops listed
 | 0,_,h=>by cases h
 | n+1,l,h=>by
  unfold sX at h;split at h
  ·rename_i o ho;obtain⟨e,he,hb⟩:=Array.any_eq_true'.1 h;simp only[Bool.and_eq_true,Bool.or_eq_true,beq_iff_eq] at hb
   have hne:listed.getD e.on true=false:=by
    rcases hb.2 with h1 | h1
    ·rw[h1];exact hi
    ·exact(aAa hc hi n e.on h1).1
   constructor
   ·cases hl:listed.getD l true with
    | false=>rfl
    | true=>rw[hc l o ho hl e he hb.1] at hne;cases hne
   ·intro hr;rw[aIq hr ho e he hb.1] at hne;cases hne
  ·cases h
theorem aLd {i n:Nat} {oi:Oper} {v:Value} (hi:ops[i]? = some oi) (hsel:∀ (j:Nat) (o:Oper) cs b,ops[j]? = some o→o.op≠.select cs b)
  (hQ:∀ c a w,Q (.panic c) (a.put oi.dst v) w→Q (.panic c) a w) (hw:late.all (fun l=>sX md ops n l i)=true) :
  ∀ (fuel:Nat) (listed:Array Bool) (a:Act) (w:World),uK md ops listed →
   (∀ j oj,ops[j]? = some oj→j≠i→listed.getD j true=false→(∀ e∈oj.after,Region.binds md e=true→e.on≠i)→oi.apart ops oj=true) →
   i∈Region.ready md ops listed→YieldsIf P ops S oi v a→S w →
   bT P md ops Q S late fuel (listed.setIfInBounds i true) (a.put oi.dst v) w→bT P md ops Q S late (fuel+1) listed a w:=by
 intro fuel
 induction fuel with
 | zero=>
  intro listed a w _ _ hr hy hS H;refine⟨fun h=>(by rw[h] at hr;cases hr),fun j hj=>?_⟩;by_cases hji:j=i
  ·subst hji;exact hy.wpOp hi hS ⟨fun _ h=>h,H⟩
  ·have:=ready_mono hj hji;rw[H.1] at this;cases this
 | succ fuel ih=>
  intro listed a w hcl hfree hr hy hS H;refine⟨fun h=>(by rw[h] at hr;cases hr),fun j hj=>?_⟩;by_cases hji:j=i
  ·subst hji;exact hy.wpOp hi hS ⟨fun _ h=>h,H⟩
  ·have hjl:late.contains j=false:=by
    cases hc:late.contains j with
    | false=>rfl
    | true=>
     have hm:j∈late:=(by simpa using hc);exact absurd hj (aAa hcl (mem_ready.1 hr).1 n j (List.all_eq_true.1 hw j hm)).2
   have h1:=H.2 j (ready_mono hj hji);obtain⟨hjun,oj,hoj,hall⟩:=mem_ready.1 hj
   have hnot:∀ e∈oj.after,Region.binds md e=true→e.on≠i:=fun e he hb heq=>by
    have h1:=hall e he hb;have h0:=(mem_ready.1 hr).1;rw[heq] at h1;rcases Nat.lt_or_ge i listed.size with h' | h'
    ·simp[h'] at h0 h1;rw[h0] at h1;cases h1
    ·simp[Array.getElem?_eq_none h'] at h1
   have h2:=wpOp_putIf hoj (hfree j oj hoj hji hjun hnot) (fun cs b=>hsel i oi cs b hi) (fun cs b=>hsel j oj cs b hoj) hQ hy h1
   have hfree':∀ k ok,ops[k]? = some ok→k≠i→(listed.setIfInBounds j true).getD k true=false →
     (∀ e∈ok.after,Region.binds md e=true→e.on≠i)→oi.apart ops ok=true:=fun k ok hk hki hun hno=>by
    refine hfree k ok hk hki ?_ hno;by_cases hjk:j=k
    ·subst hjk;exact hjun
    ·rw[getD_set_ne true hjk] at hun;exact hun
   refine wpOp_mono (fun a' w' h3=>⟨fun _=>h3.2.1 hjl,ih (listed.setIfInBounds j true) a' w' (hcl.next hj) hfree' (ready_mono hr (Ne.symm hji)) h3.1 (h3.2.1 hjl hS) ?_⟩) h2;rw[Array.setIfInBounds_comm _ _ hji];exact h3.2.2
theorem aLg {i:Nat} {oi:Oper} {v:Value} (hi:ops[i]? = some oi) (hsel:∀ (j:Nat) (o:Oper) cs b,ops[j]? = some o→o.op≠.select cs b)
  (hQ:∀ c a w,Q (.panic c) (a.put oi.dst v) w→Q (.panic c) a w) :
  ∀ (fuel:Nat) (listed:Array Bool) (a:Act) (w:World),
   (∀ j oj,ops[j]? = some oj→j≠i→listed.getD j true=false→(∀ e∈oj.after,Region.binds md e=true→e.on≠i)→oi.apart ops oj=true) →
   i∈Region.ready md ops listed→YieldsIf P ops (fun _=>True) oi v a →
   bT P md ops Q S late fuel (listed.setIfInBounds i true) (a.put oi.dst v) w→bT P md ops Q S late (fuel+1) listed a w:=by
 intro fuel
 induction fuel with
 | zero=>
  intro listed a w _ hr hy H;refine⟨fun h=>(by rw[h] at hr;cases hr),fun j hj=>?_⟩;by_cases hji:j=i
  ·subst hji;exact hy.wpOp hi trivial ⟨fun _ h=>h,H⟩
  ·have:=ready_mono hj hji;rw[H.1] at this;cases this
 | succ fuel ih=>
  intro listed a w hfree hr hy H;refine⟨fun h=>(by rw[h] at hr;cases hr),fun j hj=>?_⟩;by_cases hji:j=i
  ·subst hji;exact hy.wpOp hi trivial ⟨fun _ h=>h,H⟩
  ·have h1:=H.2 j (ready_mono hj hji);obtain⟨hjun,oj,hoj,hall⟩:=mem_ready.1 hj
   have hnot:∀ e∈oj.after,Region.binds md e=true→e.on≠i:=fun e he hb heq=>by
    have h1:=hall e he hb;have h0:=(mem_ready.1 hr).1;rw[heq] at h1;rcases Nat.lt_or_ge i listed.size with h' | h'
    ·simp[h'] at h0 h1;rw[h0] at h1;cases h1
    ·simp[Array.getElem?_eq_none h'] at h1
   have h2:=wpOp_putIf hoj (hfree j oj hoj hji hjun hnot) (fun cs b=>hsel i oi cs b hi) (fun cs b=>hsel j oj cs b hoj) hQ hy h1
   have hfree':∀ k ok,ops[k]? = some ok→k≠i→(listed.setIfInBounds j true).getD k true=false →
     (∀ e∈ok.after,Region.binds md e=true→e.on≠i)→oi.apart ops ok=true:=fun k ok hk hki hun hno=>by
    refine hfree k ok hk hki ?_ hno;by_cases hjk:j=k
    ·subst hjk;exact hjun
    ·rw[getD_set_ne true hjk] at hun;exact hun
   refine wpOp_mono (fun a' w' h3=>⟨h3.2.1,ih (listed.setIfInBounds j true) a' w' hfree' (ready_mono hr (Ne.symm hji)) h3.1 ?_⟩) h2;rw[Array.setIfInBounds_comm _ _ hji];exact h3.2.2
theorem uJ (i:Nat) {d:Tmp} {op:Op} {ty:TypeId} {pos:String} {aft:Array Edge} {gd:Option (Nat×Bool)} {v:Value} {fuel:Nat} {listed:Array Bool} {a:Act} {w:World} (hi:ops[i]? = some ⟨some d,op,ty,pos,aft,gd⟩)
  (hs:Region.noSelect ops=true) (hf:Region.free md ops listed i=true) (hr:(Region.ready md ops listed).contains i=true)
  (hQ:∀ c a w,Q (.panic c) (a.put (some d) v) w→Q (.panic c) a w) (hy:YieldsIf P ops (fun _=>True) ⟨some d,op,ty,pos,aft,gd⟩ v a)
  (h:bT P md ops Q S late fuel (listed.setIfInBounds i true) (a.put (some d) v) w):bT P md ops Q S late (fuel+1) listed a w:=
 aLg hi (Region.noSelect_spec hs) hQ fuel listed a w (Region.free_spec hi hf) (by simpa using hr) hy h
theorem aAd (i n:Nat) {d:Tmp} {op:Op} {ty:TypeId} {pos:String} {aft:Array Edge} {gd:Option (Nat×Bool)} {v:Value} {fuel:Nat} {listed:Array Bool} {a:Act} {w:World} (hi:ops[i]? = some ⟨some d,op,ty,pos,aft,gd⟩)
  (hs:Region.noSelect ops=true) (hf:Region.free md ops listed i=true) (hr:(Region.ready md ops listed).contains i=true) (hw:late.all (fun l=>sX md ops n l i)=true) (hcl:wZ md ops listed=true)
  (hQ:∀ c a w,Q (.panic c) (a.put (some d) v) w→Q (.panic c) a w) (hy:YieldsIf P ops S ⟨some d,op,ty,pos,aft,gd⟩ v a) (hS:S w)
  (h:bT P md ops Q S late fuel (listed.setIfInBounds i true) (a.put (some d) v) w):bT P md ops Q S late (fuel+1) listed a w:=
 aLd hi (Region.noSelect_spec hs) hQ hw fuel listed a w (aQq hcl) (Region.free_spec hi hf) (by simpa using hr) hy hS h
theorem aUj (i:Nat) {d:Option Tmp} {op:Op} {ty:TypeId} {pos:String} {aft:Array Edge} {gd:Option (Nat×Bool)} {fuel:Nat} {listed:Array Bool} {a:Act} {w:World} (ho:ops[i]? = some ⟨d,op,ty,pos,aft,gd⟩) (hr:Region.ready md ops listed=[i])
  (h:∀ K:Act→World→Prop,Hid (∀ a' w',(late.contains i=false→S w→S w')→bT P md ops Q S late fuel (listed.setIfInBounds i true) a' w'→K a' w')→if Region.wanted ⟨d,op,ty,pos,aft,gd⟩ (yielded ops a.tmps)=true then Oper.wp P ⟨d,op,ty,pos,aft,gd⟩ a w K Q else K (a.put d undef) w):bT P md ops Q S late (fuel+1) listed a w:=by
 refine⟨fun h0=>(by rw[hr] at h0;cases h0),fun j hj=>?_⟩;rw[hr] at hj;obtain rfl:j=i:=(by simpa using hj);exact wpOp_step ho (fun K hK=>h K (lhid (fun a' w' h1 h2=>hK a' w' ⟨h1,h2⟩)))
theorem wfr (i:Nat) {d:Tmp} {op:Op} {ty:TypeId} {pos:String} {aft:Array Edge} {gd:Option (Nat×Bool)} {v:Value} {fuel:Nat} {listed:Array Bool} {a:Act} {w:World} (hi:ops[i]? = some ⟨some d,op,ty,pos,aft,gd⟩)
  (hy:∀ w,True→(execOp a.eval ⟨some d,op,ty,pos,aft,gd⟩).run P w=.ok (.value v) w) (h:bT P md ops Q S late fuel (listed.setIfInBounds i true) (a.put (some d) v) w)
  (hs:Region.noSelect ops=true:=by kernel_rfl) (hf:Region.free md ops listed i=true:=by kernel_rfl) (hr:(Region.ready md ops listed).contains i=true:=by kernel_rfl)
  (hQ:∀ c a w,Q (.panic c) (a.put (some d) v) w→Q (.panic c) a w:=by exact fun _ _ _ h=>h) (hw:Region.wanted ⟨some d,op,ty,pos,aft,gd⟩ (yielded ops a.tmps)=true:=by rfl) :
  bT P md ops Q S late (fuel+1) listed a w:=uJ i hi hs hf hr hQ (Or.inl ⟨hw,hy⟩) h
theorem wtk (i n:Nat) {d:Tmp} {op:Op} {ty:TypeId} {pos:String} {aft:Array Edge} {gd:Option (Nat×Bool)} {v:Value} {fuel:Nat} {listed:Array Bool} {a:Act} {w:World} (hi:ops[i]? = some ⟨some d,op,ty,pos,aft,gd⟩)
  (hy:∀ w,S w→(execOp a.eval ⟨some d,op,ty,pos,aft,gd⟩).run P w=.ok (.value v) w) (hS:S w) (h:bT P md ops Q S late fuel (listed.setIfInBounds i true) (a.put (some d) v) w)
  (hs:Region.noSelect ops=true:=by kernel_rfl) (hf:Region.free md ops listed i=true:=by kernel_rfl) (hr:(Region.ready md ops listed).contains i=true:=by kernel_rfl)
  (hl:late.all (fun l=>sX md ops n l i)=true:=by kernel_rfl) (hcl:wZ md ops listed=true:=by kernel_rfl)
  (hQ:∀ c a w,Q (.panic c) (a.put (some d) v) w→Q (.panic c) a w:=by exact fun _ _ _ h=>h) (hw:Region.wanted ⟨some d,op,ty,pos,aft,gd⟩ (yielded ops a.tmps)=true:=by rfl) :
  bT P md ops Q S late (fuel+1) listed a w:=aAd i n hi hs hf hr hl hcl hQ (Or.inl ⟨hw,hy⟩) hS h
theorem won (i:Nat) {d:Option Tmp} {op:Op} {ty:TypeId} {pos:String} {aft:Array Edge} {gd:Option (Nat×Bool)} {fuel:Nat} {listed:Array Bool} {a:Act} {w:World} (ho:ops[i]? = some ⟨d,op,ty,pos,aft,gd⟩)
  (h:∀ K:Act→World→Prop,Hid (∀ a' w',(late.contains i=false→S w→S w')→bT P md ops Q S late fuel (listed.setIfInBounds i true) a' w'→K a' w')→if Region.wanted ⟨d,op,ty,pos,aft,gd⟩ (yielded ops a.tmps)=true then Oper.wp P ⟨d,op,ty,pos,aft,gd⟩ a w K Q else K (a.put d undef) w)
  (hr:Region.ready md ops listed=[i]:=by kernel_rfl):bT P md ops Q S late (fuel+1) listed a w:=aUj i ho hr h
theorem aPy {listed:Array Bool} {a:Act} {w:World} (hr:Region.ready md ops listed=[]) (h:Q .normal a w):∀ fuel,bT P md ops Q S late fuel listed a w
 | 0=>⟨hr,h⟩
 | _+1=>⟨fun _=>h,by rw[hr];simp⟩
theorem aFy (S:World→Prop) (late:List Nat) {id:Nat} {a:Act} {w:World} (hm:P.follows .mixedOrders=true)
  (h:bT P .any ops Q S late ops.size (Array.replicate ops.size false) a w.drew):(Code.region id ops true).wp P Q a w:=
 wp_region_any hm (vQ _ _ _ _ h)
theorem wpk {id:Nat} {a:Act} {w:World} (hs:Hid (∀ w',Below w.heap.size w w'→S w')) (late:List Nat) (hm:P.follows .mixedOrders=true)
  (h:Below w.heap.size w w.drew→S w.drew→bT P .any ops Q S late ops.size (Array.replicate ops.size false) a w.drew):(Code.region id ops true).wp P Q a w:=
 aFy S late hm (h (Below.drew (Below.refl _ _)) (hs.out _ (Below.drew (Below.refl _ _))))
end
section
variable {P:Program} {ops:Array Oper} {Q:Exit→Act→World→Prop} {md:Region.Mode} {S:World→Prop} {late:List Nat} {d:Tmp} {e:Option Tmp} {op:Op} {ty:TypeId} {pos:String} {aft:Array Edge} {gd:Option (Nat×Bool)} {v:Value} {fuel:Nat} {listed l':Array Bool} {a a':Act} {w w':World}
theorem wF (i:Nat) (h:bT P md ops Q S late fuel l' a' w)
  (hi:ops[i]? = some ⟨some d,op,ty,pos,aft,gd⟩:=by rfl)
  (hy:∀ w,True→(execOp a.eval ⟨some d,op,ty,pos,aft,gd⟩).run P w=.ok (.value v) w:=by intro w' hw';go_simp;try with_reducible rfl)
  (ha:a.put (some d) v=a':=by(try simp only[Act.put,sq]);rfl)
  (hl:listed.setIfInBounds i true=l':=by(try simp only[sq]);rfl)
  (hs:Region.noSelect ops=true:=by kernel_rfl) (hf:Region.free md ops listed i=true:=by kernel_rfl) (hr:(Region.ready md ops listed).contains i=true:=by kernel_rfl)
  (hQ:∀ c a w,Q (.panic c) (a.put (some d) v) w→Q (.panic c) a w:=by exact fun _ _ _ h=>h) (hw:Region.wanted ⟨some d,op,ty,pos,aft,gd⟩ (yielded ops a.tmps)=true:=by rfl) :
  bT P md ops Q S late (fuel+1) listed a w:=uJ i hi hs hf hr hQ (Or.inl ⟨hw,hy⟩) (by rw[ha,hl];exact h)
theorem wU (i:Nat) (h:bT P md ops Q S late fuel l' a' w)
  (hi:ops[i]? = some ⟨some d,op,ty,pos,aft,gd⟩:=by rfl)
  (ha:a.put (some d) undef=a':=by(try simp only[Act.put,sq]);rfl)
  (hl:listed.setIfInBounds i true=l':=by(try simp only[sq]);rfl)
  (hs:Region.noSelect ops=true:=by kernel_rfl) (hf:Region.free md ops listed i=true:=by kernel_rfl) (hr:(Region.ready md ops listed).contains i=true:=by kernel_rfl)
  (hQ:∀ c a w,Q (.panic c) (a.put (some d) undef) w→Q (.panic c) a w:=by exact fun _ _ _ h=>h) (hw:Region.wanted ⟨some d,op,ty,pos,aft,gd⟩ (yielded ops a.tmps)=false:=by rfl) :
  bT P md ops Q S late (fuel+1) listed a w:=uJ i hi hs hf hr hQ (Or.inr ⟨hw,rfl⟩) (by rw[ha,hl];exact h)
theorem wT (i n:Nat) (hS:S w) (h:bT P md ops Q S late fuel l' a' w)
  (hi:ops[i]? = some ⟨some d,op,ty,pos,aft,gd⟩:=by rfl)
  (hy:∀ w,S w→(execOp a.eval ⟨some d,op,ty,pos,aft,gd⟩).run P w=.ok (.value v) w:=by intro w' hw';(try dsimp only at hw');go_simp;try with_reducible rfl)
  (ha:a.put (some d) v=a':=by(try simp only[Act.put,sq]);rfl)
  (hl:listed.setIfInBounds i true=l':=by(try simp only[sq]);rfl)
  (hs:Region.noSelect ops=true:=by kernel_rfl) (hf:Region.free md ops listed i=true:=by kernel_rfl) (hr:(Region.ready md ops listed).contains i=true:=by kernel_rfl)
  (hll:late.all (fun l=>sX md ops n l i)=true:=by kernel_rfl) (hcl:wZ md ops listed=true:=by kernel_rfl)
  (hQ:∀ c a w,Q (.panic c) (a.put (some d) v) w→Q (.panic c) a w:=by exact fun _ _ _ h=>h) (hw:Region.wanted ⟨some d,op,ty,pos,aft,gd⟩ (yielded ops a.tmps)=true:=by rfl) :
  bT P md ops Q S late (fuel+1) listed a w:=aAd i n hi hs hf hr hll hcl hQ (Or.inl ⟨hw,hy⟩) hS (by rw[ha,hl];exact h)
theorem wO (i:Nat) (h:bT P md ops Q S late fuel l' a' w)
  (ho:ops[i]? = some ⟨e,op,ty,pos,aft,gd⟩:=by rfl) (hr:Region.ready md ops listed=[i]:=by kernel_rfl)
  (hy:∀ K:Act→World→Prop,Hid (K a' w)→if Region.wanted ⟨e,op,ty,pos,aft,gd⟩ (yielded ops a.tmps)=true then Oper.wp P ⟨e,op,ty,pos,aft,gd⟩ a w K Q else K (a.put e undef) w:=by intro K hK;go_simp;(try simp only[Act.put,sq]);exact hK.out)
  (hl:listed.setIfInBounds i true=l':=by(try simp only[sq]);rfl):bT P md ops Q S late (fuel+1) listed a w:=
 won i ho (fun K hK=>hy K (lhid (hK.out _ _ (fun _ h=>h) (by rw[hl];exact h)))) hr
theorem wL (i:Nat) (h:bT P md ops Q S late fuel l' a' w')
  (ho:ops[i]? = some ⟨e,op,ty,pos,aft,gd⟩:=by rfl) (hr:Region.ready md ops listed=[i]:=by kernel_rfl)
  (hy:∀ K:Act→World→Prop,Hid (K a' w')→if Region.wanted ⟨e,op,ty,pos,aft,gd⟩ (yielded ops a.tmps)=true then Oper.wp P ⟨e,op,ty,pos,aft,gd⟩ a w K Q else K (a.put e undef) w:=by intro K hK;go_simp;(try simp only[Act.put,sq]);exact hK.out)
  (hl:listed.setIfInBounds i true=l':=by(try simp only[sq]);rfl) (hc:late.contains i=true:=by kernel_rfl):bT P md ops Q S late (fuel+1) listed a w:=
 won i ho (fun K hK=>hy K (lhid (hK.out _ _ (fun h=>by rw[hc] at h;cases h) (by rw[hl];exact h)))) hr
theorem wD (h:Q .normal a w) (hr:Region.ready md ops listed=[]:=by kernel_rfl):bT P md ops Q S late fuel listed a w:=aPy hr h _
end
end
section
open Go.RowKit Go.Lib Go.Sort
theorem aUa (w:World) (A B:Obj):((w.alloc A).alloc B).drew.drew=grow (w.drewN 2) #[A,B]:=by
 have e:(w.heap.push A).push B=w.heap++#[A,B]:=by
  apply Array.ext';simp[Array.toList_push]
 unfold grow World.alloc World.drew World.drewN;simp only[e]
set_option maxRecDepth 100000 in
set_option maxHeartbeats 1000000 in
theorem aDw (a b:List UInt8) (ha:a.length≤1000000) (hb:b.length≤1000000) (w:World) :
  Calls Tryz.prog 120 #[.string (bs a),.string (bs b)] w fun e w'=>e=.returned (.int .i64 (lJ (aQ a) (aQ b)))∧∃ q os,w'=grow (w.drewN q) os:=by
 have hca:=sD a ha;have hcb:=sD b hb;go_enter Tryz.func120,Tryz.ntmps120;(go_wp2_with fail);refine(zS (aQ a) (aQ b) _ _ _ _ _ ?_ ?_ (by have:=kG a;omega)).mono ?_
 ·intro j hj;exact lQ _ (mP (rowR_cell w w.drew a j hj))
 ·intro j hj;have h:=rowR_cell (w.alloc (.cells (rowR w a) 21)).drew (w.alloc (.cells (rowR w a) 21)) b j hj;rw[show(w.alloc (.cells (rowR w a) 21)).heap.size=w.heap.size+1 by simp] at h;exact mP (mP h)
 ·rintro e w1 ⟨rfl,rfl⟩;(go_wp2_with fail);go_ret;exact⟨rfl,2,_,aUa _ _ _⟩
abbrev qE:={ l:List UInt8 // bA l=true }
instance:Inhabited qE:=⟨⟨[97],by decide +kernel⟩⟩
def yH (x:qE):Value:=.string (bs x.1)
theorem bCl:OneCell yH:=fun _=>rfl
def bBx (x y:qE):Int:=lJ (aQ x.1) (aQ y.1)
theorem uX (x y:qE):ltOf bBx x y=ltN x.1 y.1:=(tR _ _).symm
theorem aPk:SWO (ltOf bBx) where
 irrefl x:=by rw[uX];exact oF _
 trans x y z h1 h2:=by rw[uX] at *;exact nR _ _ _ h1 h2
 ntrans x y z h1 h2:=by rw[uX] at *;exact aDg _ _ _ h1 h2
theorem oI (l:List UInt8) (h:bA l=true):l.length≤1000000:=by
 have hv:=nA _ l (Nat.le_refl _) (sK l h);unfold bA xV at h;simp only[Bool.and_eq_true,decide_eq_true_eq] at h;have:=zF (aQ l);rw[hv] at this;omega
theorem aCc:∀ args w,(callFunc 120 args).run Tryz.prog w=.ok (.enter 120 args) w:=enters_of Tryz.func120 (by kernel_rfl) rfl
theorem aTp (g cap:Nat) (d:Array qE) (w:World) (hH:Holds yH w g 0 d) (hg:g<w.heap.size) (hsz:d.size<4611686018427387904) :
  Calls Tryz.prog 161 #[.slice (some ⟨g,0,none⟩) d.size cap,.func (.func 120) #[] #[]] w fun e w'=>
   e=.returned (.tuple #[])∧∃ n os,w'=sortWorld yH w g 0 n (d.toList.mergeSort fun x y=>!(ltOf bBx) y x).toArray os:=
 Any.slices_SortFunc_total Tryz.laysSort yH bCl bBx aPk 120 #[] g 0 cap d w aCc
  (fun m os dk _ x y=>aDw x.1 y.1 (oI _ x.2) (oI _ y.2) _) hH hg hsz
  (fun x y h1 h2=>by rw[uX] at h1 h2;exact Subtype.ext (uT _ _ x.2 y.2 h1 h2))
theorem aGa (g cap:Nat) (S:List (List UInt8)) (w:World) (hH:Holds Go.Proofs.encStr w g 0 S.toArray) (hsz:S.length≤9223372036854775807) (hcap:S.length≤cap) :
  Calls Tryz.prog 162 #[.slice (some ⟨g,0,none⟩) S.length cap] w fun e w'=>e=.returned (.slice (some ⟨g,0,none⟩) (compact S).length cap) ∧
   ∃ q,w'=putRow Go.Proofs.encStr (Sort.ahead w q) g 0 (compact S++List.replicate (S.length-(compact S).length) []).toArray:=
 Any.slices_Compact_string Tryz.laysCompact g 0 cap S w hH hsz hcap
def leN (x y:qE):Bool:=!(ltOf bBx) y x
theorem aYb (a b c:qE) (h1:leN a b=true) (h2:leN b c=true):leN a c=true:=by
 unfold leN at *;simp only[Bool.not_eq_true'] at *;exact aPk.ntrans c b a h2 h1
theorem aYa (a b:qE):(leN a b||leN b a)=true:=by
 unfold leN;simp only[uX]
 cases h1:ltN b.1 a.1 with
 | false=>rfl
 | true=>
  cases h2:ltN a.1 b.1 with
  | false=>rfl
  | true=>
   have:=nR _ _ _ h1 h2;rw[oF] at this;exact absurd this (by decide)
theorem bAd (d:List qE) (L:List (List UInt8)) (h:∀ y,y∈d.map (·.1)↔y∈L∧bA y=true):compact ((d.mergeSort leN).map (·.1))=aX L:=by
 refine aCa _ L (fun y=>?_) ?_
 ·rw[←h,List.mem_map,List.mem_map];constructor
  ·rintro⟨x,hx,e⟩;exact⟨x,(List.mergeSort_perm d leN).mem_iff.1 hx,e⟩
  ·rintro⟨x,hx,e⟩;exact⟨x,(List.mergeSort_perm d leN).mem_iff.2 hx,e⟩
 ·rw[List.pairwise_map];refine(List.pairwise_mergeSort aYb aYa d).imp fun {a b} hab=>?_;unfold leN at hab;rw[uX] at hab;simpa using hab
theorem aDk:∀ M:List (List UInt8),(∀ x∈M,bA x=true)→∃ d:List qE,d.map (·.1)=M
 | [],_=>⟨[],rfl⟩
 | x::M,h=>by
  obtain⟨d,hd⟩:=aDk M (fun y hy=>h y (List.mem_cons_of_mem _ hy));exact⟨⟨x,h x (List.mem_cons_self ..)⟩::d,by simp[hd]⟩
theorem aMg (L:List (List UInt8)) (k:Nat) (hk:k<L.length):(L.take (k+1)).filter bA=(L.take k).filter bA++(if bA (L.getD k []) then [L.getD k []] else []):=by
 have e:L.take (k+1)=L.take k++[L.getD k []]:=by
  rw[List.take_add_one];simp[hk]
 rw[e,List.filter_append];congr 1;simp only[List.filter_cons,List.filter_nil]
theorem aAl {a w:World} {g n:Nat} {dk:Array qE} {os:Array Obj} (h:Below a.heap.size a w) (hg:a.heap.size≤g):Below a.heap.size a (sortWorld yH w g 0 n dk os):=by
 refine⟨h.os,h.tape,h.output,?_,fun k hk=>?_⟩
 ·have:=h.size;show a.heap.size≤(grow (putRow yH (Sort.ahead w n) g 0 dk) os).heap.size;unfold grow;simp only[Array.size_append];rw[size_putRow];show _≤w.heap.size+_;omega
 ·have hkw:k<w.heap.size:=Nat.lt_of_lt_of_le hk h.size;rw[←h.block k hk];have hne:g≠k:=(by omega);show((putRow yH (Sort.ahead w n) g 0 dk).heap++os)[k]? = _;rw[Array.getElem?_append_left (by rw[size_putRow];exact hkw)];simp only[putRow,mapBlock,Array.getElem?_modify,if_neg hne];rfl
theorem aJp {a w:World} {g q:Nat} {dk:Array (List UInt8)} (h:Below a.heap.size a w) (hg:a.heap.size≤g):Below a.heap.size a (putRow Go.Proofs.encStr (Sort.ahead w q) g 0 dk):=by
 refine⟨h.os,h.tape,h.output,?_,fun k hk=>?_⟩
 ·rw[size_putRow];exact h.size
 ·have hkw:k<w.heap.size:=Nat.lt_of_lt_of_le hk h.size;rw[←h.block k hk];have hne:g≠k:=(by omega);simp only[putRow,mapBlock,Array.getElem?_modify,if_neg hne];rfl
end
section
open Go.RowKit Go.Lib Go.Sort
theorem bDq (w:World) (x:ByteArray) (e:TypeId):∀ (j:Nat) (u:Value),([.string x]:List Value)[j]? = some u→(w.alloc (.cells #[.string x] e)).cell? ((⟨w.heap.size,0,none⟩:Addr).add j)=some u:=by
 intro j u hj
 match j,hj with
 | 0,hj=>simp at hj;subst hj;simp[Addr.add]
theorem bDy (x:ByteArray):∀ u∈([.string x]:List Value),u.oneCell'=true:=by
 intro u hu;simp at hu;subst hu;rfl
theorem aXk {w:World} {g cap:Nat} {cur:Array Value} {M:List (List UInt8)} {d:List qE} (hd:d.map (·.1)=M) (hw:w.heap[g]? = some (.cells cur 9 (0,0))) (ht:cur.toList.take (M.length*1)=lM M) (hc:M.length≤cap):Holds yH w g 0 d.toArray:=by
 intro j hj;have hj':j<d.length:=(by simpa using hj);have hjM:j<M.length:=(by rw[←hd];simpa using hj');refine⟨?_,?_⟩
 ·have h1:=congrArg (fun x:List Value=>x[j]?) ht;simp only[Nat.mul_one,List.getElem?_take,hjM,if_true,Array.getElem?_toList] at h1;rw[Nat.zero_add,cell_of_row w g j _ _ (0,0) hw,h1];subst hd;simp[lM,hj',yH]
 ·rw[Nat.zero_add];exact frozen_of_row w g j cur _ hw
theorem sO {w w1:World} {B size n:Nat} {e:TypeId} {v:Value} {xs:List Value} (h:w.ownsRow B e size v n xs) (hb:Below w.heap.size w w1):w1.ownsRow B e size v n xs:=by
 obtain⟨h1,h2 | ⟨g,cap,cur,hv,hB,hw,hrest⟩⟩:=h
 ·exact⟨h1,.inl h2⟩
 ·exact⟨h1,.inr ⟨g,cap,cur,hv,hB,by rw[hb.block g (Array.getElem?_eq_some_iff.1 hw).1];exact hw,hrest⟩⟩
theorem aXl {w:World} {g:Nat} (d:List qE) (h:Holds yH w g 0 d.toArray):Holds Go.Proofs.encStr w g 0 (d.map (·.1)).toArray:=by
 intro j hj;have hj':j<d.length:=(by simpa using hj);obtain⟨h1,h2⟩:=h j (by simpa using hj');refine⟨?_,h2⟩;rw[h1];simp[hj',yH,bs]
theorem bAn {w:World} {g q:Nat} {S C:List (List UInt8)} (hC:C.length≤S.length) (hH:Holds Go.Proofs.encStr w g 0 S.toArray) :
  qB (putRow Go.Proofs.encStr (Sort.ahead w q) g 0 (C++List.replicate (S.length-C.length) []).toArray) (some ⟨g,0,none⟩) C:=by
 have h2:=holds_putRow Go.Proofs.encStr (Sort.ahead w q) g 0 S.toArray (C++List.replicate (S.length-C.length) []).toArray hH (by simp;omega);intro j hj;have hjs:j<(C++List.replicate (S.length-C.length) ([]:List UInt8)).toArray.size:=(by simp;omega);have:=(h2 j hjs).1;refine⟨g,rfl,?_⟩;rw[Nat.zero_add] at this;rw[this]
 have e:(C++List.replicate (S.length-C.length) ([]:List UInt8)).toArray[j]! = C.getD j []:=by
  rw[getElem!_pos _ j hjs];simp[hj]
 rw[e];rfl
def aWa (B:Nat) (v:Value):Prop:=∀ g,v.ownBlock=some g→B≤g
set_option maxRecDepth 100000 in
set_option maxHeartbeats 2000000 in
theorem aNt (w:World) (v:Value) (L:List (List UInt8)) (h:bF w v L) (hL:L.length≤100000) (hs:∀ x∈L,x.length≤1000000) (hT:Lib.Utf8Tabs 1 2 w) :
  Calls Tryz.prog 138 #[v] w fun e w'=>∃ v',e=.returned v'∧bF w' v' (aX L)∧aWa w.heap.size v'∧Below w.heap.size w w':=by
 obtain⟨p,cap,rfl,ht⟩:=h;have HX:=lhid ht;have HS:=lhid hs;have HT:=lhid hT;clear ht hs hT;obtain⟨R,hR⟩:∃ R,aX L=R:=⟨_,rfl⟩;rw[hR];have HR:=lhid hR;clear hR;obtain⟨i0,hi,hz0,hz1,hz2⟩:=info_parts tL;go_enter Tryz.func138,Tryz.ntmps138;go_wp2_with fail
 go_loopw [3,8] (fun out i wr=>∃ k:Nat,k≤L.length∧i=.int .i64 k∧wr.ownsRow w.heap.size 9 1 out ((L.take k).filter bA).length (lM ((L.take k).filter bA))∧Below w.heap.size w wr) (fun _ i _=>L.length-(intOf i).toNat)
 case atStart=>exact⟨0,Nat.zero_le _,rfl,World.ownsRow_nil _ _ _ _,Below.refl _ _⟩
 case round=>
  obtain⟨k,hk,rfl,hown,hbw⟩:=hrel
  have hflen:((L.take k).filter bA).length≤100000:=by
   have h1:=List.length_filter_le bA (L.take k);rw[List.length_take] at h1;omega
  by_cases hlt:k<L.length
  ·obtain⟨gl,rfl,hc⟩:=HX.out k hlt;have hc':=cell_later hbw hc;have hnx:=aMg L k hlt
   have hxl:(L.getD k []).length≤1000000:=HS.out _ (by
    have:L.getD k []=L[k]:=(by simp[hlt]);rw[this]
    exact List.getElem_mem hlt)
   have HTr:=lhid (Utf8Tabs_below HT.out hbw);have HI:=lhid (vA (L.getD k []) hxl);obtain⟨x,hx⟩:∃ x,L.getD k []=x:=⟨_,rfl⟩;rw[hx] at hc' hnx HI;obtain⟨M,hM⟩:∃ M,(L.take k).filter bA=M:=⟨_,rfl⟩;rw[hM] at hown hnx hflen;clear hc hx hxl hM
   cases hn:bA x with
   | false=>
    rw[hn] at hnx HI;simp only[Bool.false_eq_true,if_false,List.append_nil] at hnx;have HN:=lhid hnx;clear hnx hn;(go_wp2_with fail);refine(HI.out _ HTr.out).mono ?_;rintro e w1 ⟨rfl,hb1⟩;(go_wp2_with fail);go_roundw
    case rel=>exact⟨k+1,by omega,by go_num,by rw[HN.out];exact sO hown hb1,aB hbw hb1⟩
    case measure=>simp[intOf];omega
   | true=>
    rw[hn] at hnx HI;simp only[if_true] at hnx;have HN:=lhid hnx;clear hnx hn;(go_wp2_with fail);refine(HI.out _ HTr.out).mono ?_;rintro e w1 ⟨rfl,hb1⟩;have hown1:=sO hown hb1;have hbw1:=aB hbw hb1;clear hown hb1 hbw;(go_wp2_with (at_builtin;refine wpList_append_own _ rfl _ _ 22 rfl w.heap.size 9 i0 (.string ByteArray.empty) 1 16 Tryz.underlying22 hi hz0 hz1 hz2 rfl (by decide) _ _ _ rfl (hown1.alloc _) ⟨w1.heap.size,0,none⟩ 1 1 [.string (bs x)] rfl rfl (bDq _ _ _) (bDy _) (by unfold maxLen;omega) (by omega) (by have:=hbw1.size;simp;omega) ?_));intro v' w4 hown4 hgrow hnil;have hb4:Below w.heap.size w w4:=(hbw1.alloc hbw1.size _).grown hgrow (by have:=hbw1.size;simp;omega) (fun k hk=>(hown1.lt k hk).1)
    have HO:Hid (w4.ownsRow w.heap.size 9 1 v' (M++[x]).length (lM (M++[x]))):=lhid (by
     rw[←nU,List.length_append]
     exact hown4)
    clear hown4 hgrow hnil hown1 hbw1;(go_wp2_with fail);go_roundw
    case rel=>exact⟨k+1,by omega,by go_num,by rw[HN.out];exact HO.out,hb4⟩
    case measure=>simp[intOf];omega
  ·have hke:k=L.length:=(by omega);subst hke;rw[List.take_length] at hown hflen;have hmem:∀ y,y∈L.filter bA↔y∈L∧bA y=true:=fun y=>List.mem_filter;obtain⟨M,hM⟩:∃ M,L.filter bA=M:=⟨_,rfl⟩;rw[hM] at hown hflen hmem;clear hM;obtain⟨d,hd⟩:=aDk M (fun x hx=>((hmem x).1 hx).2);have hspec:=bAd d L (by rw[hd];exact hmem);by_cases hM0:M=[]
   ·subst hM0
    have hd0:d=[]:=by
     cases d with
     | nil=>rfl
     | cons a t=>exact absurd hd (by simp)
    subst hd0;have hnw:aWa w.heap.size _:=fun g e=>(hown.lt g e).1;obtain⟨q,cq,hv,-⟩:=qQ hown;subst hv;have hsn:R=[]:=(by rw[←HR.out, ←hspec];simp[compact,compactUpTo]);have H1:=lhid (AnyF.slices_SortFunc_none Tryz.laysSort0 q cq (.func (.func 120) #[] #[]));have H2:=lhid (Any.slices_Compact_string_empty Tryz.laysCompact q cq);clear hspec hown hmem;(go_wp2_with fail);refine(H1.out _).mono ?_;rintro e w1 ⟨rfl,rfl⟩;(go_wp2_with fail);refine(H2.out _).mono ?_;rintro e w1 ⟨rfl,rfl⟩;(go_wp2_with fail);go_ret;rw[hsn];exact⟨_,rfl,⟨q,cq,rfl,fun j hj=>absurd hj (Nat.not_lt_zero j)⟩,hnw,hbw⟩
   ·obtain⟨-,⟨-,hn⟩ | ⟨g,cq,cur,rfl,hgB,hcur,hcq,-,hcsz,htk⟩⟩:=id hown
    ·exact absurd (List.eq_nil_of_length_eq_zero hn) hM0
    ·have hH:=aXk hd hcur htk hcq;have hg:=(Array.getElem?_eq_some_iff.1 hcur).1;have hsz:d.toArray.size=M.length:=(by rw[←hd];simp);have H1:=lhid (aTp g cq d.toArray wr hH hg (by rw[hsz];omega));rw[hsz] at H1;have HS2:=lhid hspec;clear hown hcur htk hcsz hspec;(go_wp2_with fail);refine H1.out.mono ?_;rintro e w1 ⟨rfl,nn,os,hw1⟩
     have hH1:Holds yH w1 g 0 (d.mergeSort leN).toArray:=by
      rw[hw1];exact holds_sortWorld yH wr g 0 nn d.toArray _ os hg hH (by simp[List.length_mergeSort])
     have hB1:Below w.heap.size w w1:=by
      rw[hw1];exact aAl hbw hgB
     have hH2:=aXl (d.mergeSort leN) hH1
     have hSl:((d.mergeSort leN).map (·.1)).length=M.length:=by
      rw[List.length_map,List.length_mergeSort, ←hd,List.length_map]
     have hcl:(compact ((d.mergeSort leN).map (·.1))).length≤((d.mergeSort leN).map (·.1)).length:=compact_length_le _;have H2:=lhid (aGa g cq _ w1 hH2 (by omega) (by omega));rw[hSl] at H2;clear hw1 hH1;(go_wp2_with fail);refine H2.out.mono ?_;rintro e w2 ⟨rfl,q2,hw2⟩
     have hB2:Below w.heap.size w w2:=by
      rw[hw2];exact aJp hB1 hgB
     have hT2:=bAn (q:=q2) hcl hH2;rw[hSl, ←hw2] at hT2;rw[HS2.out,HR.out] at hT2 ⊢;clear hw2 hH2 hB1 hbw H2 H1;(go_wp2_with fail);go_ret;exact⟨_,rfl,⟨_,cq,rfl,hT2⟩,(fun g' e=>by simp[Value.ownBlock] at e;omega),hB2⟩
end
section
open Go.RowKit
section
variable {P:Program} {ops:Array Oper} {Q:Exit→Act→World→Prop} {md:Region.Mode} {S:World→Prop} {late:List Nat}
theorem bL (i j:Nat) {di dj:Option Tmp} {opi opj:Op} {tyi tyj:TypeId} {posi posj:String} {afti aftj:Array Edge} {gdi gdj:Option (Nat×Bool)} {fuel:Nat} {listed:Array Bool} {a:Act} {w:World} (hi:ops[i]? = some ⟨di,opi,tyi,posi,afti,gdi⟩) (hj:ops[j]? = some ⟨dj,opj,tyj,posj,aftj,gdj⟩) (hr:Region.ready md ops listed=[i,j])
  (h1:∀ K:Act→World→Prop,Hid (∀ a' w',(late.contains i=false→S w→S w')→bT P md ops Q S late fuel (listed.setIfInBounds i true) a' w'→K a' w')→if Region.wanted ⟨di,opi,tyi,posi,afti,gdi⟩ (yielded ops a.tmps)=true then Oper.wp P ⟨di,opi,tyi,posi,afti,gdi⟩ a w K Q else K (a.put di undef) w)
  (h2:∀ K:Act→World→Prop,Hid (∀ a' w',(late.contains j=false→S w→S w')→bT P md ops Q S late fuel (listed.setIfInBounds j true) a' w'→K a' w')→if Region.wanted ⟨dj,opj,tyj,posj,aftj,gdj⟩ (yielded ops a.tmps)=true then Oper.wp P ⟨dj,opj,tyj,posj,aftj,gdj⟩ a w K Q else K (a.put dj undef) w):bT P md ops Q S late (fuel+1) listed a w:=by
 refine⟨fun h0=>(by rw[hr] at h0;cases h0),fun q hq=>?_⟩;rw[hr] at hq;have hq':q=i∨q=j:=(by simpa using hq);rcases hq' with rfl | rfl
 ·exact wpOp_step hi (fun K hK=>h1 K (lhid (fun a' w' g1 g2=>hK a' w' ⟨g1,g2⟩)))
 ·exact wpOp_step hj (fun K hK=>h2 K (lhid (fun a' w' g1 g2=>hK a' w' ⟨g1,g2⟩)))
end
end
section
open Go.RowKit Go.Lib Go.Maps Go.WideMaps
theorem bTy {w:World} {v:Value} {h:aI} (hv:cJ w v h):∃ p0 c0 p1 c1 p2 c2,v=.agg #[.slice p0 h.1.length c0,.slice p1 h.2.1.length c1,.slice p2 h.2.2.length c2]:=by
 obtain⟨v0,v1,v2,rfl,⟨p0,c0,rfl,-⟩,⟨p1,c1,rfl,-⟩,⟨p2,c2,rfl,-⟩⟩:=hv;exact⟨_,_,_,_,_,_,rfl⟩
theorem bUt {w:World} {v0 v1 v2:Value} {h:aI} (hv:cJ w (.agg #[v0,v1,v2]) h):bF w v0 h.1∧bF w v1 h.2.1∧kM w v2 h.2.2:=by
 obtain⟨u0,u1,u2,e,h0,h1,h2⟩:=hv;injection e with e;have e':[v0,v1,v2]=[u0,u1,u2]:=congrArg Array.toList e;injection e' with e0 e';injection e' with e1 e';injection e' with e2 _;subst e0 e1 e2;exact⟨h0,h1,h2⟩
end
section
open Go.RowKit Go.Lib
def aBk (w:World) (B:Nat) (t:TypeId) (cs:List Value):Prop:=Blk w B t cs∧∀ x∈cs,∃ p n c,x=.slice p n c
theorem aBk.ne {w:World} {B:Nat} {t:TypeId} {cs:List Value} (h:aBk w B t cs) {a:Addr} {v:Value} (ha:w.cell? a=some v) (hv:∀ p n c,v≠.slice p n c):a.block≠B:=by
 intro e;obtain⟨b,o,s⟩:=a;simp only at e;subst e
 have hs:s=none:=by
  cases s with
  | none=>rfl
  | some q=>
   exfalso;have hb:w.heap[b]? = some (.cells cs.toArray t (0,0)):=h.1;simp[World.cell?,hb] at ha
 subst hs;have hb:w.heap[b]? = some (.cells cs.toArray t (0,0)):=h.1;rw[cell_of_row w b o cs.toArray t (0,0) hb] at ha
 have hm:v∈cs:=by
  have:cs[o]? = some v:=(by simpa using ha);exact List.mem_of_getElem? this
 obtain⟨p,n,c,e⟩:=h.2 v hm;exact hv p n c e
theorem jB {w:World} {B i:Nat} {u v:Value} {a:Addr} (h:w.cell? a=some v) (hne:a.block≠B):(w.setCell ⟨B,i,none⟩ u).cell? a=some v:=by
 rw[World.cell?_setCell_far _ _ _ _ (fun e=>hne e.symm)];exact h
theorem aBk.set {w:World} {B:Nat} {t:TypeId} {cs:List Value} (h:aBk w B t cs) (i:Nat) (p:Option Addr) (n c:Nat):aBk (w.setCell ⟨B,i,none⟩ (.slice p n c)) B t (cs.set i (.slice p n c)):=
 ⟨h.1.set i _,fun x hx=>by
  rcases List.mem_or_eq_of_mem_set hx with h' | h'
  ·exact h.2 x h'
  ·exact⟨p,n,c,h'⟩⟩
section
variable {w:World} {B:Nat} {t:TypeId} {cs:List Value} (hB:aBk w B t cs) (i:Nat) (u:Value)
include hB
theorem aJb {v:Value} {L:List (List UInt8)} (h:bF w v L):bF (w.setCell ⟨B,i,none⟩ u) v L:=by
 obtain⟨p,c,rfl,hp⟩:=h;refine⟨p,c,rfl,fun j hj=>?_⟩;obtain⟨g,rfl,hc⟩:=hp j hj;exact⟨g,rfl,jB hc (hB.ne hc (by intros;simp))⟩
theorem bEg {v:Value} {L:List OpM} (h:qF w v L):qF (w.setCell ⟨B,i,none⟩ u) v L:=by
 obtain⟨p,c,rfl,hcap,hp⟩:=h;refine⟨p,c,rfl,hcap,fun j hj=>?_⟩;obtain⟨g,rfl,h0,h1,h2,h3⟩:=hp j hj;have hne:g≠B:=hB.ne h0 (by intros;simp);exact⟨g,rfl,jB h0 hne,jB h1 hne,jB h2 hne,jB h3 hne⟩
theorem bAv {v:Value} {L:List bB} (h:kM w v L):kM (w.setCell ⟨B,i,none⟩ u) v L:=by
 obtain⟨p,c,rfl,hp⟩:=h;refine⟨p,c,rfl,fun j hj=>?_⟩;obtain⟨g,sv,rfl,h0,h1,h2,h3⟩:=hp j hj;have hne:g≠B:=hB.ne h0 (by intros;simp);exact⟨g,sv,rfl,jB h0 hne,jB h1 hne,jB h2 hne,bEg hB i u h3⟩
theorem bTv {v:Value} {h:aI} (hv:cJ w v h):cJ (w.setCell ⟨B,i,none⟩ u) v h:=by
 obtain⟨v0,v1,v2,e,h0,h1,h2⟩:=hv;exact⟨v0,v1,v2,e,aJb hB i u h0,aJb hB i u h1,bAv hB i u h2⟩
end
end
section
open Go.RowKit Go.Lib
def jN (o:OpM):Bool:=o.2.2.1==2
end
end Go.Proofs.YtdfegfagedeilaaGreatDoor
