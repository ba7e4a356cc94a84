/-
  Several texts of these walks, joined and squeezed (as templates they lie in wip/tpl): Base Args RowKit EvD EvArg NameP NameD NameO NameG TabP ValA HistP MayP NameW LineS LineP DigP NumP.
-/
import Derived.Test.YtdfegfagedeilaaGreatDoorRows
import Derived.Handy
import Derived.WalkSpells
import Derived.WalkLawsBesides
import Derived.Deep.RegionHeld3
import Derived.Deep.DrawnRows
import Derived.Lib.Hide
import Derived.Lib.Strings
import Derived.Lib.SmallJoins
import Derived.Deep.QuietTactic
import Derived.Deep.RegionWith
import Derived.BigQuiet
import Derived.Deep.Slices
import Derived.ChangeSame
import Derived.ProofKit
import Derived.OpenShut
import Derived.SizedLaws
import Derived.Lib.LaidU8
import Derived.Lib.ValidLaws
import Derived.Lib.MapLaws
import GoSem.Conv.StringToRunes
import Derived.Lib.DecodeN
import Derived.Lib.RuneBytes
import Derived.Lib.SlicesCompact
import Derived.Sort.Statements
import Derived.Lib.SplitLaws
namespace Go.Proofs.YtdfegfagedeilaaGreatDoor
section
open Go.RowKit
theorem sq0 {α:Type _} (l:List α) (i:Nat) (a:α):l.toArray.setIfInBounds i a=(l.set i a).toArray:=List.setIfInBounds_toArray l i a
theorem sq1 {α:Type _} {x a:α} {l:List α}:(x::l).set 0 a=a::l:=rfl
theorem sq2 {α:Type _} {x a:α} {l:List α} {n:Nat}:(x::l).set (n+1) a=x::l.set n a:=rfl
theorem sq:(∀ (α:Type) (l:List α) (i:Nat) (a:α),l.toArray.setIfInBounds i a=(l.set i a).toArray)∧(∀ (α:Type) (x a:α) (l:List α),(x::l).set 0 a=a::l)∧∀ (α:Type) (x a:α) (l:List α) (n:Nat),(x::l).set (n+1) a=x::l.set n a:=
 ⟨fun _ l i a=>sq0 l i a,fun _ _ _ _=>rfl,fun _ _ _ _ _=>rfl⟩
theorem lQ {w:World} {a:Addr} {v:Value} (o:Obj) (h:w.cell? a=some v):(w.alloc o).cell? a=some v:=
 cell_later ((Below.refl _ _).alloc (Nat.le_refl _) o) h
theorem mP {w:World} {a:Addr} {v:Value} (h:w.cell? a=some v):w.drew.cell? a=some v:=h
theorem lhid {a:Prop} (h:a):Hid a:=Lib.hid h
theorem aB {w a b:World} (h:Below w.heap.size w a) (k:Below a.heap.size a b):Below w.heap.size w b:=h.trans (k.mono h.size)
theorem bel {n:Nat} {w a:World} (h:Below n w a:=by(repeat' (first | (with_reducible exact Below.refl _ _) | (with_reducible assumption) | (refine aB ?_ (by with_reducible assumption)) | (with_reducible refine Below.alloc ?_ ?_ _) | (with_reducible refine Below.drew ?_) | (with_reducible refine below_drewN ?_ _) | omega | (simp;done) | (simp;omega)))):Below n w a:=h
theorem bes {n:Nat} {w a:World} (h:Below n w a:=by(repeat' (first | (with_reducible exact Below.refl _ _) | (with_reducible assumption) | (refine aB ?_ (by with_reducible assumption)) | (with_reducible refine Below.setCell ?_ ?_ _) | (with_reducible refine Below.alloc ?_ ?_ _) | (with_reducible refine Below.drew ?_) | (with_reducible refine below_drewN ?_ _) | omega | (simp;done) | (simp;omega)))):Below n w a:=h
theorem dF {W w1:World} (hb:Below W.heap.size W w1):(∀ b o,b<W.heap.size→w1.cell? ⟨b,o,none⟩=W.cell? ⟨b,o,none⟩)∧(∀ b o,b<W.heap.size→w1.frozen? ⟨b,o,none⟩=W.frozen? ⟨b,o,none⟩):=
 ⟨fun b o h=>hb.cell (p:=⟨b,o,none⟩) h,fun b o h=>hb.frozen (p:=⟨b,o,none⟩) h⟩
def bs (l:List UInt8):ByteArray:=⟨l.toArray⟩
theorem uL (s:ByteArray):s=bs s.data.toList:=by
 obtain⟨⟨l⟩⟩:=s;rfl
theorem bMx {a b:List UInt8} (h:bs a=bs b):a=b:=by
 have:=congrArg (fun s:ByteArray=>s.data.toList) h;simpa [bs] using this
theorem gG (l:List UInt8):(bs l).size=l.length:=by simp[bs,ByteArray.size]
theorem aWl (l:List UInt8):(bs l).toList=l:=by rw[Lib.toList_data];simp[bs]
theorem aBv (l:List UInt8) (a b:Nat):(bs l).extract a b=bs ((l.drop a).take (b-a)):=by
 have h:=Lib.extract_data (bs l) a b;rw[uL ((bs l).extract a b),h];simp[bs]
theorem aWk (a b:List UInt8):bs a++bs b=bs (a++b):=by
 rw[uL (bs a++bs b),Joins.data_append];simp[bs]
theorem bKl (l:List UInt8) (i:Nat) (h:i<(bs l).size):(bs l)[i]=l[i]'(by rw[gG] at h;exact h):=by
 rfl
attribute [go_sem] gG aWl aBv aWk bKl
theorem bLs (l:List UInt8):(Value.string { data:=l.toArray })=Value.string (bs l):=rfl
structure cR (W:World) where
 w:World
 h:Below W.heap.size W w
instance (W:World):Nonempty (cR W):=⟨⟨W,Below.refl _ _⟩⟩
theorem cR.cell {W:World} (x:cR W) (b o:Nat) (hb:b<W.heap.size):x.w.cell? ⟨b,o,none⟩=W.cell? ⟨b,o,none⟩:=x.h.cell (p:=⟨b,o,none⟩) hb
theorem cR.frozen {W:World} (x:cR W) (b o:Nat) (hb:b<W.heap.size):x.w.frozen? ⟨b,o,none⟩=W.frozen? ⟨b,o,none⟩:=x.h.frozen (p:=⟨b,o,none⟩) hb
theorem cR.call {P:Program} {f:FuncId} {args:Array Value} {W:World} {x:cR W} {v:Value}
  (h:Calls P f args x.w fun e w'=>e=.returned v∧Below x.w.heap.size x.w w'):Calls P f args x.w fun e w''=>e=.returned v∧∃ m:cR W,w''=m.w:=
 h.mono fun _ w' ⟨he,hm⟩=>⟨he,⟨w',aB x.h hm⟩,rfl⟩
theorem cD {P:Program} {id:Nat} {Q:Exit→Act→World→Prop} {a:Act} {w:World} {l:List Oper} (hm:P.follows .mixedOrders=true) (hB:Region.lexB .any l.toArray=true)
  (h:wpQuiet P l.toArray (fun w'=>∃ x:cR w,w'=x.w) (fun a'=>∀ w',(∃ x:cR w,w'=x.w)→Q .normal a' w') l a):(Code.region id l.toArray true).wp P Q a w:=
 wp_region_quiet (C:=fun w'=>∃ x:cR w,w'=x.w) hm hB ⟨⟨w.drew,(Below.refl _ _).drew⟩,rfl⟩ (by simpa using h)
end
section
open Go.ChangeShapes Go.WideShapes Go.RowKit
def SlR {α:Type} (size:Nat) (R:World→List Value→α→Prop) (w:World) (v:Value) (L:List α):Prop:=
 ∃ p cap,v=.slice p L.length cap∧L.length≤cap∧cap≤maxLen∧∀ (j:Nat) (hj:j<L.length),∃ (a:Addr) (cs:List Value),p=some a∧cs.length=size∧(∀ (i:Nat) (u:Value),cs[i]? = some u→w.cell? (a.add (j*size+i))=some u)∧R w cs L[j]
theorem SlR.below {α:Type} {size:Nat} {R:World→List Value→α→Prop} (hR:∀ w w' cs m,Below w.heap.size w w'→R w cs m→R w' cs m) {w w':World} {v:Value} {L:List α} (h:SlR size R w v L) (hb:Below w.heap.size w w'):SlR size R w' v L:=by
 obtain⟨p,cap,hv,hl,hm,hc⟩:=h;refine⟨p,cap,hv,hl,hm,fun j hj=>?_⟩;obtain⟨a,cs,hp,hs,h1,h2⟩:=hc j hj;exact⟨a,cs,hp,hs,fun i u hu=>cell_later hb (h1 i u hu),hR _ _ _ _ hb h2⟩
theorem SlR.mono {α:Type} {size:Nat} {R R':World→List Value→α→Prop} {w:World} {v:Value} {L:List α} (h:SlR size R w v L) (hR:∀ cs m,m∈L→R w cs m→R' w cs m):SlR size R' w v L:=by
 obtain⟨p,cap,hv,hl,hm,hc⟩:=h;refine⟨p,cap,hv,hl,hm,fun j hj=>?_⟩;obtain⟨a,cs,hp,hs,h1,h2⟩:=hc j hj;exact⟨a,cs,hp,hs,h1,hR _ _ (List.getElem_mem hj) h2⟩
theorem bIs {β:Type} [Nonempty β] {n:Nat} {p:Nat→β→Prop} (h:∀ i,i<n→∃ b,p i b):∃ f:Nat→β,∀ i,i<n→p i (f i):=by
 refine⟨fun i=>if hi:i<n then Classical.choose (h i hi) else Classical.choice inferInstance,fun i hi=>?_⟩;simp only[dif_pos hi];exact Classical.choose_spec (h i hi)
section
variable {H:Type} {enc:TypeId×Value→H} {P:Program} {w:World} {base:Nat} {spare:Nat→Bool} {held:Bool}
theorem tY {α:Type} [Nonempty α] {size:Nat} {R:World→List Value→α→Prop} {t e:TypeId} {fuel:Nat} {cs:List Value} {x:DataW H×List MemPlace} (ht:P.underlying t=some (.slice e)) (hc:P.cellsOf e=size)
  (hR:∀ n cs y,DataW.trod enc P w base spare held n e cs=some y→∃ m,R w cs m) (h:DataW.trod enc P w base spare held fuel t cs=some x):∃ v L,cs=[v]∧SlR size R w v L:=by
 rcases Go.Deep.open_slice ht h with ⟨rfl,-⟩ | ⟨a,len,cap,m,n,D,Pl,rfl,-,hl,hm,hmm,-,hi⟩
 ·exact⟨_,[],rfl,none,0,rfl,Nat.le_refl _,Nat.zero_le _,fun j hj=>absurd hj (Nat.not_lt_zero j)⟩
 ·have hle:len≤m:=by rw[hmm];split<;>omega
  obtain⟨M,hM⟩:=bIs (β:=α) (n:=len) (p:=fun i m=>∃ cs',cs'.length=size∧(∀ (i':Nat) (u:Value),cs'[i']? = some u→w.cell? (a.add (i*size+i'))=some u)∧R w cs' m) (fun i hil=>by
   obtain⟨cs',h1,h2⟩:=hi i (by omega);rw[hc] at h1;obtain⟨_,hlen,hat⟩:=World.cells?_some h1;obtain⟨m',hm'⟩:=hR _ _ _ h2;refine⟨m',cs',hlen,fun i' u hu=>?_,hm'⟩
   have hi':i'<size:=by
    have:=(List.getElem?_eq_some_iff.1 hu).1;omega
   rw[←Go.Deep.add_add,hat i' hi',hu])
  refine⟨_,(List.range len).map M,rfl,some a,cap,by simp,by simpa using hl,hm,fun j hj=>?_⟩;have hj':j<len:=(by simpa using hj);obtain⟨cs',h1,h2,h3⟩:=hM j hj';exact⟨a,cs',rfl,h1,h2,by simpa using h3⟩
theorem qV {fs:Array Field} {t:TypeId} {fuel:Nat} {cs:List Value} {x:DataW H×List MemPlace} (ht:P.underlying t=some (.struct fs)) (h:DataW.trod enc P w base spare held fuel t cs=some x):cs.length=P.cellsOf t:=by
 obtain⟨xs,n,-,-,hl,-,-⟩:=DataW.trod_struct ht h;exact hl
theorem jD {fs:Array Field} {t:TypeId} {fuel:Nat} {cs:List Value} {x:DataW H×List MemPlace} (i o:Nat) (ty:TypeId) (s:Nat) {f:Field} (ht:P.underlying t=some (.struct fs)) (h:DataW.trod enc P w base spare held fuel t cs=some x) (hi:fs[i]? = some f) (ho:f.offset=o) (hty:f.type=ty) (hs:P.cellsOf ty=s) :
  ∃ n y,DataW.trod enc P w base spare held n ty ((cs.drop o).take s)=some y:=by
 obtain⟨xs,n,-,-,hl,hlen,hf⟩:=DataW.trod_struct ht h;refine⟨n,xs[i]'(by rw[hlen];exact(Array.getElem?_eq_some_iff.1 hi).1),?_⟩;have:=hf i f hi;subst ho hty hs;rw[this];simp
end
end
section
open Go.ChangeShapes Go.WideShapes Go.ChangeAt Go.RowKit
theorem Tryz.own:ownKnob Tryz.prog.godebug=none:=by kernel_rfl
theorem Tryz.laidOut:laidOutB Tryz.prog=true:=by kernel_rfl
section
variable {H:Type} {enc:TypeId×Value→H} {P:Program}
theorem vP {W W':World} (hl:laidOutB P=true) (hb:Below W.heap.size W W') {sp:Nat→Bool}:∀ (ts:List TypeId) (vs:List Value) (ds:List (DataW H)) (ps:List MemPlace),
  ts.all (fun t=>P.readableRec t&&decide (t<P.types.size))=true→DataW.TrodAll enc P W 0 (fun _=>true) true ts vs ds ps→(∀ x∈ps,x.block<W.heap.size)→(∀ x∈ps,sp x.block=true) →
  DataW.TrodAll enc P W' 0 sp true ts vs ds ps
 | [],vs,ds,ps,_,h,_,_=>by
  obtain⟨rfl,rfl,rfl⟩:=trodAll_nil h;exact trodAll_mk0
 | t::ts,vs,ds,ps,hts,h,hlt,hsp=>by
  obtain⟨v,vs',d,ds',p,q,rfl,rfl,rfl,h0,h1⟩:=trodAll_cons h;simp only[List.all_cons,Bool.and_eq_true,decide_eq_true_eq] at hts
  exact trodAll_cons_mk
   (WideElems.Trod_stays hl hts.1.1 hts.1.2 h0 (fun x hx=>hb.same (hlt x (List.mem_append_left _ hx))) (fun x hx=>hsp x (List.mem_append_left _ hx)))
   (vP hl hb ts vs' ds' q hts.2 h1 (fun x hx=>hlt x (List.mem_append_right _ hx)) (fun x hx=>hsp x (List.mem_append_right _ hx)))
theorem aGp {f:Func} {s:ChangeSpec} {apart fresh handsOn again:Bool}
  {W W':World} {args:Array Value} {v:Value} {ds gs:List (DataW H)} {before pa pv:List MemPlace}
  (hW:DataW.Whole enc P f.params.toList s.vars apart W args.toList ds gs before)
  (hres:∀ (b:Nat) (sp:Nat→Bool) (hd:Bool),DataW.TrodAll enc P W' b sp hd f.resultTypes.toList (v.resultList f.resultTypes.size) (s.fn H (ds++gs)).results [])
  (hargs:∀ sp:Nat→Bool,(∀ p∈before,sp p.block=true)→DataW.TrodAll enc P W' 0 sp true f.params.toList args.toList (s.fn H (ds++gs)).args pa)
  (hvars:∀ sp:Nat→Bool,(∀ p∈before,sp p.block=true)→DataW.TrodVars enc P W' sp s.vars (s.fn H (ds++gs)).vars pv)
  (hps:before=pa++pv) (hb:Below W.heap.size W W')
  (hok:∀ (j:Nat) (t:TypeId) (r:Value),f.resultTypes[j]? = some t→(v.resultList f.resultTypes.size)[j]? = some r→Value.okWide P W' .any 0 t r) :
  s.post enc P f apart fresh handsOn again W args v W':=by
 have hlt:∀ p∈before,p.block<W.heap.size:=fun p hp=>hW.lt p hp;have hold:∀ p∈before,(fun b=>decide (b<W.heap.size)) p.block=true:=fun p hp=>(by simpa using hlt p hp);refine⟨ds,gs,before,[],pa,pv,hW,hres _ _ _,hargs _ hold,hvars _ hold,World.keptBut_mono (fun p hp=>⟨hp,?_⟩) (hb.frame (·∈before)),fun _=>?_⟩
 ·rw[hps,List.mem_append] at hp;exact Or.inr hp
 ·obtain⟨_,_,_,_,_,hz,hn⟩:=hW;refine⟨hok,_,_,([]++pa)++pv,⟨[]++pa,pv,trodAll_append (hargs _ (fun _ _=>rfl)) (hres _ _ _),hvars _ (fun _ _=>rfl),rfl,?_,?_⟩,?_⟩
  ·intro b off hp;have hin:MemPlace.cell b off∈before:=(by rw[hps];simpa using hp);rw[hb.frozen (hlt _ hin)];exact hz b off hin
  ·intro ha;have:=hn ha;rw[hps] at this;simpa using this
  ·intro p hp _;rw[hps];simpa using hp
theorem bMq {f:Func} {s:ChangeSpec} {tb:TypeId} (hu:P.underlying tb=some .bool) (hl:laidOutB P=true) (hrt:f.resultTypes=#[tb]) (hro:(Value.bool true).resultList 1=[.bool true])
  (hts:f.params.toList.all (fun t=>P.readableRec t&&decide (t<P.types.size))=true)
  {W W':World} {args:Array Value} {ds:List (DataW H)} {before:List MemPlace} (hvs:s.vars=[])
  (hW:DataW.Whole enc P f.params.toList s.vars false W args.toList ds [] before)
  (hA:DataW.TrodAll enc P W 0 (fun _=>true) true f.params.toList args.toList ds before)
  (hres:(s.fn H (ds++[])).results=[.lit (.bool true)]) (hargs:(s.fn H (ds++[])).args=ds) (hvars:(s.fn H (ds++[])).vars=[]) (hb:Below W.heap.size W W') :
  s.post enc P f false true false false W args (.bool true) W':=by
 have hlt:∀ p∈before,p.block<W.heap.size:=fun p hp=>hW.lt p hp;refine aGp (pa:=before) (pv:=[]) hW (fun b sp hd=>?_) (fun sp hsp=>?_) (fun sp _=>?_) (by simp) hb ?_
 ·rw[hres,hrt];exact trodAll_mk1 (shut_bool hu true)
 ·rw[hargs];exact vP hl hb _ _ _ _ hts hA hlt hsp
 ·rw[hvars,hvs];rfl
 ·intro j t r hj hr;rw[hrt] at hj hr;rw[show(#[tb]:Array TypeId).size=1 from rfl,hro] at hr
  match j with
  | 0=>
   simp at hj hr;subst hj;subst hr;exact okWide_bool_mk hu _
  | j+1=>simp at hj
end
theorem bLu {x:Int} (h:(Lit.int .i64 x).wf=true):IntKind.i64.wrap x=x:=by
 have hb:-9223372036854775808≤x∧x≤9223372036854775807:=(by simpa [Lit.wf,IntKind.min,IntKind.max,IntKind.signed,IntKind.bits] using h);exact IntWalk.i64_in x hb
theorem bBc {x:Int} (h:(Lit.int .i64 x).wf=true):-9223372036854775808≤x∧x≤9223372036854775807:=by
 simpa [Lit.wf,IntKind.min,IntKind.max,IntKind.signed,IntKind.bits] using h
end
section
open Go.RowKit
abbrev aV:=Int×List UInt8×List UInt8×Int×Int×Int
def kE:aV:=(0,[],[],0,0,0)
def mY (k:Int):List UInt8:=
 if k=1 then [98,101,103,105,110] else if k=2 then [114,101,97,100] else if k=3 then [119,114,105,116,101] else if k=4 then [111,107] else if k=5 then [102,97,105,108] else if k=6 then [105,110,102,111] else []
def dN (l:List UInt8):Int:=
 if l=[98,101,103,105,110] then 1 else if l=[114,101,97,100] then 2 else if l=[119,114,105,116,101] then 3 else if l=[111,107] then 4 else if l=[102,97,105,108] then 5 else if l=[105,110,102,111] then 6 else 0
def kD (k:Int):Bool:=k==2||k==3
def evV (x:aV):Value:=.agg #[.int .i64 x.1,.string (bs x.2.1),.string (bs x.2.2.1),.int .i64 x.2.2.2.1,.int .i64 x.2.2.2.2.1,.int .i64 x.2.2.2.2.2]
theorem kindW_at (i:Nat) (h:i<7):mY (i:Int)=[[],[98,101,103,105,110],[114,101,97,100],[119,114,105,116,101],[111,107],[102,97,105,108],[105,110,102,111]].getD i []:=by
 match i,h with
 | 0,_=>rfl
 | 1,_=>rfl
 | 2,_=>rfl
 | 3,_=>rfl
 | 4,_=>rfl
 | 5,_=>rfl
 | 6,_=>rfl
def EvTab (w:World):Prop:=∀ i:Nat,i<7→w.cell? ⟨0,i,none⟩=some (.string (bs (mY i)))
theorem EvTab.below {w w':World} (h:EvTab w) (hb:Below w.heap.size w w'):EvTab w':=fun i hi=>cell_later hb (h i hi)
theorem aDl (k:Int):(k=2∧kD k=true)∨(k=3∧kD k=true)∨((k==2)=false∧(k==3)=false∧kD k=false):=by
 by_cases h2:k=2
 ·exact .inl ⟨h2,by simp[kD,h2]⟩
 ·by_cases h3:k=3
  ·exact .inr (.inl ⟨h3,by simp[kD,h3]⟩)
  ·exact .inr (.inr ⟨by simpa using h2,by simpa using h3,by simp[kD,h2,h3]⟩)
end
section
open Go.ChangeShapes Go.WideShapes Go.ChangeAt Go.RowKit Go.Joins Go.Lib
def aJt (x:aV):List Value:=[.int .i64 x.1,.string (bs x.2.1),.string (bs x.2.2.1),.int .i64 x.2.2.2.1,.int .i64 x.2.2.2.2.1,.int .i64 x.2.2.2.2.2]
def EvR (_:World) (cs:List Value) (x:aV):Prop:=cs=aJt x∧x.2.1.length≤9223372036854775807∧x.2.2.1.length≤9223372036854775807∧-9223372036854775808≤x.2.2.2.2.1∧x.2.2.2.2.1≤9223372036854775807
section
variable {H:Type} {enc:TypeId×Value→H} {w:World} {base:Nat} {spare:Nat→Bool} {held:Bool}
theorem bFn {s:ByteArray} (hs:s.size≤maxLen):s.data.toList.length≤9223372036854775807:=by
 unfold maxLen at hs;rw[Lib.size_eq] at hs;exact hs
set_option maxRecDepth 100000 in
theorem aSp {n:Nat} {cs:List Value} {y:DataW H×List MemPlace} (h:DataW.trod enc Tryz.prog w base spare held n 116 cs=some y):∃ x,EvR w cs x:=by
 have hl:=qV Tryz.underlying116 h;obtain⟨n0,y0,h0⟩:=jD 0 0 3 1 Tryz.underlying116 h rfl rfl rfl (by kernel_rfl);obtain⟨n1,y1,h1⟩:=jD 1 1 9 1 Tryz.underlying116 h rfl rfl rfl (by kernel_rfl);obtain⟨n2,y2,h2⟩:=jD 2 2 9 1 Tryz.underlying116 h rfl rfl rfl (by kernel_rfl);obtain⟨n3,y3,h3⟩:=jD 3 3 57 2 Tryz.underlying116 h rfl rfl rfl (by kernel_rfl);obtain⟨n4,y4,h4⟩:=jD 4 5 3 1 Tryz.underlying116 h rfl rfl rfl (by kernel_rfl);have hl3:=qV Tryz.underlying57 h3;obtain⟨m0,z0,g0⟩:=jD 0 0 3 1 Tryz.underlying57 h3 rfl rfl rfl (by kernel_rfl);obtain⟨m1,z1,g1⟩:=jD 1 1 2 1 Tryz.underlying57 h3 rfl rfl rfl (by kernel_rfl);obtain⟨k,hk,-,-⟩:=DataW.trod_int Tryz.underlying3 h0;obtain⟨s,hs,-,ls⟩:=DataW.trod_string Tryz.underlying9 h1;obtain⟨key,hkey,-,lk⟩:=DataW.trod_string Tryz.underlying9 h2;obtain⟨vk,hvk,-,-⟩:=DataW.trod_int Tryz.underlying3 g0;obtain⟨vn,hvn,-,wn⟩:=DataW.trod_int Tryz.underlying2 g1;obtain⟨ln,hln,-,-⟩:=DataW.trod_int Tryz.underlying3 h4;have hb:=bBc wn;rw[show Tryz.prog.cellsOf 116=6 by kernel_rfl] at hl
 match cs,hl with
 | [c0,c1,c2,c3,c4,c5],_=>
  simp at hk hs hkey hvk hvn hln;refine⟨(k,s.data.toList,key.data.toList,vk,vn,ln),?_,bFn ls,bFn lk,hb.1,hb.2⟩;simp only[aJt,hk,hs,hkey,hvk,hvn,hln, ←uL]
set_option maxRecDepth 100000 in
theorem bMv {r:Reach} {b0:Nat} {v:Value} {d:DataW H} {ps:List MemPlace} (hval:Value.okWide Tryz.prog w r b0 116 v) (hd:DataW.Trod enc Tryz.prog w base spare held 116 v d ps) :
  ∃ k s key vk n ln,v=.agg #[.int .i64 k,.string (bs s),.string (bs key),.int .i64 vk,.int .i64 n,.int .i64 ln]∧s.length≤9223372036854775807∧key.length≤9223372036854775807∧-9223372036854775808≤n∧n≤9223372036854775807:=by
 obtain⟨cs,rfl,-⟩:=okWide_struct Tryz.underlying116 hval;obtain⟨fuel,hf⟩:=hd;obtain⟨x,hx,h1,h2,h3,h4⟩:=aSp hf;refine⟨x.1,x.2.1,x.2.2.1,x.2.2.2.1,x.2.2.2.2.1,x.2.2.2.2.2,?_,h1,h2,h3,h4⟩;have e:cs.toList=aJt x:=hx;obtain⟨l⟩:=cs;simp only at e;rw[e];rfl
end
theorem bGp {P:Program} {W:World} {name:String} {g:Nat} {t e:TypeId} {L:List (List UInt8)} (hn:P.globalNamed name=some g) (hty:(P.globals[g]?).map (·.type)=some t) (ht:P.underlying t=some (.array L.length e)) (he:P.underlying e=some .string) (hce:P.cellsOf e=1)
  (h:VarReads P W name (.agg (L.map fun l=>.lit (.string l)))):∀ i,i<L.length→W.cell? ⟨g,i,none⟩=some (.string (bs (L.getD i []))):=by
 intro i hi;obtain⟨g',t',cs,fuel,p,hg,hty',hvar,hd⟩:=h;obtain rfl:=Option.some.inj (hn.symm.trans hg);obtain rfl:=Option.some.inj (hty.symm.trans hty');obtain⟨fuel',d,q,hdi,hel⟩:=array_elem ht hd i hi;rw[hce,Nat.mul_one] at hel;obtain⟨s,hs,hx,-⟩:=DataW.trod_string he hel;rw[World.var?_cell hg hvar i, ←Array.getElem?_toList];have h1:=congrArg (fun x:List Value=>x[0]?) hs;simp only[List.getElem?_take,List.getElem?_drop] at h1
 have h2:(DataW.lit (.string (L.getD i [])):DataW Unit)=.lit (.string s.data.toList):=by
  have h3:=congrArg Prod.fst hx;simp only at h3;rw[←h3];rw[List.getElem?_map,List.getElem?_eq_getElem hi] at hdi;simp only[Option.map_some,Option.some.injEq] at hdi;rw[←hdi];simp[hi]
 injection h2 with h2;injection h2 with h2;rw[h2, ←uL];simpa using h1
end
section
open Go.Lib
def kY:Nat→List UInt8→List Nat
 | 0,_=>[]
 | n+1,l=>if l=[] then [] else (decodeL l).1::kY n (l.drop (decodeL l).2)
def aQ (l:List UInt8):List Nat:=kY l.length l
theorem oZ:∀ n,kY n []=[]
 | 0=>rfl
 | _+1=>by simp[kY]
theorem xM:∀ (n m:Nat) (l:List UInt8),l.length≤n→l.length≤m→kY n l=kY m l
 | 0,m,l,hn,_=>by
  have:l=[]:=List.eq_nil_of_length_eq_zero (by omega);subst this;rw[oZ,oZ]
 | n+1,0,l,_,hm=>by
  have:l=[]:=List.eq_nil_of_length_eq_zero (by omega);subst this;rw[oZ,oZ]
 | n+1,m+1,l,hn,hm=>by
  unfold kY;by_cases hne:l=[]
  ·simp[hne]
  ·have hw:=decodeL_width l;have hl:0<l.length:=List.length_pos_iff.2 hne;rw[if_neg hne,if_neg hne,xM n m (l.drop (decodeL l).2) (by rw[List.length_drop];omega) (by rw[List.length_drop];omega)]
theorem aEz:aQ []=[]:=rfl
theorem uE (l:List UInt8) (hne:l≠[]):aQ l=(decodeL l).1::aQ (l.drop (decodeL l).2):=by
 have hl:0<l.length:=List.length_pos_iff.2 hne;have hw:=decodeL_width l;obtain⟨n,hn⟩:∃ n,l.length=n+1:=⟨l.length-1,by omega⟩;unfold aQ;rw[hn];show(if l=[] then [] else _)=_;rw[if_neg hne,xM n (l.drop (decodeL l).2).length _ (by rw[List.length_drop];omega) (Nat.le_refl _)]
theorem uD:∀ (n:Nat) (l:List UInt8),(kY n l).length≤n
 | 0,_=>by simp[kY]
 | n+1,l=>by
  unfold kY;split
  ·simp
  ·have:=uD n (l.drop (decodeL l).2);simp only[List.length_cons];omega
theorem kG (l:List UInt8):(aQ l).length≤l.length:=uD _ _
theorem xL (s:ByteArray):∀ (b i:Nat) (acc:Array Value),Conv.runesFrom s b i acc=acc++((kY b (s.data.toList.drop i)).map fun (n:Nat)=>Value.int .i32 (n:Int)).toArray
 | 0,i,acc=>by simp[Conv.runesFrom,kY]
 | b+1,i,acc=>by
  unfold Conv.runesFrom kY;by_cases h:i<s.size
  ·have hne:s.data.toList.drop i≠[]:=by
    intro e;have:=congrArg List.length e;simp at this;omega
   rw[if_pos h,if_neg hne];simp only[];rw[xL s b];simp[decodeL_drop,List.drop_drop]
  ·have he:s.data.toList.drop i=[]:=List.drop_eq_nil_of_le (by rw[←Lib.size_eq];omega);rw[if_neg h,he];simp
theorem aGt (l:List UInt8):Conv.runesFrom (bs l) (bs l).size 0 #[]=((aQ l).map fun (n:Nat)=>Value.int .i32 (n:Int)).toArray:=by
 rw[xL];simp[bs,aQ,ByteArray.size]
def dig (c:Nat):Bool:=decide (48≤c)&&decide (c≤57)
def oR (c:Nat):Bool:=decide (127<c)||decide (c=95)||dig c||(decide (97≤c)&&decide (c≤122))||(decide (65≤c)&&decide (c≤90))
def aGq (l:List UInt8):Bool:=
 decide (l=[98,101,103,105,110]∨l=[114,101,97,100]∨l=[119,114,105,116,101]∨l=[111,107]∨l=[102,97,105,108]∨l=[105,110,102,111]∨l=[110,105,108])
def xV (r:List Nat):Bool:=decide (0<r.length)&&decide (r.length≤20)&&r.all oR && !dig (r.getD 0 0)
def bA (l:List UInt8):Bool:=!aGq l&&validD l&&xV (aQ l)
def bE:List Nat→List Nat→Bool
 | [],[]=>false
 | [],_::_=>true
 | _::_,[]=>false
 | a::x,b::y=>if a=b then bE x y else decide (a<b)
def lJ:List Nat→List Nat→Int
 | [],[]=>0
 | [],_::_=>-1
 | _::_,[]=>1
 | a::x,b::y=>if a=b then lJ x y else if a<b then -1 else 1
theorem tR:∀ x y,bE x y=decide (lJ x y<0)
 | [],[]=>rfl
 | [],_::_=>rfl
 | _::_,[]=>rfl
 | a::x,b::y=>by
  unfold bE lJ;split
  ·exact tR x y
  ·split<;>simp[*]
theorem aNg:∀ x y,(x=y)↔(bE x y=bE y x)
 | [],[]=>by simp[bE]
 | [],_::_=>by simp[bE]
 | _::_,[]=>by simp[bE]
 | a::x,b::y=>by
  unfold bE;by_cases h:a=b
  ·subst h;simp[aNg x y]
  ·have h':¬b=a:=fun e=>h e.symm;simp[h,h'];omega
theorem oV (l:List UInt8) (hne:l≠[]):1≤(decodeL l).2∧(decodeL l).2≤l.length:=⟨decodeL_width l,decodeL_le l hne⟩
def aJa (r:List Nat):List UInt8:=r.flatMap fun (c:Nat)=>encodeRune (c:Int)
theorem nA:∀ (n:Nat) (l:List UInt8),l.length≤n→validD l=true→aJa (aQ l)=l
 | 0,l,h,_=>by
  have:l=[]:=List.eq_nil_of_length_eq_zero (by omega);subst this;rfl
 | n+1,l,h,hv=>by
  by_cases hne:l=[]
  ·subst hne;rfl
  ·have hw:=oV l hne;rw[validD_step l hne] at hv;by_cases hb:(decodeL l).1=65533∧(decodeL l).2=1
   ·simp[hb] at hv
   ·rw[if_neg hb] at hv;have ih:=nA n (l.drop (decodeL l).2) (by rw[List.length_drop];omega) hv;rw[uE l hne];show encodeRune ((decodeL l).1:Int)++aJa (aQ (l.drop (decodeL l).2))=l;rw[encode_decode l hne hb,ih,List.take_append_drop]
theorem bAa (a b:List UInt8) (ha:validD a=true) (hb:validD b=true):aQ a=aQ b↔a=b:=by
 constructor
 ·intro h;rw[←nA _ a (Nat.le_refl _) ha, ←nA _ b (Nat.le_refl _) hb,h]
 ·rintro rfl;rfl
end
section
open Go.Lib
theorem aCd (b:Nat):(b / 64=2)=(128≤b∧b≤191):=propext ⟨fun h=>⟨by omega,by omega⟩,fun h=>by omega⟩
theorem qH (b:Nat) (h:128≤b∧b≤191):b % 64=b-128:=by omega
theorem bMb (n b0 b1 b2 b3:Nat) (h:194≤b0) (h':b0≤223):decodeN n b0 b1 b2 b3=if 1<n∧128≤b1∧b1≤191 then ((b0-192)*64+(b1-128),2) else (65533,1):=by
 have e0:¬b0<128:=(by omega);have e1:b0 / 32=6:=(by omega);have e2:¬b0 / 16=14:=(by omega);have e3:¬b0 / 8=30:=(by omega);have e4:b0 % 32=b0-192:=(by omega);unfold decodeN;rw[if_neg e0];simp only[e1,e2,e3,e4,aCd,true_and,false_and,if_false];by_cases hc:1<n∧128≤b1∧b1≤191
 ·rw[if_pos hc,if_pos hc,qH b1 hc.2,if_pos (by omega)]
 ·rw[if_neg hc,if_neg hc]
theorem bMc (n b0 b1 b2 b3:Nat) (h:224≤b0) (h':b0≤239) :
  decodeN n b0 b1 b2 b3=if (2<n∧128≤b1∧b1≤191∧128≤b2∧b2≤191)∧2048≤(b0-224)*4096+(b1-128)*64+(b2-128)∧¬(55296≤(b0-224)*4096+(b1-128)*64+(b2-128)∧(b0-224)*4096+(b1-128)*64+(b2-128)≤57343) then
   ((b0-224)*4096+(b1-128)*64+(b2-128),3) else (65533,1):=by
 have e0:¬b0<128:=(by omega);have e1:¬b0 / 32=6:=(by omega);have e2:b0 / 16=14:=(by omega);have e3:¬b0 / 8=30:=(by omega);have e4:b0 % 16=b0-224:=(by omega);unfold decodeN;rw[if_neg e0];simp only[e1,e2,e3,e4,aCd,true_and,false_and,if_false];by_cases hc:2<n∧128≤b1∧b1≤191∧128≤b2∧b2≤191
 ·have hc1:(1<n∧128≤b1∧b1≤191)∧2<n∧128≤b2∧b2≤191:=(by omega);rw[if_pos hc1,qH b1 hc1.1.2,qH b2 hc1.2.2];obtain⟨v,hv⟩:∃ v,(b0-224)*4096+(b1-128)*64+(b2-128)=v:=⟨_,rfl⟩;have hle:v≤65535:=(by omega);rw[hv];by_cases hd:2048≤v∧¬(55296≤v∧v≤57343)
  ·rw[if_pos (by omega),if_pos ⟨hc,hd⟩]
  ·rw[if_neg (by omega),if_neg (fun x=>hd x.2)]
 ·rw[if_neg (fun x=>hc (by omega)),if_neg (fun x=>hc x.1)]
theorem bMd (n b0 b1 b2 b3:Nat) (h:240≤b0) (h':b0≤244) :
  decodeN n b0 b1 b2 b3=if (3<n∧128≤b1∧b1≤191∧128≤b2∧b2≤191∧128≤b3∧b3≤191)∧65536≤(b0-240)*262144+(b1-128)*4096+(b2-128)*64+(b3-128)∧(b0-240)*262144+(b1-128)*4096+(b2-128)*64+(b3-128)≤1114111 then
   ((b0-240)*262144+(b1-128)*4096+(b2-128)*64+(b3-128),4) else (65533,1):=by
 have e0:¬b0<128:=(by omega);have e1:¬b0 / 32=6:=(by omega);have e2:¬b0 / 16=14:=(by omega);have e3:b0 / 8=30:=(by omega);have e4:b0 % 8=b0-240:=(by omega);unfold decodeN;rw[if_neg e0];simp only[e1,e2,e3,e4,aCd,true_and,false_and,if_false];by_cases hc:3<n∧128≤b1∧b1≤191∧128≤b2∧b2≤191∧128≤b3∧b3≤191
 ·have hc1:(1<n∧128≤b1∧b1≤191)∧(2<n∧128≤b2∧b2≤191)∧3<n∧128≤b3∧b3≤191:=(by omega);rw[if_pos hc1,qH b1 hc1.1.2,qH b2 hc1.2.1.2,qH b3 hc1.2.2.2];obtain⟨v,hv⟩:∃ v,(b0-240)*262144+(b1-128)*4096+(b2-128)*64+(b3-128)=v:=⟨_,rfl⟩;rw[hv];by_cases hd:65536≤v∧v≤1114111
  ·rw[if_pos (by omega),if_pos ⟨hc,hd⟩]
  ·rw[if_neg (by omega),if_neg (fun x=>hd x.2)]
 ·rw[if_neg (fun x=>hc (by omega)),if_neg (fun x=>hc x.1)]
end
section
open Go.Lib
def bBl (c:Nat):Prop:=c<55296∨(57343<c∧c≤1114111)
theorem u8n (x:Int) (n:Nat) (h:x=n) (hn:n<256):(x.toNat.toUInt8).toNat=n:=by
 subst h;simp only[Int.toNat_natCast,UInt8.toNat_ofNat',Nat.toUInt8];omega
theorem aGc (c:Nat) (h:bBl c) (t:List UInt8):decodeL (encodeRune (c:Int)++t)=(c,(encodeRune (c:Int)).length):=by
 unfold bBl at h;by_cases h1:c≤127
 ·have e0:=u8n (c:Int) c rfl (by omega);rw[encodeRune,encodeRuneZ_one (by omega) (by omega)];simp only[List.map_cons,List.map_nil,List.cons_append,List.nil_append,List.length_cons,List.length_nil];rw[decodeL_ascii _ _ (by rw[e0];omega),e0]
 ·by_cases h2:c≤2047
  ·obtain⟨d,r,hd,hr,hc⟩:∃ d r,c / 64=d∧c % 64=r∧c=64*d+r:=⟨_,_,rfl,rfl,by omega⟩;have hr':r<64:=(by omega);have e0:=u8n (192+(c:Int) / 64) (192+d) (by omega) (by omega);have e1:=u8n (128+(c:Int) % 64) (128+r) (by omega) (by omega);rw[encodeRune,encodeRuneZ_two (by omega) (by omega)];simp only[List.map_cons,List.map_nil,List.cons_append,List.nil_append,List.length_cons,List.length_nil];rw[decodeL_N];simp only[List.getD_cons_zero,List.getD_cons_succ,List.length_cons,e0,e1];clear hd hr e0 e1;rw[bMb _ _ _ _ _ (by omega) (by omega),if_pos (by omega)];refine Prod.ext ?_ rfl;simp only;omega
  ·by_cases h3:c≤65535
   ·obtain⟨d,r,s,hd,hr,hs,hc⟩:∃ d r s,c / 4096=d∧c / 64 % 64=r∧c % 64=s∧c=4096*d+64*r+s:=⟨_,_,_,rfl,rfl,rfl,by omega⟩;have hr':r<64:=(by omega);have hs':s<64:=(by omega);have e0:=u8n (224+(c:Int) / 4096) (224+d) (by omega) (by omega);have e1:=u8n (128+(c:Int) / 64 % 64) (128+r) (by omega) (by omega);have e2:=u8n (128+(c:Int) % 64) (128+s) (by omega) (by omega);rw[encodeRune,encodeRuneZ_three (by omega)];simp only[List.map_cons,List.map_nil,List.cons_append,List.nil_append,List.length_cons,List.length_nil];rw[decodeL_N];simp only[List.getD_cons_zero,List.getD_cons_succ,List.length_cons,e0,e1,e2];clear hd hr hs e0 e1 e2;have a0:224+d-224=d:=(by omega);have a1:128+r-128=r:=(by omega);have a2:128+s-128=s:=(by omega);rw[bMc _ _ _ _ _ (by omega) (by omega),a0,a1,a2,if_pos (by omega)];refine Prod.ext ?_ rfl;simp only;omega
   ·obtain⟨d,q,r,s,hd,hq,hr,hs,hc⟩:∃ d q r s,c / 262144=d∧c / 4096 % 64=q∧c / 64 % 64=r∧c % 64=s∧c=262144*d+4096*q+64*r+s:=⟨_,_,_,_,rfl,rfl,rfl,rfl,by omega⟩;have hq':q<64:=(by omega);have hr':r<64:=(by omega);have hs':s<64:=(by omega);have e0:=u8n (240+(c:Int) / 262144) (240+d) (by omega) (by omega);have e1:=u8n (128+(c:Int) / 4096 % 64) (128+q) (by omega) (by omega);have e2:=u8n (128+(c:Int) / 64 % 64) (128+r) (by omega) (by omega);have e3:=u8n (128+(c:Int) % 64) (128+s) (by omega) (by omega);rw[encodeRune,encodeRuneZ_four (by omega) (by omega)];simp only[List.map_cons,List.map_nil,List.cons_append,List.nil_append,List.length_cons,List.length_nil];rw[decodeL_N];simp only[List.getD_cons_zero,List.getD_cons_succ,List.length_cons,e0,e1,e2,e3];clear hd hq hr hs e0 e1 e2 e3;have a0:240+d-240=d:=(by omega);have a1:128+q-128=q:=(by omega);have a2:128+r-128=r:=(by omega);have a3:128+s-128=s:=(by omega);rw[bMd _ _ _ _ _ (by omega) (by omega),a0,a1,a2,a3,if_pos (by omega)];refine Prod.ext ?_ rfl;simp only;omega
theorem aCl (c:Int):1≤(encodeRune c).length∧(encodeRune c).length≤4:=by
 have:=encodeRuneZ_length c;simpa [encodeRune] using this
theorem zF:∀ r:List Nat,(aJa r).length≤4*r.length
 | []=>by simp[aJa]
 | c::r=>by
  have ih:=zF r;have hl:=(aCl (c:Int)).2;have e:aJa (c::r)=encodeRune (c:Int)++aJa r:=rfl;rw[e];simp only[List.length_append,List.length_cons];omega
theorem sK (l:List UInt8) (h:bA l=true):validD l=true:=by
 unfold bA at h;simp only[Bool.and_eq_true] at h;exact h.1.2
end
section
open Go.Lib
theorem tU:∀ x:List Nat,bE x x=false
 | []=>rfl
 | a::x=>by
  unfold bE;rw[if_pos rfl];exact tU x
theorem pQ:∀ x y z:List Nat,bE x y=true→bE y z=true→bE x z=true
 | [],[],_,h,_=>by simp[bE] at h
 | [],_::_,[],_,h=>by simp[bE] at h
 | [],_::_,_::_,_,_=>rfl
 | _::_,[],_,h,_=>by simp[bE] at h
 | _::_,_::_,[],_,h=>by simp[bE] at h
 | a::x,b::y,c::z,h1,h2=>by
  unfold bE at h1 h2 ⊢;by_cases hab:a=b
  ·subst hab;rw[if_pos rfl] at h1;by_cases hac:a=c
   ·rw[if_pos hac] at h2 ⊢;exact pQ x y z h1 h2
   ·rw[if_neg hac] at h2 ⊢;exact h2
  ·rw[if_neg hab] at h1;have h1':a<b:=(by simpa using h1);by_cases hbc:b=c
   ·subst hbc;rw[if_neg hab];exact h1
   ·rw[if_neg hbc] at h2;have h2':b<c:=(by simpa using h2);rw[if_neg (by omega)];simpa using (by omega:a<c)
theorem vH (x y:List Nat) (h1:bE x y=false) (h2:bE y x=false):x=y:=(aNg x y).2 (h1.trans h2.symm)
theorem aDg (x y z:List Nat) (h1:bE x y=false) (h2:bE y z=false):bE x z=false:=by
 cases h:bE x z with
 | false=>rfl
 | true=>
  cases h3:bE y x with
  | true=>rw[pQ y x z h3 h] at h2;exact absurd h2 (by decide)
  | false=>
   have e:=vH x y h1 h3;rw[e,h2] at h;exact absurd h (by decide)
def ltN (a b:List UInt8):Bool:=bE (aQ a) (aQ b)
theorem oF (a:List UInt8):ltN a a=false:=tU _
theorem nR (a b c:List UInt8):ltN a b=true→ltN b c=true→ltN a c=true:=pQ _ _ _
theorem uT (a b:List UInt8) (ha:bA a=true) (hb:bA b=true) (h1:ltN a b=false) (h2:ltN b a=false):a=b:=
 (bAa a b (sK a ha) (sK b hb)).1 (vH _ _ h1 h2)
theorem pY (lt:List UInt8→List UInt8→Bool) (hi:∀ a,lt a a=false) (ht:∀ a b c,lt a b=true→lt b c=true→lt a c=true) :
  ∀ A B:List (List UInt8),A.Pairwise (fun a b=>lt a b=true)→B.Pairwise (fun a b=>lt a b=true)→(∀ x,x∈A↔x∈B)→A=B
 | [],[],_,_,_=>rfl
 | [],b::B,_,_,h=>by have:=(h b).2 (List.mem_cons_self ..);simp at this
 | a::A,[],_,_,h=>by have:=(h a).1 (List.mem_cons_self ..);simp at this
 | a::A,b::B,hA,hB,h=>by
  rw[List.pairwise_cons] at hA hB
  have hab:a=b:=by
   rcases List.mem_cons.1 ((h a).1 (List.mem_cons_self ..)) with e | e
   ·exact e
   ·rcases List.mem_cons.1 ((h b).2 (List.mem_cons_self ..)) with e2 | e2
    ·exact e2.symm
    ·have:=ht a b a (hA.1 b e2) (hB.1 a e);rw[hi] at this;exact absurd this (by decide)
  subst hab;rw[pY lt hi ht A B hA.2 hB.2 ?_];intro x;constructor
  ·intro hx;rcases List.mem_cons.1 ((h x).1 (List.mem_cons_of_mem _ hx)) with e | e
   ·subst e;have:=hA.1 x hx;rw[hi] at this;exact absurd this (by decide)
   ·exact e
  ·intro hx;rcases List.mem_cons.1 ((h x).2 (List.mem_cons_of_mem _ hx)) with e | e
   ·subst e;have:=hB.1 x hx;rw[hi] at this;exact absurd this (by decide)
   ·exact e
def aCy (x:List UInt8):List (List UInt8)→List (List UInt8)
 | []=>[x]
 | y::r=>if ltN y x then y::aCy x r else if y=x then y::r else x::y::r
theorem aAy (x y:List UInt8):∀ r,y∈aCy x r↔y=x∨y∈r
 | []=>by simp[aCy]
 | z::r=>by
  unfold aCy;split
  ·rw[List.mem_cons,aAy x y r,List.mem_cons];constructor
   ·rintro(h | h | h)
    ·exact .inr (.inl h)
    ·exact .inl h
    ·exact .inr (.inr h)
   ·rintro(h | h | h)
    ·exact .inr (.inl h)
    ·exact .inl h
    ·exact .inr (.inr h)
  ·split
   ·rename_i h;subst h;simp
   ·simp
theorem aCz (x:List UInt8) (hx:bA x=true):∀ r,(∀ y∈r,bA y=true)→r.Pairwise (fun a b=>ltN a b=true)→(aCy x r).Pairwise (fun a b=>ltN a b=true)
 | [],_,_=>by simp[aCy]
 | y::r,hn,hs=>by
  have hy:=hn y (List.mem_cons_self ..);rw[List.pairwise_cons] at hs;unfold aCy;split
  ·rename_i h;rw[List.pairwise_cons];refine⟨fun z hz=>?_,aCz x hx r (fun z hz=>hn z (List.mem_cons_of_mem _ hz)) hs.2⟩;rcases(aAy x z r).1 hz with e | e
   ·subst e;exact h
   ·exact hs.1 z e
  ·rename_i h;split
   ·rw[List.pairwise_cons];exact hs
   ·rename_i he
    have hxy:ltN x y=true:=by
     cases hq:ltN x y with
     | true=>rfl
     | false=>exact absurd (uT y x hy hx (by simpa using h) hq) he
    rw[List.pairwise_cons,List.pairwise_cons];refine⟨fun z hz=>?_,hs⟩;rcases List.mem_cons.1 hz with e | e
    ·subst e;exact hxy
    ·exact nR x y z hxy (hs.1 z e)
def aX (L:List (List UInt8)):List (List UInt8):=L.foldl (fun out x=>if bA x then aCy x out else out) []
theorem bMk (L:List (List UInt8)):∀ out:List (List UInt8),(∀ y∈out,bA y=true)→out.Pairwise (fun a b=>ltN a b=true) →
  (L.foldl (fun out x=>if bA x then aCy x out else out) out).Pairwise (fun a b=>ltN a b=true) ∧
  ∀ y,y∈L.foldl (fun out x=>if bA x then aCy x out else out) out↔y∈out∨(y∈L∧bA y=true):=by
 induction L with
 | nil=>intro out _ hs;exact⟨hs,by simp⟩
 | cons x L ih=>
  intro out hn hs;rw[List.foldl_cons];by_cases h:bA x=true
  ·rw[if_pos h];obtain⟨h1,h2⟩:=ih (aCy x out) (fun y hy=>by rcases(aAy x y out).1 hy with e | e;(subst e;exact h);exact hn y e) (aCz x h out hn hs);refine⟨h1,fun y=>?_⟩;rw[h2,aAy,List.mem_cons];constructor
   ·rintro((e | e) | ⟨e,e'⟩)
    ·subst e;exact .inr ⟨.inl rfl,h⟩
    ·exact .inl e
    ·exact .inr ⟨.inr e,e'⟩
   ·rintro(e | ⟨e | e,e'⟩)
    ·exact .inl (.inr e)
    ·exact .inl (.inl e)
    ·exact .inr ⟨e,e'⟩
  ·rw[if_neg h];obtain⟨h1,h2⟩:=ih out hn hs;refine⟨h1,fun y=>?_⟩;rw[h2,List.mem_cons];constructor
   ·rintro(e | ⟨e,e'⟩)
    ·exact .inl e
    ·exact .inr ⟨.inr e,e'⟩
   ·rintro(e | ⟨e | e,e'⟩)
    ·exact .inl e
    ·subst e;exact absurd e' h
    ·exact .inr ⟨e,e'⟩
theorem gH (L:List (List UInt8)):(aX L).Pairwise (fun a b=>ltN a b=true)∧∀ y,y∈aX L↔y∈L∧bA y=true:=by
 obtain⟨h1,h2⟩:=bMk L [] (by simp) List.Pairwise.nil;exact⟨h1,fun y=>by rw[aX,h2];simp⟩
theorem aCb (d:Array (List UInt8)) (hn:∀ j,j<d.size→bA d[j]! = true) (hs:∀ i j,i<j→j<d.size→ltN d[j]! d[i]! = false) :
  ∀ m,m≤d.size→(compactUpTo d m).Pairwise (fun a b=>ltN a b=true)∧(∀ j,j<m→d[j]!∈compactUpTo d m)∧(∀ y∈compactUpTo d m,∃ j,j<m∧y=d[j]!)
 | 0,_=>⟨by simp[compactUpTo],by simp,by simp[compactUpTo]⟩
 | m+1,hm=>by
  obtain⟨h1,h2,h3⟩:=aCb d hn hs m (by omega);rw[compactUpTo_succ]
  cases hk:keeps d m with
  | true=>
   simp only[if_true];refine⟨?_,?_,?_⟩
   ·rw[List.pairwise_append];refine⟨h1,by simp,?_⟩;intro a ha b hb;obtain rfl:b=d[m]!:=(by simpa using hb);obtain⟨j,hj,rfl⟩:=h3 a ha
    have hne:d[j]!≠d[m]!:=by
     intro e;unfold keeps at hk;simp only[decide_eq_true_eq] at hk;rcases hk with hk | hk
     ·omega
     ·have hjm:d[m-1]! = d[m]!:=by
       by_cases hj1:j=m-1
       ·rw[←hj1];exact e
       ·have a1:=hs j (m-1) (by omega) (by omega);have a2:=hs (m-1) m (by omega) (by omega);rw[e] at a1;exact uT _ _ (hn _ (by omega)) (hn _ (by omega)) a1 a2
      exact hk hjm.symm
    have a:=hs j m hj (by omega)
    cases hl:ltN d[j]! d[m]! with
    | true=>rfl
    | false=>exact absurd (uT _ _ (hn _ (by omega)) (hn _ (by omega)) hl a) hne
   ·intro j hj;by_cases hjm:j<m
    ·exact List.mem_append_left _ (h2 j hjm)
    ·obtain rfl:j=m:=(by omega);exact List.mem_append_right _ (by simp)
   ·intro y hy;rcases List.mem_append.1 hy with hy | hy
    ·obtain⟨j,hj,e⟩:=h3 y hy;exact⟨j,by omega,e⟩
    ·exact⟨m,by omega,by simpa using hy⟩
  | false=>
   simp only[Bool.false_eq_true,if_false,List.append_nil];refine⟨h1,?_,fun y hy=>by obtain⟨j,hj,e⟩:=h3 y hy;exact⟨j,by omega,e⟩⟩;intro j hj;by_cases hjm:j<m
   ·exact h2 j hjm
   ·obtain rfl:j=m:=(by omega);unfold keeps at hk;simp only[decide_eq_false_iff_not,not_or,ne_eq,Classical.not_not] at hk;rw[hk.2];exact h2 (j-1) (by omega)
theorem aCa (S L:List (List UInt8)) (hm:∀ y,y∈S↔y∈L∧bA y=true) (hs:S.Pairwise (fun a b=>ltN b a=false)):compact S=aX L:=by
 have hget:∀ j,j<S.toArray.size→S.toArray[j]!∈S:=fun j hj=>by
  have hj':j<S.length:=(by simpa using hj);have:S.toArray[j]! = S[j]:=(by simp[hj']);rw[this];exact List.getElem_mem hj'
 obtain⟨h1,h2,h3⟩:=aCb S.toArray (fun j hj=>((hm _).1 (hget j hj)).2) (fun i j hij hj=>by
  have hj':j<S.length:=(by simpa using hj);have e1:S.toArray[j]! = S[j]:=(by simp[hj']);have e2:S.toArray[i]! = S[i]:=(by simp[show i<S.length by omega]);rw[e1,e2]
  exact List.pairwise_iff_getElem.1 hs i j (by omega) hj' hij) S.length (by simp)
 obtain⟨g1,g2⟩:=gH L;refine pY ltN oF nR _ _ h1 g1 fun x=>?_;rw[g2, ←hm];constructor
 ·intro hx;obtain⟨j,hj,rfl⟩:=h3 x hx;exact hget j (by simpa using hj)
 ·intro hx;obtain⟨j,hj,e⟩:=List.getElem_of_mem hx;have:=h2 j hj;have e1:S.toArray[j]! = S[j]:=(by simp[hj]);rw[e1,e] at this;exact this
end
section
open Go.Lib
def oX (L:List (List UInt8)) (i:Nat):Bool:=bA (L.getD i [])&&(decide (i=0)||ltN (L.getD (i-1) []) (L.getD i []))
def isT (L:List (List UInt8)):Bool:=(List.range L.length).all (oX L)
theorem bDc (L:List (List UInt8)) (i:Nat) (hi:i<L.length) (h:oX L i=false):isT L=false:=by
 unfold isT;rw[List.all_eq_false];exact⟨i,List.mem_range.2 hi,by simp[h]⟩
theorem aAz (L:List (List UInt8)) (h:∀ j,j<L.length→oX L j=true):isT L=true:=by
 unfold isT;rw[List.all_eq_true];exact fun j hj=>h j (List.mem_range.1 hj)
theorem sG (L:List (List UInt8)):oX L 0=bA (L.getD 0 []):=by simp[oX]
theorem qJ (L:List (List UInt8)) (k:Nat):oX L (k+1)=(bA (L.getD (k+1) [])&&ltN (L.getD k []) (L.getD (k+1) [])):=by simp[oX]
def yO (L:List (List UInt8)) (s:List UInt8):Int:=if s∈L then (L.idxOf s:Int) else -1
theorem bKo (L:List (List UInt8)) (s:List UInt8):∀ k,k<L.length→L.getD k []=s→(∀ j,j<k→L.getD j []≠s)→L.idxOf s=k∧s∈L:=by
 induction L with
 | nil=>intro k hk;exact absurd hk (Nat.not_lt_zero k)
 | cons x L ih=>
  intro k hk he hn
  cases k with
  | zero=>
   have:x=s:=he;subst this;exact⟨by simp,List.mem_cons_self ..⟩
  | succ k=>
   have hx:x≠s:=hn 0 (by omega);obtain⟨h1,h2⟩:=ih k (by simpa using hk) (by simpa using he) (fun j hj=>by simpa using hn (j+1) (by omega));refine⟨?_,List.mem_cons_of_mem _ h2⟩;rw[List.idxOf_cons,beq_eq_false_iff_ne.2 hx,h1];rfl
theorem bCy (L:List (List UInt8)) (s:List UInt8) (h:∀ j,j<L.length→L.getD j []≠s):s∉L:=by
 intro hm;obtain⟨j,hj,e⟩:=List.getElem_of_mem hm;exact h j hj (by simp[hj,e])
theorem bHo (L:List (List UInt8)) (s:List UInt8) (k:Nat) (hk:k<L.length) (he:L.getD k []=s) (hn:∀ j,j<k→L.getD j []≠s):yO L s=(k:Int):=by
 obtain⟨h1,h2⟩:=bKo L s k hk he hn;simp[yO,h1,h2]
theorem aXm (L:List (List UInt8)) (s:List UInt8) (h:∀ j,j<L.length→L.getD j []≠s):yO L s=-1:=by simp[yO,bCy L s h]
theorem aRj (L:List (List UInt8)) (s:List UInt8):-1≤yO L s∧yO L s<L.length:=by
 unfold yO;split
 ·rename_i h;have:=List.idxOf_lt_length_of_mem h;omega
 ·omega
def dS (L:List (List UInt8)) (s:List UInt8):Nat×Bool:=if isT L=true∧s∈L then (L.idxOf s,true) else (0,false)
theorem bCo (L:List (List UInt8)) (s:List UInt8) (h:isT L=false):dS L s=(0,false):=by simp[dS,h]
theorem bCn (L:List (List UInt8)) (s:List UInt8) (h:isT L=true):dS L s=((max (yO L s) 0).toNat,decide (0≤yO L s)):=by
 unfold dS yO;by_cases hm:s∈L
 ·rw[if_pos ⟨h,hm⟩,if_pos hm];refine Prod.ext ?_ ?_
  ·show List.idxOf s L=_;omega
  ·simp
 ·rw[if_neg (fun h=>hm h.2),if_neg hm];refine Prod.ext ?_ ?_
  ·show 0=(max (-1:Int) 0).toNat;omega
  ·simp
def aDz (tn:List (List UInt8)) (x:List UInt8):Int:=if (dS tn x).2=true then ((dS tn x).1:Int) else -1
def aAp (fr tn:List (List UInt8)):List Int:=fr.map (aDz tn)
theorem aTs (L:List (List UInt8)):isT (aX L)=true:=by
 obtain⟨h1,h2⟩:=gH L;refine aAz _ fun j hj=>?_
 have hg:∀ i,i<(aX L).length→(aX L).getD i []∈aX L:=fun i hi=>by
  have:(aX L).getD i []=(aX L)[i]:=(by simp[hi]);rw[this];exact List.getElem_mem hi
 have hn:=((h2 _).1 (hg j hj)).2
 cases j with
 | zero=>rw[sG];exact hn
 | succ k=>
  rw[qJ,hn];have e1:(aX L).getD k []=(aX L)[k]:=(by simp[show k<(aX L).length by omega]);have e2:(aX L).getD (k+1) []=(aX L)[k+1]:=(by simp[hj]);rw[e1,e2,List.pairwise_iff_getElem.1 h1 k (k+1) (by omega) hj (by omega)];rfl
end
section
def kW (k n:Int):Bool:=k==1||((k==0||k==2)&&n==0)
theorem qL (k n:Int):(k=1∧kW k n=true)∨(k=0∧n=0∧kW k n=true)∨(k=2∧n=0∧kW k n=true) ∨
  (k=0∧(n==0)=false∧(0==n)=false∧kW k n=false)∨(k=2∧(n==0)=false∧(0==n)=false∧kW k n=false) ∨
  ((k==0)=false∧(0==k)=false∧(k==1)=false∧(k==2)=false∧kW k n=false):=by
 by_cases h1:k=1
 ·exact .inl ⟨h1,by simp[kW,h1]⟩
 by_cases h0:k=0
 ·by_cases hn:n=0
  ·exact .inr (.inl ⟨h0,hn,by simp[kW,h0,hn]⟩)
  ·exact .inr (.inr (.inr (.inl ⟨h0,by simpa using hn,by simpa using fun h=>hn h.symm,by simp[kW,h0,hn]⟩)))
 by_cases h2:k=2
 ·by_cases hn:n=0
  ·exact .inr (.inr (.inl ⟨h2,hn,by simp[kW,h2,hn]⟩))
  ·exact .inr (.inr (.inr (.inr (.inl ⟨h2,by simpa using hn,by simpa using fun h=>hn h.symm,by simp[kW,h2,hn]⟩))))
 ·exact .inr (.inr (.inr (.inr (.inr ⟨by simpa using h0,by simpa using fun h=>h0 h.symm,by simpa using h1,by simpa using h2,by simp[kW,h0,h1,h2]⟩))))
end
section
open Go.Lib
abbrev OpM:=Bool×Int×Int×Int
abbrev bB:=Int×Int×List OpM
abbrev aI:=List (List UInt8)×List (List UInt8)×List bB
def cG:OpM:=(false,0,0,0)
def aM:bB:=(0,0,[])
def dV (n:Int) (m:Nat):Bool:=decide (0≤n)&&decide (n<m)
def jS (m:Nat) (o:OpM):Bool:=dV o.2.1 m&&(kW o.2.2.1 o.2.2.2&&(!o.1||o.2.2.1==1))
def bQ (m:Nat) (t:bB):Bool:=dV t.1 m&&(decide (1≤t.2.1)&&(decide (t.2.1≤3)&&decide (t.2.2.length≤20)))
def mV (h:aI):Bool:=isT h.1&&(isT h.2.1&&(decide (h.1.length≤20)&&(decide (h.2.1.length≤40)&&decide (h.2.2.length≤40))))
def bU (h:aI):List OpM:=h.2.2.flatMap (·.2.2)
def mU (m:Nat) (l:List Int):Bool:=(List.range m).all fun i=>l.contains (i:Int)
def xU (h:aI):Bool:=mU h.1.length (h.2.2.map (·.1))&&mU h.2.1.length ((bU h).map (·.2.1))
def cZ (h:aI):Bool:=mV h&&(h.2.2.all (bQ h.1.length)&&((bU h).all (jS h.2.1.length)&&xU h))
def tI (h:aI):Int:=if cZ h then 0 else 4
def dY:List Int→List Int
 | []=>[]
 | a::l=>let r:=dY l;if r.contains a then r else a::r
theorem dZ (x:Int):∀ l:List Int,x∈dY l↔x∈l
 | []=>by simp[dY]
 | a::l=>by
  have ih:=dZ x l;unfold dY;by_cases h:(dY l).contains a=true
  ·rw[if_pos h,List.mem_cons,ih];constructor
   ·exact fun h=>.inr h
   ·rintro(e | e)
    ·subst e;exact ih.1 (by simpa using h)
    ·exact e
  ·rw[if_neg h,List.mem_cons,List.mem_cons,ih]
theorem jX:∀ l:List Int,(dY l).Nodup
 | []=>by simp[dY]
 | a::l=>by
  have ih:=jX l;unfold dY;by_cases h:(dY l).contains a=true
  ·rw[if_pos h];exact ih
  ·rw[if_neg h,List.nodup_cons];exact⟨by simpa using h,ih⟩
theorem tW:∀ (m:Nat) (l:List Int),l.Nodup→(∀ x∈l,0≤x∧x<m)→l.length≤m
 | 0,l,_,h=>by
  cases l with
  | nil=>simp
  | cons a l=>have:=h a (List.mem_cons_self ..);omega
 | m+1,l,hn,h=>by
  have h1:(l.erase (m:Int)).length≤m:=tW m _ (hn.erase _) fun x hx=>by
   have hxl:=List.mem_of_mem_erase hx;have h2:=h x hxl
   have hne:x≠(m:Int):=fun e=>by
    subst e;exact absurd hx (by rw[hn.mem_erase_iff];simp)
   omega
  rw[List.length_erase] at h1;split at h1<;>omega
theorem nS:∀ (A B:List Int),A.Nodup→(∀ x∈A,x∈B)→A.length≤B.length
 | [],B,_,_=>by simp
 | a::A,B,hn,h=>by
  rw[List.nodup_cons] at hn;have ha:=h a (List.mem_cons_self ..)
  have h1:=nS A (B.erase a) hn.2 fun x hx=>by
   have hne:x≠a:=fun e=>hn.1 (e▸hx);exact(List.mem_erase_of_ne hne).2 (h x (List.mem_cons_of_mem _ hx))
  rw[List.length_erase_of_mem ha] at h1;have:=List.length_pos_of_mem ha;simp only[List.length_cons];omega
theorem aFm (m:Nat) (l:List Int) (h:∀ x∈l,0≤x∧x<(m:Int)):decide ((dY l).length=m)=mU m l:=by
 have hb:=tW m (dY l) (jX l) fun x hx=>h x ((dZ x l).1 hx);rw[Bool.eq_iff_iff,decide_eq_true_iff];unfold mU;rw[List.all_eq_true];constructor
 ·intro he i hi;by_cases hc:(i:Int)∈l
  ·simpa using hc
  ·exfalso;have hi':i<m:=List.mem_range.1 hi;have hne:(i:Int)∉dY l:=fun hm=>hc ((dZ _ _).1 hm)
   have h2:=tW m ((i:Int)::dY l) (List.nodup_cons.2 ⟨hne,jX l⟩) fun x hx=>by
    rcases List.mem_cons.1 hx with e | e
    ·subst e;omega
    ·exact h x ((dZ x l).1 e)
   simp only[List.length_cons] at h2;omega
 ·intro ha
  have hs:∀ n,n≤m→n≤(dY l).length:=by
   intro n hn
   have hsub:((List.range n).map (fun i:Nat=>(i:Int))).Nodup:=by
    rw[List.nodup_iff_pairwise_ne,List.pairwise_map];exact(List.nodup_range (n:=n)).imp fun {a b} hab e=>hab (by omega)
   have hle:=nS _ (dY l) hsub (fun x hx=>by
    obtain⟨i,hi,rfl⟩:=List.mem_map.1 hx;rw[dZ];have:=ha i (List.mem_range.2 (by have:=List.mem_range.1 hi;omega))
    simpa using this)
   simpa using hle
  have:=hs m (Nat.le_refl _);omega
end
section
open Go.RowKit Go.Lib
theorem aHn (L:List (List UInt8)):isT L=true↔(∀ x∈L,bA x=true)∧L.Pairwise (fun a b=>ltN a b=true):=by
 constructor
 ·intro h;unfold isT at h;rw[List.all_eq_true] at h
  have hg:∀ i (hi:i<L.length),bA L[i]=true:=fun i hi=>by
   have:=h i (List.mem_range.2 hi);unfold oX at this;simp only[Bool.and_eq_true] at this;simpa [hi] using this.1
  have hs:∀ i (hi:i+1<L.length),ltN L[i] L[i+1]=true:=fun i hi=>by
   have:=h (i+1) (List.mem_range.2 hi);rw[qJ] at this;simp only[Bool.and_eq_true] at this;simpa [hi,show i<L.length by omega] using this.2
  refine⟨fun x hx=>?_,?_⟩
  ·obtain⟨i,hi,rfl⟩:=List.getElem_of_mem hx;exact hg i hi
  ·rw[List.pairwise_iff_getElem];intro i j hi hj hij
   induction j with
   | zero=>exact absurd hij (Nat.not_lt_zero i)
   | succ j ih=>
    by_cases e:i=j
    ·subst e;exact hs i hj
    ·exact nR _ _ _ (ih (by omega) (by omega)) (hs j hj)
 ·rintro⟨h1,h2⟩;refine aAz L fun j hj=>?_;have e0:L.getD j []=L[j]:=by simp[hj]
  cases j with
  | zero=>rw[sG,e0];exact h1 _ (List.getElem_mem hj)
  | succ j=>
   have e1:L.getD j []=L[j]:=(by simp[show j<L.length by omega]);rw[qJ,e0,e1,h1 _ (List.getElem_mem hj),List.pairwise_iff_getElem.1 h2 j (j+1) (by omega) hj (by omega)];rfl
structure qD (h:aI):Prop where
 t0:isT h.1=true
 t1:isT h.2.1=true
 n0:h.1.length≤20
 n1:h.2.1.length≤40
 n2:h.2.2.length≤40
 txn:∀ t∈h.2.2,bQ h.1.length t=true
 op:∀ o∈bU h,jS h.2.1.length o=true
 u0:mU h.1.length (h.2.2.map (·.1))=true
 u1:mU h.2.1.length ((bU h).map (·.2.1))=true
theorem dA (h:aI):cZ h=true↔qD h:=by
 unfold cZ mV xU;simp only[Bool.and_eq_true,decide_eq_true_eq,List.all_eq_true];constructor
 ·rintro⟨⟨a,b,c,d,e⟩,f,g,u,v⟩;exact⟨a,b,c,d,e,f,g,u,v⟩
 ·rintro⟨a,b,c,d,e,f,g,u,v⟩;exact⟨⟨a,b,c,d,e⟩,f,g,u,v⟩
theorem bDv {m:Nat} {o:OpM} (h:jS m o=true):0≤o.2.1∧o.2.1<m:=by
 unfold jS dV at h;simp only[Bool.and_eq_true,decide_eq_true_eq] at h;exact h.1
end
section
open Go.RowKit Go.Lib
def bH (l:List UInt8) (p:Nat):Nat×Nat:=decodeL (l.drop p)
theorem aBc (l:List UInt8) (p:Nat):bH l p=decodeN (l.length-p) (l.getD p 0).toNat (l.getD (p+1) 0).toNat (l.getD (p+2) 0).toNat (l.getD (p+3) 0).toNat:=by
 unfold bH;rw[decodeL_N,List.length_drop,getD_dropU,getD_dropU,getD_dropU,getD_dropU,Nat.add_zero]
theorem kU (l:List UInt8) (p:Nat) (h:p<l.length):l.getD p 0=l[p]:=by simp[h]
set_option maxRecDepth 100000 in
set_option maxHeartbeats 1000000 in
theorem aVl (l:List UInt8) (p:Nat) (hp:p<l.length) (h:l[p].toNat<128∨(128≤l[p].toNat∧l[p].toNat<194)∨244<l[p].toNat) (w:World) :
  Calls Tryz.prog 98 #[.string (bs l),.int .i64 p] w fun e w'=>e=.returned (.tuple #[.int .i64 ((bH l p).2:Nat),.int .i64 ((bH l p).1:Nat)])∧w=w':=by
 have H:=lhid (aBc l p);have h0:=kU l p hp;rcases h with h | ⟨h,h'⟩ | h
 ·go_enter Tryz.func98,Tryz.ntmps98
  go_wp2
  go_ret2
  rw[H.out,h0];simp[decodeN,h]
 ·go_enter Tryz.func98,Tryz.ntmps98
  go_wp2
  go_ret2
  rw[H.out,h0,decodeN_bad _ _ _ _ _ (.inl ⟨h,h'⟩)];exact⟨rfl,rfl⟩
 ·have hb:=l[p].toNat_lt;go_enter Tryz.func98,Tryz.ntmps98
  go_wp2
  go_ret2
  rw[H.out,h0,decodeN_bad _ _ _ _ _ (.inr ⟨by omega,hb⟩)];exact⟨rfl,rfl⟩
set_option maxRecDepth 100000 in
set_option maxHeartbeats 4000000 in
theorem bId (l:List UInt8) (p:Nat) (hp:p<l.length) (hs:l.length≤4611686018427387904) (h:194≤l[p].toNat) (h':l[p].toNat≤223) (w:World) :
  Calls Tryz.prog 98 #[.string (bs l),.int .i64 p] w fun e w'=>e=.returned (.tuple #[.int .i64 ((bH l p).2:Nat),.int .i64 ((bH l p).1:Nat)])∧w=w':=by
 have h0:=kU l p hp;have hN:=aBc l p;rw[h0,bMb _ _ _ _ _ h h'] at hN;by_cases hl:p+1<l.length
 ·have h1:=kU l (p+1) (by omega);rw[h1] at hN;have hb1:=l[p+1].toNat_lt;have H:=lhid hN;clear hN h0 h1;rcases(show(l[p+1].toNat<128)∨(128≤l[p+1].toNat∧191<l[p+1].toNat)∨(128≤l[p+1].toNat∧l[p+1].toNat≤191) by omega) with ⟨r0⟩ | ⟨r0,r1⟩ | ⟨r0,r1⟩
  ·go_enter Tryz.func98,Tryz.ntmps98;go_wp2;go_rounds 2;go_ret2;rw[H.out,if_neg (by omega)];exact⟨rfl,rfl⟩
  ·go_enter Tryz.func98,Tryz.ntmps98;go_wp2;go_rounds 2;go_ret2;rw[H.out,if_neg (by omega)];exact⟨rfl,rfl⟩
  ·go_enter Tryz.func98,Tryz.ntmps98;go_wp2;go_rounds 2;go_ret2;rw[H.out,if_pos (by omega)];refine⟨?_,rfl⟩;simp;omega
 ·have H:=lhid hN;clear hN h0;go_enter Tryz.func98,Tryz.ntmps98;go_wp2;go_ret2;rw[H.out,if_neg (by omega)];exact⟨rfl,rfl⟩
end
section
open Go.RowKit Go.Lib
def szD (d:Nat×Nat):Nat:=if d.1=65533∧d.2=1 then 0 else d.2
def pX (l:List UInt8) (p:Nat):Nat:=szD (bH l p)
end
section
open Go.Lib
def gC:List UInt8→List UInt8→List (List UInt8)
 | cur,[]=>if cur=[] then [] else [cur]
 | cur,b::t=>if b=10 then cur::gC [] t else gC (cur++[b]) t
def pR (s:List UInt8):List (List UInt8):=gC [] s
def cP:List UInt8→List UInt8→List (List UInt8)
 | cur,[]=>[cur]
 | cur,b::t=>if b=10 then cur::cP [] t else cP (cur++[b]) t
theorem aGm (b:UInt8) (l:List UInt8) (h:b≠10):index (b::l) [10]=if index l [10] == -1 then -1 else index l [10]+1:=by
 have hp:([10]:List UInt8).isPrefixOf (b::l)=false:=(by simp[List.isPrefixOf,Ne.symm h]);rw[index,hp];simp
theorem aFg:∀ s:List UInt8,∃ h t,splitK [10] 0 (count s [10]) s=h::t∧∀ cur,cP cur s=(cur++h)::t
 | []=>⟨[],[],by rw[count_miss (by simp[index])];rfl,fun cur=>by simp[cP]⟩
 | b::s=>by
  obtain⟨h,t,ih,ic⟩:=aFg s;by_cases hb:b=10
  ·subst hb;have hi:index ((10:UInt8)::s) [10]=0:=(by rw[index];simp[List.isPrefixOf]);refine⟨[],h::t,?_,fun cur=>?_⟩
   ·rw[count_cons_eq,Nat.add_comm 1];unfold splitK;rw[hi,if_neg (by decide)];simp[ih]
   ·have:=ic [];simp only[cP,if_pos];rw[this];simp
  ·rw[count_cons_ne b 10 s hb];have hx:=aGm b s hb
   cases hk:count s [10] with
   | zero=>
    rw[hk] at ih;refine⟨b::s,[],rfl,fun cur=>?_⟩;simp only[splitK,List.cons.injEq] at ih;obtain⟨rfl,rfl⟩:=ih;simp only[cP,if_neg hb,ic];simp
   | succ k=>
    rw[hk] at ih
    obtain⟨i,hi⟩:∃ i:Nat,index s [10]=i:=by
     rcases index_spec s [10] with ⟨h1,-⟩ | ⟨i,h1,-⟩
     ·rw[count_miss h1] at hk;omega
     ·exact⟨i,h1⟩
    have hm:¬((i:Int) == -1)=true:=fun e=>(by have:=beq_iff_eq.1 e;omega);rw[hi,if_neg hm] at hx;have hm':¬((i:Int)+1 == -1)=true:=fun e=>(by have:=beq_iff_eq.1 e;omega);have e1:((i:Int)).toNat=i:=(by omega);have e2:((i:Int)+1).toNat=i+1:=(by omega);unfold splitK at ih ⊢;rw[hi,if_neg hm,e1] at ih;rw[hx,if_neg hm',e2];simp only[List.cons.injEq] at ih;obtain⟨rfl,rfl⟩:=ih;refine⟨b::List.take i s,splitK [10] 0 k (List.drop (i+1) s),?_,fun cur=>?_⟩
    ·simp only[List.length_cons,List.length_nil,Nat.add_zero,Nat.zero_add,List.take_succ_cons,List.drop_succ_cons]
    ·simp only[cP,if_neg hb,ic];simp
theorem bFl (s:List UInt8):splitK [10] 0 (count s [10]) s=cP [] s:=by
 obtain⟨h,t,h1,h2⟩:=aFg s;rw[h1,h2];rfl
theorem yU:∀ (t cur:List UInt8),gC cur (t++[10])=cP cur t
 | [],cur=>by simp[gC,cP]
 | b::t,cur=>by
  simp only[List.cons_append,gC,cP];rw[yU t,yU t]
theorem wE:∀ (s cur:List UInt8),(cur≠[]∨s≠[])→s.getLast?≠some 10→gC cur s=cP cur s
 | [],cur,h,_=>by
  have:cur≠[]:=(by simpa using h);simp[gC,cP,this]
 | [b],cur,_,hl=>by
  have:¬b=10:=(by simpa using hl);simp[gC,cP,this]
 | b::c::t,cur,_,hl=>by
  have hl':(c::t).getLast?≠some 10:=(by simpa [List.getLast?_cons_cons] using hl);simp only[gC,cP];by_cases hb:b=10
  ·rw[if_pos hb,if_pos hb];exact congrArg _ (wE (c::t) [] (.inr (by simp)) hl')
  ·rw[if_neg hb,if_neg hb];exact wE (c::t) _ (.inr (by simp)) hl'
theorem aTn (s:List UInt8):s=[]∨∃ t b,s=t++[b]:=by
 rcases List.eq_nil_or_concat s with h | ⟨t,b,h⟩
 ·exact .inl h
 ·exact .inr ⟨t,b,by simpa using h⟩
theorem aPg (t:List UInt8) (b:UInt8):hasSuffix (t++[b]) [10]=decide (b=10):=by
 unfold hasSuffix;rw[Bool.eq_iff_iff];rw[List.isSuffixOf_iff_suffix];simp only[decide_eq_true_eq];constructor
 ·rintro⟨u,hu⟩;have:=List.append_inj_right' hu rfl;simpa using this.symm
 ·rintro rfl;exact⟨t,rfl⟩
theorem aPa (s:List UInt8) (h:s≠[]):cP [] (trimSuffix s [10])=pR s:=by
 rcases aTn s with h0 | ⟨t,b,rfl⟩
 ·exact absurd h0 h
 ·unfold trimSuffix pR;rw[aPg];by_cases hb:b=10
  ·subst hb;simp only[decide_true,if_true];rw[yU];simp
  ·simp only[hb,decide_false];rw[wE _ _ (.inr h) (by simpa using hb)];rfl
def mZ (full:List (List UInt8)):Nat→List (List UInt8)→List (List UInt8)×Nat×Nat
 | _,[]=>(full,0,0)
 | n,x::r=>if validD x then mZ full (n+1) r else ([],n+1,5)
def ofL (s:List UInt8):List (List UInt8)×Nat×Nat:=if 65536<s.length then ([],0,6) else mZ (pR s) 0 (pR s)
theorem aEu (full:List (List UInt8)):∀ (n:Nat) (r:List (List UInt8)),(mZ full n r).2.2=0→(mZ full n r).1=full∧(mZ full n r).2.1=0
 | _,[],_=>⟨rfl,rfl⟩
 | n,x::r,h=>by
  unfold mZ at h ⊢;split at h
  ·rename_i hv;rw[if_pos hv];exact aEu full (n+1) r h
  ·simp at h
theorem aIs (full:List (List UInt8)):∀ (n:Nat) (r:List (List UInt8)),(mZ full n r).2.2≠0→(mZ full n r).1=[]∧(mZ full n r).2.2=5
 | _,[],h=>absurd rfl h
 | n,x::r,h=>by
  unfold mZ at h ⊢;split at h
  ·rename_i hv;rw[if_pos hv];exact aIs full (n+1) r h
  ·rename_i hv;rw[if_neg hv];exact⟨rfl,rfl⟩
theorem yV:∀ (t cur:List UInt8),(gC cur t).length≤t.length+1
 | [],cur=>by
  unfold gC;split<;>simp
 | b::t,cur=>by
  unfold gC;split
  ·have:=yV t [];simp only[List.length_cons];omega
  ·have:=yV t (cur++[b]);simp only[List.length_cons];omega
def sR (l:List UInt8):Nat×Bool:=if validD l then ((aQ l).length,true) else (0,false)
def runesFrom (l:List UInt8) (p n:Nat):Nat×Bool:=if validD (l.drop p) then (n+(aQ (l.drop p)).length,true) else (0,false)
theorem aAq (l:List UInt8):runesFrom l 0 0=sR l:=by simp[runesFrom,sR]
theorem aGu (l:List UInt8) (p n:Nat) (h:l.length≤p):runesFrom l p n=(n,true):=by
 unfold runesFrom;rw[List.drop_eq_nil_of_le h];rfl
theorem kS (l:List UInt8) (p:Nat) (hp:p<l.length):1≤(bH l p).2∧p+(bH l p).2≤l.length:=by
 have hne:l.drop p≠[]:=by
  intro e;have:=congrArg List.length e;simp at this;omega
 have hw:=oV (l.drop p) hne;rw[List.length_drop] at hw;exact⟨hw.1,by unfold bH;omega⟩
theorem aEx (l:List UInt8) (p n:Nat) (hp:p<l.length) :
  runesFrom l p n=if pX l p=0 then (0,false) else runesFrom l (p+(bH l p).2) (n+1):=by
 have hne:l.drop p≠[]:=by
  intro e;have:=congrArg List.length e;simp at this;omega
 have hw:=kS l p hp;unfold runesFrom;rw[validD_step _ hne,uE _ hne,List.drop_drop];have e:pX l p=szD (decodeL (l.drop p)):=rfl;have eo:bH l p=decodeL (l.drop p):=rfl;rw[e,eo];rw[eo] at hw;unfold szD;by_cases h:(decodeL (l.drop p)).1=65533∧(decodeL (l.drop p)).2=1
 ·rw[if_pos h,if_pos h,if_pos rfl];rfl
 ·rw[if_neg h,if_neg h,if_neg (show ¬(decodeL (l.drop p)).2=0 by omega)];simp only[List.length_cons];split
  ·refine Prod.ext ?_ rfl;simp only;omega
  ·rfl
theorem aOy (l:List UInt8) (p:Nat) (h:pX l p≠0):pX l p=(bH l p).2:=by
 unfold pX szD at h ⊢;split at h
 ·exact absurd rfl h
 ·rename_i hc;rw[if_neg hc]
theorem aSn (l:List UInt8) (p:Nat) (hp:p<l.length) (h:(bH l p).1=65533):hasPrefix (l.drop p) [239,191,189] = !decide (pX l p=0):=by
 have hne:l.drop p≠[]:=by
  intro e;have:=congrArg List.length e;simp at this;omega
 have e:pX l p=szD (decodeL (l.drop p)):=rfl;have eo:bH l p=decodeL (l.drop p):=rfl;have hw:=kS l p hp;rw[eo] at h hw;rw[e];have hr:encodeRune (65533:Int)=[239,191,189]:=(by decide +kernel);unfold hasPrefix szD;by_cases h1:(decodeL (l.drop p)).2=1
 ·rw[if_pos ⟨h,h1⟩];simp only[decide_true,Bool.not_true];by_cases hx:([239,191,189]:List UInt8).isPrefixOf (l.drop p)=true
  ·obtain⟨t,ht⟩:=List.isPrefixOf_iff_prefix.1 hx;have:=aGc 65533 (.inr ⟨by decide,by decide⟩) t;rw[show((65533:Nat):Int)=65533 from rfl,hr,ht] at this;rw[this] at h1;simp at h1
  ·exact Bool.eq_false_iff.2 hx
 ·rw[if_neg (fun x=>h1 x.2)];have hd:decide ((decodeL (l.drop p)).2=0)=false:=decide_eq_false (by omega);rw[hd];simp only[Bool.not_false];have:=encode_decode (l.drop p) hne (fun x=>h1 x.2);rw[h,show((65533:Nat):Int)=65533 from rfl,hr] at this;exact List.isPrefixOf_iff_prefix.2 ⟨(l.drop p).drop (decodeL (l.drop p)).2,by rw[this,List.take_append_drop]⟩
end
section
def nH (c:UInt8):Bool:=48≤c.toNat&&c.toNat≤57
def aQv (t:List UInt8) (neg:Bool):Bool:=!t.isEmpty && !(t.head? == some 48&&(neg||decide (1<t.length)))&&t.all nH
def pU (s:List UInt8):Bool:=s.head? == some 45
def mC (s:List UInt8):List UInt8:=if pU s then s.tail else s
def yG (s:List UInt8):Bool:=aQv (mC s) (pU s)
def xP (acc:Option Int) (c:UInt8):Option Int:=acc.bind fun n=>
 if n < -922337203685477580∨(n=-922337203685477580∧(8:Int)<(c.toNat-48:Nat)) then none else some (n*10-(c.toNat-48:Nat))
def mK (t:List UInt8):Option Int:=t.foldl xP (some 0)
def jQ (s:List UInt8):Int×Int:=
 if yG s then
  match mK (mC s) with
  | none=>(0,8)
  | some n=>if pU s then (n,0) else if n=-9223372036854775808 then (0,8) else (-n,0)
 else (0,5)
theorem aRc (t:List UInt8) (c:UInt8):mK (t++[c])=xP (mK t) c:=by simp[mK]
theorem uS (c:UInt8):nH c=true↔48≤c.toNat∧c.toNat≤57:=by simp[nH]
end
section
def bTt (h:aI):Prop:=∀ t∈h.2.2,∀ o∈t.2.2,-9223372036854775808≤o.2.2.2∧o.2.2.2≤9223372036854775807
end
end Go.Proofs.YtdfegfagedeilaaGreatDoor
