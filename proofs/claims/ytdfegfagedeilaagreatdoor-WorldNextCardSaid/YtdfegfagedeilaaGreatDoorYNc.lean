/-
  Several texts of these walks, joined and squeezed (as templates they lie in wip/tpl): ValW EvP LogP PaP ShP EvK NameS Ev6 EvW Late Evs Blk Ints.
-/
import Derived.Test.YtdfegfagedeilaaGreatDoorYNb
import Derived.Deep.MidRow
import Derived.Laws.IdiomStrings
import Derived.Deep.DeepCutAuto
import Derived.OrdersHeld
import Derived.Laws.OwnMore
namespace Go.Proofs.YtdfegfagedeilaaGreatDoor
section
open Go.RowKit
attribute [local go_sem] aJn oU wY pG aQk aAw oT yA qZ
attribute [local go_sem] cR.cell cR.frozen
set_option maxHeartbeats 2000000 in
theorem bHy (k n:Int) (w:World) :
  Calls Tryz.prog 78 #[.agg #[.int .i64 k,.int .i64 n]] w fun e w'=>e=.returned (.bool (kW k n))∧Below w.heap.size w w':=by
 rcases qL k n with ⟨rfl,h⟩ | ⟨rfl,rfl,h⟩ | ⟨rfl,rfl,h⟩ | ⟨rfl,h1,h2,h⟩ | ⟨rfl,h1,h2,h⟩ | ⟨h1,h2,h3,h4,h⟩<;>rw[h]<;>clear h
 all_goals
  go_enter Tryz.func78,Tryz.ntmps78
  go_wp2
  go_ret;exact⟨rfl,by go_grown⟩
set_option maxHeartbeats 2000000 in
theorem aTd (k n:Int) (w:World) :
  Calls Tryz.prog 62 #[.agg #[.int .i64 k,.int .i64 n]] w fun e w'=>e=.returned (.bool (kW k n))∧Below w.heap.size w w':=by
 rcases qL k n with ⟨rfl,h⟩ | ⟨rfl,rfl,h⟩ | ⟨rfl,rfl,h⟩ | ⟨rfl,h1,h2,h⟩ | ⟨rfl,h1,h2,h⟩ | ⟨h1,h2,h3,h4,h⟩<;>rw[h]<;>clear h
 all_goals
  go_enter Tryz.func62,Tryz.ntmps62
  go_wp2
  go_ret;exact⟨rfl,by go_grown⟩
def dR (l:List UInt8):Int×Int×Int:=
 if l=[110,105,108] then (0,0,0) else if l=[63] then (2,0,0) else if (jQ l).2=0 then (1,(jQ l).1,0) else (0,0,(jQ l).2)
theorem aKy (l:List UInt8):(l=[110,105,108]∧dR l=(0,0,0))∨(l=[63]∧dR l=(2,0,0)) ∨
  ((l==[110,105,108])=false∧(l==[63])=false∧∃ v,jQ l=(v,0)∧dR l=(1,v,0)) ∨
  ((l==[110,105,108])=false∧(l==[63])=false∧∃ v c,jQ l=(v,c)∧(c != 0)=true∧dR l=(0,0,c)):=by
 by_cases h1:l=[110,105,108]
 ·exact .inl ⟨h1,by simp[dR,h1]⟩
 by_cases h2:l=[63]
 ·exact .inr (.inl ⟨h2,by simp[dR,h2]⟩)
 have e1:(l==[110,105,108])=false:=(by simpa using h1);have e2:(l==[63])=false:=(by simpa using h2);obtain⟨v,c,hp⟩:∃ v c,jQ l=(v,c):=⟨_,_,rfl⟩;by_cases hc:c=0
 ·subst hc;exact .inr (.inr (.inl ⟨e1,e2,v,hp,by simp[dR,h1,h2,hp]⟩))
 ·exact .inr (.inr (.inr ⟨e1,e2,v,c,hp,by simpa using hc,by simp[dR,h1,h2,hp,hc]⟩))
set_option maxHeartbeats 2000000 in
theorem bBb (l:List UInt8) (a b c:Int) (hs:l.length≤9223372036854775806) (h:dR l=(a,b,c)) (w:World) :
  Calls Tryz.prog 134 #[.string (bs l)] w fun e w'=>e=.returned (.tuple #[.agg #[.int .i64 a,.int .i64 b],.int .i64 c])∧Below w.heap.size w w':=by
 rcases aKy l with ⟨rfl,h'⟩ | ⟨rfl,h'⟩ | ⟨h1,h2,v,hp,h'⟩ | ⟨h1,h2,v,c',hp,hc,h'⟩
 all_goals
  rw[h'] at h;simp only[Prod.mk.injEq] at h;obtain⟨rfl,rfl,rfl⟩:=h;clear h'
 ·go_enter Tryz.func134,Tryz.ntmps134
  go_wp2
  go_returns;exact⟨rfl,by go_grown⟩
 ·go_enter Tryz.func134,Tryz.ntmps134
  go_wp2
  go_returns;exact⟨rfl,by go_grown⟩
 all_goals
  have HP:=lhid (bEn l _ _ hs hp);clear hp hs;go_enter Tryz.func134,Tryz.ntmps134;(go_wp2_with (go_at_call 160;refine(HP.out _).mono ?_;rintro e w1 ⟨rfl,rfl⟩));go_returns;exact⟨rfl,by go_grown⟩
end
section
open Go.RowKit Go.Lib
def oH (x:aV):Bool:=decide (1≤x.1)&&(decide (x.1≤6)&&(bA x.2.1 &&
 (if kD x.1 then bA x.2.2.1&&(kW x.2.2.2.1 x.2.2.2.2.1&&(x.1==2||x.2.2.2.1==1)) else decide (x.2.2.1=[])&&(x.2.2.2.1==0&&x.2.2.2.2.1==0))))
def gI (k:Int) (s key t:List UInt8):aV×Int:=
 if (dR t).2.2≠0 then (kE,(dR t).2.2) else if k=3∧(dR t).1=0 then (kE,11) else if k=3∧(dR t).1=2 then (kE,5) else ((k,s,key,(dR t).1,(dR t).2.1,0),0)
def aMp (L:List (List UInt8)):Bool:=decide (dN (L.getD 0 [])≠0)&&(decide (L.length=if kD (dN (L.getD 0 [])) then 4 else 2)&&(bA (L.getD 1 [])&&(!kD (dN (L.getD 0 []))||bA (L.getD 2 []))))
def aEt (L:List (List UInt8)):aV×Bool×Int:=
 if aMp L=false then (kE,false,5)
 else if kD (dN (L.getD 0 [])) then ((gI (dN (L.getD 0 [])) (L.getD 1 []) (L.getD 2 []) (L.getD 3 [])).1,decide ((gI (dN (L.getD 0 [])) (L.getD 1 []) (L.getD 2 []) (L.getD 3 [])).2=0),(gI (dN (L.getD 0 [])) (L.getD 1 []) (L.getD 2 []) (L.getD 3 [])).2)
 else ((dN (L.getD 0 []),L.getD 1 [],[],0,0,0),true,0)
def dX (s:List UInt8):aV×Bool×Int:=
 if (jJ s).2≠0∨(jJ s).1=[] then (kE,false,((jJ s).2:Int)) else aEt ((jJ s).1.map (·.1))
theorem aMy (l:List UInt8):0≤dN l∧dN l≤6:=by
 unfold dN
 (repeat' split)<;>decide
theorem aSw (t:List UInt8) (h:(dR t).2.2=0):kW (dR t).1 (dR t).2.1=true:=by
 unfold dR at h ⊢
 (repeat' split)<;>simp_all [kW]
theorem bEz (L:List (List UInt8)) (h:(aEt L).2.1=true):(aEt L).2.2=0∧oH (aEt L).1=true:=by
 unfold aEt at h ⊢;by_cases hh:aMp L=false
 ·rw[if_pos hh] at h;cases h
 ·rw[if_neg hh] at h ⊢;have hh':aMp L=true:=(by simpa using hh);clear hh;unfold aMp at hh';have hkr:=aMy (L.getD 0 []);generalize dN (L.getD 0 [])=K at *;generalize L.getD 1 []=n1 at *;generalize L.getD 2 []=n2 at *;generalize L.getD 3 []=t at *;simp only[Bool.and_eq_true,decide_eq_true_eq] at hh';obtain⟨hk0,-,hn,hn2⟩:=hh'
  cases hl:kD K with
  | false=>
   rw[if_neg (by simp)];refine⟨rfl,?_⟩;unfold oH;simp only[hl,hn];simp;omega
  | true=>
   rw[hl] at h hn2;rw[if_pos rfl] at h ⊢;have hm:=aSw t;unfold gI at h ⊢;obtain⟨a,b,c,hp⟩:∃ a b c,dR t=(a,b,c):=⟨_,_,_,rfl⟩;rw[hp] at h hm ⊢;simp only at h hm ⊢;have hn2':bA n2=true:=(by simpa using hn2);by_cases h1:c=0
   ·subst h1;have hm':=hm rfl;rw[if_neg (by simp)] at h ⊢;by_cases h2:K=3∧a=0
    ·rw[if_pos h2] at h;simp at h
    ·rw[if_neg h2] at h ⊢;by_cases h3:K=3∧a=2
     ·rw[if_pos h3] at h;simp at h
     ·rw[if_neg h3];refine⟨rfl,?_⟩;unfold oH;simp only[hl,if_true,hn,hm',hn2']
      have hk23:K=2∨K=3:=by
       unfold kD at hl;simpa using hl
      have hv:K=3→a=1:=by
       intro e;have a0:a≠0:=fun b=>h2 ⟨e,b⟩;have a2:a≠2:=fun b=>h3 ⟨e,b⟩;unfold kW at hm';simp at hm';omega
      rcases hk23 with e | e
      ·simp[e]
      ·simp[e,hv e]
   ·rw[if_pos (by simpa using h1)] at h;simp at h;exact absurd h h1
theorem aIn (s:List UInt8) (h:(dX s).2.1=true):(dX s).2.2=0∧oH (dX s).1=true:=by
 unfold dX at h ⊢;split
 ·rename_i hc;rw[if_pos hc] at h;simp at h
 ·rename_i hc;rw[if_neg hc] at h;exact bEz _ h
end
section
open Go.RowKit Go.Lib
def bDw (x:aV) (n:Int):aV:=(x.1,x.2.1,x.2.2.1,x.2.2.2.1,x.2.2.2.2.1,n)
def lU:List (List UInt8)→Nat→List aV→List aV×Int×Int
 | [],_,out=>(out,0,0)
 | t::r,i,out=>
  if (dX t).2.2≠0 then ([],((i+1:Nat):Int),(dX t).2.2)
  else if (dX t).2.1=false then lU r (i+1) out
  else if out.length=1000 then ([],((i+1:Nat):Int),7)
  else lU r (i+1) (out++[bDw (dX t).1 ((i+1:Nat):Int)])
def mL (s:List UInt8):List aV×Int×Int:=
 if (ofL s).2.2≠0 then ([],((ofL s).2.1:Int),((ofL s).2.2:Int)) else lU (ofL s).1 0 []
end
section
open Go.RowKit Go.Lib
structure aH where
 nm:List UInt8
 ks:List (List UInt8)
 ln:Int
 fate:Int
 ops:List OpM
 op:Bool
deriving DecidableEq
def noD:aH:=⟨[],[],0,0,[],false⟩
def gR (L:List aH):List (List UInt8):=L.map (·.nm)
def dT (L:List aH):List (List UInt8):=L.flatMap (·.ks)
def tD (s:List UInt8) (d:aH):Bool:=d.op&&decide (d.nm=s)
def atD (L:List aH) (s:List UInt8):Nat:=L.findIdx (tD s)
def aAn (d:aH) (f:Int):aH:={ d with fate:=f,op:=false }
def aIb (d:aH) (x:aV):aH:={ d with ops:=d.ops++[(x.1==3,0,x.2.2.2.1,x.2.2.2.2.1)],ks:=d.ks++[x.2.2.1] }
def kL (L:List aH) (x:aV):List aH×Int:=
 if oH x=false then (L,4)
 else if x.1=1 then
  if atD L x.2.1<L.length then (L,9)
  else if 20<(aX (gR L++[x.2.1])).length∨L.length=40 then (L,7)
  else (L++[⟨x.2.1,[],x.2.2.2.2.2,0,[],true⟩],0)
 else if ¬atD L x.2.1<L.length then (L,10)
 else if 4≤x.1 then (L.set (atD L x.2.1) (aAn (L.getD (atD L x.2.1) noD) (x.1-3)),0)
 else if (L.getD (atD L x.2.1) noD).ops.length=20∨40<(aX (dT L++[x.2.2.1])).length then (L,7)
 else (L.set (atD L x.2.1) (aIb (L.getD (atD L x.2.1) noD) x),0)
def kJ:List aV→List aH→List aH×Int×Int
 | [],L=>(L,0,0)
 | x::r,L=>if (kL L x).2=0 then kJ r (kL L x).1 else ((kL L x).1,x.2.2.2.2.2,(kL L x).2)
def opK (K:List (List UInt8)) (o:OpM) (k:List UInt8):OpM:=(o.1,((dS K k).1:Int),o.2.2.1,o.2.2.2)
def bAu (S K:List (List UInt8)) (d:aH):bB:=(((dS S d.nm).1:Int),d.fate,d.ops.zipWith (opK K) d.ks)
def noH:aI:=([],[],[])
def sZ (l:List aV):aI×Int×Int:=
 if (kJ l []).2.2≠0 then (noH,(kJ l []).2.1,(kJ l []).2.2)
 else match (kJ l []).1.find? (·.op) with
  | some d=>(noH,d.ln,12)
  | none=>((aX (gR (kJ l []).1),aX (dT (kJ l []).1),(kJ l []).1.map (bAu (aX (gR (kJ l []).1)) (aX (dT (kJ l []).1)))),0,0)
structure bJo (d:aH):Prop where
 nm:bA d.nm=true
 ks:∀ k∈d.ks,bA k=true
 len:d.ks.length=d.ops.length
 few:d.ops.length≤20
 fate:0≤d.fate∧d.fate≤3
structure mJ (L:List aH):Prop where
 all:∀ d∈L,bJo d
 few:L.length≤40
 names:(aX (gR L)).length≤20
 keys:(aX (dT L)).length≤40
 one:∀ i j:Nat,i<j→j<L.length→(L.getD i noD).op=true→(L.getD j noD).op=true→(L.getD i noD).nm≠(L.getD j noD).nm
theorem aMm:mJ []:=⟨fun d h=>(by cases h),by decide,by decide,by decide,fun i j h h2=>absurd h2 (Nat.not_lt_zero j)⟩
theorem nY (L:List aH) (s:List UInt8) (h:atD L s<L.length):(L.getD (atD L s) noD).op=true∧(L.getD (atD L s) noD).nm=s:=by
 have h1:tD s L[atD L s]=true:=List.findIdx_getElem (p:=tD s) (w:=h);have e:L.getD (atD L s) noD=L[atD L s]:=(by simp[h]);rw[e];generalize L[atD L s]=d at h1;unfold tD at h1;simpa using h1
theorem aQl (L:List aH) (s:List UInt8) (j:Nat) (h:j<atD L s):tD s (L.getD j noD)=false:=by
 have hj:j<L.length:=Nat.lt_of_lt_of_le h List.findIdx_le_length;have h1:=List.not_of_lt_findIdx (p:=tD s) (xs:=L) h;have e:L.getD j noD=L[j]:=(by simp[hj]);rw[e];simpa using h1
theorem aLp (L:List aH) (s:List UInt8) (h:¬atD L s<L.length) (j:Nat) (hj:j<L.length):tD s (L.getD j noD)=false:=
 aQl L s j (by omega)
theorem xO (A B:List (List UInt8)) (h:∀ y,y∈A↔y∈B):aX A=aX B:=by
 obtain⟨a1,a2⟩:=gH A;obtain⟨b1,b2⟩:=gH B;exact pY ltN oF nR _ _ a1 b1 (fun y=>by rw[a2,b2,h])
theorem aDv (L:List aH) (d:aH):gR (L++[d])=gR L++[d.nm]:=by simp[gR]
theorem aHp (L:List aH) (d:aH):dT (L++[d])=dT L++d.ks:=by simp[dT]
theorem aId (L:List aH) (i:Nat) (d:aH) (hi:i<L.length) (h:d.nm=(L.getD i noD).nm):gR (L.set i d)=gR L:=by
 unfold gR;apply List.ext_getElem
 ·simp
 ·intro j h1 h2;simp only[List.length_map] at h2;rw[List.getElem_map,List.getElem_map,List.getElem_set];by_cases e:i=j
  ·subst e;rw[if_pos rfl,h];simp[hi]
  ·rw[if_neg e]
theorem aDc (L:List aH) (y:List UInt8):y∈dT L↔∃ j,j<L.length∧y∈(L.getD j noD).ks:=by
 unfold dT;rw[List.mem_flatMap];constructor
 ·rintro⟨d,hd,hy⟩;obtain⟨j,hj,rfl⟩:=List.getElem_of_mem hd;exact⟨j,hj,by simpa [hj] using hy⟩
 ·rintro⟨j,hj,hy⟩;exact⟨L[j],List.getElem_mem hj,by simpa [hj] using hy⟩
theorem mQ (L:List aH) (i j:Nat) (d:aH) (hi:i<L.length):(L.set i d).getD j noD=if i=j then d else L.getD j noD:=by
 by_cases e:i=j
 ·subst e;simp[hi]
 ·rw[if_neg e];simp[List.getElem?_set_ne e]
theorem xG (L:List aH) (i:Nat) (d:aH) (hi:i<L.length) (h:d.ks=(L.getD i noD).ks):dT (L.set i d)=dT L:=by
 unfold dT;rw[List.flatMap_def,List.flatMap_def];congr 1;apply List.ext_getElem
 ·simp
 ·intro j h1 h2;simp only[List.length_map] at h2;rw[List.getElem_map,List.getElem_map,List.getElem_set];by_cases e:i=j
  ·subst e;rw[if_pos rfl,h];simp[hi]
  ·rw[if_neg e]
theorem pP (L:List aH) (i:Nat) (x:aV) (hi:i<L.length) (y:List UInt8):y∈dT (L.set i (aIb (L.getD i noD) x))↔y∈dT L++[x.2.2.1]:=by
 rw[List.mem_append,aDc,aDc,List.length_set];constructor
 ·rintro⟨j,hj,hy⟩;rw[mQ L i j _ hi] at hy;by_cases e:i=j
  ·rw[if_pos e] at hy;rcases List.mem_append.1 (show y∈(L.getD i noD).ks++[x.2.2.1] from hy) with h | h
   ·exact .inl ⟨i,hi,h⟩
   ·exact .inr h
  ·rw[if_neg e] at hy;exact .inl ⟨j,hj,hy⟩
 ·rintro(⟨j,hj,hy⟩ | hy)
  ·refine⟨j,hj,?_⟩;rw[mQ L i j _ hi];by_cases e:i=j
   ·subst e;rw[if_pos rfl];exact List.mem_append.2 (.inl hy)
   ·rw[if_neg e];exact hy
  ·refine⟨i,hi,?_⟩;rw[mQ L i i _ hi,if_pos rfl];exact List.mem_append.2 (.inr hy)
theorem aXy (L:List aH) (i:Nat) (x:aV) (hi:i<L.length):aX (dT (L.set i (aIb (L.getD i noD) x)))=aX (dT L++[x.2.2.1]):=xO _ _ (pP L i x hi)
theorem xH (x:aV) (h:oH x=true):bA x.2.1=true∧1≤x.1∧x.1≤6∧(x.1=2∨x.1=3→bA x.2.2.1=true):=by
 unfold oH at h;simp only[Bool.and_eq_true,decide_eq_true_eq] at h;refine⟨h.2.2.1,h.1,h.2.1,fun hk=>?_⟩;have h4:=h.2.2.2;have e:kD x.1=true:=(by rcases hk with e | e<;>rw[e]<;>decide);rw[if_pos e] at h4;simp only[Bool.and_eq_true] at h4;exact h4.1
theorem qI (L:List aH) (i:Nat) (hi:i<L.length):L.getD i noD∈L:=by
 rw[show L.getD i noD=L[i] by simp[hi]];exact List.getElem_mem hi
theorem aMn {L:List aH} (hL:mJ L) (i:Nat) (d:aH) (hi:i<L.length) (hd:bJo d) (hn:d.nm=(L.getD i noD).nm) (ho:d.op=true→(L.getD i noD).op=true) (hk:(aX (dT (L.set i d))).length≤40):mJ (L.set i d):=by
 refine⟨fun e he=>?_,by rw[List.length_set];exact hL.few,by rw[aId L i d hi hn];exact hL.names,hk,fun a b hab hb h1 h2=>?_⟩
 ·rcases List.mem_or_eq_of_mem_set he with h | h
  ·exact hL.all e h
  ·rw[h];exact hd
 ·rw[List.length_set] at hb;rw[mQ L i a d hi] at h1 ⊢;rw[mQ L i b d hi] at h2 ⊢
  have h3:(if i=a then d else L.getD a noD).nm=(L.getD a noD).nm:=by
   by_cases e:i=a
   ·subst e;rw[if_pos rfl,hn]
   ·rw[if_neg e]
  have h4:(if i=b then d else L.getD b noD).nm=(L.getD b noD).nm:=by
   by_cases e:i=b
   ·subst e;rw[if_pos rfl,hn]
   ·rw[if_neg e]
  rw[h3,h4];refine hL.one a b hab hb ?_ ?_
  ·by_cases e:i=a
   ·subst e;rw[if_pos rfl] at h1;exact ho h1
   ·rw[if_neg e] at h1;exact h1
  ·by_cases e:i=b
   ·subst e;rw[if_pos rfl] at h2;exact ho h2
   ·rw[if_neg e] at h2;exact h2
theorem aEq {L:List aH} (hL:mJ L) (x:aV):mJ (kL L x).1:=by
 unfold kL;by_cases hm:oH x=false
 ·rw[if_pos hm];exact hL
 ·rw[if_neg hm];have hm':oH x=true:=(by simpa using hm);obtain⟨h1,h2,h3,h4⟩:=xH x hm';by_cases hk:x.1=1
  ·rw[if_pos hk];by_cases ha:atD L x.2.1<L.length
   ·rw[if_pos ha];exact hL
   ·rw[if_neg ha];by_cases hf:20<(aX (gR L++[x.2.1])).length∨L.length=40
    ·rw[if_pos hf];exact hL
    ·rw[if_neg hf];have hl:=hL.few;refine⟨fun d hd=>?_,by rw[List.length_append];simp;omega,by rw[aDv];simp only;omega,by rw[aHp,List.append_nil];exact hL.keys,fun i j hij hj g1 g2=>?_⟩
     ·rcases List.mem_append.1 hd with h | h
      ·exact hL.all d h
      ·rw[List.mem_singleton] at h;subst h;exact⟨h1,fun k hk=>(by cases hk),rfl,Nat.zero_le _,Int.le_refl _,by simp only;omega⟩
     ·have hj':j<L.length∨j=L.length:=(by simp at hj;omega);have hi:i<L.length:=(by omega);have e1:∀ d:aH,(L++[d]).getD i noD=L.getD i noD:=fun d=>(by simp[List.getElem?_append_left hi]);rw[e1] at g1 ⊢;rcases hj' with hj' | rfl
      ·have e2:∀ d:aH,(L++[d]).getD j noD=L.getD j noD:=fun d=>(by simp[List.getElem?_append_left hj']);rw[e2] at g2 ⊢;exact hL.one i j hij hj' g1 g2
      ·have e2:∀ d:aH,(L++[d]).getD L.length noD=d:=fun d=>(by simp);rw[e2];have h5:=aLp L x.2.1 ha i hi;intro e;unfold tD at h5;rw[g1] at h5;simp only[Bool.true_and,decide_eq_false_iff_not] at h5;exact h5 e
  ·rw[if_neg hk];by_cases ha:atD L x.2.1<L.length
   ·rw[if_neg (by simpa using ha)];obtain⟨o1,o2⟩:=nY L x.2.1 ha;have hg:=hL.all _ (qI L _ ha);by_cases hf:4≤x.1
    ·rw[if_pos hf];refine aMn hL _ _ ha ⟨hg.nm,hg.ks,hg.len,hg.few,?_,?_⟩ rfl (fun h=>(by cases h)) ?_
     ·show 0≤x.1-3;omega
     ·show x.1-3≤3;omega
     ·rw[xG L _ (aAn (L.getD (atD L x.2.1) noD) (x.1-3)) ha rfl];exact hL.keys
    ·rw[if_neg hf];by_cases hc:(L.getD (atD L x.2.1) noD).ops.length=20∨40<(aX (dT L++[x.2.2.1])).length
     ·rw[if_pos hc];exact hL
     ·rw[if_neg hc];have hkey:bA x.2.2.1=true:=h4 (by omega);refine aMn hL _ _ ha ⟨hg.nm,fun k h=>?_,?_,?_,hg.fate⟩ rfl (fun _=>o1) ?_
      ·rcases List.mem_append.1 (show k∈(L.getD (atD L x.2.1) noD).ks++[x.2.2.1] from h) with h | h
       ·exact hg.ks k h
       ·rw[List.mem_singleton] at h;rw[h];exact hkey
      ·show((L.getD (atD L x.2.1) noD).ks++[x.2.2.1]).length=((L.getD (atD L x.2.1) noD).ops++[_]).length;rw[List.length_append,List.length_append,hg.len];rfl
      ·show((L.getD (atD L x.2.1) noD).ops++[_]).length≤20;have:=hg.few;rw[List.length_append,List.length_singleton];omega
      ·rw[aXy L _ x ha];omega
   ·rw[if_pos (by simpa using ha)];exact hL
theorem aHv:∀ (l:List aV) (L:List aH),mJ L→mJ (kJ l L).1
 | [],_,h=>h
 | x::r,L,h=>by
  unfold kJ;by_cases e:(kL L x).2=0
  ·rw[if_pos e];exact aHv r _ (aEq h x)
  ·rw[if_neg e];exact aEq h x
theorem tX {α:Type} [DecidableEq α]:∀ (A B:List α),A.Nodup→(∀ x∈A,x∈B)→A.length≤B.length
 | [],_,_,_=>Nat.zero_le _
 | a::A,B,hn,h=>by
  rw[List.nodup_cons] at hn;have hb:=h a (List.mem_cons_self ..);have h1:=tX A (B.erase a) hn.2 (fun x hx=>(List.mem_erase_of_ne (fun e=>hn.1 (by rw[←e];exact hx))).2 (h x (List.mem_cons_of_mem _ hx)));rw[List.length_erase_of_mem hb] at h1;have:=List.length_pos_of_mem hb;rw[List.length_cons];omega
theorem aKs (M:List (List UInt8)):(aX M).Nodup:=(gH M).1.imp (fun h e=>by subst e;rw[oF] at h;cases h)
theorem mE (ks M:List (List UInt8)) (hd:ks.Nodup) (hm:∀ x,x∈ks↔x∈M) (hn:∀ x∈M,bA x=true):(aX M).length=ks.length:=by
 have h2:=(gH M).2;refine Nat.le_antisymm (tX _ _ (aKs M) (fun x hx=>(hm x).2 ((h2 x).1 hx).1)) (tX _ _ hd (fun x hx=>(h2 x).2 ⟨(hm x).1 hx,hn x ((hm x).1 hx)⟩))
theorem wG {L:List aH} (hL:mJ L):∀ x∈gR L,bA x=true:=fun x hx=>by
 obtain⟨d,hd,rfl⟩:=List.mem_map.1 hx;exact(hL.all d hd).nm
theorem yS {L:List aH} (hL:mJ L):∀ x∈dT L,bA x=true:=fun x hx=>by
 obtain⟨d,hd,h⟩:=List.mem_flatMap.1 hx;exact(hL.all d hd).ks x h
theorem aCg (ks M:List (List UInt8)) (s:List UInt8) (m:Nat) (hd:ks.Nodup) (hm:∀ x,x∈ks↔x∈M) (hn:∀ x∈M,bA x=true) (hs:bA s=true) (hle:(aX M).length≤m):(m<(aX (M++[s])).length↔s∉ks∧ks.length=m)∧ks.length≤m:=by
 have h1:=mE ks M hd hm hn;by_cases h:s∈ks
 ·have h2:=mE ks (M++[s]) hd (fun x=>by
   rw[List.mem_append,List.mem_singleton,hm]
   exact⟨.inl,fun g=>g.elim id (fun e=>by rw[e];exact(hm s).1 h)⟩) (fun x hx=>(List.mem_append.1 hx).elim (hn x) (fun g=>by rw[List.mem_singleton.1 g];exact hs))
  rw[h2];exact⟨⟨fun g=>by omega,fun g=>absurd h g.1⟩,by omega⟩
 ·have h2:=mE (ks++[s]) (M++[s]) (List.nodup_append.2 ⟨hd,by simp,fun a ha b hb e=>by rw[List.mem_singleton] at hb;subst hb;subst e;exact h ha⟩) (fun x=>by rw[List.mem_append,List.mem_append,hm]) (fun x hx=>(List.mem_append.1 hx).elim (hn x) (fun g=>by rw[List.mem_singleton.1 g];exact hs));rw[h2,List.length_append,List.length_singleton];exact⟨⟨fun g=>⟨h,by omega⟩,fun g=>by omega⟩,by omega⟩
end
section
open Go.RowKit Go.Lib
def wJ (l:List UInt8):aI×Int×Int:=if (mL l).2.2≠0 then (noH,(mL l).2.1,(mL l).2.2) else sZ (mL l).1
theorem yW:∀ (r:List (List UInt8)) (i:Nat) (out:List aV),out.length≤1000→(∀ x∈out,oH x=true)→(lU r i out).1.length≤1000∧∀ x∈(lU r i out).1,oH x=true
 | [],_,out,hl,h=>⟨hl,h⟩
 | t::r,i,out,hl,h=>by
  unfold lU;split
  ·exact⟨Nat.zero_le _,fun x hx=>(by cases hx)⟩
  ·split
   ·exact yW r (i+1) out hl h
   ·rename_i h2;split
    ·exact⟨Nat.zero_le _,fun x hx=>(by cases hx)⟩
    ·refine yW r (i+1) _ (by rw[List.length_append,List.length_singleton];omega) (fun x hx=>?_);rcases List.mem_append.1 hx with g | g
     ·exact h x g
     ·rw[List.mem_singleton.1 g];exact(aIn t (by simpa using h2)).2
theorem aIp (l:List UInt8):(mL l).1.length≤1000∧∀ x∈(mL l).1,oH x=true:=by
 unfold mL;split
 ·exact⟨Nat.zero_le _,fun x hx=>(by cases hx)⟩
 ·exact yW _ _ _ (Nat.zero_le _) (fun x hx=>(by cases hx))
theorem aDu (l:List UInt8) (h:bA l=true):l.length≤1000000:=by
 have hv:=nA _ l (Nat.le_refl _) (sK l h);unfold bA xV at h;simp only[Bool.and_eq_true,decide_eq_true_eq] at h;have:=zF (aQ l);rw[hv] at this;omega
theorem aYv (x:aV) (h:oH x=true):x.2.1.length≤1000000∧x.2.2.1.length≤1000000:=by
 have h0:=xH x h;refine⟨aDu _ h0.1,?_⟩;by_cases hk:x.1=2∨x.1=3
 ·exact aDu _ (h0.2.2.2 hk)
 ·unfold oH at h;simp only[Bool.and_eq_true] at h
  have e:kD x.1=false:=by
   unfold kD;simp only[not_or] at hk;simp[hk.1,hk.2]
  rw[e] at h;have h4:=h.2.2.2;simp at h4;rw[h4.1];exact Nat.zero_le _
theorem aTc (l:List UInt8):∀ x∈(mL l).1,x.2.1.length≤1000000∧x.2.2.1.length≤1000000:=fun x hx=>aYv x ((aIp l).2 x hx)
theorem aOd {l:List UInt8} {L:List aV} {n e:Int} (h:mL l=(L,n,e)) (he:e≠0):wJ l=(noH,n,e):=by
 unfold wJ;rw[h];exact if_pos he
theorem aSv {l:List UInt8} {L:List aV} {n:Int} (h:mL l=(L,n,0)):wJ l=sZ L:=by
 unfold wJ;rw[h];exact if_neg (by simp)
theorem qD.ses {h:aI} (hm:qD h) {t:bB} (ht:t∈h.2.2):0≤t.1∧t.1<h.1.length∧1≤t.2.1∧t.2.1≤3∧t.2.2.length≤20:=by
 have h1:=hm.txn t ht;unfold bQ dV at h1;simp only[Bool.and_eq_true,decide_eq_true_eq] at h1;exact⟨h1.1.1,h1.1.2,h1.2.1,h1.2.2.1,h1.2.2.2⟩
theorem qD.opOf {h:aI} (hm:qD h) {t:bB} (ht:t∈h.2.2) {o:OpM} (ho:o∈t.2.2):jS h.2.1.length o=true:=hm.op o (List.mem_flatMap.2 ⟨t,ht,ho⟩)
theorem bKc (L:List (List UInt8)) (i:Nat) (hi:i<L.length):L.getD i []∈L:=by
 have e:L.getD i []=L[i]:=(by simp[hi]);rw[e];exact List.getElem_mem hi
theorem qD.name {h:aI} (hm:qD h) {t:bB} (ht:t∈h.2.2):h.1.getD t.1.toNat []∈h.1∧bA (h.1.getD t.1.toNat [])=true:=by
 obtain⟨a,b,-⟩:=hm.ses ht;have h1:=bKc h.1 t.1.toNat (by omega);exact⟨h1,((aHn _).1 hm.t0).1 _ h1⟩
theorem qD.key {h:aI} (hm:qD h) {t:bB} (ht:t∈h.2.2) {o:OpM} (ho:o∈t.2.2):h.2.1.getD o.2.1.toNat []∈h.2.1∧bA (h.2.1.getD o.2.1.toNat [])=true:=by
 obtain⟨a,b⟩:=bDv (hm.opOf ht ho);have h1:=bKc h.2.1 o.2.1.toNat (by omega);exact⟨h1,((aHn _).1 hm.t1).1 _ h1⟩
end
section
open Go.RowKit
set_option maxHeartbeats 1000000 in
theorem aNj (k:Int) (w:World) :
  Calls Tryz.prog 111 #[.int .i64 k] w fun e w'=>e=.returned (.bool (kD k))∧w=w':=by
 rcases aDl k with ⟨rfl,h⟩ | ⟨rfl,h⟩ | ⟨h1,h2,h⟩<;>rw[h]<;>clear h
 all_goals
  go_enter Tryz.func111,Tryz.ntmps111
  go_wp2
  go_ret;exact⟨rfl,rfl⟩
theorem aXz (i:Nat) (h0:0<i) (h:i<7) (l:List UInt8) (e:mY i=l):dN l=i:=by
 subst e
 match i,h0,h with
 | 1,_,_=>decide
 | 2,_,_=>decide
 | 3,_,_=>decide
 | 4,_,_=>decide
 | 5,_,_=>decide
 | 6,_,_=>decide
theorem aRw (l:List UInt8) (h:∀ i:Nat,0<i→i<7→mY i≠l):dN l=0:=by
 have h1:=h 1 (by decide) (by decide);have h2:=h 2 (by decide) (by decide);have h3:=h 3 (by decide) (by decide);have h4:=h 4 (by decide) (by decide);have h5:=h 5 (by decide) (by decide);have h6:=h 6 (by decide) (by decide);simp only[mY] at h1 h2 h3 h4 h5 h6;unfold dN;rw[if_neg (fun e=>h1 (by rw[e];rfl)),if_neg (fun e=>h2 (by rw[e];rfl)),if_neg (fun e=>h3 (by rw[e];rfl)),if_neg (fun e=>h4 (by rw[e];rfl)),if_neg (fun e=>h5 (by rw[e];rfl)),if_neg (fun e=>h6 (by rw[e];rfl))]
def aKt:Value:=.agg #[.string (bs []),.string (bs [98,101,103,105,110]),.string (bs [114,101,97,100]),.string (bs [119,114,105,116,101]),.string (bs [111,107]),.string (bs [102,97,105,108]),.string (bs [105,110,102,111])]
theorem bFp (w:World):(Instr.index 177 aKt (.int .i64 ((0:Nat):Int))).run Tryz.prog w=.ok (.string (bs (mY ((0:Nat):Int)))) w:=by kernel_rfl
theorem bKz (w:World):(Instr.index 177 aKt (.int .i64 ((1:Nat):Int))).run Tryz.prog w=.ok (.string (bs (mY ((1:Nat):Int)))) w:=by kernel_rfl
theorem bLa (w:World):(Instr.index 177 aKt (.int .i64 ((2:Nat):Int))).run Tryz.prog w=.ok (.string (bs (mY ((2:Nat):Int)))) w:=by kernel_rfl
theorem bLb (w:World):(Instr.index 177 aKt (.int .i64 ((3:Nat):Int))).run Tryz.prog w=.ok (.string (bs (mY ((3:Nat):Int)))) w:=by kernel_rfl
theorem bLc (w:World):(Instr.index 177 aKt (.int .i64 ((4:Nat):Int))).run Tryz.prog w=.ok (.string (bs (mY ((4:Nat):Int)))) w:=by kernel_rfl
theorem bLd (w:World):(Instr.index 177 aKt (.int .i64 ((5:Nat):Int))).run Tryz.prog w=.ok (.string (bs (mY ((5:Nat):Int)))) w:=by kernel_rfl
theorem bLg (w:World):(Instr.index 177 aKt (.int .i64 ((6:Nat):Int))).run Tryz.prog w=.ok (.string (bs (mY ((6:Nat):Int)))) w:=by kernel_rfl
theorem bJa (i:Nat) (h:i<7) (w:World):(Instr.index 177 aKt (.int .i64 (i:Int))).run Tryz.prog w=.ok (.string (bs (mY i))) w:=
 match i,h with
 | 0,_=>bFp w
 | 1,_=>bKz w
 | 2,_=>bLa w
 | 3,_=>bLb w
 | 4,_=>bLc w
 | 5,_=>bLd w
 | 6,_=>bLg w
set_option maxRecDepth 100000 in
set_option maxHeartbeats 1000000 in
theorem bDg (l:List UInt8) (w:World) (hE:EvTab w) :
  Calls Tryz.prog 110 #[.string (bs l)] w fun e w'=>e=.returned (.int .i64 (dN l))∧w=w':=by
 have h0:w.cell? ⟨0,0,none⟩=some (.string (bs [])):=hE 0 (by decide);have h1:w.cell? ⟨0,1,none⟩=some (.string (bs [98,101,103,105,110])):=hE 1 (by decide);have h2:w.cell? ⟨0,2,none⟩=some (.string (bs [114,101,97,100])):=hE 2 (by decide);have h3:w.cell? ⟨0,3,none⟩=some (.string (bs [119,114,105,116,101])):=hE 3 (by decide);have h4:w.cell? ⟨0,4,none⟩=some (.string (bs [111,107])):=hE 4 (by decide);have h5:w.cell? ⟨0,5,none⟩=some (.string (bs [102,97,105,108])):=hE 5 (by decide);have h6:w.cell? ⟨0,6,none⟩=some (.string (bs [105,110,102,111])):=hE 6 (by decide);clear hE;have IX:=lhid bJa;go_enter Tryz.func110,Tryz.ntmps110
 go_wp2
 clear h0 h1 h2 h3 h4 h5 h6
 go_loop [6] (fun i=>∃ k:Nat,k≤7∧i=.int .i64 k∧∀ j:Nat,0<j→j<k→mY j≠l) (fun i=>7-(intOf i).toNat)
 case atStart=>exact⟨0,by omega,rfl,fun j h0 h1=>absurd h1 (Nat.not_lt_zero j)⟩
 case round=>
  obtain⟨k,hk,rfl,hno⟩:=hrel;have HNo:=lhid hno;clear hno;by_cases hlt:k<7
  ·have ix:=IX.out k hlt;unfold aKt at ix;by_cases hk0:0<k
   ·by_cases he:mY k=l
    ·have HR:=lhid (aXz k hk0 hlt l he);have hb:(mY k==l)=true:=(by rw[he];simp);clear he;(go_wp2_with fail);go_ret;exact⟨by rw[HR.out];rfl,rfl⟩
    ·have HN:Hid (∀ j:Nat,0<j→j<k+1→mY j≠l):=lhid (fun j h0 h1=>by
      by_cases h:j=k
      ·rw[h];exact he
      ·exact HNo.out j h0 (by omega))
     have hb:(mY k==l)=false:=beq_eq_false_iff_ne.2 he;clear he;(go_wp2_with fail);go_round
     case rel=>exact⟨k+1,by omega,by go_num,HN.out⟩
     case measure=>simp[intOf];omega
   ·have hk1:k=0:=(by omega);subst hk1;clear ix;have ix:∀ w:World,(Instr.index 177 (.agg #[.string (bs []),.string (bs [98,101,103,105,110]),.string (bs [114,101,97,100]),.string (bs [119,114,105,116,101]),.string (bs [111,107]),.string (bs [102,97,105,108]),.string (bs [105,110,102,111])]) (.int .i64 0)).run Tryz.prog w=.ok (.string (bs [])) w:=bFp;(go_wp2_with fail);go_round
    case rel=>exact⟨1,by omega,rfl,fun j h0 h1=>by omega⟩
    case measure=>simp[intOf]
  ·have hk7:k=7:=(by omega);subst hk7;have HR:=lhid (aRw l HNo.out);(go_wp2_with fail);go_ret;exact⟨by rw[HR.out];rfl,rfl⟩
end
section
open Go.RowKit Go.Lib
set_option maxRecDepth 100000 in
set_option maxHeartbeats 1000000 in
theorem aKo (l:List UInt8) (w:World) :
  Calls Tryz.prog 116 #[.string (bs l)] w fun e w'=>e=.returned (.bool (aGq l))∧w=w':=by
 go_enter Tryz.func116,Tryz.ntmps116
 go_wp2
 all_goals
  go_ret;refine⟨?_,rfl⟩
  simp_all [aGq]
set_option maxRecDepth 100000 in
set_option maxHeartbeats 1000000 in
theorem aHd (c:Nat) (hc:c≤1114111) (w:World) :
  Calls Tryz.prog 119 #[.int .i32 c] w fun e w'=>e=.returned (.bool (dig c))∧w=w':=by
 rcases(show c<48∨(48≤c∧c≤57)∨(48≤c∧57<c) by omega) with h | ⟨h,h'⟩ | ⟨h,h'⟩
 all_goals
  go_enter Tryz.func119,Tryz.ntmps119
  go_wp2
  go_ret;refine⟨?_,rfl⟩;simp[dig, *];try omega
set_option maxRecDepth 100000 in
set_option maxHeartbeats 1000000 in
theorem aGs (l:List UInt8) (w:World) :
  Calls Tryz.prog 80 #[.string (bs l)] w fun e w'=>e=.returned (.bool (aGq l))∧w=w':=by
 go_enter Tryz.func80,Tryz.ntmps80
 go_wp2
 all_goals
  go_ret;refine⟨?_,rfl⟩
  simp_all [aGq]
  try (rw[Bool.eq_iff_iff];simp[*])
set_option maxRecDepth 100000 in
set_option maxHeartbeats 1000000 in
theorem bEp (c:Nat) (hc:c≤1114111) (w:World) :
  Calls Tryz.prog 118 #[.int .i32 c] w fun e w'=>e=.returned (.bool (oR c))∧w=w':=by
 obtain⟨G,hG⟩:∃ G,dig c=G:=⟨_,rfl⟩;have HC:=lhid (aHd c hc);rw[hG] at HC;have HG:=lhid hG;clear hG hc;go_enter Tryz.func118,Tryz.ntmps118;go_wp2_with (go_at_call 119;refine(HC.out _).mono ?_;rintro e w1 ⟨rfl,rfl⟩)
 all_goals
  go_ret;refine⟨?_,rfl⟩;refine congrArg (fun b=>Ending.returned (Value.bool b)) ?_;rw[Bool.eq_iff_iff];simp[oR,HG.out];try first | omega | (cases G<;>simp_all<;>omega) | (cases G<;>simp_all)
set_option maxRecDepth 100000 in
set_option maxHeartbeats 1000000 in
theorem bGz (a b:Int) (w:World) :
  Calls Tryz.prog 163 #[.int .i32 a,.int .i32 b] w fun e w'=>e=.returned (.int .i64 (if a<b then -1 else if b<a then 1 else 0))∧w=w':=by
 rcases(show a<b∨(¬a<b∧b<a)∨(¬a<b∧¬b<a) by omega) with h | ⟨h,h'⟩ | ⟨h,h'⟩
 all_goals
  go_enter Tryz.func163,Tryz.ntmps163
  go_wp2
  go_ret;refine⟨?_,rfl⟩;simp[*]
theorem aNc (x y:List Nat) (k:Nat) (hx:k<x.length) (hy:k<y.length) :
  lJ (x.drop k) (y.drop k)=if x.getD k 0=y.getD k 0 then lJ (x.drop (k+1)) (y.drop (k+1)) else if x.getD k 0<y.getD k 0 then -1 else 1:=by
 rw[List.drop_eq_getElem_cons hx,List.drop_eq_getElem_cons hy];simp[lJ,hx,hy]
theorem aJy (x y:List Nat) (k:Nat) (hx:k<x.length) (hy:y.length≤k):lJ (x.drop k) (y.drop k)=1:=by
 rw[List.drop_eq_getElem_cons hx,List.drop_eq_nil_of_le hy];rfl
theorem aRy (x y:List Nat) (k:Nat) (hx:x.length≤k):lJ (x.drop k) (y.drop k)=if k<y.length then -1 else 0:=by
 rw[List.drop_eq_nil_of_le hx];by_cases hy:k<y.length
 ·rw[List.drop_eq_getElem_cons hy,if_pos hy];rfl
 ·rw[List.drop_eq_nil_of_le (by omega),if_neg hy];rfl
set_option maxRecDepth 100000 in
set_option maxHeartbeats 2000000 in
theorem zS (x y:List Nat) (a b c d:Nat) (w:World) (hx:∀ j,j<x.length→w.cell? ⟨a,j,none⟩=some (.int .i32 ((x.getD j 0:Nat):Int))) (hy:∀ j,j<y.length→w.cell? ⟨b,j,none⟩=some (.int .i32 ((y.getD j 0:Nat):Int)))
  (hlx:x.length≤1000000) :
  Calls Tryz.prog 140 #[.slice (some ⟨a,0,none⟩) x.length c,.slice (some ⟨b,0,none⟩) y.length d] w fun e w'=>e=.returned (.int .i64 (lJ x y))∧w=w':=by
 obtain⟨R,hR⟩:∃ R,lJ x y=R:=⟨_,rfl⟩;rw[hR];have HR:=lhid hR;have HX:=lhid hx;have HY:=lhid hy;clear hR hx hy;go_enter Tryz.func140,Tryz.ntmps140
 go_wp2
 go_loop [11] (fun i=>∃ k:Nat,k≤x.length∧i=.int .i64 k∧k≤y.length∧lJ (x.drop k) (y.drop k)=R) (fun i=>x.length-(intOf i).toNat)
 case atStart=>exact⟨0,Nat.zero_le _,rfl,Nat.zero_le _,HR.out⟩
 case round=>
  obtain⟨k,hk,rfl,hky,hv⟩:=hrel;have HV:=lhid hv;clear hv;by_cases hlt:k<x.length
  ·by_cases hlt2:k<y.length
   ·have h1:=aNc x y k hlt hlt2;rw[HV.out] at h1;have c1:=HX.out k hlt;have c2:=HY.out k hlt2;obtain⟨p,hp⟩:∃ p,x.getD k 0=p:=⟨_,rfl⟩;obtain⟨q,hq⟩:∃ q,y.getD k 0=q:=⟨_,rfl⟩;rw[hp] at h1 c1;rw[hq] at h1 c2;clear hp hq;have HC:=lhid (bGz (p:Int) (q:Int));rcases(show p<q∨q<p∨p=q by omega) with h | h | h
    ·rw[if_neg (by omega),if_pos h] at h1;rw[if_pos (by omega)] at HC;have H1:=lhid h1;clear h1 h;(go_wp2_with (go_at_call 163;refine(HC.out _).mono ?_;rintro e w1 ⟨rfl,rfl⟩));go_ret;exact⟨by rw[H1.out];rfl,rfl⟩
    ·rw[if_neg (by omega),if_neg (by omega)] at h1;rw[if_neg (by omega),if_pos (by omega)] at HC;have H1:=lhid h1;clear h1 h;(go_wp2_with (go_at_call 163;refine(HC.out _).mono ?_;rintro e w1 ⟨rfl,rfl⟩));go_ret;exact⟨by rw[H1.out];rfl,rfl⟩
    ·rw[if_pos h] at h1;rw[if_neg (by omega),if_neg (by omega)] at HC;have H1:=lhid h1;clear h1 h;(go_wp2_with (go_at_call 163;refine(HC.out _).mono ?_;rintro e w1 ⟨rfl,rfl⟩));go_round
     case rel=>exact⟨k+1,by omega,by go_num,by omega,H1.out.symm⟩
     case measure=>simp[intOf];omega
   ·have h1:=aJy x y k hlt (by omega);rw[HV.out] at h1;have H1:=lhid h1;have c1:=HX.out k hlt;clear h1;(go_wp2_with fail);go_ret;exact⟨by rw[H1.out];rfl,rfl⟩
  ·have h1:=aRy x y k (by omega);rw[HV.out] at h1;by_cases hlt2:k<y.length
   ·rw[if_pos hlt2] at h1;have H1:=lhid h1;clear h1;(go_wp2_with fail);go_ret;exact⟨by rw[H1.out];rfl,rfl⟩
   ·rw[if_neg hlt2] at h1;have H1:=lhid h1;clear h1;(go_wp2_with fail);go_ret;exact⟨by rw[H1.out];rfl,rfl⟩
end
section
open Go.RowKit
theorem aPc (w:World) (b:Nat) (k vk n ln:Int) (s key:ByteArray) (h:w.there b 0 6):(Instr.storeAt 116 (.pointer (some ⟨b,0,none⟩)) (.agg #[.int .i64 k,.string s,.string key,.int .i64 vk,.int .i64 n,.int .i64 ln])).run Tryz.prog w=.ok () ((((((w.setCell ⟨b,0,none⟩ (.int .i64 k)).setCell ⟨b,1,none⟩ (.string s)).setCell ⟨b,2,none⟩ (.string key)).setCell ⟨b,3,none⟩ (.int .i64 vk)).setCell ⟨b,4,none⟩ (.int .i64 n)).setCell ⟨b,5,none⟩ (.int .i64 ln)):=
 run_storeAt_mid (P:=Tryz.prog) w b 0 116 #[.int .i64 k,.string s,.string key,.int .i64 vk,.int .i64 n,.int .i64 ln] h (by kernel_rfl) (by simp[Value.oneCell'])
theorem bCs {w:World} {g:Nat} {t:TypeId} {C:Array Value} (h:w.heap[g]? = some (.cells C t (0,0))) (i:Nat):w.frozen? ⟨g,i,none⟩=false:=by simp[World.frozen?,h]
theorem aPb (w:World) (b:Nat) (k vk n ln:Int) (s key:ByteArray) (h:w.there b 0 6):(storeVar 116 ⟨b,0,none⟩ (.agg #[.int .i64 k,.string s,.string key,.int .i64 vk,.int .i64 n,.int .i64 ln])).run Tryz.prog w=.ok () ((((((w.setCell ⟨b,0,none⟩ (.int .i64 k)).setCell ⟨b,1,none⟩ (.string s)).setCell ⟨b,2,none⟩ (.string key)).setCell ⟨b,3,none⟩ (.int .i64 vk)).setCell ⟨b,4,none⟩ (.int .i64 n)).setCell ⟨b,5,none⟩ (.int .i64 ln)):=
 run_storeVar_mid (P:=Tryz.prog) w b 0 116 #[.int .i64 k,.string s,.string key,.int .i64 vk,.int .i64 n,.int .i64 ln] h (by kernel_rfl) (by simp[Value.oneCell'])
theorem zG (w:World) (t:TypeId) (a0 a1 a2 a3 a4 a5:Value):(w.alloc (.cells #[a0,a1,a2,a3,a4,a5] t)).there w.heap.size 0 6:=by
 intro j hj;have hb:=heap_alloc_new w (.cells #[a0,a1,a2,a3,a4,a5] t);rw[Nat.zero_add];refine⟨?_,bCs hb j⟩;rw[cell_of_row _ w.heap.size j _ _ (0,0) hb]
 match j,hj with
 | 0,_=>rfl
 | 1,_=>rfl
 | 2,_=>rfl
 | 3,_=>rfl
 | 4,_=>rfl
 | 5,_=>rfl
theorem bI {w w':World} {b o n:Nat} (h:w.there b o n) (hb:Below w.heap.size w w'):w'.there b o n:=by
 intro j hj;obtain⟨h1,h2⟩:=h j hj;obtain⟨v,hv⟩:=Option.isSome_iff_exists.1 h1;have hl:=World.block_lt_of_cell? w _ hv;rw[hb.cell hl,hb.frozen hl];exact⟨h1,h2⟩
theorem bNk {w:World} {b o n:Nat} (h:w.there b o n):∀ ob,(w.alloc ob).there b o n:=fun ob=>World.there_alloc h ob
theorem bAo {w:World} {b o n:Nat} (h:w.there b o n) (a:Addr) (v:Value):(w.setCell a v).there b o n:=by
 intro j hj;obtain⟨h1,h2⟩:=h j hj;obtain⟨u,hu⟩:=Option.isSome_iff_exists.1 h1;obtain⟨u',hu'⟩:=cell?_setCell_some (w:=w) (p:=a) (x:=v) (q:=⟨b,o+j,none⟩) (v:=u) hu;exact⟨by rw[hu'];rfl,by rw[World.frozen?_setCell];exact h2⟩
theorem aOm (w:World) (b:Nat) (k vk n ln:Int) (s key:ByteArray) (h:w.there b 0 6):((((((w.setCell ⟨b,0,none⟩ (.int .i64 k)).setCell ⟨b,1,none⟩ (.string s)).setCell ⟨b,2,none⟩ (.string key)).setCell ⟨b,3,none⟩ (.int .i64 vk)).setCell ⟨b,4,none⟩ (.int .i64 n)).setCell ⟨b,5,none⟩ (.int .i64 ln)).rangeAt b 0 [.int .i64 k,.string s,.string key,.int .i64 vk,.int .i64 n,.int .i64 ln]:=
 World.rangeAt_setCells_same w b 0 [.int .i64 k,.string s,.string key,.int .i64 vk,.int .i64 n,.int .i64 ln] h
theorem bHv (w:World) (b:Nat) (k vk n ln:Int) (s key:ByteArray) (h:w.there b 0 6):(Instr.loadAt 116 (.pointer (some ⟨b,0,none⟩))).run Tryz.prog ((((((w.setCell ⟨b,0,none⟩ (.int .i64 k)).setCell ⟨b,1,none⟩ (.string s)).setCell ⟨b,2,none⟩ (.string key)).setCell ⟨b,3,none⟩ (.int .i64 vk)).setCell ⟨b,4,none⟩ (.int .i64 n)).setCell ⟨b,5,none⟩ (.int .i64 ln))=.ok (.agg #[.int .i64 k,.string s,.string key,.int .i64 vk,.int .i64 n,.int .i64 ln]) ((((((w.setCell ⟨b,0,none⟩ (.int .i64 k)).setCell ⟨b,1,none⟩ (.string s)).setCell ⟨b,2,none⟩ (.string key)).setCell ⟨b,3,none⟩ (.int .i64 vk)).setCell ⟨b,4,none⟩ (.int .i64 n)).setCell ⟨b,5,none⟩ (.int .i64 ln)):=
 run_loadAt_mid _ b 0 116 [.int .i64 k,.string s,.string key,.int .i64 vk,.int .i64 n,.int .i64 ln] _ (aOm w b k vk n ln s key h) Tryz.underlying116 rfl (by kernel_rfl)
theorem aSa (w:World) (b:Nat) (k vk n ln:Int) (s key:ByteArray) (h:w.there b 0 6):(loadVar 116 ⟨b,0,none⟩).run Tryz.prog ((((((w.setCell ⟨b,0,none⟩ (.int .i64 k)).setCell ⟨b,1,none⟩ (.string s)).setCell ⟨b,2,none⟩ (.string key)).setCell ⟨b,3,none⟩ (.int .i64 vk)).setCell ⟨b,4,none⟩ (.int .i64 n)).setCell ⟨b,5,none⟩ (.int .i64 ln))=.ok (.agg #[.int .i64 k,.string s,.string key,.int .i64 vk,.int .i64 n,.int .i64 ln]) ((((((w.setCell ⟨b,0,none⟩ (.int .i64 k)).setCell ⟨b,1,none⟩ (.string s)).setCell ⟨b,2,none⟩ (.string key)).setCell ⟨b,3,none⟩ (.int .i64 vk)).setCell ⟨b,4,none⟩ (.int .i64 n)).setCell ⟨b,5,none⟩ (.int .i64 ln)):=
 run_loadVar_mid _ b 0 116 [.int .i64 k,.string s,.string key,.int .i64 vk,.int .i64 n,.int .i64 ln] _ (aOm w b k vk n ln s key h) Tryz.underlying116 rfl (by kernel_rfl)
theorem tF {B:Nat} {w w':World} (h:Below B w w') {b:Nat} (hb:B≤b):∀ (vs:List Value) (o:Nat),Below B w (w'.setCells b o vs)
 | [],_=>h
 | v::vs,o=>tF (h.setCell (p:=⟨b,o,none⟩) hb v) hb vs (o+1)
theorem aTx {w:World} {b n:Nat} {a:Addr} {v:Value} (h:w.there b 0 n):(w.setCell a v).there b 0 n↔True:=iff_true_intro (bAo h a v)
end
section
open Go.RowKit
theorem aKv (k:Int) (s key t:List UInt8):(∃ a b c,dR t=(a,b,c)∧(c != 0)=true∧gI k s key t=(kE,c)) ∨
  (∃ b,k=3∧dR t=(0,b,0)∧gI k s key t=(kE,11))∨(∃ b,k=3∧dR t=(2,b,0)∧gI k s key t=(kE,5)) ∨
  (∃ a b,dR t=(a,b,0)∧(k==3)=false∧gI k s key t=((k,s,key,a,b,0),0)) ∨
  (∃ a b,k=3∧dR t=(a,b,0)∧(a==0)=false∧(a==2)=false∧gI k s key t=((k,s,key,a,b,0),0)):=by
 obtain⟨a,b,c,hp⟩:∃ a b c,dR t=(a,b,c):=⟨_,_,_,rfl⟩;unfold gI;rw[hp];by_cases hc:c=0
 ·subst hc;rw[if_neg (by simp)];by_cases hk:k=3
  ·by_cases h0:a=0
   ·subst h0;exact .inr (.inl ⟨b,hk,rfl,by rw[if_pos ⟨hk,rfl⟩]⟩)
   ·by_cases h2:a=2
    ·subst h2;exact .inr (.inr (.inl ⟨b,hk,rfl,by rw[if_neg (fun h=>h0 h.2),if_pos ⟨hk,rfl⟩]⟩))
    ·exact .inr (.inr (.inr (.inr ⟨a,b,hk,rfl,by simpa using h0,by simpa using h2,by rw[if_neg (fun h=>h0 h.2),if_neg (fun h=>h2 h.2)]⟩)))
  ·exact .inr (.inr (.inr (.inl ⟨a,b,rfl,by simpa using hk,by rw[if_neg (fun h=>hk h.1),if_neg (fun h=>hk h.1)]⟩)))
 ·exact .inl ⟨a,b,c,rfl,by simpa using hc,by rw[if_pos hc]⟩
section
attribute [local go_sem ↓] aPc
set_option maxRecDepth 100000 in
set_option maxHeartbeats 2000000 in
theorem aUd (k:Int) (s key t:List UInt8) (ht:t.length≤9223372036854775806) (w:World) :
  Calls Tryz.prog 112 #[.int .i64 k,.string (bs s),.string (bs key),.string (bs t)] w fun e w'=>e=.returned (.tuple #[evV (gI k s key t).1,.int .i64 (gI k s key t).2])∧Below w.heap.size w w':=by
 have T0:=lhid (zG w 116 (.int .i64 0) (.string { data:=#[] }) (.string { data:=#[] }) (.int .i64 0) (.int .i64 0) (.int .i64 0));rcases aKv k s key t with ⟨a,b,c,hp,hc,h⟩ | ⟨b,rfl,hp,h⟩ | ⟨b,rfl,hp,h⟩ | ⟨a,b,hp,hk,h⟩ | ⟨a,b,rfl,hp,h0,h2,h⟩
 all_goals
  have HV:=lhid (bBb t _ _ _ ht hp);rw[h];clear h hp;go_enter Tryz.func112,Tryz.ntmps112;(go_wp2_with (fail));refine(HV.out _).mono ?_;rintro e w1 ⟨rfl,hb1⟩;obtain⟨hc1,hf1⟩:=dF hb1;have hz1:=hb1.size;(try simp at hz1);have hl1_0:w.heap.size<w1.heap.size:=(by omega);have hl1_0_1:w.heap.size<w1.heap.size+1:=(by omega);have th:=bNk (bI T0.out hb1);go_wp21;refine bodyPost_ret ?_ rfl ⟨rfl,?_⟩
  ·simp[results,Tryz.results112,go_sem,hc1,hl1_0,evV,kE];try rfl
  ·exact bes
end
end
section
open Go.RowKit
section
variable {P:Program} {ops:Array Oper} {Q:Exit→Act→World→Prop} {md:Region.Mode} {S:World→Prop} {late:List Nat}
def mH (P:Program) (md:Region.Mode) (ops:Array Oper) (Q:Exit→Act→World→Prop) (S:World→Prop) (late:List Nat):Nat→Array Bool→Act→World→Prop
 | 0,listed,a,w=>Region.ready md ops listed=[]∧Q .normal a w
 | fuel+1,listed,a,w=>
  (Region.ready md ops listed=[]→Q .normal a w) ∧
  ∀ i∈Region.ready md ops listed,wpOp P ops Q i (fun a' w'=>(late.contains i=false→S w')∧mH P md ops Q S late fuel (listed.setIfInBounds i true) a' w') a w
theorem vR:∀ (fuel:Nat) (listed:Array Bool) (a:Act) (w:World),mH P md ops Q S late fuel listed a w→wpAny P md ops Q fuel listed a w
 | 0,_,_,_,h=>h
 | fuel+1,_,_,_,h=>⟨h.1,fun i hi=>wpOp_mono (fun a' w' h'=>vR fuel _ a' w' h'.2) (h.2 i hi)⟩
def aFq (md:Region.Mode) (ops:Array Oper):Nat→Nat→Nat→Bool
 | 0,_,_=>false
 | n+1,l,i=>match ops[l]? with
  | some o=>o.after.any fun e=>Region.binds md e&&(e.on==i||aFq md ops n e.on i)
  | none=>false
def aUp (md:Region.Mode) (ops:Array Oper) (listed:Array Bool):Bool:=(List.range ops.size).all fun j=>!listed.getD j true||match ops[j]? with
 | some o=>o.after.all fun e=>!Region.binds md e||listed.getD e.on true
 | none=>true
def xX (md:Region.Mode) (ops:Array Oper) (listed:Array Bool):Prop:=∀ j o,ops[j]? = some o→listed.getD j true=true→∀ e∈o.after,Region.binds md e=true→listed.getD e.on true=true
theorem aWo {listed:Array Bool} (h:aUp md ops listed=true):xX md ops listed:=by
 intro j o ho hj e he hb;have hlt:j<ops.size:=(Array.getElem?_eq_some_iff.1 ho).1;have h1:=List.all_eq_true.1 h j (List.mem_range.2 hlt);simp only[hj,Bool.not_true,Bool.false_or,ho] at h1;have h2:=Array.all_eq_true_iff_forall_mem.1 h1 e he;simpa [hb] using h2
theorem aOq {listed:Array Bool} {j:Nat} {o:Oper} (hj:j∈Region.ready md ops listed) (ho:ops[j]? = some o):∀ e∈o.after,Region.binds md e=true→listed.getD e.on true=true:=by
 intro e he hb;obtain⟨-,o',ho',hall⟩:=mem_ready.1 hj;obtain rfl:=Option.some.inj (ho.symm.trans ho');have h1:=hall e he hb;rcases Nat.lt_or_ge e.on listed.size with h' | h'
 ·simp[h'] at h1 ⊢;exact h1
 ·simp[Array.getElem?_eq_none h'] at h1
theorem xX.next {listed:Array Bool} (h:xX md ops listed) {j:Nat} (hj:j∈Region.ready md ops listed):xX md ops (listed.setIfInBounds j true):=by
 have up:∀ k,listed.getD k true=true→(listed.setIfInBounds j true).getD k true=true:=by
  intro k hk;by_cases hjk:j=k
  ·subst hjk;rcases Nat.lt_or_ge j listed.size with h' | h'
   ·simp[h']
   ·simp
  ·rw[getD_set_ne true hjk];exact hk
 intro k o ho hk e he hb;apply up;by_cases hjk:j=k
 ·subst hjk;exact aOq hj ho e he hb
 ·rw[getD_set_ne true hjk] at hk;exact h k o ho hk e he hb
theorem aFs {i:Nat} {listed:Array Bool} (hc:xX md ops listed) (hi:listed.getD i true=false):∀ n l,aFq md ops n l i=true→listed.getD l true=false∧l∉Region.ready md ops listed
 | 0,_,h=>by cases h
 | n+1,l,h=>by
  unfold aFq at h;split at h
  ·rename_i o ho;obtain⟨e,he,hb⟩:=Array.any_eq_true'.1 h;simp only[Bool.and_eq_true,Bool.or_eq_true,beq_iff_eq] at hb
   have hne:listed.getD e.on true=false:=by
    rcases hb.2 with h1 | h1
    ·rw[h1];exact hi
    ·exact(aFs hc hi n e.on h1).1
   constructor
   ·cases hl:listed.getD l true with
    | false=>rfl
    | true=>rw[hc l o ho hl e he hb.1] at hne;cases hne
   ·intro hr;rw[aOq hr ho e he hb.1] at hne;cases hne
  ·cases h
theorem aLb {i n:Nat} {oi:Oper} {v:Value} (hi:ops[i]? = some oi) (hsel:∀ (j:Nat) (o:Oper) cs b,ops[j]? = some o→o.op≠.select cs b)
  (hQ:∀ c a w,Q (.panic c) (a.put oi.dst v) w→Q (.panic c) a w) (hw:late.all (fun l=>aFq md ops n l i)=true) :
  ∀ (fuel:Nat) (listed:Array Bool) (a:Act) (w:World),xX md ops listed →
   (∀ j oj,ops[j]? = some oj→j≠i→listed.getD j true=false→(∀ e∈oj.after,Region.binds md e=true→e.on≠i)→oi.apart ops oj=true) →
   i∈Region.ready md ops listed→YieldsIf P ops S oi v a→S w →
   mH P md ops Q S late fuel (listed.setIfInBounds i true) (a.put oi.dst v) w→mH P md ops Q S late (fuel+1) listed a w:=by
 intro fuel
 induction fuel with
 | zero=>
  intro listed a w _ _ hr hy hS H;refine⟨fun h=>(by rw[h] at hr;cases hr),fun j hj=>?_⟩;by_cases hji:j=i
  ·subst hji;exact hy.wpOp hi hS ⟨fun _=>hS,H⟩
  ·have:=ready_mono hj hji;rw[H.1] at this;cases this
 | succ fuel ih=>
  intro listed a w hcl hfree hr hy hS H;refine⟨fun h=>(by rw[h] at hr;cases hr),fun j hj=>?_⟩;by_cases hji:j=i
  ·subst hji;exact hy.wpOp hi hS ⟨fun _=>hS,H⟩
  ·have hjl:late.contains j=false:=by
    cases hc:late.contains j with
    | false=>rfl
    | true=>
     have hm:j∈late:=(by simpa using hc);exact absurd hj (aFs hcl (mem_ready.1 hr).1 n j (List.all_eq_true.1 hw j hm)).2
   have h1:=H.2 j (ready_mono hj hji);obtain⟨hjun,oj,hoj,hall⟩:=mem_ready.1 hj
   have hnot:∀ e∈oj.after,Region.binds md e=true→e.on≠i:=fun e he hb heq=>by
    have h1:=hall e he hb;have h0:=(mem_ready.1 hr).1;rw[heq] at h1;rcases Nat.lt_or_ge i listed.size with h' | h'
    ·simp[h'] at h0 h1;rw[h0] at h1;cases h1
    ·simp[Array.getElem?_eq_none h'] at h1
   have h2:=wpOp_putIf hoj (hfree j oj hoj hji hjun hnot) (fun cs b=>hsel i oi cs b hi) (fun cs b=>hsel j oj cs b hoj) hQ hy h1
   have hfree':∀ k ok,ops[k]? = some ok→k≠i→(listed.setIfInBounds j true).getD k true=false →
     (∀ e∈ok.after,Region.binds md e=true→e.on≠i)→oi.apart ops ok=true:=fun k ok hk hki hun hno=>by
    refine hfree k ok hk hki ?_ hno;by_cases hjk:j=k
    ·subst hjk;exact hjun
    ·rw[getD_set_ne true hjk] at hun;exact hun
   refine wpOp_mono (fun a' w' h3=>⟨fun _=>h3.2.1 hjl,ih (listed.setIfInBounds j true) a' w' (hcl.next hj) hfree' (ready_mono hr (Ne.symm hji)) h3.1 (h3.2.1 hjl) ?_⟩) h2;rw[Array.setIfInBounds_comm _ _ hji];exact h3.2.2
theorem aLc {i:Nat} {oi:Oper} {v:Value} (hi:ops[i]? = some oi) (hsel:∀ (j:Nat) (o:Oper) cs b,ops[j]? = some o→o.op≠.select cs b)
  (hQ:∀ c a w,Q (.panic c) (a.put oi.dst v) w→Q (.panic c) a w) (hl:late.contains i=true) :
  ∀ (fuel:Nat) (listed:Array Bool) (a:Act) (w:World),
   (∀ j oj,ops[j]? = some oj→j≠i→listed.getD j true=false→(∀ e∈oj.after,Region.binds md e=true→e.on≠i)→oi.apart ops oj=true) →
   i∈Region.ready md ops listed→YieldsIf P ops (fun _=>True) oi v a →
   mH P md ops Q S late fuel (listed.setIfInBounds i true) (a.put oi.dst v) w→mH P md ops Q S late (fuel+1) listed a w:=by
 intro fuel
 induction fuel with
 | zero=>
  intro listed a w _ hr hy H;refine⟨fun h=>(by rw[h] at hr;cases hr),fun j hj=>?_⟩;by_cases hji:j=i
  ·subst hji;exact hy.wpOp hi trivial ⟨fun h=>(by rw[hl] at h;cases h),H⟩
  ·have:=ready_mono hj hji;rw[H.1] at this;cases this
 | succ fuel ih=>
  intro listed a w hfree hr hy H;refine⟨fun h=>(by rw[h] at hr;cases hr),fun j hj=>?_⟩;by_cases hji:j=i
  ·subst hji;exact hy.wpOp hi trivial ⟨fun h=>(by rw[hl] at h;cases h),H⟩
  ·have h1:=H.2 j (ready_mono hj hji);obtain⟨hjun,oj,hoj,hall⟩:=mem_ready.1 hj
   have hnot:∀ e∈oj.after,Region.binds md e=true→e.on≠i:=fun e he hb heq=>by
    have h1:=hall e he hb;have h0:=(mem_ready.1 hr).1;rw[heq] at h1;rcases Nat.lt_or_ge i listed.size with h' | h'
    ·simp[h'] at h0 h1;rw[h0] at h1;cases h1
    ·simp[Array.getElem?_eq_none h'] at h1
   have h2:=wpOp_putIf hoj (hfree j oj hoj hji hjun hnot) (fun cs b=>hsel i oi cs b hi) (fun cs b=>hsel j oj cs b hoj) hQ hy h1
   have hfree':∀ k ok,ops[k]? = some ok→k≠i→(listed.setIfInBounds j true).getD k true=false →
     (∀ e∈ok.after,Region.binds md e=true→e.on≠i)→oi.apart ops ok=true:=fun k ok hk hki hun hno=>by
    refine hfree k ok hk hki ?_ hno;by_cases hjk:j=k
    ·subst hjk;exact hjun
    ·rw[getD_set_ne true hjk] at hun;exact hun
   refine wpOp_mono (fun a' w' h3=>⟨h3.2.1,ih (listed.setIfInBounds j true) a' w' hfree' (ready_mono hr (Ne.symm hji)) h3.1 ?_⟩) h2;rw[Array.setIfInBounds_comm _ _ hji];exact h3.2.2
theorem aAc (i:Nat) {d:Tmp} {op:Op} {ty:TypeId} {pos:String} {aft:Array Edge} {gd:Option (Nat×Bool)} {v:Value} {fuel:Nat} {listed:Array Bool} {a:Act} {w:World} (hi:ops[i]? = some ⟨some d,op,ty,pos,aft,gd⟩)
  (hs:Region.noSelect ops=true) (hf:Region.free md ops listed i=true) (hr:(Region.ready md ops listed).contains i=true) (hl:late.contains i=true)
  (hQ:∀ c a w,Q (.panic c) (a.put (some d) v) w→Q (.panic c) a w) (hy:YieldsIf P ops (fun _=>True) ⟨some d,op,ty,pos,aft,gd⟩ v a)
  (h:mH P md ops Q S late fuel (listed.setIfInBounds i true) (a.put (some d) v) w):mH P md ops Q S late (fuel+1) listed a w:=
 aLc hi (Region.noSelect_spec hs) hQ hl fuel listed a w (Region.free_spec hi hf) (by simpa using hr) hy h
theorem gP (i n:Nat) {d:Tmp} {op:Op} {ty:TypeId} {pos:String} {aft:Array Edge} {gd:Option (Nat×Bool)} {v:Value} {fuel:Nat} {listed:Array Bool} {a:Act} {w:World} (hi:ops[i]? = some ⟨some d,op,ty,pos,aft,gd⟩)
  (hs:Region.noSelect ops=true) (hf:Region.free md ops listed i=true) (hr:(Region.ready md ops listed).contains i=true) (hw:late.all (fun l=>aFq md ops n l i)=true) (hcl:aUp md ops listed=true)
  (hQ:∀ c a w,Q (.panic c) (a.put (some d) v) w→Q (.panic c) a w) (hy:YieldsIf P ops S ⟨some d,op,ty,pos,aft,gd⟩ v a) (hS:S w)
  (h:mH P md ops Q S late fuel (listed.setIfInBounds i true) (a.put (some d) v) w):mH P md ops Q S late (fuel+1) listed a w:=
 aLb hi (Region.noSelect_spec hs) hQ hw fuel listed a w (aWo hcl) (Region.free_spec hi hf) (by simpa using hr) hy hS h
theorem lO (i:Nat) {d:Option Tmp} {op:Op} {ty:TypeId} {pos:String} {aft:Array Edge} {gd:Option (Nat×Bool)} {fuel:Nat} {listed:Array Bool} {a:Act} {w:World} (ho:ops[i]? = some ⟨d,op,ty,pos,aft,gd⟩) (hr:Region.ready md ops listed=[i])
  (h:∀ K:Act→World→Prop,Hid (∀ a' w',(late.contains i=false→S w')→mH P md ops Q S late fuel (listed.setIfInBounds i true) a' w'→K a' w')→if Region.wanted ⟨d,op,ty,pos,aft,gd⟩ (yielded ops a.tmps)=true then Oper.wp P ⟨d,op,ty,pos,aft,gd⟩ a w K Q else K (a.put d undef) w):mH P md ops Q S late (fuel+1) listed a w:=by
 refine⟨fun h0=>(by rw[hr] at h0;cases h0),fun j hj=>?_⟩;rw[hr] at hj;obtain rfl:j=i:=(by simpa using hj);exact wpOp_step ho (fun K hK=>h K (lhid (fun a' w' h1 h2=>hK a' w' ⟨h1,h2⟩)))
theorem aPx {listed:Array Bool} {a:Act} {w:World} (hr:Region.ready md ops listed=[]) (h:Q .normal a w):∀ fuel,mH P md ops Q S late fuel listed a w
 | 0=>⟨hr,h⟩
 | _+1=>⟨fun _=>h,by rw[hr];simp⟩
theorem wp_region_late (S:World→Prop) (late:List Nat) {id:Nat} {a:Act} {w:World} (hm:P.follows .mixedOrders=true)
  (h:mH P .any ops Q S late ops.size (Array.replicate ops.size false) a w.drew):(Code.region id ops true).wp P Q a w:=
 wp_region_any hm (vR _ _ _ _ h)
end
end
section
open Go.RowKit
def evc (x:aV):List Value:=[.int .i64 x.1,.string (bs x.2.1),.string (bs x.2.2.1),.int .i64 x.2.2.2.1,.int .i64 x.2.2.2.2.1,.int .i64 x.2.2.2.2.2]
def yI (L:List aV):List Value:=L.flatMap evc
theorem aWx (L:List aV) (x:aV):yI L++evc x=yI (L++[x]):=by simp[yI]
def aLk (w:World) (v:Value) (L:List aV):Prop:=∃ p cap,v=.slice p L.length cap∧∀ j,j<L.length→∃ g,p=some ⟨g,0,none⟩∧∀ i u,(evc (L.getD j kE))[i]? = some u→w.cell? ⟨g,j*6+i,none⟩=some u
theorem aLk.below {w w':World} {v:Value} {L:List aV} (h:aLk w v L) (hb:Below w.heap.size w w'):aLk w' v L:=by
 obtain⟨p,cap,hv,hc⟩:=h;refine⟨p,cap,hv,fun j hj=>?_⟩;obtain⟨g,hp,h1⟩:=hc j hj;exact⟨g,hp,fun i u hu=>cell_later hb (h1 i u hu)⟩
theorem xA (w:World):aLk w (.slice none 0 0) []:=⟨none,0,rfl,fun j hj=>absurd hj (Nat.not_lt_zero j)⟩
theorem aMc:∀ (L:List aV) (j i:Nat),j<L.length→i<6→(yI L)[j*6+i]? = (evc (L.getD j kE))[i]?
 | [],j,_,hj,_=>absurd hj (Nat.not_lt_zero j)
 | x::L,0,i,_,hi=>by
  have e:yI (x::L)=evc x++yI L:=(by simp[yI]);rw[e,Nat.zero_mul,Nat.zero_add,List.getElem?_append_left (by simp[evc];omega)];rfl
 | x::L,j+1,i,hj,hi=>by
  have e:yI (x::L)=evc x++yI L:=(by simp[yI]);have h6:(evc x).length=6:=rfl;rw[e,List.getElem?_append_right (by rw[h6];omega),h6,show(j+1)*6+i-6=j*6+i by omega,aMc L j i (by simpa using hj) hi];rfl
theorem bIn {w:World} {B:Nat} {e:TypeId} {v:Value} {L:List aV} (h:w.ownsRow B e 6 v L.length (yI L)):aLk w v L:=by
 obtain⟨-,⟨h0,hn⟩ | ⟨g,cap,cur,hv,-,hw,-,-,-,ht⟩⟩:=h
 ·have:L=[]:=List.eq_nil_of_length_eq_zero hn;subst this h0;exact xA w
 ·refine⟨_,cap,hv,fun j hj=>⟨g,rfl,fun i u hu=>?_⟩⟩;have hi:i<6:=(List.getElem?_eq_some_iff.1 hu).1;have h1:=congrArg (fun x:List Value=>x[j*6+i]?) ht;simp only[List.getElem?_take,show j*6+i<L.length*6 by omega,if_true,Array.getElem?_toList] at h1;rw[cell_of_row w g (j*6+i) _ _ (0,0) hw,h1,aMc L j i hj hi];exact hu
theorem bHs:(Tryz.prog.info? 116).map (fun i=>(i.zero,i.size,i.bytes))=some (some (.agg #[.int .i64 0,.string ByteArray.empty,.string ByteArray.empty,.int .i64 0,.int .i64 0,.int .i64 0]),6,64):=by kernel_rfl
theorem bIg (k vk n ln:Int) (s key:ByteArray):∀ u∈([.int .i64 k,.string s,.string key,.int .i64 vk,.int .i64 n,.int .i64 ln]:List Value),u.oneCell'=true:=by
 intro u hu;simp at hu;rcases hu with rfl | rfl | rfl | rfl | rfl | rfl<;>rfl
end
section
open Go.RowKit
def Blk (w:World) (B:Nat) (t:TypeId) (cs:List Value):Prop:=w.heap[B]? = some (.cells cs.toArray t (0,0))
theorem Blk.lt {w:World} {B:Nat} {t:TypeId} {cs:List Value} (h:Blk w B t cs):B<w.heap.size:=(Array.getElem?_eq_some_iff.1 h).1
theorem Blk.cell {w:World} {B:Nat} {t:TypeId} {cs:List Value} (h:Blk w B t cs) (i:Nat) {v:Value} (hi:cs[i]? = some v):w.cell? ⟨B,i,none⟩=some v:=by
 rw[cell_of_row w B i cs.toArray t (0,0) h];simpa using hi
theorem Blk.frozen {w:World} {B:Nat} {t:TypeId} {cs:List Value} (h:Blk w B t cs) (i:Nat):w.frozen? ⟨B,i,none⟩=false:=by
 have h':w.heap[B]? = some (.cells cs.toArray t (0,0)):=h;simp[World.frozen?,h']
theorem Blk.new (w:World) (t:TypeId) (cs:List Value):Blk (w.alloc (.cells cs.toArray t)) w.heap.size t cs:=heap_alloc_new w _
theorem Blk.kept {w w':World} {row:Option Nat} {B:Nat} {t:TypeId} {cs:List Value} (h:Blk w B t cs) (hg:w.grownBy w' row) (hne:some B≠row):Blk w' B t cs:=(hg.block B h.lt hne).trans h
theorem Blk.alloc {w:World} {B:Nat} {t:TypeId} {cs:List Value} (h:Blk w B t cs) (o:Obj):Blk (w.alloc o) B t cs:=h.kept (World.grownBy_alloc w o none) (by simp)
theorem Blk.drew {w:World} {B:Nat} {t:TypeId} {cs:List Value} (h:Blk w B t cs):Blk w.drew B t cs:=h
theorem Blk.drewN {w:World} {B:Nat} {t:TypeId} {cs:List Value} (h:Blk w B t cs) (n:Nat):Blk (w.drewN n) B t cs:=h
theorem Blk.below {w w':World} {B n:Nat} {t:TypeId} {cs:List Value} (h:Blk w B t cs) (hb:Below n w w') (hn:B<n):Blk w' B t cs:=(hb.block B hn).trans h
theorem Blk.later {w w':World} {B:Nat} {t:TypeId} {cs:List Value} (h:Blk w B t cs) (hb:Below w.heap.size w w'):Blk w' B t cs:=h.below hb h.lt
theorem Blk.far {w:World} {B:Nat} {t:TypeId} {cs:List Value} (h:Blk w B t cs) {a:Addr} (hne:B≠a.block) (v:Value):Blk (w.setCell a v) B t cs:=(Below.heap_setCell w a v B hne).trans h
theorem Blk.set {w:World} {B:Nat} {t:TypeId} {cs:List Value} (h:Blk w B t cs) (i:Nat) (v:Value):Blk (w.setCell ⟨B,i,none⟩ v) B t (cs.set i v):=by
 have h':w.heap[B]? = some (.cells cs.toArray t (0,0)):=h;simp[Blk,World.setCell,Array.getElem?_modify,h']
theorem dP {w:World} {base size n:Nat} {e:TypeId} {v:Value} {xs:List Value} (h:w.ownsRow base e size v n xs) {a:Addr} (ha:a.block<base) (u:Value):(w.setCell a u).ownsRow base e size v n xs:=by
 obtain⟨h1,h2⟩:=h;refine⟨h1,?_⟩;rcases h2 with h2 | ⟨g,cap,cur,e1,hb,hw,r⟩
 ·exact .inl h2
 ·exact .inr ⟨g,cap,cur,e1,hb,(Below.heap_setCell w a u g (by omega)).trans hw,r⟩
theorem aZm {w w':World} {base size n m:Nat} {e:TypeId} {v:Value} {xs:List Value} (h:w.ownsRow base e size v n xs) (hb:Below m w w') (hm:∀ k,v.ownBlock=some k→k<m):w'.ownsRow base e size v n xs:=by
 obtain⟨h1,h2⟩:=h;refine⟨h1,?_⟩;rcases h2 with h2 | ⟨g,cap,cur,e1,hg,hw,r⟩
 ·exact .inl h2
 ·exact .inr ⟨g,cap,cur,e1,hg,(hb.block g (hm g (by subst e1;rfl))).trans hw,r⟩
theorem aS {w w':World} {base size n:Nat} {e:TypeId} {v:Value} {xs:List Value} (h:w.ownsRow base e size v n xs) (hb:Below w.heap.size w w'):w'.ownsRow base e size v n xs:=aZm h hb (fun k hk=>(h.lt k hk).2)
theorem dG {w w':World} {base base' size size' n n':Nat} {e e':TypeId} {v v':Value} {xs xs':List Value} (h:w.ownsRow base e size v n xs) (h':w.ownsRow base' e' size' v' n' xs') (hne:e≠e') (hg:w.grownBy w' v'.ownBlock):w'.ownsRow base e size v n xs:=by
 refine h.kept hg ?_;rcases h.2 with ⟨rfl,-⟩ | ⟨g,cap,cur,rfl,-,hw,-⟩
 ·exact .inl rfl
 ·refine .inr fun he=>?_;rcases h'.2 with ⟨rfl,-⟩ | ⟨g',cap',cur',rfl,-,hw',-⟩
  ·cases he
  ·have e1:g=g':=(by simpa [Value.ownBlock] using he);subst e1;rw[hw] at hw';injection hw' with hw';injection hw' with _ hw';exact hne hw'
theorem Blk.grown {w w':World} {B base size n:Nat} {t e:TypeId} {cs:List Value} {v:Value} {xs:List Value} (h:Blk w B t cs) (ho:w.ownsRow base e size v n xs) (hB:B<base) (hg:w.grownBy w' v.ownBlock):Blk w' B t cs:=
 h.kept hg (fun he=>by have:=(ho.lt B he.symm).1;omega)
theorem aWd {w w':World} {a:World} {B base size n:Nat} {e:TypeId} {v:Value} {xs:List Value} (hb:Below B a w) (hB:B≤base) (hs:B≤w.heap.size) (ho:w.ownsRow base e size v n xs) (hg:w.grownBy w' v.ownBlock):Below B a w':=
 hb.grown hg hs (fun k hk=>Nat.le_trans hB (ho.lt k hk).1)
theorem kP {w w':World} {a:World} {B base size n:Nat} {e:TypeId} {v:Value} {xs:List Value} (hb:Below B a w) (hB:B≤base) (hs:B≤a.heap.size) (ho:w.ownsRow base e size v n xs) (hg:w.grownBy w' v.ownBlock):Below B a w':=
 aWd hb hB (Nat.le_trans hs hb.size) ho hg
theorem lV {w:World} {base size k:Nat} {e:TypeId} {v:Value} {xs:List Value} (h:w.ownsRow base e size v (k+1) xs):∃ g cap,v=.slice (some ⟨g,0,none⟩) (k+1) cap:=by
 rcases h.2 with ⟨-,h2⟩ | ⟨g,cap,cur,rfl,-⟩
 ·cases h2
 ·exact⟨g,cap,rfl⟩
theorem aD {w:World} {base size n B:Nat} {e t:TypeId} {v:Value} {xs cs:List Value} (h:w.ownsRow base e size v n xs) (hB:Blk w B t cs) (hne:e≠t) (i:Nat) (u:Value):(w.setCell ⟨B,i,none⟩ u).ownsRow base e size v n xs:=by
 obtain⟨h1,h2⟩:=h;refine⟨h1,?_⟩;rcases h2 with h2 | ⟨g,cap,cur,e1,hg,hw,r⟩
 ·exact .inl h2
 ·refine .inr ⟨g,cap,cur,e1,hg,(Below.heap_setCell w _ u g fun he=>?_).trans hw,r⟩;have he':g=B:=he;subst he';have hB':w.heap[g]? = some (.cells cs.toArray t (0,0)):=hB;rw[hw] at hB';injection hB' with hB';injection hB' with _ hB';exact hne hB'
theorem dB (w:World) (cs:List Value) (e:TypeId) (n:Nat) (hn:n=w.heap.size):∀ (j:Nat) (u:Value),cs[j]? = some u→(w.alloc (.cells cs.toArray e)).cell? ((⟨n,0,none⟩:Addr).add j)=some u:=by
 intro j u hj;subst hn;rw[Addr.add_lit,Nat.zero_add];exact(Blk.new w e cs).cell j hj
theorem sM {w w':World} {b1 N s1 s2 n1 n2:Nat} {e1 e2:TypeId} {v1 v2:Value} {xs1 xs2:List Value} (h:w.ownsRow b1 e1 s1 v1 n1 xs1) (hN:∀ k,v1.ownBlock=some k→k<N) (h2:w.ownsRow N e2 s2 v2 n2 xs2) (hg:w.grownBy w' v2.ownBlock):w'.ownsRow b1 e1 s1 v1 n1 xs1:=by
 refine h.kept hg ?_
 cases hb:v1.ownBlock with
 | none=>exact .inl rfl
 | some k=>
  refine .inr fun he=>?_;have:=(h2.lt k he.symm).1;have:=hN k hb;omega
theorem aF {w:World} {base size n:Nat} {e:TypeId} {v:Value} {xs:List Value} (h:w.ownsRow base e size v n xs):∃ p cap,v=.slice p n cap:=by
 rcases h.2 with ⟨rfl,rfl⟩ | ⟨g,cap,cur,rfl,-⟩
 ·exact⟨_,_,rfl⟩
 ·exact⟨_,_,rfl⟩
theorem cQ {w:World} {base base' size n:Nat} {e:TypeId} {v:Value} {xs:List Value} (h:w.ownsRow base e size v n xs) (hb:base'≤base):w.ownsRow base' e size v n xs:=by
 obtain⟨h1,h2⟩:=h;refine⟨h1,?_⟩;rcases h2 with h2 | ⟨g,cap,cur,e1,hg,r⟩
 ·exact .inl h2
 ·exact .inr ⟨g,cap,cur,e1,Nat.le_trans hb hg,r⟩
end
section
open Go.RowKit
def aAu (w:World) (p:Option Addr) (L:List Int):Prop:=∀ j,j<L.length→∃ g,p=some ⟨g,0,none⟩∧w.cell? ⟨g,j,none⟩=some (.int .i64 (L.getD j 0))
theorem aAu.below {w w':World} {p:Option Addr} {L:List Int} (h:aAu w p L) (hb:Below w.heap.size w w'):aAu w' p L:=fun j hj=>by
 obtain⟨g,hp,hc⟩:=h j hj;exact⟨g,hp,cell_later hb hc⟩
def qC (w:World) (v:Value) (L:List Int):Prop:=∃ p cap,v=.slice p L.length cap∧aAu w p L
theorem qC.below {w w':World} {v:Value} {L:List Int} (h:qC w v L) (hb:Below w.heap.size w w'):qC w' v L:=by
 obtain⟨p,cap,hv,ht⟩:=h;exact⟨p,cap,hv,ht.below hb⟩
theorem yP (w:World):qC w (.slice none 0 0) []:=⟨none,0,rfl,fun j hj=>absurd hj (Nat.not_lt_zero j)⟩
def mG (L:List Int):List Value:=L.map fun n=>.int .i64 n
theorem wQ (L:List Int) (n:Int):mG L++[.int .i64 n]=mG (L++[n]):=by simp[mG]
theorem aJj (L:List Int) (j:Nat) (n:Int):(mG L).set j (.int .i64 n)=mG (L.set j n):=by simp[mG,List.map_set]
theorem bUb {w:World} {B:Nat} {e:TypeId} {v:Value} {L:List Int} (h:w.ownsRow B e 1 v L.length (mG L)):qC w v L:=by
 obtain⟨-,⟨h0,hn⟩ | ⟨g,cap,cur,hv,-,hw,-,-,-,ht⟩⟩:=h
 ·have:L=[]:=List.eq_nil_of_length_eq_zero hn;subst this h0;exact yP w
 ·refine⟨_,cap,hv,fun j hj=>⟨g,rfl,?_⟩⟩;have h1:=congrArg (fun x:List Value=>x[j]?) ht;simp only[Nat.mul_one,List.getElem?_take,hj,if_true,Array.getElem?_toList] at h1;rw[cell_of_row w g j _ _ (0,0) hw,h1];simp[mG,hj]
theorem xD:(Tryz.prog.info? 3).map (fun i=>(i.zero,i.size,i.bytes))=some (some (.int .i64 0),1,8):=by kernel_rfl
end
end Go.Proofs.YtdfegfagedeilaaGreatDoor
