/-
  Several texts of these walks, joined and squeezed (as templates they lie in wip/tpl): LatF WlW WlZ LatG WmM.
-/
import Derived.Test.YtdfegfagedeilaaGreatDoorYNn
namespace Go.Proofs.YtdfegfagedeilaaGreatDoor
section
open Go.RowKit
abbrev bOm:=(Nat→Value)→World→Prop
abbrev bNz:=Nat×Nat×List Nat
def bPg (y:Nat→Value) (i:Nat) (v:Value):Nat→Value:=fun j=>bif j==i then v else y j
def bOw (i:Nat) (ds:List Nat) (y:Nat→Value):Nat→Value:=fun j=>bif (i::ds).contains j then y j else undef
def bOa:List bNz→Act→(Nat→Value)→Act
 | [],a,_=>a
 | p::D,a,y=>bOa D (a.put (some p.2.1) (y p.1)) y
def bOd:List bNz→Array Bool→Array Bool
 | [],l=>l
 | p::D,l=>bOd D (l.setIfInBounds p.1 true)
def bOj:List bNz→List bOm→Nat→bOm
 | p::D,f::F,k=>bif p.1==k then f else bOj D F k
 | _,_,_=>fun _ _=>True
def bOp (A:bNz→Prop):List bNz→Prop
 | []=>True
 | p::D=>A p∧bOp A D
theorem bOp.mem {A:bNz→Prop}:∀ {D:List bNz},bOp A D→∀ p∈D,A p
 | [],_,_,h=>by cases h
 | q::D,h,p,hp=>by
  rcases List.mem_cons.1 hp with rfl | hp
  ·exact h.1
  ·exact h.2.mem p hp
theorem bOp.of {A:bNz→Prop}:∀ {D:List bNz},(∀ p∈D,A p)→bOp A D
 | [],_=>trivial
 | q::_,h=>⟨h q (List.mem_cons_self ..),bOp.of fun p hp=>h p (List.mem_cons_of_mem _ hp)⟩
theorem bPa (a:Act) (d:Nat):∃ v,a.put (some d) v=a:=by
 refine⟨a.tmps.getD d undef,?_⟩;obtain⟨t⟩:=a;simp only[Act.put];congr 1;apply Array.ext
 ·simp
 ·intro i h1 h2;rw[Array.getElem_setIfInBounds (by simpa using h2)];split
  ·rename_i e;subst e;simp[h2]
  ·rfl
theorem bOz (a:Act) (d:Nat) (x v:Value):(a.put (some d) x).put (some d) v=a.put (some d) v:=by
 obtain⟨t⟩:=a;simp[Act.put]
theorem bOy (a:Act) {d e:Nat} (h:d≠e) (x v:Value):(a.put (some d) x).put (some e) v=(a.put (some e) v).put (some d) x:=by
 obtain⟨t⟩:=a;simp only[Act.put];rw[Array.setIfInBounds_comm _ _ h]
theorem bOc:∀ (D:List bNz) (a:Act) (y z:Nat→Value),(∀ p∈D,y p.1=z p.1)→bOa D a y=bOa D a z
 | [],_,_,_,_=>rfl
 | p::D,a,y,z,h=>by
  unfold bOa;rw[h p (List.mem_cons_self ..)];exact bOc D _ y z fun q hq=>h q (List.mem_cons_of_mem _ hq)
theorem bOu:∀ (D:List bNz) (a:Act) (y:Nat→Value) (d:Nat) (v:Value),(∀ p∈D,p.2.1≠d)→(bOa D a y).put (some d) v=bOa D (a.put (some d) v) y
 | [],_,_,_,_,_=>rfl
 | p::D,a,y,d,v,h=>by
  unfold bOa;rw[bOu D _ y d v fun q hq=>h q (List.mem_cons_of_mem _ hq),bOy a (h p (List.mem_cons_self ..))]
theorem bPl (y:Nat→Value) (i:Nat) (v:Value):bPg y i v i=v:=by simp[bPg]
theorem bPj (y:Nat→Value) {i j:Nat} (v:Value) (h:j≠i):bPg y i v j=y j:=by
 unfold bPg;rw[show(j==i)=false by simpa using h];rfl
theorem bOv:∀ (D:List bNz) (a:Act) (y:Nat→Value),(D.map (·.1)).Nodup→(D.map (·.2.1)).Nodup→∀ p∈D,∀ v,(bOa D a y).put (some p.2.1) v=bOa D a (bPg y p.1 v)
 | [],_,_,_,_,_,h,_=>by cases h
 | q::D,a,y,h1,h2,p,hp,v=>by
  rw[List.map_cons,List.nodup_cons] at h1 h2;unfold bOa;rcases List.mem_cons.1 hp with rfl | hp
  ·rw[bOu D _ y _ v fun r hr e=>h2.1 (List.mem_map.2 ⟨r,hr,e⟩),bOz,bPl];exact bOc D _ _ _ fun r hr=>(bPj y v fun e=>h1.1 (List.mem_map.2 ⟨r,hr,e⟩)).symm
  ·rw[bOv D _ y h1.2 h2.2 p hp v,bPj y v fun e=>h1.1 (List.mem_map.2 ⟨p,hp,e.symm⟩)]
theorem bOo:∀ (D:List bNz) (a:Act),(D.map (·.1)).Nodup→∃ y,bOa D a y=a
 | [],a,_=>⟨fun _=>undef,rfl⟩
 | q::D,a,h=>by
  rw[List.map_cons,List.nodup_cons] at h;obtain⟨y,hy⟩:=bOo D a h.2;obtain⟨v,hv⟩:=bPa a q.2.1;refine⟨bPg y q.1 v,?_⟩;unfold bOa;rw[bPl,hv, ←hy];rw[bOc D (bOa D a y) (bPg y q.1 v) y fun r hr=>bPj y v fun e=>h.1 (List.mem_map.2 ⟨r,hr,e⟩),hy,hy]
theorem bOs:∀ (D:List bNz) (l:Array Bool) (j:Nat),(bOd D l).getD j true=(l.getD j true||(D.map (·.1)).contains j)
 | [],l,j=>by simp[bOd]
 | p::D,l,j=>by
  unfold bOd;rw[bOs D _ j,List.map_cons,List.contains_cons];by_cases e:j=p.1
  ·subst e;rw[show(p.1==p.1)=true by simp,Bool.true_or,Bool.or_true];rcases Nat.lt_or_ge p.1 l.size with q | q
   ·simp[q]
   ·simp[q]
  ·rw[getD_set_ne true (Ne.symm e),show(j==p.1)=false by simpa using e,Bool.false_or]
theorem bOn:∀ (D:List bNz) (l:Array Bool),(bOd D l).size=l.size
 | [],_=>rfl
 | p::D,l=>by unfold bOd;rw[bOn D];simp
section
variable {P:Program} {ops:Array Oper} {Q:Exit→Act→World→Prop} {md:Region.Mode} {S:World→Prop} {late:List Nat}
def bPb (md:Region.Mode) (ops:Array Oper) (n:Nat) (listed:Array Bool) (D:List bNz):Bool:=
 decide ((D.map (·.1)).Nodup)&&decide ((D.map (·.2.1)).Nodup)&&wZ md ops listed&&decide (listed.size=ops.size) &&
 (D.all fun p=>!listed.getD p.1 true&&match ops[p.1]? with
  | some o=>(o.after.all fun e=>!Region.binds md e||decide (e.on<p.1)&&(listed.getD e.on true||(D.map (·.1)).contains e.on))&&p.2.2.all fun k=>o.after.any fun e=>Region.binds md e&&e.on==k
  | none=>false) &&
 (List.range ops.size).all fun j=>listed.getD j true||(D.map (·.1)).contains j||D.all fun p=>sX md ops n j p.1
def bPd (P:Program) (ops:Array Oper) (Q:Exit→Act→World→Prop) (Φ:Nat→bOm) (A:(Nat→Value)→Act) (w0:World) (p:bNz):Prop:=
 (∀ y w,Φ p.1 (bOw p.1 p.2.2 y) w=Φ p.1 y w)∧(∀ y w w',Φ p.1 y w→Below w.heap.size w w'→Φ p.1 y w') ∧
 ∃ o,ops[p.1]? = some o∧o.guard=none∧o.dst=some p.2.1∧∀ y w,Below w0.heap.size w0 w→(∀ k∈p.2.2,Φ k y w)→∀ K:Act→World→Prop,Hid (∀ v w',Φ p.1 (bPg y p.1 v) w'→Below w.heap.size w w'→K ((A y).put (some p.2.1) v) w')→Oper.wp P o (A y) w K Q
theorem bOg {md:Region.Mode} {ops:Array Oper} {n:Nat} {listed l1:Array Bool} {D:List bNz} (hc:bPb md ops n listed D=true) (hge:∀ j,listed.getD j true=true→l1.getD j true=true) (hsz:l1.size=ops.size) :
  ∀ m,(∃ p∈D,p.1<m∧l1.getD p.1 true=false)→Region.ready md ops l1≠[]
 | 0,⟨p,_,h,_⟩=>absurd h (Nat.not_lt_zero _)
 | m+1,⟨p,hp,hm,hl⟩=>by
  have hc':=hc;unfold bPb at hc;simp only[Bool.and_eq_true] at hc;have h1:=List.all_eq_true.1 hc.1.2 p hp;simp only[Bool.and_eq_true] at h1
  cases ho:ops[p.1]? with
  | none=>rw[ho] at h1;cases h1.2
  | some o=>
   rw[ho] at h1;simp only[Bool.and_eq_true] at h1;by_cases hex:∃ q∈D,q.1<m∧l1.getD q.1 true=false
   ·exact bOg hc' hge hsz m hex
   ·intro hr
    have hm:p.1∈Region.ready md ops l1:=by
     refine mem_ready.2 ⟨hl,o,ho,fun e he hb=>?_⟩;have h2:=Array.all_eq_true_iff_forall_mem.1 h1.2.1 e he;simp only[hb,Bool.not_true,Bool.false_or,Bool.and_eq_true,decide_eq_true_eq,Bool.or_eq_true] at h2
     have h3:l1.getD e.on true=true:=by
      rcases h2.2 with q | q
      ·exact hge _ q
      ·have q':e.on∈D.map (·.1):=(by simpa using q);obtain⟨r,hr1,hr2⟩:=List.mem_map.1 q'
       cases hq:l1.getD e.on true with
       | true=>rfl
       | false=>exact absurd ⟨r,hr1,by rw[hr2];omega,by rw[hr2];exact hq⟩ hex
     have hlt:e.on<l1.size:=by
      have:=(Array.getElem?_eq_some_iff.1 ho).1;omega
     simp[hlt] at h3 ⊢;exact h3
    rw[hr] at hm;cases hm
def bOk (D:List bNz) (l:Array Bool):Nat:=(D.filter fun p=>!l.getD p.1 true).length
theorem bOx {D:List bNz} (hn:(D.map (·.1)).Nodup) {l:Array Bool} {p:bNz} (hp:p∈D) (hl:l.getD p.1 true=false):bOk D l=bOk D (l.setIfInBounds p.1 true)+1:=by
 have hsz:p.1<l.size:=by
  rcases Nat.lt_or_ge p.1 l.size with q | q
  ·exact q
  ·simp[Array.getElem?_eq_none q] at hl
 unfold bOk
 induction D with
 | nil=>cases hp
 | cons q D ih=>
  rw[List.map_cons,List.nodup_cons] at hn;rcases List.mem_cons.1 hp with rfl | hp
  ·have e:(D.filter fun r=>!(l.setIfInBounds p.1 true).getD r.1 true)=D.filter fun r=>!l.getD r.1 true:=by
    apply List.filter_congr;intro r hr;rw[getD_set_ne true fun e=>hn.1 (List.mem_map.2 ⟨r,hr,e.symm⟩)]
   rw[List.filter_cons,List.filter_cons,e,hl,if_pos (by rfl),if_neg (by simp[hsz])];rfl
  ·have hne:p.1≠q.1:=fun e=>hn.1 (List.mem_map.2 ⟨p,hp,e⟩);have h1:=ih hn.2 hp;rw[List.filter_cons,List.filter_cons,getD_set_ne true hne];split
   ·rw[List.length_cons,List.length_cons,h1]
   ·exact h1
theorem wpf (n:Nat) (D:List bNz) (F:List bOm) {listed:Array Bool} {a:Act} {w:World} {fuel:Nat} (hS:∀ w',Below w.heap.size w w'→S w')
  (ho:bOp (bPd P ops Q (bOj D F) (bOa D a) w) D)
  (he:∀ y w',Below w.heap.size w w'→bOp (fun p=>bOj D F p.1 y w') D→bT P md ops Q S late fuel (bOd D listed) (bOa D a y) w')
  (hc:bPb md ops n listed D=true:=by kernel_rfl):bT P md ops Q S late (fuel+D.length) listed a w:=by
 have hch:=hc;unfold bPb at hch;simp only[Bool.and_eq_true,decide_eq_true_eq] at hch;obtain⟨⟨⟨⟨⟨hn1,hn2⟩,hcl⟩,hsz0⟩,hall⟩,hrest⟩:=hch
 have key:∀ (m:Nat) (l1:Array Bool) (y:Nat→Value) (w1:World),bOk D l1=m→l1.size=ops.size→uK md ops l1→(∀ j,listed.getD j true=true→l1.getD j true=true)→(∀ j,(D.map (·.1)).contains j=false→l1.getD j true=listed.getD j true)→Below w.heap.size w w1→(∀ p∈D,l1.getD p.1 true=true→bOj D F p.1 y w1) →
   bT P md ops Q S late (fuel+m) l1 (bOa D a y) w1:=by
  intro m
  induction m with
  | zero=>
   intro l1 y w1 hm hsz hcl1 hge hout hb hf
   have hd:∀ p∈D,l1.getD p.1 true=true:=fun p hp=>by
    cases hq:l1.getD p.1 true with
    | true=>rfl
    | false=>
     have:p∈D.filter fun p=>!l1.getD p.1 true:=List.mem_filter.2 ⟨hp,by rw[hq];rfl⟩;have h2:(D.filter fun p=>!l1.getD p.1 true)=[]:=List.eq_nil_of_length_eq_zero hm;rw[h2] at this;cases this
   have e:l1=bOd D listed:=by
    apply Array.ext
    ·rw[bOn,hsz,hsz0]
    ·intro j h1 h2;have h3:=bOs D listed j
     have h4:l1.getD j true=(bOd D listed).getD j true:=by
      rw[h3]
      cases hq:(D.map (·.1)).contains j with
      | false=>rw[hout j hq,Bool.or_false]
      | true=>
       have q':j∈D.map (·.1):=(by simpa using hq);obtain⟨r,hr1,rfl⟩:=List.mem_map.1 q';rw[hd r hr1,Bool.or_true]
     simpa [h1,h2] using h4
   rw[Nat.add_zero,e];exact he y w1 hb (bOp.of fun p hp=>hf p hp (hd p hp))
  | succ m ih=>
   intro l1 y w1 hm hsz hcl1 hge hout hb hf
   have hex:∃ p∈D,l1.getD p.1 true=false:=by
    cases hq:D.filter fun p=>!l1.getD p.1 true with
    | nil=>unfold bOk at hm;rw[hq] at hm;cases hm
    | cons p r=>
     have:p∈D.filter fun p=>!l1.getD p.1 true:=(by rw[hq];exact List.mem_cons_self ..);obtain⟨h1,h2⟩:=List.mem_filter.1 this;exact⟨p,h1,by simpa using h2⟩
   refine⟨fun hr=>?_,fun i hi=>?_⟩
   ·obtain⟨p,hp,hl⟩:=hex;exact absurd hr (bOg hc hge hsz (p.1+1) ⟨p,hp,Nat.lt_succ_self _,hl⟩)
   ·have hiD:∃ p∈D,p.1=i:=by
     refine Classical.byContradiction fun hno=>?_;obtain⟨hun,o,hoi,-⟩:=mem_ready.1 hi
     have hq:(D.map (·.1)).contains i=false:=by
      cases hq:(D.map (·.1)).contains i with
      | false=>rfl
      | true=>
       have q':i∈D.map (·.1):=(by simpa using hq);obtain⟨r,hr1,hr2⟩:=List.mem_map.1 q';exact absurd ⟨r,hr1,hr2⟩ hno
     have hlt:i<ops.size:=(Array.getElem?_eq_some_iff.1 hoi).1;have h1:=List.all_eq_true.1 hrest i (List.mem_range.2 hlt);rw[←hout i hq,hun,hq,Bool.false_or,Bool.false_or] at h1;obtain⟨p,hp,hl⟩:=hex;exact(aAa hcl1 hl n i (List.all_eq_true.1 h1 p hp)).2 hi
    obtain⟨p,hp,rfl⟩:=hiD;obtain⟨hun,o',hoi',hon⟩:=mem_ready.1 hi;obtain⟨-,-,o,hoo,hgd,hds,hstep⟩:=ho.mem p hp;have h1:=List.all_eq_true.1 hall p hp;simp only[Bool.and_eq_true] at h1;rw[hoo] at h1;simp only[Bool.and_eq_true] at h1;have hready:=aIq hi hoo
    have hdone:∀ k∈p.2.2,l1.getD k true=true:=fun k hk=>by
     have h2:=List.all_eq_true.1 h1.2.2 k hk;obtain⟨e,he,hb2⟩:=Array.any_eq_true'.1 h2;simp only[Bool.and_eq_true,beq_iff_eq] at hb2;rw[←hb2.2];exact hready e he hb2.1
    have hfk:∀ k∈p.2.2,bOj D F k y w1:=fun k hk=>by
     by_cases hq:∃ q∈D,q.1=k
     ·obtain⟨q,hq1,rfl⟩:=hq;exact hf q hq1 (hdone _ hk)
     ·have:∀ (D:List bNz) (F:List bOm),(¬ ∃ q∈D,q.1=k)→bOj D F k y w1:=by
       intro D
       induction D with
       | nil=>intro F _;cases F<;>trivial
       | cons q D ih=>
        intro F hno
        cases F with
        | nil=>trivial
        | cons f F=>
         unfold bOj
         rw[show(q.1==k)=false by
          cases hqk:q.1==k with
          | false=>rfl
          | true=>exact absurd ⟨q,List.mem_cons_self ..,by simpa using hqk⟩ hno]
         exact ih F fun ⟨r,h1,h2⟩=>hno ⟨r,List.mem_cons_of_mem _ h1,h2⟩
      exact this D F hq
    have hw:Region.wanted o (yielded ops (bOa D a y).tmps)=true:=(by simp[Region.wanted,hgd]);unfold wpOp;rw[hoo];simp only[hw,if_true];refine .inl (hstep y w1 hb hfk _ (lhid fun v w' hfv hb'=>⟨fun _ _=>hS _ (aB hb hb'),?_⟩));rw[bOv D a y hn1 hn2 p hp v];have hl2:=bOx hn1 hp hun;refine ih (l1.setIfInBounds p.1 true) (bPg y p.1 v) w' (by omega) (by simpa using hsz) (hcl1.next hi) (fun j hj=>?_) (fun j hj=>?_) (aB hb hb') (fun q hq hqd=>?_)
    ·by_cases e:p.1=j
     ·subst e;rw[hge _ hj] at hun;cases hun
     ·rw[getD_set_ne true e];exact hge j hj
    ·rw[getD_set_ne true fun e=>by
      subst e;have:(D.map (·.1)).contains p.1=true:=(by simpa using ⟨_,_,hp⟩);rw[this] at hj
      cases hj]
     exact hout j hj
    ·by_cases e:p.1=q.1
     ·rw[←e];exact hfv
     ·rw[getD_set_ne true e] at hqd;obtain⟨hmk,hst,o2,hoo2,-,-,-⟩:=ho.mem q hq;have h3:=hst y w1 w' (hf q hq hqd) hb';rw[←hmk] at h3 ⊢;have h4:=List.all_eq_true.1 hall q hq;simp only[Bool.and_eq_true] at h4;rw[hoo2] at h4;simp only[Bool.and_eq_true] at h4
      have em:bOw q.1 q.2.2 (bPg y p.1 v)=bOw q.1 q.2.2 y:=by
       funext j;unfold bOw
       cases hj:(q.1::q.2.2).contains j with
       | false=>rfl
       | true=>
        show bPg y p.1 v j=y j;refine bPj y v fun ej=>?_;subst ej;have hj':p.1∈q.1::q.2.2:=(by simpa using hj);rcases List.mem_cons.1 hj' with ej | ej
        ·exact e ej
        ·have h5:=List.all_eq_true.1 h4.2.2 p.1 ej;obtain⟨e5,he5,hb5⟩:=Array.any_eq_true'.1 h5;simp only[Bool.and_eq_true,beq_iff_eq] at hb5;have h6:=hcl1 q.1 o2 hoo2 hqd e5 he5 hb5.1;rw[hb5.2,hun] at h6;cases h6
      rw[em];exact h3
 obtain⟨y,hy⟩:=bOo D a hn1
 have hl0:bOk D listed=D.length:=by
  unfold bOk;rw[List.filter_eq_self.2];intro p hp;have h1:=List.all_eq_true.1 hall p hp;simp only[Bool.and_eq_true] at h1;exact h1.1
 have h:=key D.length listed y w hl0 hsz0 (aQq hcl) (fun _ h=>h) (fun _ _=>rfl) (Below.refl _ _) (fun p hp hd=>by
  have h1:=List.all_eq_true.1 hall p hp;simp only[Bool.and_eq_true] at h1;rw[hd] at h1
  cases h1.1)
 rw[hy] at h;exact h
end
section
variable {P:Program} {w:World}
theorem bPk (base:Nat) (t ty e:TypeId) (i:TypeInfo) (z:Value) (size bytes:Nat) (ht:P.underlying t=some (.slice e)) (hi:P.info? e=some i) (hz:i.zero=some z)
  (hsize:i.size=size) (hby:i.bytes=bytes) (hzs:z.cells.size=size) (hsz:0<size)
  (p:Option Addr) (n:Nat) (xs:List Value) (hown:w.ownsRow base e size (.slice p n n) n xs)
  (a:Addr) (m c:Nat) (news:List Value) (hl:news.length=m*size) (hnews:∀ j u,news[j]? = some u→w.cell? (a.add j)=some u) (h1:∀ u∈news,u.oneCell'=true)
  (h63:n+m≤maxLen) (hbytes:(n+m)*bytes≤140737488355328) (hbase:base≤w.heap.size) :
  ∃ v' w',(Builtin.append_ #[t,t] ty #[.slice p n n,.slice (some a) m c]).run P w=.ok v' w'∧w'.ownsRow base e size v' (n+m) (xs++news)∧Below w.heap.size w w':=by
 obtain⟨v',w',h2,h3,h4,h5⟩:=run_append_own w base t ty e i z size bytes ht hi hz hsize hby hzs hsz (.slice p n n) n xs hown a m c news hl hnews h1 h63 hbytes hbase;refine⟨v',w',h2,h3,⟨h4.os,h4.tape,h4.output,h4.size,fun k hk=>?_⟩⟩;by_cases hq:some k=(Value.slice p n n).ownBlock
 ·subst hsize
  subst hby
  rcases hown.2 with ⟨e1,-⟩ | ⟨g,cap,cur,e1,hbg,hg,hnc,hcm,hcs,htake⟩
  ·rw[e1] at hq;cases hq
  ·injection e1 with e1 _ e2;subst e1;subst e2;have hkg:k=g:=(by simpa [Value.ownBlock] using hq);subst hkg;by_cases hm:m=0
   ·subst hm;have hn:news=[]:=List.eq_nil_of_length_eq_zero (by simpa using hl);subst hn;have hr:=run_append_room (P:=P) w t ty e i ht hi k n n cur hg a 0 c [] (by simp) hnews h1 (by omega) (by simp[hcs]);rw[hr] at h2;injection h2 with _ h2;rw[←h2,setRow_heap w k cur _ e _ hg,hg];simp
   ·have holds:∀ j u,xs[j]? = some u→w.cell? ((⟨k,0,none⟩:Addr).add j)=some u:=hown.cells (g:=k) rfl;have hr:=run_append_grow (P:=P) w t ty e i z ht hi hz ⟨k,0,none⟩ n n xs hown.1 holds a m c news hl hnews (by omega) (by unfold maxLen at h63;omega) (growslice_fits (by omega) hbytes);rw[hr] at h2;injection h2 with _ h2;rw[←h2];exact((Below.refl w.drew.heap.size w.drew).alloc (Nat.le_refl _) _).block k hk
 ·exact h4.block k hk hq
theorem bQq (base:Nat) (t ty e:TypeId) (i:TypeInfo) (z:Value) (size bytes:Nat) (ht:P.underlying t=some (.slice e)) (hi:P.info? e=some i) (hz:i.zero=some z)
  (hsize:i.size=size) (hby:i.bytes=bytes) (hzs:z.cells.size=size) (hsz:0<size)
  (p:Option Addr) (n:Nat) (xs:List Value) (hown:w.ownsRow base e size (.slice p n n) n xs)
  (po:Option Addr) (m c:Nat) (news:List Value) (hl:news.length=m*size) (hnews:∀ j u,news[j]? = some u→∃ ad,po=some ad∧w.cell? (ad.add j)=some u) (h1:∀ u∈news,u.oneCell'=true)
  (h63:n+m≤maxLen) (hbytes:(n+m)*bytes≤140737488355328) (hbase:base≤w.heap.size) :
  ∃ v' w',(Builtin.append_ #[t,t] ty #[.slice p n n,.slice po m c]).run P w=.ok v' w'∧w'.ownsRow base e size v' (n+m) (xs++news)∧Below w.heap.size w w':=by
 cases po with
 | some ad=>
  exact bPk base t ty e i z size bytes ht hi hz hsize hby hzs hsz p n xs hown ad m c news hl (fun j u hj=>by
   obtain⟨a,e1,h2⟩:=hnews j u hj;injection e1 with e1;rw[e1]
   exact h2) h1 h63 hbytes hbase
 | none=>
  have hn:news=[]:=by
   cases news with
   | nil=>rfl
   | cons u r=>obtain⟨a,e1,-⟩:=hnews 0 u rfl;cases e1
  subst hn
  have hm:m=0:=by
   rcases Nat.eq_zero_or_pos m with q | q
   ·exact q
   ·have:=Nat.mul_pos q hsz;simp at hl;omega
  subst hm;refine⟨.slice p n n,w,?_,by simpa using hown,Below.refl _ _⟩;subst hsize;rcases hown.2 with ⟨e1,e2⟩ | ⟨g,cap,cur,e1,_,_,hnc,_⟩
  ·rw[e1];simp[Builtin.append_,run_underlying ht,sizeOf,typeInfo,hi,Builtin.lenOf,Builtin.firstCells]
  ·rw[e1];simp[Builtin.append_,run_underlying ht,sizeOf,typeInfo,hi,Builtin.lenOf,Builtin.firstCells,hnc,storeCells]
theorem bQs {o:Oper} {a:Act} {K:Act→World→Prop} {Q:Exit→Act→World→Prop} (base:Nat) (e:TypeId) (i:TypeInfo) (z:Value) (size bytes:Nat) (p:Option Addr) (n:Nat) (xs:List Value) (po:Option Addr) (m c:Nat) (news:List Value) (s x:Operand) (t:TypeId)
  (hown:w.ownsRow base e size (.slice p n n) n xs) (hnews:∀ j u,news[j]? = some u→∃ ad,po=some ad∧w.cell? (ad.add j)=some u) (hbase:base≤w.heap.size)
  (h:∀ v' w',w'.ownsRow base e size v' (n+m) (xs++news)→Below w.heap.size w w'→K (a.put o.dst v') w')
  (hi:P.info? e=some i) (hz:i.zero=some z) (hsize:i.size=size) (hby:i.bytes=bytes)
  (hl:news.length=m*size) (h1:∀ u∈news,u.oneCell'=true) (h63:n+m≤maxLen) (hbytes:(n+m)*bytes≤140737488355328)
  (ht:P.underlying t=some (.slice e)) (ho:o.op=.call { callee:=.builtin .append,args:=#[s,x],argTypes:=#[t,t] }:=by rfl)
  (hs:a.eval s=.slice p n n:=by rfl) (hx:a.eval x=.slice po m c:=by rfl) (hzs:z.cells.size=size:=by rfl) (hsz:0<size:=by decide):o.wp P a w K Q:=by
 obtain⟨v',w',hr,h2,h3⟩:=bQq (P:=P) (w:=w) base t o.type e i z size bytes ht hi hz hsize hby hzs hsz p n xs hown po m c news hl hnews h1 h63 hbytes hbase;unfold Oper.wp execOp;simp only[ho,resolve,invoke,builtin,Sem.run_bind,Sem.run_pure,Result.andThen_ok,List.map_toArray,List.map_cons,List.map_nil,hs,hx,hr];exact h v' w' h2 h3
theorem bPm {o:Oper} {a:Act} {K:Act→World→Prop} {Q:Exit→Act→World→Prop} (base:Nat) (e:TypeId) (i:TypeInfo) (z:Value) (size bytes:Nat) (p:Option Addr) (n:Nat) (xs:List Value) (ad:Addr) (m c:Nat) (news:List Value) (s x:Operand) (t:TypeId)
  (hown:w.ownsRow base e size (.slice p n n) n xs) (hnews:∀ j u,news[j]? = some u→w.cell? (ad.add j)=some u) (hbase:base≤w.heap.size)
  (h:∀ v' w',w'.ownsRow base e size v' (n+m) (xs++news)→Below w.heap.size w w'→K (a.put o.dst v') w')
  (hi:P.info? e=some i) (hz:i.zero=some z) (hsize:i.size=size) (hby:i.bytes=bytes)
  (hl:news.length=m*size) (h1:∀ u∈news,u.oneCell'=true) (h63:n+m≤maxLen) (hbytes:(n+m)*bytes≤140737488355328)
  (ht:P.underlying t=some (.slice e)) (ho:o.op=.call { callee:=.builtin .append,args:=#[s,x],argTypes:=#[t,t] }:=by rfl)
  (hs:a.eval s=.slice p n n:=by rfl) (hx:a.eval x=.slice (some ad) m c:=by rfl) (hzs:z.cells.size=size:=by rfl) (hsz:0<size:=by decide):o.wp P a w K Q:=by
 obtain⟨v',w',hr,h2,h3⟩:=bPk (P:=P) (w:=w) base t o.type e i z size bytes ht hi hz hsize hby hzs hsz p n xs hown ad m c news hl hnews h1 h63 hbytes hbase;unfold Oper.wp execOp;simp only[ho,resolve,invoke,builtin,Sem.run_bind,Sem.run_pure,Result.andThen_ok,List.map_toArray,List.map_cons,List.map_nil,hs,hx,hr];exact h v' w' h2 h3
end
section
variable {P:Program} {ops:Array Oper} {Q:Exit→Act→World→Prop}
theorem wst (i d:Nat) (ds:List Nat) {Φ:Nat→bOm} {A A':(Nat→Value)→Act} {w0:World} {op:Op} {ty:TypeId} {pos:String} {aft:Array Edge}
  (hs:∀ y w w',Φ i y w→Below w.heap.size w w'→Φ i y w')
  (h:∀ y w,Below w0.heap.size w0 w→(∀ k∈ds,Φ k y w)→∀ K:Act→World→Prop,Hid (∀ v w',Φ i (bPg y i v) w'→Below w.heap.size w w'→K ((A' y).put (some d) v) w')→Oper.wp P ⟨some d,op,ty,pos,aft,none⟩ (A' y) w K Q)
  (hi:ops[i]? = some ⟨some d,op,ty,pos,aft,none⟩:=by rfl) (hA:∀ y,A y=A' y:=by intro y;simp only[bOa,Act.put,sq];rfl)
  (hm:∀ y w,Φ i (bOw i ds y) w=Φ i y w:=by intro y w;rfl):bPd P ops Q Φ A w0 (i,d,ds):=
 ⟨hm,hs,_,hi,rfl,rfl,fun y w hb hd K hK=>by
  rw[hA] at hK ⊢
  exact h y w hb hd K hK⟩
end
end
section
open Go.RowKit Go.Lib
def bRw (h:aI):Bool:=cZ h&&(decide (6<(cA aP h).length)||decide (5<(cY h).length))
def bRu (h:aI):aI:=if bRw (bHg h)=true then ((bHg h).1,(bHg h).2.1,[]) else bHg h
theorem bSn (h:aI):cU (bRu h):=by
 have h1:=bUn h;unfold bRu;split
 ·exact⟨h1.1,h1.2.1,Nat.zero_le _,h1.2.2.2.1,h1.2.2.2.2.1,fun x hx=>by cases hx⟩
 ·exact h1
theorem bSq {h:aI} (hn:∀ o∈bU (bHg h),-9223372036854775808≤o.2.2.2∧o.2.2.2≤9223372036854775807):∀ o∈bU (bRu h),-9223372036854775808≤o.2.2.2∧o.2.2.2≤9223372036854775807:=by
 unfold bRu;split
 ·intro o ho;cases ho
 ·exact hn
theorem bRx (h:aI):bHg (bRu h)=bRu h:=by
 have h1:=bSb h;unfold bRu;split
 ·have e1:(bHg (bHg h)).1=(bHg h).1:=(by rw[h1]);have e2:(bHg (bHg h)).2.1=(bHg h).2.1:=(by rw[h1]);exact Prod.ext e1 (Prod.ext e2 rfl)
 ·exact h1
theorem bSk (h:aI):bRu (bRu h)=bRu h:=by
 have h1:=bRx h;rw[bRu,h1]
 have h2:bRw (bRu h)=false:=by
  cases hb:bRw (bRu h) with
  | false=>rfl
  | true=>
   by_cases q:bRw (bHg h)=true
   ·have e:bRu h=((bHg h).1,(bHg h).2.1,[]):=(by unfold bRu;rw[if_pos q]);rw[e] at hb;unfold bRw at hb;rw[Bool.and_eq_true,Bool.or_eq_true] at hb;rcases hb.2 with k | k
    ·rw[jZ _ hb.1,uR] at k;simp at k
    ·rw[kF hb.1,yY] at k;simp at k
   ·have e:bRu h=bHg h:=(by unfold bRu;rw[if_neg q]);rw[e] at hb;exact absurd hb q
 rw[if_neg (by rw[h2];simp)]
theorem bSo (h:aI) (hm:cZ (bRu h)=true):(cA aP (bRu h)).length≤6:=by
 have h2:bRw (bRu h)=false:=by
  have e:=bSk h;rw[bRu,bRx h] at e
  cases hb:bRw (bRu h) with
  | false=>rfl
  | true=>
   rw[if_pos hb] at e;have e2:(bRu h).2.2=[]:=(by rw[←e]);unfold bRw at hb;rw[hm,Bool.true_and,Bool.or_eq_true] at hb;rcases hb with k | k
   ·rw[jZ _ hm,uR,e2] at k;simp at k
   ·rw[kF hm,yY,e2] at k;simp at k
 unfold bRw at h2;rw[hm,Bool.true_and,Bool.or_eq_false_iff] at h2;have:=of_decide_eq_false h2.1;omega
theorem bRt {w:World} {B:Nat} {v:Value} {h:aI} {p0 p1 p2:Option Addr} {n0 n1 n2 c0 c1 c2:Nat} (hB:Blk w B 25 [.slice none 0 0,.slice none 0 0,.slice none 0 0]) (hv:cJ w v h) (ha:aBj w v h) :
  Blk (((w.setCell ⟨B,0,none⟩ (.slice p0 n0 c0)).setCell ⟨B,1,none⟩ (.slice p1 n1 c1)).setCell ⟨B,2,none⟩ (.slice p2 n2 c2)) B 25 [.slice p0 n0 c0,.slice p1 n1 c1,.slice p2 n2 c2] ∧
  cJ (((w.setCell ⟨B,0,none⟩ (.slice p0 n0 c0)).setCell ⟨B,1,none⟩ (.slice p1 n1 c1)).setCell ⟨B,2,none⟩ (.slice p2 n2 c2)) v h ∧
  aBj (((w.setCell ⟨B,0,none⟩ (.slice p0 n0 c0)).setCell ⟨B,1,none⟩ (.slice p1 n1 c1)).setCell ⟨B,2,none⟩ (.slice p2 n2 c2)) v h:=by
 have s0:aBk w B 25 [.slice none 0 0,.slice none 0 0,.slice none 0 0]:=⟨hB,by simp⟩;have s1:=s0.set 0 p0 n0 c0;have s2:=s1.set 1 p1 n1 c1;have s3:=s2.set 2 p2 n2 c2;exact⟨s3.1,bTv s2 2 _ (bTv s1 1 _ (bTv s0 0 _ hv)),bTx s2 2 _ (bTx s1 1 _ (bTx s0 0 _ ha))⟩
theorem bRv {w:World} {b:Nat} {x y z:Value} (h:Blk w b 25 [x,y,z]):(loadVar 25 ⟨b,0,none⟩).run Tryz.prog w=.ok (.agg #[x,y,z]) w:=by
 have hr:w.rangeAt b 0 [x,y,z]:=fun j v hj=>(by rw[Nat.zero_add];exact h.cell j hj);exact run_loadVar_mid (P:=Tryz.prog) w b 0 25 [x,y,z] _ hr Tryz.underlying25 rfl (by kernel_rfl)
theorem bSg {w:World} {v:Value} {h:aI} (hv:aBj w v h):∃ p0 n0 c0 p1 n1 c1 p2 n2 c2,v=.agg #[.slice p0 n0 c0,.slice p1 n1 c1,.slice p2 n2 c2]:=by
 obtain⟨v0,v1,v2,rfl,h0,h1,h2⟩:=hv;obtain⟨p0,c0,rfl,-⟩:=h0;obtain⟨p1,c1,rfl,-⟩:=h1;obtain⟨p2,c2,rfl,-⟩:=h2;exact⟨_,_,_,_,_,_,_,_,_,rfl⟩
theorem bSc {w:World} {v0 v1 v2:Value} {h:aI} (hv:cJ w (.agg #[v0,v1,v2]) h) (ha:aBj w (.agg #[v0,v1,v2]) h):cJ w (.agg #[v0,v1,.slice none 0 0]) (h.1,h.2.1,[])∧aBj w (.agg #[v0,v1,.slice none 0 0]) (h.1,h.2.1,[]):=by
 obtain⟨t0,t1,-⟩:=bUt hv;obtain⟨u0,u1,u2,e,a0,a1,-⟩:=ha;injection e with e;have e':[v0,v1,v2]=[u0,u1,u2]:=congrArg Array.toList e;injection e' with e0 e';injection e' with e1 e';subst e0;subst e1;exact⟨⟨_,_,_,rfl,t0,t1,⟨none,0,rfl,fun j hj=>absurd hj (Nat.not_lt_zero j)⟩⟩,⟨_,_,_,rfl,a0,a1,⟨none,0,rfl,Nat.le_refl _,Nat.zero_le _,fun j hj=>absurd hj (Nat.not_lt_zero j)⟩⟩⟩
set_option maxRecDepth 100000 in
set_option maxHeartbeats 8000000 in
theorem bSp (w:World) (v:Value) (h:aI) (hv:aBj w v h) :
  Calls Tryz.prog 6 #[v] w fun e w'=>∃ v',e=.returned v'∧cJ w' v' (bRu h)∧aBj w' v' (bRu h)∧Below w.heap.size w w':=by
 obtain⟨p0,n0,c0,p1,n1,c1,p2,n2,c2,rfl⟩:=bSg hv;have hal:=((Below.refl w.heap.size w).alloc (Nat.le_refl _) (.cells #[.slice p0 n0 c0,.slice p1 n1 c1,.slice p2 n2 c2] 25)).alloc (by simp) (.cells #[.slice none 0 0,.slice none 0 0,.slice none 0 0] 25);have hbx:=(Blk.new w 25 [.slice p0 n0 c0,.slice p1 n1 c1,.slice p2 n2 c2]).alloc (.cells #[.slice none 0 0,.slice none 0 0,.slice none 0 0] 25);have hrx:=Blk.new (w.alloc (.cells #[.slice p0 n0 c0,.slice p1 n1 c1,.slice p2 n2 c2] 25)) 25 [.slice none 0 0,.slice none 0 0,.slice none 0 0];simp only[World.size_alloc] at hrx;have HFw:=lhid (bVg _ _ h (hv.below hal));have HMd:=lhid (bUn h);have HF0:Hid (bRu h=if bRw (bHg h)=true then ((bHg h).1,(bHg h).2.1,[]) else bHg h):=lhid rfl;obtain⟨HH,hHH⟩:∃ q,bHg h=q:=⟨_,rfl⟩;rw[hHH] at HFw HMd HF0;have HAL:=lhid hal;have HBX:=lhid hbx;have HRX0:=lhid hrx;clear hv hal hbx hrx hHH;go_enter Tryz.func6,Tryz.ntmps6;(go_upto_region 1 with fail);obtain⟨W1,hW1⟩:∃ q,(w.alloc (.cells #[.slice p0 n0 c0,.slice p1 n1 c1,.slice p2 n2 c2] 25)).alloc (.cells #[.slice none 0 0,.slice none 0 0,.slice none 0 0] 25)=q:=⟨_,rfl⟩;rw[hW1] at HAL HBX HRX0 HFw ⊢;clear hW1;have x0:=HBX.out.cell 0 rfl;have x1:=HBX.out.cell 1 rfl;have x2:=HBX.out.cell 2 rfl;(go_wp2_with fail);refine HFw.out.mono ?_;rintro e w1 ⟨v1,rfl,hv1,ha1,hb1⟩;obtain⟨q0,d0,q1,d1,q2,d2,rfl⟩:=bTy hv1;have hst:=bUy HAL.out HBX.out (by simp) hb1 hv1 ha1;have k0:=(HBX.out.later hb1).cell 0 rfl;have k1:=(HBX.out.later hb1).cell 1 rfl;have k2:=(HBX.out.later hb1).cell 2 rfl;have f0:=(HBX.out.later hb1).frozen 0;have f1:=(HBX.out.later hb1).frozen 1;have f2:=(HBX.out.later hb1).frozen 2;have HR1:=lhid (HRX0.out.later hb1);clear hv1 ha1 hb1 HFw x0 x1 x2;(go_upto_region 2 with fail);obtain⟨W2,hW2⟩:∃ q,(((w1.setCell ⟨w.heap.size,0,none⟩ (.slice q0 HH.1.length d0)).setCell ⟨w.heap.size,1,none⟩ (.slice q1 HH.2.1.length d1)).setCell ⟨w.heap.size,2,none⟩ (.slice q2 HH.2.2.length d2))=q:=⟨_,rfl⟩
 have HRX:Hid (Blk W2 (w.heap.size+1) 25 [.slice none 0 0,.slice none 0 0,.slice none 0 0]):=lhid (by
  rw[←hW2]
  exact((HR1.out.far (a:=⟨w.heap.size,0,none⟩) (by show w.heap.size+1≠w.heap.size;omega) _).far (a:=⟨w.heap.size,1,none⟩) (by show w.heap.size+1≠w.heap.size;omega) _).far (a:=⟨w.heap.size,2,none⟩) (by show w.heap.size+1≠w.heap.size;omega) _)
 rw[hW2] at hst ⊢;obtain⟨hk,hv2,ha2,hb2⟩:=hst;have HK:=lhid hk;have HV:=lhid hv2;have HA:=lhid ha2;have HB:=lhid hb2;have hmy:=bUk hv2 HMd.out;have HIn:=lhid (fun w' (hb:Below W2.heap.size W2 w')=>bUv (hv2.below hb) HMd.out);have HLo:=lhid (fun w' (hb:Below W2.heap.size W2 w')=>bUp (hv2.below hb) HMd.out);clear hk hv2 ha2 hb2 hW2 k0 k1 k2 f0 f1 f2 HR1 HRX0;have g0:=HK.out.cell 0 rfl;have g1:=HK.out.cell 1 rfl;have g2:=HK.out.cell 2 rfl;have f2:=HK.out.frozen 2
 cases hmm:cZ HH with
 | false=>
  rw[pH hmm] at hmy;have HF:Hid (bRu h=HH):=lhid (by rw[HF0.out,if_neg (by unfold bRw;rw[hmm];simp)]);have HMy:=lhid hmy;clear hmm hmy HIn HLo HF0;(go_wp2_with fail);refine HMy.out.mono ?_;rintro e w3 ⟨rfl,hb3⟩;have HK3:=lhid (HK.out.later hb3);have HV3:=lhid (HV.out.below hb3);have HA3:=lhid (HA.out.below hb3);have HB3:=lhid (aB HB.out hb3);have HRX3:=lhid (HRX.out.later hb3);clear hb3 HMy g0 g1 g2 f2 HRX HK;have HZ:=lhid (Below.refl w3.heap.size w3);have g0:=HK3.out.cell 0 rfl;have g1:=HK3.out.cell 1 rfl;have g2:=HK3.out.cell 2 rfl;have HR:=HRX3;have r0:=HR.out.cell 0 rfl;have r1:=HR.out.cell 1 rfl;have r2:=HR.out.cell 2 rfl;have f0:=HR.out.frozen 0;have f1:=HR.out.frozen 1;have f2:=HR.out.frozen 2;(go_wp2_with fail);refine bodyPost_ret (bS Tryz.results6 _ _ _ _ _ rfl (bRv (bRt HR.out HV3.out HA3.out).1)) rfl ?_;rw[HF.out];exact⟨_,rfl,(bRt HR.out HV3.out HA3.out).2.1,(bRt HR.out HV3.out HA3.out).2.2,(((HB3.out.setCell (by show w.heap.size≤w.heap.size+1;omega) _).setCell (by show w.heap.size≤w.heap.size+1;omega) _).setCell (by show w.heap.size≤w.heap.size+1;omega) _)⟩
 | true=>
  rw[kT hmm] at hmy;have e0:cA aP HH=jH aP HH.2.2 HH.2.2.length:=(by unfold cA;rw[if_pos hmm]);rw[←e0] at HIn;rw[←kF hmm] at HLo;have HBg:Hid (bRw HH=(decide (6<(cA aP HH).length)||decide (5<(cY HH).length))):=lhid (by unfold bRw;rw[hmm,Bool.true_and]);have HMy:=lhid hmy
  have hi9:(cA aP HH).length≤1000:=by
   rw[e0];have:=xC aP HH.2.2 HH.2.2.length;have:=HMd.out.2.2.1;omega
  have hl9:=aDn hmm;clear hmm hmy e0;obtain⟨NI,hNI⟩:∃ q,(cA aP HH).length=q:=⟨_,rfl⟩;obtain⟨NL,hNL⟩:∃ q,(cY HH).length=q:=⟨_,rfl⟩
  have HIn1:Hid (∀ w',Below W2.heap.size W2 w'→Calls Tryz.prog 26 #[.agg #[.slice q0 HH.1.length d0,.slice q1 HH.2.1.length d1,.slice q2 HH.2.2.length d2]] w' fun e w2=>(∃ p c,e=.returned (.slice p NI c))∧Below w'.heap.size w' w2):=lhid (fun w' hb=>(HIn.out w' hb).mono fun e w2 ⟨v',h1,h2,h3⟩=>⟨by
   obtain⟨p,c,h4,-⟩:=h2
   exact⟨p,c,by rw[h1,h4,hNI]⟩,h3⟩)
  have HLo1:Hid (∀ w',Below W2.heap.size W2 w'→Calls Tryz.prog 27 #[.agg #[.slice q0 HH.1.length d0,.slice q1 HH.2.1.length d1,.slice q2 HH.2.2.length d2]] w' fun e w2=>(∃ p c,e=.returned (.slice p NL c))∧Below w'.heap.size w' w2):=lhid (fun w' hb=>(HLo.out w' hb).mono fun e w2 ⟨v',h1,h2,h3⟩=>⟨by
   obtain⟨p,c,h4,-⟩:=h2
   exact⟨p,c,by rw[h1,h4,hNL]⟩,h3⟩)
  rw[hNI] at HBg hi9;rw[hNL] at HBg hl9;clear hNI hNL HIn HLo;(go_wp2_with fail);refine HMy.out.mono ?_;rintro e w3 ⟨rfl,hb3⟩;have HK3:=lhid (HK.out.later hb3);have HV3:=lhid (HV.out.below hb3);have HA3:=lhid (HA.out.below hb3);have HB3:=lhid (aB HB.out hb3);have HRX3:=lhid (HRX.out.later hb3);have HC3:=lhid hb3;clear hb3 HMy g0 g1 g2 f2 HRX HK;have g0:=HK3.out.cell 0 rfl;have g1:=HK3.out.cell 1 rfl;have g2:=HK3.out.cell 2 rfl;by_cases h6:6<NI
  ·have d6:decide ((NI:Int) > 6)=true:=(by simp;omega);have HF:Hid (bRu h=(HH.1,HH.2.1,[])):=lhid (by rw[HF0.out,if_pos (by rw[HBg.out];simp[h6])]);clear HBg HF0 h6;(go_wp2_with fail);refine(HIn1.out _ HC3.out).mono ?_;rintro e w4 ⟨⟨p4,c4,rfl⟩,hb4⟩;have HR:=lhid (HRX3.out.later hb4);have HN:=lhid (bSc (HV3.out.below hb4) (HA3.out.below hb4));have HKk:=lhid (HK3.out.later hb4);have HBk:=lhid (aB HB3.out hb4);clear hb4 g0 g1 g2 HK3 HV3 HA3 HB3 HRX3 HC3;have g0:=HKk.out.cell 0 rfl;have g1:=HKk.out.cell 1 rfl;have g2:=HKk.out.cell 2 rfl;have f2:=HKk.out.frozen 2;have HKx:=lhid (HKk.out.set 2 (.slice none 0 0));have HRx:=lhid (HR.out.far (a:=⟨w.heap.size,2,none⟩) (by show w.heap.size+1≠w.heap.size;omega) (.slice none 0 0));have sb:aBk w4 w.heap.size 25 [.slice q0 HH.1.length d0,.slice q1 HH.2.1.length d1,.slice q2 HH.2.2.length d2]:=⟨HKk.out,by simp⟩;have HVx:=lhid (bTv sb 2 (.slice none 0 0) HN.out.1);have HAx:=lhid (bTx sb 2 (.slice none 0 0) HN.out.2);have HBx:Hid (Below w.heap.size w (w4.setCell ⟨w.heap.size,2,none⟩ (.slice none 0 0))):=lhid (HBk.out.setCell (Nat.le_refl _) _);clear sb HN HKk HR;(go_upto_region 4 with fail);obtain⟨W9,hW9⟩:∃ q,w4.setCell ⟨w.heap.size,2,none⟩ (.slice none 0 0)=q:=⟨_,rfl⟩;rw[hW9] at HKx HRx HVx HAx HBx ⊢;clear hW9 g0 g1 g2 f2;have g0:=HKx.out.cell 0 rfl;have g1:=HKx.out.cell 1 rfl;have g2:=HKx.out.cell 2 rfl;have HR:=HRx;have r0:=HR.out.cell 0 rfl;have r1:=HR.out.cell 1 rfl;have r2:=HR.out.cell 2 rfl;have f0:=HR.out.frozen 0;have f1:=HR.out.frozen 1;have f2:=HR.out.frozen 2;(go_wp2_with fail);refine bodyPost_ret (bS Tryz.results6 _ _ _ _ _ rfl (bRv (bRt HR.out HVx.out HAx.out).1)) rfl ?_;rw[HF.out];exact⟨_,rfl,(bRt HR.out HVx.out HAx.out).2.1,(bRt HR.out HVx.out HAx.out).2.2,(((HBx.out.setCell (by show w.heap.size≤w.heap.size+1;omega) _).setCell (by show w.heap.size≤w.heap.size+1;omega) _).setCell (by show w.heap.size≤w.heap.size+1;omega) _)⟩
  ·have d6:decide ((NI:Int) > 6)=false:=(by simp;omega);(go_wp2_with fail);refine(HIn1.out _ HC3.out).mono ?_;rintro e w4 ⟨⟨p4,c4,rfl⟩,hb4⟩;have HK4:=lhid (HK3.out.later hb4);have HV4:=lhid (HV3.out.below hb4);have HA4:=lhid (HA3.out.below hb4);have HB4:=lhid (aB HB3.out hb4);have HRX4:=lhid (HRX3.out.later hb4);have HC4:=lhid (aB HC3.out hb4);clear hb4 HIn1 g0 g1 g2 HK3 HV3 HA3 HB3 HRX3 HC3;have g0:=HK4.out.cell 0 rfl;have g1:=HK4.out.cell 1 rfl;have g2:=HK4.out.cell 2 rfl;by_cases h5:5<NL
   ·have d5:decide ((NL:Int) > 5)=true:=(by simp;omega);have HF:Hid (bRu h=(HH.1,HH.2.1,[])):=lhid (by rw[HF0.out,if_pos (by rw[HBg.out];simp[h5])]);clear HBg HF0 h5;(go_wp2_with fail);refine(HLo1.out _ HC4.out).mono ?_;rintro e w5 ⟨⟨p5,c5,rfl⟩,hb5⟩;have HR:=lhid (HRX4.out.later hb5);have HN:=lhid (bSc (HV4.out.below hb5) (HA4.out.below hb5));have HKk:=lhid (HK4.out.later hb5);have HBk:=lhid (aB HB4.out hb5);clear hb5 g0 g1 g2 HK4 HV4 HA4 HB4 HRX4 HC4;have g0:=HKk.out.cell 0 rfl;have g1:=HKk.out.cell 1 rfl;have g2:=HKk.out.cell 2 rfl;have f2:=HKk.out.frozen 2;have HKx:=lhid (HKk.out.set 2 (.slice none 0 0));have HRx:=lhid (HR.out.far (a:=⟨w.heap.size,2,none⟩) (by show w.heap.size+1≠w.heap.size;omega) (.slice none 0 0));have sb:aBk w5 w.heap.size 25 [.slice q0 HH.1.length d0,.slice q1 HH.2.1.length d1,.slice q2 HH.2.2.length d2]:=⟨HKk.out,by simp⟩;have HVx:=lhid (bTv sb 2 (.slice none 0 0) HN.out.1);have HAx:=lhid (bTx sb 2 (.slice none 0 0) HN.out.2);have HBx:Hid (Below w.heap.size w (w5.setCell ⟨w.heap.size,2,none⟩ (.slice none 0 0))):=lhid (HBk.out.setCell (Nat.le_refl _) _);clear sb HN HKk HR;(go_upto_region 4 with fail);obtain⟨W9,hW9⟩:∃ q,w5.setCell ⟨w.heap.size,2,none⟩ (.slice none 0 0)=q:=⟨_,rfl⟩;rw[hW9] at HKx HRx HVx HAx HBx ⊢;clear hW9 g0 g1 g2 f2;have g0:=HKx.out.cell 0 rfl;have g1:=HKx.out.cell 1 rfl;have g2:=HKx.out.cell 2 rfl;have HR:=HRx;have r0:=HR.out.cell 0 rfl;have r1:=HR.out.cell 1 rfl;have r2:=HR.out.cell 2 rfl;have f0:=HR.out.frozen 0;have f1:=HR.out.frozen 1;have f2:=HR.out.frozen 2;(go_wp2_with fail);refine bodyPost_ret (bS Tryz.results6 _ _ _ _ _ rfl (bRv (bRt HR.out HVx.out HAx.out).1)) rfl ?_;rw[HF.out];exact⟨_,rfl,(bRt HR.out HVx.out HAx.out).2.1,(bRt HR.out HVx.out HAx.out).2.2,(((HBx.out.setCell (by show w.heap.size≤w.heap.size+1;omega) _).setCell (by show w.heap.size≤w.heap.size+1;omega) _).setCell (by show w.heap.size≤w.heap.size+1;omega) _)⟩
   ·have d5:decide ((NL:Int) > 5)=false:=(by simp;omega);have HF:Hid (bRu h=HH):=lhid (by rw[HF0.out,if_neg (by rw[HBg.out];simp[h5];omega)]);clear HBg HF0 h5 h6;(go_wp2_with fail);refine(HLo1.out _ HC4.out).mono ?_;rintro e w5 ⟨⟨p5,c5,rfl⟩,hb5⟩;have HK5:=lhid (HK4.out.later hb5);have HV5:=lhid (HV4.out.below hb5);have HA5:=lhid (HA4.out.below hb5);have HB5:=lhid (aB HB4.out hb5);have HRX5:=lhid (HRX4.out.later hb5);clear hb5 HLo1 g0 g1 g2 HK4 HV4 HA4 HB4 HRX4 HC4;have g0:=HK5.out.cell 0 rfl;have g1:=HK5.out.cell 1 rfl;have g2:=HK5.out.cell 2 rfl;have HR:=HRX5;have r0:=HR.out.cell 0 rfl;have r1:=HR.out.cell 1 rfl;have r2:=HR.out.cell 2 rfl;have f0:=HR.out.frozen 0;have f1:=HR.out.frozen 1;have f2:=HR.out.frozen 2;(go_wp2_with fail);refine bodyPost_ret (bS Tryz.results6 _ _ _ _ _ rfl (bRv (bRt HR.out HV5.out HA5.out).1)) rfl ?_;rw[HF.out];exact⟨_,rfl,(bRt HR.out HV5.out HA5.out).2.1,(bRt HR.out HV5.out HA5.out).2.2,(((HB5.out.setCell (by show w.heap.size≤w.heap.size+1;omega) _).setCell (by show w.heap.size≤w.heap.size+1;omega) _).setCell (by show w.heap.size≤w.heap.size+1;omega) _)⟩
end
section
open Go.RowKit Go.Lib
theorem bTq {h:aI} (hn:bTt h):∀ o∈bU (bHg h),-9223372036854775808≤o.2.2.2∧o.2.2.2≤9223372036854775807:=fun o ho=>by
 obtain⟨t,ht,ho⟩:=List.mem_flatMap.1 ho;exact bTu hn t ht o ho
end
section
open Go.RowKit
section
variable {P:Program} {ops:Array Oper} {Q:Exit→Act→World→Prop} {md:Region.Mode} {S:World→Prop} {late:List Nat}
def bWa (md:Region.Mode) (ops:Array Oper) (n x:Nat) (listed:Array Bool) (D:List bNz):Bool:=
 decide ((D.map (·.1)).Nodup)&&decide ((D.map (·.2.1)).Nodup)&&wZ md ops listed&&decide (listed.size=ops.size) &&
 (D.all fun p=>!listed.getD p.1 true&&match ops[p.1]? with
  | some o=>(o.after.all fun e=>!Region.binds md e||decide (e.on<p.1)&&(listed.getD e.on true||(D.map (·.1)).contains e.on))&&p.2.2.all fun k=>o.after.any fun e=>Region.binds md e&&e.on==k
  | none=>false) &&
 (List.range ops.size).all fun j=>listed.getD j true||(D.map (·.1)).contains j||(D.filter fun p=>p.1 != x).all fun p=>sX md ops n j p.1
theorem bVz {md:Region.Mode} {ops:Array Oper} {n x:Nat} {listed l1:Array Bool} {D:List bNz} (hc:bWa md ops n x listed D=true) (hge:∀ j,listed.getD j true=true→l1.getD j true=true) (hsz:l1.size=ops.size) :
  ∀ m,(∃ p∈D,p.1<m∧l1.getD p.1 true=false)→Region.ready md ops l1≠[]
 | 0,⟨p,_,h,_⟩=>absurd h (Nat.not_lt_zero _)
 | m+1,⟨p,hp,hm,hl⟩=>by
  have hc':=hc;unfold bWa at hc;simp only[Bool.and_eq_true] at hc;have h1:=List.all_eq_true.1 hc.1.2 p hp;simp only[Bool.and_eq_true] at h1
  cases ho:ops[p.1]? with
  | none=>rw[ho] at h1;cases h1.2
  | some o=>
   rw[ho] at h1;simp only[Bool.and_eq_true] at h1;by_cases hex:∃ q∈D,q.1<m∧l1.getD q.1 true=false
   ·exact bVz hc' hge hsz m hex
   ·intro hr
    have hm:p.1∈Region.ready md ops l1:=by
     refine mem_ready.2 ⟨hl,o,ho,fun e he hb=>?_⟩;have h2:=Array.all_eq_true_iff_forall_mem.1 h1.2.1 e he;simp only[hb,Bool.not_true,Bool.false_or,Bool.and_eq_true,decide_eq_true_eq,Bool.or_eq_true] at h2
     have h3:l1.getD e.on true=true:=by
      rcases h2.2 with q | q
      ·exact hge _ q
      ·have q':e.on∈D.map (·.1):=(by simpa using q);obtain⟨r,hr1,hr2⟩:=List.mem_map.1 q'
       cases hq:l1.getD e.on true with
       | true=>rfl
       | false=>exact absurd ⟨r,hr1,by rw[hr2];omega,by rw[hr2];exact hq⟩ hex
     have hlt:e.on<l1.size:=by
      have:=(Array.getElem?_eq_some_iff.1 ho).1;omega
     simp[hlt] at h3 ⊢;exact h3
    rw[hr] at hm;cases hm
theorem wpg (n x:Nat) {dx:Tmp} {op:Op} {ty:TypeId} {pos:String} {aft:Array Edge} (D:List bNz) (F:List bOm) {listed:Array Bool} {a:Act} {w:World} {fuel:Nat} (hS:∀ w',Below w.heap.size w w'→S w')
  (ho:bOp (bPd P ops Q (bOj D F) (bOa D a) w) D)
  (he:∀ y w',Below w.heap.size w w'→bOp (fun p=>bOj D F p.1 y w') D→bT P md ops Q S late fuel (bOd D listed) (bOa D a y) w')
  (hx:∀ y w',Below w.heap.size w w'→(∀ p∈D,p.1≠x→bOj D F p.1 y w')→∃ v,(∀ w,(execOp (bOa D a y).eval ⟨some dx,op,ty,pos,aft,none⟩).run P w=.ok (.value v) w)∧bOj D F x (bPg y x v) w')
  (hQ:∀ v c a w,Q (.panic c) (a.put (some dx) v) w→Q (.panic c) a w) (hsel:Region.noSelect ops=true:=by kernel_rfl)
  (hxo:ops[x]? = some ⟨some dx,op,ty,pos,aft,none⟩:=by rfl) (hfx:Region.free md ops (bOd (D.filter fun p=>p.1 != x) listed) x=true:=by kernel_rfl) (hrx:(Region.ready md ops (bOd (D.filter fun p=>p.1 != x) listed)).contains x=true:=by kernel_rfl)
  (hc:bWa md ops n x listed D=true:=by kernel_rfl):bT P md ops Q S late (fuel+D.length) listed a w:=by
 have hch:=hc;unfold bWa at hch;simp only[Bool.and_eq_true,decide_eq_true_eq] at hch;obtain⟨⟨⟨⟨⟨hn1,hn2⟩,hcl⟩,hsz0⟩,hall⟩,hrest⟩:=hch
 have key:∀ (m:Nat) (l1:Array Bool) (y:Nat→Value) (w1:World),bOk D l1=m→l1.size=ops.size→uK md ops l1→(∀ j,listed.getD j true=true→l1.getD j true=true)→(∀ j,(D.map (·.1)).contains j=false→l1.getD j true=listed.getD j true)→Below w.heap.size w w1→(∀ p∈D,l1.getD p.1 true=true→bOj D F p.1 y w1) →
   bT P md ops Q S late (fuel+m) l1 (bOa D a y) w1:=by
  intro m
  induction m with
  | zero=>
   intro l1 y w1 hm hsz hcl1 hge hout hb hf
   have hd:∀ p∈D,l1.getD p.1 true=true:=fun p hp=>by
    cases hq:l1.getD p.1 true with
    | true=>rfl
    | false=>
     have:p∈D.filter fun p=>!l1.getD p.1 true:=List.mem_filter.2 ⟨hp,by rw[hq];rfl⟩;have h2:(D.filter fun p=>!l1.getD p.1 true)=[]:=List.eq_nil_of_length_eq_zero hm;rw[h2] at this;cases this
   have e:l1=bOd D listed:=by
    apply Array.ext
    ·rw[bOn,hsz,hsz0]
    ·intro j h1 h2;have h3:=bOs D listed j
     have h4:l1.getD j true=(bOd D listed).getD j true:=by
      rw[h3]
      cases hq:(D.map (·.1)).contains j with
      | false=>rw[hout j hq,Bool.or_false]
      | true=>
       have q':j∈D.map (·.1):=(by simpa using hq);obtain⟨r,hr1,rfl⟩:=List.mem_map.1 q';rw[hd r hr1,Bool.or_true]
     simpa [h1,h2] using h4
   rw[Nat.add_zero,e];exact he y w1 hb (bOp.of fun p hp=>hf p hp (hd p hp))
  | succ m ih=>
   intro l1 y w1 hm hsz hcl1 hge hout hb hf
   have hex:∃ p∈D,l1.getD p.1 true=false:=by
    cases hq:D.filter fun p=>!l1.getD p.1 true with
    | nil=>unfold bOk at hm;rw[hq] at hm;cases hm
    | cons p r=>
     have:p∈D.filter fun p=>!l1.getD p.1 true:=(by rw[hq];exact List.mem_cons_self ..);obtain⟨h1,h2⟩:=List.mem_filter.1 this;exact⟨p,h1,by simpa using h2⟩
   by_cases hall2:∀ p∈D,p.1≠x→l1.getD p.1 true=true
   ·obtain⟨p,hp,hun⟩:=hex;have hpx:p.1=x:=Classical.byContradiction fun q=>by rw[hall2 p hp q] at hun;cases hun
    have e:l1=bOd (D.filter fun p=>p.1 != x) listed:=by
     apply Array.ext
     ·rw[bOn,hsz,hsz0]
     ·intro j h1 h2;have h3:=bOs (D.filter fun p=>p.1 != x) listed j
      have h4:l1.getD j true=(bOd (D.filter fun p=>p.1 != x) listed).getD j true:=by
       rw[h3];by_cases hjx:j=x
       ·have hl0:listed.getD j true=false:=by
         have h5:=List.all_eq_true.1 hall p hp;simp only[Bool.and_eq_true] at h5;rw[hjx, ←hpx];simpa using h5.1
        have hnc:((D.filter fun p=>p.1 != x).map (·.1)).contains j=false:=by
         cases hq:((D.filter fun p=>p.1 != x).map (·.1)).contains j with
         | false=>rfl
         | true=>
          have q':j∈(D.filter fun p=>p.1 != x).map (·.1):=(by simpa using hq);obtain⟨r,hr1,hr2⟩:=List.mem_map.1 q';have h6:=(List.mem_filter.1 hr1).2;rw[hr2,hjx] at h6;simp at h6
        rw[hl0,hnc,hjx, ←hpx,hun];rfl
       ·cases hq:(D.map (·.1)).contains j with
        | false=>
         rw[hout j hq]
         have hnc:((D.filter fun p=>p.1 != x).map (·.1)).contains j=false:=by
          cases hq2:((D.filter fun p=>p.1 != x).map (·.1)).contains j with
          | false=>rfl
          | true=>
           have q':j∈(D.filter fun p=>p.1 != x).map (·.1):=(by simpa using hq2);obtain⟨r,hr1,hr2⟩:=List.mem_map.1 q';have:j∈D.map (·.1):=List.mem_map.2 ⟨r,(List.mem_filter.1 hr1).1,hr2⟩;rw[show(D.map (·.1)).contains j=true by simpa using this] at hq;cases hq
         rw[hnc,Bool.or_false]
        | true=>
         have q':j∈D.map (·.1):=(by simpa using hq);obtain⟨r,hr1,rfl⟩:=List.mem_map.1 q';rw[hall2 r hr1 hjx];have:r.1∈(D.filter fun p=>p.1 != x).map (·.1):=List.mem_map.2 ⟨r,List.mem_filter.2 ⟨hr1,by simpa using hjx⟩,rfl⟩;rw[show((D.filter fun p=>p.1 != x).map (·.1)).contains r.1=true by simpa using this,Bool.or_true]
      simpa [h1,h2] using h4
    obtain⟨v,hv,hfv0⟩:=hx y w1 hb fun q hq hqx=>hf q hq (hall2 q hq hqx);have hfv:bOj D F p.1 (bPg y p.1 v) w1:=by rw[hpx];exact hfv0
    have hdx:p.2.1=dx:=by
     obtain⟨-,-,o,hoo,-,hds,-⟩:=ho.mem p hp;rw[hpx,hxo] at hoo;injection hoo with hoo;rw[←hoo] at hds;injection hds with hds;exact hds.symm
    have hi:p.1∈Region.ready md ops l1:=by
     rw[e,hpx];simpa using hrx
    have hb':=Below.refl w1.heap.size w1;refine uJ (i:=x) (v:=v) hxo hsel (by rw[e];exact hfx) (by rw[e];exact hrx) (hQ v) (Or.inl ⟨by simp[Region.wanted],fun w _=>hv w⟩) ?_;rw[←hdx, ←hpx,bOv D a y hn1 hn2 p hp v];have hl2:=bOx hn1 hp hun;refine ih (l1.setIfInBounds p.1 true) (bPg y p.1 v) w1 (by omega) (by simpa using hsz) (hcl1.next hi) (fun j hj=>?_) (fun j hj=>?_) hb (fun q hq hqd=>?_)
    ·by_cases e:p.1=j
     ·subst e;rw[hge _ hj] at hun;cases hun
     ·rw[getD_set_ne true e];exact hge j hj
    ·rw[getD_set_ne true fun e=>by
      subst e;have:(D.map (·.1)).contains p.1=true:=(by simpa using ⟨_,_,hp⟩);rw[this] at hj
      cases hj]
     exact hout j hj
    ·by_cases e:p.1=q.1
     ·rw[←e];exact hfv
     ·rw[getD_set_ne true e] at hqd;obtain⟨hmk,hst,o2,hoo2,-,-,-⟩:=ho.mem q hq;have h3:=hst y w1 w1 (hf q hq hqd) hb';rw[←hmk] at h3 ⊢;have h4:=List.all_eq_true.1 hall q hq;simp only[Bool.and_eq_true] at h4;rw[hoo2] at h4;simp only[Bool.and_eq_true] at h4
      have em:bOw q.1 q.2.2 (bPg y p.1 v)=bOw q.1 q.2.2 y:=by
       funext j;unfold bOw
       cases hj:(q.1::q.2.2).contains j with
       | false=>rfl
       | true=>
        show bPg y p.1 v j=y j;refine bPj y v fun ej=>?_;subst ej;have hj':p.1∈q.1::q.2.2:=(by simpa using hj);rcases List.mem_cons.1 hj' with ej | ej
        ·exact e ej
        ·have h5:=List.all_eq_true.1 h4.2.2 p.1 ej;obtain⟨e5,he5,hb5⟩:=Array.any_eq_true'.1 h5;simp only[Bool.and_eq_true,beq_iff_eq] at hb5;have h6:=hcl1 q.1 o2 hoo2 hqd e5 he5 hb5.1;rw[hb5.2,hun] at h6;cases h6
      rw[em];exact h3
   have hex2:∃ p∈D,p.1≠x∧l1.getD p.1 true=false:=by
    refine Classical.byContradiction fun hno=>hall2 fun p hp hpx=>?_
    cases hq:l1.getD p.1 true with
    | true=>rfl
    | false=>exact absurd ⟨p,hp,hpx,hq⟩ hno
   refine⟨fun hr=>?_,fun i hi=>?_⟩
   ·obtain⟨p,hp,hl⟩:=hex;exact absurd hr (bVz hc hge hsz (p.1+1) ⟨p,hp,Nat.lt_succ_self _,hl⟩)
   ·have hiD:∃ p∈D,p.1=i:=by
     refine Classical.byContradiction fun hno=>?_;obtain⟨hun,o,hoi,-⟩:=mem_ready.1 hi
     have hq:(D.map (·.1)).contains i=false:=by
      cases hq:(D.map (·.1)).contains i with
      | false=>rfl
      | true=>
       have q':i∈D.map (·.1):=(by simpa using hq);obtain⟨r,hr1,hr2⟩:=List.mem_map.1 q';exact absurd ⟨r,hr1,hr2⟩ hno
     have hlt:i<ops.size:=(Array.getElem?_eq_some_iff.1 hoi).1;have h1:=List.all_eq_true.1 hrest i (List.mem_range.2 hlt);rw[←hout i hq,hun,hq,Bool.false_or,Bool.false_or] at h1;obtain⟨p,hp,hpx,hl⟩:=hex2;exact(aAa hcl1 hl n i (List.all_eq_true.1 h1 p (List.mem_filter.2 ⟨hp,by simpa using hpx⟩))).2 hi
    obtain⟨p,hp,rfl⟩:=hiD;obtain⟨hun,o',hoi',hon⟩:=mem_ready.1 hi;obtain⟨-,-,o,hoo,hgd,hds,hstep⟩:=ho.mem p hp;have h1:=List.all_eq_true.1 hall p hp;simp only[Bool.and_eq_true] at h1;rw[hoo] at h1;simp only[Bool.and_eq_true] at h1;have hready:=aIq hi hoo
    have hdone:∀ k∈p.2.2,l1.getD k true=true:=fun k hk=>by
     have h2:=List.all_eq_true.1 h1.2.2 k hk;obtain⟨e,he,hb2⟩:=Array.any_eq_true'.1 h2;simp only[Bool.and_eq_true,beq_iff_eq] at hb2;rw[←hb2.2];exact hready e he hb2.1
    have hfk:∀ k∈p.2.2,bOj D F k y w1:=fun k hk=>by
     by_cases hq:∃ q∈D,q.1=k
     ·obtain⟨q,hq1,rfl⟩:=hq;exact hf q hq1 (hdone _ hk)
     ·have:∀ (D:List bNz) (F:List bOm),(¬ ∃ q∈D,q.1=k)→bOj D F k y w1:=by
       intro D
       induction D with
       | nil=>intro F _;cases F<;>trivial
       | cons q D ih=>
        intro F hno
        cases F with
        | nil=>trivial
        | cons f F=>
         unfold bOj
         rw[show(q.1==k)=false by
          cases hqk:q.1==k with
          | false=>rfl
          | true=>exact absurd ⟨q,List.mem_cons_self ..,by simpa using hqk⟩ hno]
         exact ih F fun ⟨r,h1,h2⟩=>hno ⟨r,List.mem_cons_of_mem _ h1,h2⟩
      exact this D F hq
    have hw:Region.wanted o (yielded ops (bOa D a y).tmps)=true:=(by simp[Region.wanted,hgd]);unfold wpOp;rw[hoo];simp only[hw,if_true];refine .inl (hstep y w1 hb hfk _ (lhid fun v w' hfv hb'=>⟨fun _ _=>hS _ (aB hb hb'),?_⟩));rw[bOv D a y hn1 hn2 p hp v];have hl2:=bOx hn1 hp hun;refine ih (l1.setIfInBounds p.1 true) (bPg y p.1 v) w' (by omega) (by simpa using hsz) (hcl1.next hi) (fun j hj=>?_) (fun j hj=>?_) (aB hb hb') (fun q hq hqd=>?_)
    ·by_cases e:p.1=j
     ·subst e;rw[hge _ hj] at hun;cases hun
     ·rw[getD_set_ne true e];exact hge j hj
    ·rw[getD_set_ne true fun e=>by
      subst e;have:(D.map (·.1)).contains p.1=true:=(by simpa using ⟨_,_,hp⟩);rw[this] at hj
      cases hj]
     exact hout j hj
    ·by_cases e:p.1=q.1
     ·rw[←e];exact hfv
     ·rw[getD_set_ne true e] at hqd;obtain⟨hmk,hst,o2,hoo2,-,-,-⟩:=ho.mem q hq;have h3:=hst y w1 w' (hf q hq hqd) hb';rw[←hmk] at h3 ⊢;have h4:=List.all_eq_true.1 hall q hq;simp only[Bool.and_eq_true] at h4;rw[hoo2] at h4;simp only[Bool.and_eq_true] at h4
      have em:bOw q.1 q.2.2 (bPg y p.1 v)=bOw q.1 q.2.2 y:=by
       funext j;unfold bOw
       cases hj:(q.1::q.2.2).contains j with
       | false=>rfl
       | true=>
        show bPg y p.1 v j=y j;refine bPj y v fun ej=>?_;subst ej;have hj':p.1∈q.1::q.2.2:=(by simpa using hj);rcases List.mem_cons.1 hj' with ej | ej
        ·exact e ej
        ·have h5:=List.all_eq_true.1 h4.2.2 p.1 ej;obtain⟨e5,he5,hb5⟩:=Array.any_eq_true'.1 h5;simp only[Bool.and_eq_true,beq_iff_eq] at hb5;have h6:=hcl1 q.1 o2 hoo2 hqd e5 he5 hb5.1;rw[hb5.2,hun] at h6;cases h6
      rw[em];exact h3
 obtain⟨y,hy⟩:=bOo D a hn1
 have hl0:bOk D listed=D.length:=by
  unfold bOk;rw[List.filter_eq_self.2];intro p hp;have h1:=List.all_eq_true.1 hall p hp;simp only[Bool.and_eq_true] at h1;exact h1.1
 have h:=key D.length listed y w hl0 hsz0 (aQq hcl) (fun _ h=>h) (fun _ _=>rfl) (Below.refl _ _) (fun p hp hd=>by
  have h1:=List.all_eq_true.1 hall p hp;simp only[Bool.and_eq_true] at h1;rw[hd] at h1
  cases h1.1)
 rw[hy] at h;exact h
end
end
section
open Go.RowKit Go.Lib
theorem bVu {h:aI} (hm:cU h) {m:bK} (ht:nX h m):m.1.length≤1000∧m.2.length≤1000:=by
 obtain⟨h0,h1,h2⟩:=pC ht;have h3:=aDn h0;have h4:=hm.2.2.1
 have h5:(cA aP h).length≤h.2.2.length:=by
  have e:(cA aP h).length=(h.2.2.filter aP).length:=h1.symm.trans ((jP h m).1 ht.1).c;rw[e];exact List.length_filter_le _ _
 omega
theorem bVw {h:aI} (hm:cU h):(yM h).1.length≤1000∧(yM h).2.length≤1000:=by
 cases hmm:cZ h with
 | true=>rw[aRb hmm];exact bVu hm (bJw hmm)
 | false=>rw[aWz hmm];exact⟨Nat.zero_le _,Nat.zero_le _⟩
theorem bVv {h:aI} {m:bK} (hn:(mB h m).2=false):(mB h m).1=([],[]):=by
 unfold mB at hn ⊢;split
 ·rename_i ht;rw[if_pos ht] at hn;unfold goE at hn ⊢;split
  ·rename_i h1;rw[if_pos h1] at hn;cases hn
  ·rename_i h1;rw[if_neg h1] at hn;split
   ·rename_i h2;rw[if_pos h2] at hn;cases hn
   ·rfl
 ·rfl
theorem bVx {h:aI} (hm:cU h) (m:bK):(mB h m).1.1.length≤1000∧(mB h m).1.2.length≤1000:=by
 cases hn:(mB h m).2 with
 | false=>rw[bVv hn];exact⟨Nat.zero_le _,Nat.zero_le _⟩
 | true=>
  by_cases ht:nX h m
  ·exact bVu hm (bKu ht hn).1
  ·rw[aVd ht] at hn;cases hn
end
end Go.Proofs.YtdfegfagedeilaaGreatDoor
