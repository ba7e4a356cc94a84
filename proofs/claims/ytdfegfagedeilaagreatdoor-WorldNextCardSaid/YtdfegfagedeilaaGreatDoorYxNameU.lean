/-
  The walk of layer 2's reference (name): what a name is. No conditions.
-/
import Derived.Test.YtdfegfagedeilaaGreatDoorYNd
namespace Go.Proofs.YtdfegfagedeilaaGreatDoor
open Go.RowKit Go.Lib
theorem aOk (c:Nat):oR c=true↔127<c∨c=95∨(48≤c∧c≤57)∨(97≤c∧c≤122)∨(65≤c∧c≤90):=by
 simp[oR,dig];omega
theorem bEq (c:Nat) (h:oR c=false):c<48∨(57<c∧c<65)∨(90<c∧c<95)∨c=96∨(122<c∧c≤127):=by
 have:¬oR c=true:=(by simp[h]);rw[aOk] at this;omega
theorem aSz (r:List Nat) (k:Nat) (hk:k<r.length) (h:(r.take k).all oR=true) (hd:oR (r.getD k 0)=true):(r.take (k+1)).all oR=true:=by
 rw[List.take_succ_eq_append_getElem hk,List.all_append,h];simpa [hk] using hd
theorem aYz (r:List Nat) (k:Nat) (hk:k<r.length) (hd:oR (r.getD k 0)=false):r.all oR=false:=by
 rw[List.all_eq_false];exact⟨r[k],List.getElem_mem hk,by simpa [hk] using hd⟩
theorem bHz (l:List UInt8) (h:(aQ l).length=0∨20<(aQ l).length∨aGq l=true∨validD l=false∨(48≤(aQ l).getD 0 0∧(aQ l).getD 0 0≤57)):bA l=false:=by
 unfold bA xV dig;rcases h with h | h | h | h | ⟨h,h'⟩
 ·simp[List.eq_nil_of_length_eq_zero h]
 ·rw[show decide ((aQ l).length≤20)=false by simp;omega];simp
 ·simp[h]
 ·simp[h]
 ·rw[decide_eq_true h,decide_eq_true h'];simp
theorem bDp (l:List UInt8) (h1:0<(aQ l).length) (h2:(aQ l).length≤20) (h3:aGq l=false) (h4:validD l=true) (h5:¬(48≤(aQ l).getD 0 0∧(aQ l).getD 0 0≤57)):bA l=(aQ l).all oR:=by
 have h6:dig ((aQ l).getD 0 0)=false:=by
  unfold dig;by_cases q:48≤(aQ l).getD 0 0
  ·rw[decide_eq_true q,decide_eq_false (fun q'=>h5 ⟨q,q'⟩)];rfl
  ·rw[decide_eq_false q];rfl
 unfold bA xV;rw[h3,h4,h6,decide_eq_true h1,decide_eq_true h2];simp
set_option maxRecDepth 100000 in
set_option maxHeartbeats 2000000 in
theorem aVq (l:List UInt8) (hs:l.length≤1000000) (w:World) :
  Calls Tryz.prog 60 #[.string (bs l)] w fun e w'=>e=.returned (.bool (bA l))∧Below w.heap.size w w':=by
 have HA:=lhid (zD l hs);have HC:=lhid (aWn l hs);have HS:=lhid (aGs l);have HN:=lhid (bHz l);have HP:=lhid (bDp l);have hlr:=kG l;generalize aQ l=r at *;generalize bA l=N at *;generalize validD l=V at *;generalize aGq l=S at *;have hlx:r.length≤1000000:=(by omega);clear hlr;go_enter Tryz.func60,Tryz.ntmps60;(go_wp2_with fail);refine(HA.out _).mono ?_;rintro e w1 ⟨g,c,rfl,hg,hgs,hgc,hx,hb1⟩;have HX:=lhid hx;clear hx HA hg hgs;by_cases h0:r.length=0
 ·have H:=lhid (HN.out (.inl h0));have e1:(r.length:Int)<1:=(by omega);clear h0 HN HP HX;(go_wp2_with fail);go_ret;exact⟨by rw[H.out];rfl,hb1⟩
 ·have e1:¬(r.length:Int)<1:=(by omega);by_cases h20:20<r.length
  ·have H:=lhid (HN.out (.inr (.inl h20)));have e2:(20:Int)<(r.length:Int):=(by omega);clear HN HP HX;(go_wp2_with fail);go_ret;exact⟨by rw[H.out];rfl,hb1⟩
  ·have e2:¬(20:Int)<(r.length:Int):=by omega
   cases S with
   | true=>
    have H:=lhid (HN.out (.inr (.inr (.inl rfl))));clear HN HP HX;(go_wp2_with (go_at_call 80;refine(HS.out _).mono ?_;rintro e w2 ⟨rfl,rfl⟩));go_ret;exact⟨by rw[H.out];rfl,hb1⟩
   | false=>
    cases V with
    | false=>
     have H:=lhid (HN.out (.inr (.inr (.inr (.inl rfl)))));clear HN HP HX;(go_wp2_with (first | (go_at_call 80;refine(HS.out _).mono ?_;rintro e w2 ⟨rfl,rfl⟩) | (go_at_call 81;refine(HC.out _).mono ?_;rintro e w2 ⟨rfl,rfl⟩)));go_ret;exact⟨by rw[H.out];rfl,hb1⟩
    | true=>
     have c0:=HX.out 0 (by omega);obtain⟨p,hp⟩:∃ p,r.getD 0 0=p:=⟨_,rfl⟩;rw[hp] at c0;by_cases hd:48≤p∧p≤57
     ·have H:=lhid (HN.out (.inr (.inr (.inr (.inr (by rw[hp];exact hd))))));obtain⟨d1,d2⟩:=hd;have f1:(48:Int)≤(p:Int):=(by omega);have f2:(p:Int)≤57:=(by omega);clear HN HP HX hp;(go_wp2_with (first | (go_at_call 80;refine(HS.out _).mono ?_;rintro e w2 ⟨rfl,rfl⟩) | (go_at_call 81;refine(HC.out _).mono ?_;rintro e w2 ⟨rfl,rfl⟩)));go_ret;exact⟨by rw[H.out];rfl,hb1⟩
     ·have H:=lhid (HP.out (by omega) (by omega) rfl rfl (by rw[hp];exact hd));clear HN HP hp;rcases(show p<48∨(48≤p∧57<p) by omega) with hd' | ⟨hd',hd''⟩
      all_goals
       clear hd;(go_wp2_with (first | (go_at_call 80;refine(HS.out _).mono ?_;rintro e w2 ⟨rfl,rfl⟩) | (go_at_call 81;refine(HC.out _).mono ?_;rintro e w2 ⟨rfl,rfl⟩)));clear c0 hd'
       go_loop [4] (fun i=>∃ k:Nat,k≤r.length∧i=.int .i64 k∧(r.take k).all oR=true) (fun i=>r.length-(intOf i).toNat)
       case atStart=>exact⟨0,Nat.zero_le _,rfl,rfl⟩
       case round=>
        obtain⟨k,hk,rfl,hall⟩:=hrel;have HL:=lhid hall;clear hall;by_cases hlt:k<r.length
        ·have ck:=HX.out k hlt;have HT:=lhid (aSz r k hlt HL.out);have HF:=lhid (aYz r k hlt);obtain⟨q,hq⟩:∃ q,r.getD k 0=q:=⟨_,rfl⟩;rw[hq] at ck HT HF;clear hq;by_cases hpq:oR q=true
         ·have HT':=lhid (HT.out hpq);clear HT HF;rcases(aOk q).1 hpq with h | h | ⟨h,h'⟩ | ⟨h,h'⟩ | ⟨h,h'⟩
          all_goals
           clear hpq;go_wp2_with fail
           all_goals
            go_round
            case rel=>exact⟨k+1,by omega,by go_num,HT'.out⟩
            case measure=>simp[intOf];omega
         ·have hpf:oR q=false:=(by simpa using hpq);have HF':=lhid (HF.out hpf);clear HT HF hpq;rcases bEq q hpf with h | ⟨h,h'⟩ | ⟨h,h'⟩ | h | ⟨h,h'⟩
          all_goals
           have n95:((q:Int) != 95)=true:=(by simp;omega);clear hpf;(go_wp2_with fail);go_ret;exact⟨by rw[H.out,HF'.out];rfl,hb1⟩
        ·have e:r.take k=r:=List.take_of_length_le (by omega);have HL':=HL.out;rw[e] at HL';have HM:=lhid HL';clear HL HL' e;(go_wp2_with fail);go_ret;exact⟨by rw[H.out,HM.out];rfl,hb1⟩
end Go.Proofs.YtdfegfagedeilaaGreatDoor
