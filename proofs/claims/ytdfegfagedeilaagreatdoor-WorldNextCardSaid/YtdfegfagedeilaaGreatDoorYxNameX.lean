/-
  The walk of the decoder of layer 2's reference at a lead byte of three bytes. No conditions.
-/
import Derived.Test.YtdfegfagedeilaaGreatDoorYNa
namespace Go.Proofs.YtdfegfagedeilaaGreatDoor
open Go.RowKit Go.Lib
set_option maxRecDepth 100000 in
set_option maxHeartbeats 4000000 in
theorem aZb (l:List UInt8) (p:Nat) (hp:p<l.length) (hs:l.length≤4611686018427387904) (h:224≤l[p].toNat) (h':l[p].toNat≤239) (w:World) :
  Calls Tryz.prog 98 #[.string (bs l),.int .i64 p] w fun e w'=>e=.returned (.tuple #[.int .i64 ((bH l p).2:Nat),.int .i64 ((bH l p).1:Nat)])∧w=w':=by
 have h0:=kU l p hp;have hN:=aBc l p;rw[h0,bMc _ _ _ _ _ h h'] at hN;by_cases hl:p+2<l.length
 ·have h1:=kU l (p+1) (by omega);have h2:=kU l (p+2) (by omega);rw[h1,h2] at hN;have hb1:=l[p+1].toNat_lt;have hb2:=l[p+2].toNat_lt;have H:=lhid hN;clear hN h0 h1 h2;rcases(show(l[p+1].toNat<128)∨(128≤l[p+1].toNat∧191<l[p+1].toNat)∨(128≤l[p+1].toNat∧l[p+1].toNat≤191∧l[p+2].toNat<128)∨(128≤l[p+1].toNat∧l[p+1].toNat≤191∧128≤l[p+2].toNat∧191<l[p+2].toNat)∨(128≤l[p+1].toNat∧l[p+1].toNat≤191∧128≤l[p+2].toNat∧l[p+2].toNat≤191∧(l[p].toNat-224)*4096+(l[p+1].toNat-128)*64+(l[p+2].toNat-128)<2048)∨(128≤l[p+1].toNat∧l[p+1].toNat≤191∧128≤l[p+2].toNat∧l[p+2].toNat≤191∧2048≤(l[p].toNat-224)*4096+(l[p+1].toNat-128)*64+(l[p+2].toNat-128)∧(l[p].toNat-224)*4096+(l[p+1].toNat-128)*64+(l[p+2].toNat-128)<55296)∨(128≤l[p+1].toNat∧l[p+1].toNat≤191∧128≤l[p+2].toNat∧l[p+2].toNat≤191∧55296≤(l[p].toNat-224)*4096+(l[p+1].toNat-128)*64+(l[p+2].toNat-128)∧(l[p].toNat-224)*4096+(l[p+1].toNat-128)*64+(l[p+2].toNat-128)≤57343)∨(128≤l[p+1].toNat∧l[p+1].toNat≤191∧128≤l[p+2].toNat∧l[p+2].toNat≤191∧57343<(l[p].toNat-224)*4096+(l[p+1].toNat-128)*64+(l[p+2].toNat-128)) by omega) with ⟨r0⟩ | ⟨r0,r1⟩ | ⟨r0,r1,r2⟩ | ⟨r0,r1,r2,r3⟩ | ⟨r0,r1,r2,r3,r4⟩ | ⟨r0,r1,r2,r3,r4,r5⟩ | ⟨r0,r1,r2,r3,r4,r5⟩ | ⟨r0,r1,r2,r3,r4⟩
  ·go_enter Tryz.func98,Tryz.ntmps98;go_wp2;go_rounds 3;go_ret2;rw[H.out,if_neg (by omega)];exact⟨rfl,rfl⟩
  ·go_enter Tryz.func98,Tryz.ntmps98;go_wp2;go_rounds 3;go_ret2;rw[H.out,if_neg (by omega)];exact⟨rfl,rfl⟩
  ·go_enter Tryz.func98,Tryz.ntmps98;go_wp2;go_rounds 3;go_ret2;rw[H.out,if_neg (by omega)];exact⟨rfl,rfl⟩
  ·go_enter Tryz.func98,Tryz.ntmps98;go_wp2;go_rounds 3;go_ret2;rw[H.out,if_neg (by omega)];exact⟨rfl,rfl⟩
  ·go_enter Tryz.func98,Tryz.ntmps98;go_wp2;go_rounds 3;go_ret2;rw[H.out,if_neg (by omega)];exact⟨rfl,rfl⟩
  ·go_enter Tryz.func98,Tryz.ntmps98;go_wp2;go_rounds 3;go_ret2;rw[H.out,if_pos (by omega)];refine⟨?_,rfl⟩;simp;omega
  ·go_enter Tryz.func98,Tryz.ntmps98;go_wp2;go_rounds 3;go_ret2;rw[H.out,if_neg (by omega)];exact⟨rfl,rfl⟩
  ·go_enter Tryz.func98,Tryz.ntmps98;go_wp2;go_rounds 3;go_ret2;rw[H.out,if_pos (by omega)];refine⟨?_,rfl⟩;simp;omega
 ·have H:=lhid hN;clear hN h0;go_enter Tryz.func98,Tryz.ntmps98;go_wp2;go_ret2;rw[H.out,if_neg (by omega)];exact⟨rfl,rfl⟩
end Go.Proofs.YtdfegfagedeilaaGreatDoor
