/-
  The walks of layer 7 (event): whether an event may be, in the program and in the reference. Condition: unicode/utf8's two tables hold what their initialisers lay (the program); texts of at most 1,000,000 bytes.
-/
import Derived.Test.YtdfegfagedeilaaGreatDoorYNd
namespace Go.Proofs.YtdfegfagedeilaaGreatDoor
open Go.RowKit
set_option maxRecDepth 100000 in
set_option maxHeartbeats 4000000 in
theorem bCk (k:Int) (s key:List UInt8) (vk n ln:Int) (hs:s.length≤1000000) (hk:key.length≤1000000) (w:World) (hT:Lib.Utf8Tabs 1 2 w) :
  Calls Tryz.prog 135 #[.agg #[.int .i64 k,.string (bs s),.string (bs key),.int .i64 vk,.int .i64 n,.int .i64 ln]] w fun e w'=>e=.returned (.bool (oH (k,s,key,vk,n,ln)))∧Below w.heap.size w w':=by
 have HS:=lhid (fun w' (h:Below w.heap.size w w')=>vA s hs w' (Utf8Tabs_below hT h));have HK:=lhid (fun w' (h:Below w.heap.size w w')=>vA key hk w' (Utf8Tabs_below hT h));have HV:=lhid (fun w' (_:Below w.heap.size w w')=>bHy vk n w');clear hT;have HM:Hid (oH (k,s,key,vk,n,ln)=(decide (1≤k)&&(decide (k≤6)&&(bA s&&(if kD k then bA key&&(kW vk n&&(k==2||vk==1)) else decide (key=[])&&(vk==0&&n==0)))))):=lhid rfl;generalize oH (k,s,key,vk,n,ln)=R at *;generalize bA s=N1 at *;generalize bA key=N2 at *;generalize kW vk n=V at *;clear hs hk;by_cases h1:1≤k
 ·have d1:decide (1≤k)=true:=decide_eq_true h1;rw[d1] at HM;clear d1;by_cases h2:k≤6
  ·have d2:decide (k≤6)=true:=decide_eq_true h2;rw[d2] at HM;clear d2
   cases N1 with
   | false=>
    have HR:Hid (R=false):=lhid (by rw[HM.out];rfl);clear HM;go_enter Tryz.func135,Tryz.ntmps135;(go_wp2_with (fail));refine(HS.out _ bel).mono ?_;rintro e w1 ⟨rfl,hb1⟩;obtain⟨hc1,hf1⟩:=dF hb1;have hz1:=hb1.size;(try simp at hz1);have hl1_0:w.heap.size<w1.heap.size:=(by omega);(go_wp2_with fail);go_ret;exact⟨by rw[HR.out];try rfl,bel⟩
   | true=>
    have HL:=lhid (fun w'=>aNj k w');rcases aDl k with ⟨rfl,hl⟩ | ⟨rfl,hl⟩ | ⟨hk2,hk3,hl⟩
    ·rw[hl] at HM HL;clear hl
     cases N2 with
     | false=>
      have HR:Hid (R=false):=lhid (by rw[HM.out];rfl);clear HM;go_enter Tryz.func135,Tryz.ntmps135;(go_wp2_with (fail));refine(HS.out _ bel).mono ?_;rintro e w1 ⟨rfl,hb1⟩;obtain⟨hc1,hf1⟩:=dF hb1;have hz1:=hb1.size;(try simp at hz1);have hl1_0:w.heap.size<w1.heap.size:=(by omega);(go_wp2_with fail);refine(HL.out _).mono ?_;rintro e wl ⟨rfl,rfl⟩;(go_wp2_with (fail));refine(HK.out _ bel).mono ?_;rintro e w2 ⟨rfl,hb2⟩;obtain⟨hc2,hf2⟩:=dF hb2;have hz2:=hb2.size;(try simp at hz2);have hl2_0:w.heap.size<w2.heap.size:=(by omega);(go_wp2_with fail);go_ret;exact⟨by rw[HR.out];try rfl,bel⟩
     | true=>
      cases V with
      | false=>
       have HR:Hid (R=false):=lhid (by rw[HM.out];rfl);clear HM;go_enter Tryz.func135,Tryz.ntmps135;(go_wp2_with (fail));refine(HS.out _ bel).mono ?_;rintro e w1 ⟨rfl,hb1⟩;obtain⟨hc1,hf1⟩:=dF hb1;have hz1:=hb1.size;(try simp at hz1);have hl1_0:w.heap.size<w1.heap.size:=(by omega);(go_wp2_with fail);refine(HL.out _).mono ?_;rintro e wl ⟨rfl,rfl⟩;(go_wp2_with (fail));refine(HK.out _ bel).mono ?_;rintro e w2 ⟨rfl,hb2⟩;obtain⟨hc2,hf2⟩:=dF hb2;have hz2:=hb2.size;(try simp at hz2);have hl2_0:w.heap.size<w2.heap.size:=(by omega);(go_wp2_with (fail));refine(HV.out _ bel).mono ?_;rintro e w3 ⟨rfl,hb3⟩;obtain⟨hc3,hf3⟩:=dF hb3;have hz3:=hb3.size;(try simp at hz3);have hl3_0:w.heap.size<w3.heap.size:=(by omega);(go_wp2_with fail);go_ret;exact⟨by rw[HR.out];try rfl,bel⟩
      | true=>
       have HR:Hid (R=true):=lhid (by rw[HM.out];rfl);clear HM;go_enter Tryz.func135,Tryz.ntmps135;(go_wp2_with (fail));refine(HS.out _ bel).mono ?_;rintro e w1 ⟨rfl,hb1⟩;obtain⟨hc1,hf1⟩:=dF hb1;have hz1:=hb1.size;(try simp at hz1);have hl1_0:w.heap.size<w1.heap.size:=(by omega);(go_wp2_with fail);refine(HL.out _).mono ?_;rintro e wl ⟨rfl,rfl⟩;(go_wp2_with (fail));refine(HK.out _ bel).mono ?_;rintro e w2 ⟨rfl,hb2⟩;obtain⟨hc2,hf2⟩:=dF hb2;have hz2:=hb2.size;(try simp at hz2);have hl2_0:w.heap.size<w2.heap.size:=(by omega);(go_wp2_with (fail));refine(HV.out _ bel).mono ?_;rintro e w3 ⟨rfl,hb3⟩;obtain⟨hc3,hf3⟩:=dF hb3;have hz3:=hb3.size;(try simp at hz3);have hl3_0:w.heap.size<w3.heap.size:=(by omega);(go_wp2_with fail);go_ret;exact⟨by rw[HR.out];try rfl,bel⟩
    ·rw[hl] at HM HL;clear hl
     cases N2 with
     | false=>
      have HR:Hid (R=false):=lhid (by rw[HM.out];rfl);clear HM;go_enter Tryz.func135,Tryz.ntmps135;(go_wp2_with (fail));refine(HS.out _ bel).mono ?_;rintro e w1 ⟨rfl,hb1⟩;obtain⟨hc1,hf1⟩:=dF hb1;have hz1:=hb1.size;(try simp at hz1);have hl1_0:w.heap.size<w1.heap.size:=(by omega);(go_wp2_with fail);refine(HL.out _).mono ?_;rintro e wl ⟨rfl,rfl⟩;(go_wp2_with (fail));refine(HK.out _ bel).mono ?_;rintro e w2 ⟨rfl,hb2⟩;obtain⟨hc2,hf2⟩:=dF hb2;have hz2:=hb2.size;(try simp at hz2);have hl2_0:w.heap.size<w2.heap.size:=(by omega);(go_wp2_with fail);go_ret;exact⟨by rw[HR.out];try rfl,bel⟩
     | true=>
      cases V with
      | false=>
       have HR:Hid (R=false):=lhid (by rw[HM.out];rfl);clear HM;go_enter Tryz.func135,Tryz.ntmps135;(go_wp2_with (fail));refine(HS.out _ bel).mono ?_;rintro e w1 ⟨rfl,hb1⟩;obtain⟨hc1,hf1⟩:=dF hb1;have hz1:=hb1.size;(try simp at hz1);have hl1_0:w.heap.size<w1.heap.size:=(by omega);(go_wp2_with fail);refine(HL.out _).mono ?_;rintro e wl ⟨rfl,rfl⟩;(go_wp2_with (fail));refine(HK.out _ bel).mono ?_;rintro e w2 ⟨rfl,hb2⟩;obtain⟨hc2,hf2⟩:=dF hb2;have hz2:=hb2.size;(try simp at hz2);have hl2_0:w.heap.size<w2.heap.size:=(by omega);(go_wp2_with (fail));refine(HV.out _ bel).mono ?_;rintro e w3 ⟨rfl,hb3⟩;obtain⟨hc3,hf3⟩:=dF hb3;have hz3:=hb3.size;(try simp at hz3);have hl3_0:w.heap.size<w3.heap.size:=(by omega);(go_wp2_with fail);go_ret;exact⟨by rw[HR.out];try rfl,bel⟩
      | true=>
       have HR:Hid (R=(vk==1)):=lhid (by rw[HM.out];simp);clear HM;go_enter Tryz.func135,Tryz.ntmps135;(go_wp2_with (fail));refine(HS.out _ bel).mono ?_;rintro e w1 ⟨rfl,hb1⟩;obtain⟨hc1,hf1⟩:=dF hb1;have hz1:=hb1.size;(try simp at hz1);have hl1_0:w.heap.size<w1.heap.size:=(by omega);(go_wp2_with fail);refine(HL.out _).mono ?_;rintro e wl ⟨rfl,rfl⟩;(go_wp2_with (fail));refine(HK.out _ bel).mono ?_;rintro e w2 ⟨rfl,hb2⟩;obtain⟨hc2,hf2⟩:=dF hb2;have hz2:=hb2.size;(try simp at hz2);have hl2_0:w.heap.size<w2.heap.size:=(by omega);(go_wp2_with (fail));refine(HV.out _ bel).mono ?_;rintro e w3 ⟨rfl,hb3⟩;obtain⟨hc3,hf3⟩:=dF hb3;have hz3:=hb3.size;(try simp at hz3);have hl3_0:w.heap.size<w3.heap.size:=(by omega);(go_wp2_with fail);go_ret;exact⟨by rw[HR.out];try rfl,bel⟩
    ·rw[hl] at HM HL;clear hl;have hn2:(k != 2)=true:=(by simpa using hk2);have hn3:(k != 3)=true:=by simpa using hk3
     cases key with
     | cons c t=>
      have HR:Hid (R=false):=lhid (by rw[HM.out];rfl);clear HM;go_enter Tryz.func135,Tryz.ntmps135;(go_wp2_with (fail));refine(HS.out _ bel).mono ?_;rintro e w1 ⟨rfl,hb1⟩;obtain⟨hc1,hf1⟩:=dF hb1;have hz1:=hb1.size;(try simp at hz1);have hl1_0:w.heap.size<w1.heap.size:=(by omega);(go_wp2_with fail);refine(HL.out _).mono ?_;rintro e wl ⟨rfl,rfl⟩;(go_wp2_with fail);go_ret;exact⟨by rw[HR.out];try rfl,bel⟩
     | nil=>
      have HR:Hid (R=(vk==0&&n==0)):=lhid (by rw[HM.out];rfl);clear HM;by_cases hv0:vk=0
      ·subst hv0;by_cases hn0:n=0
       ·subst hn0;go_enter Tryz.func135,Tryz.ntmps135;(go_wp2_with (fail));refine(HS.out _ bel).mono ?_;rintro e w1 ⟨rfl,hb1⟩;obtain⟨hc1,hf1⟩:=dF hb1;have hz1:=hb1.size;(try simp at hz1);have hl1_0:w.heap.size<w1.heap.size:=(by omega);(go_wp2_with fail);refine(HL.out _).mono ?_;rintro e wl ⟨rfl,rfl⟩;(go_wp2_with fail);go_ret;exact⟨by rw[HR.out];try rfl,bel⟩
       ·have b1:(n==0)=false:=beq_eq_false_iff_ne.2 hn0;rw[b1] at HR;go_enter Tryz.func135,Tryz.ntmps135;(go_wp2_with (fail));refine(HS.out _ bel).mono ?_;rintro e w1 ⟨rfl,hb1⟩;obtain⟨hc1,hf1⟩:=dF hb1;have hz1:=hb1.size;(try simp at hz1);have hl1_0:w.heap.size<w1.heap.size:=(by omega);(go_wp2_with fail);refine(HL.out _).mono ?_;rintro e wl ⟨rfl,rfl⟩;(go_wp2_with fail);go_ret;exact⟨by rw[HR.out];try rfl,bel⟩
      ·have b1:(vk==0)=false:=beq_eq_false_iff_ne.2 hv0;rw[b1] at HR;go_enter Tryz.func135,Tryz.ntmps135;(go_wp2_with (fail));refine(HS.out _ bel).mono ?_;rintro e w1 ⟨rfl,hb1⟩;obtain⟨hc1,hf1⟩:=dF hb1;have hz1:=hb1.size;(try simp at hz1);have hl1_0:w.heap.size<w1.heap.size:=(by omega);(go_wp2_with fail);refine(HL.out _).mono ?_;rintro e wl ⟨rfl,rfl⟩;(go_wp2_with fail);go_ret;exact⟨by rw[HR.out];try rfl,bel⟩
  ·have d2:decide (k≤6)=false:=decide_eq_false h2;have HR:Hid (R=false):=lhid (by rw[HM.out,d2];rfl);clear HM d2;go_enter Tryz.func135,Tryz.ntmps135;(go_wp2_with fail);go_ret;exact⟨by rw[HR.out];try rfl,bel⟩
 ·have d1:decide (1≤k)=false:=decide_eq_false h1;have HR:Hid (R=false):=lhid (by rw[HM.out,d1];rfl);clear HM d1;go_enter Tryz.func135,Tryz.ntmps135;(go_wp2_with fail);go_ret;exact⟨by rw[HR.out];try rfl,bel⟩
end Go.Proofs.YtdfegfagedeilaaGreatDoor
