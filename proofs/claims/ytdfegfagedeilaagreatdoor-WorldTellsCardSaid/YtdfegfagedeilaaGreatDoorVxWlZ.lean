/-
  Layer 16 (world): what the laws share: who committed, and what is tried, of any world; walked. No conditions but that unicode/utf8's two tables are as their initialisers lay them.
-/
import Derived.Test.YtdfegfagedeilaaGreatDoorVTm
namespace Go.Proofs.YtdfegfagedeilaaGreatDoor
open Go.RowKit Go.Lib
theorem bTq {h : aI} (hn : bTt h) : ∀ o ∈ bU (bHg h), -9223372036854775808 ≤ o.2.2.2 ∧ o.2.2.2 ≤ 9223372036854775807 := fun o ho => by
 obtain ⟨t, ht, ho⟩ := List.mem_flatMap.1 ho;exact bTu hn t ht o ho
def bTd (h : aI) (m : bK) : List Bool := if kX h m = true then aL h.2.2 m.1 else []
set_option maxRecDepth 100000 in
set_option maxHeartbeats 8000000 in
theorem bTk {w : World} {v u : Value} {h : aI} {m : bK} (hv : cJ w v h) (hu : lI w u m) (hm : cU h) (h50 : m.1.length ≤ 1000000 ∧ m.2.length ≤ 1000000) (hT : Lib.Utf8Tabs 1 2 w) :
  Calls Tryz.prog 18 #[v, u] w fun e w' => ∃ v', e = .returned v' ∧ qW w' v' (bTd h m) ∧ Below w.heap.size w w' := by
 cases hw : kX h m with
 | true =>
  refine (bUl hv hu hm h50 hw hT).mono ?_;rintro e w' ⟨v', rfl, hr, hb⟩;refine ⟨v', rfl, ?_, hb⟩;unfold bTd;rw [if_pos hw];exact qO hr (lR _ _).symm
 | false =>
  have H0 := lhid hv;have U0 := lhid hu;obtain ⟨v0, v1, v2, rfl, ⟨p0, c0, rfl, -⟩, ⟨p1, c1, rfl, -⟩, ⟨p2, c2, rfl, -⟩⟩ := hv;obtain ⟨pb, cb, pv, cv, rfl, -, -, -, -⟩ := lY hu;have hal := ((Below.refl w.heap.size w).alloc (Nat.le_refl _) (.cells #[.slice p0 h.1.length c0, .slice p1 h.2.1.length c1, .slice p2 h.2.2.length c2] 25)).alloc (by simp) (.cells #[.slice pb m.1.length cb, .slice pv m.2.length cv] 29);have HMy := lhid (bTz (H0.out.below hal) (U0.out.below hal) hm h50 (Utf8Tabs_below hT hal));rw [hw] at HMy;have HAL := lhid hal;have HF : Hid (bTd h m = []) := lhid (by unfold bTd; rw [if_neg (by rw [hw]; simp)]);clear hT hm h50 hw hal hu H0 U0;go_enter Tryz.func18, Tryz.ntmps18;(go_wp2_with fail);refine HMy.out.mono ?_;rintro e w1 ⟨rfl, hb1⟩;have HB1 := lhid (aB HAL.out hb1);clear hb1 HMy HAL;(go_wp2_with fail);go_ret;exact ⟨_, rfl, by rw [HF.out]; exact aQn _, HB1.out⟩
end Go.Proofs.YtdfegfagedeilaaGreatDoor
