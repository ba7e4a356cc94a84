/-
  Layers 16 and 17 (world, whole) in plain words: who committed, and what is made, one by one; no program in sight. No conditions.
  Layer 16 (world): who committed in a world, the program's answer and the document's, walked. No conditions but that unicode/utf8's two tables are as their initialisers lay them (the program's).
  slices.Backward at a transaction's operations: what it hands on to any loop's body that keeps what lay; in plain words which one is met first. No conditions.
  Layer 13 (inner), the program: the last write's value of a key, among operations. No conditions.
  Layer 13 (inner), the program: a transaction's operations, own values, what is left. No conditions but that unicode/utf8's two tables are as their initialisers lay them.
  DERIVED: THE SHELF's CONTRACTS AT THIS DUMP, IN PLAIN WORDS (tools/lay-plain.mjs out of 'TrydShelfO4.lean', which tools/lay-shelf.mjs wrote): THE SAME DECLARATIONS UNDER THE SAME NAMES: 'import', 'namespace', 'open', 'def', 'theorem' AND NOTHING ELSE: no command of the shelf's: FOR A HAND-IN. Each laying: the table of numbers ('.._ren') and one theorem, a field a fact of the dump's own or the kernel's comparison; each contract: ONE APPLICATION.
  Maps of the call's own from numbers to numbers, in plain words. No conditions.
  Layer 14 (erase), the program: a history without its lost reads. No conditions but that unicode/utf8's two tables are as their initialisers lay them.
-/
import Derived.Test.YtdfegfagedeilaaGreatDoorXLj
namespace Go.Proofs.YtdfegfagedeilaaGreatDoor
open Go.RowKit Go.Lib
def nI (T : List bB) (k : Nat) : Nat := ((T.take k).filter aP).length
theorem aTv (T : List bB) (k : Nat) (hk : k < T.length) : T.take (k + 1) = T.take k ++ [T.getD k aM] := by
 rw [List.take_succ_eq_append_getElem hk];simp [hk]
theorem aKc (T : List bB) (k : Nat) (hk : k < T.length) : nI T (k + 1) = if aP (T.getD k aM) then nI T k + 1 else nI T k := by
 unfold nI;rw [aTv T k hk, List.filter_append, List.length_append, List.filter_cons];split <;> simp
theorem bJy (T : List bB) (k : Nat) : nI T k ≤ (T.filter aP).length := by
 unfold nI;exact ((List.take_sublist k T).filter aP).length_le
theorem bJz (T : List bB) (k : Nat) (hk : k < T.length) (hp : aP (T.getD k aM) = true) : nI T k < (T.filter aP).length := by
 have h1 := aKc T k hk;rw [if_pos hp] at h1;have := bJy T (k + 1);omega
theorem aXb {α : Type} (c : List α) (k : Nat) (d : α) : c.tail.getD k d = c.getD (k + 1) d := by cases c <;> simp
theorem aRd {α : Type} (c : List α) (d : α) : c.headD d = c.getD 0 d := by cases c <;> simp
def yE (T : List bB) (c : List Bool) (k : Nat) : Bool := if (T.getD k aM).2.1 = 1 then true else if (T.getD k aM).2.1 = 3 then c.getD (nI T k) false else false
theorem aBz : ∀ (T : List bB) (c : List Bool) (k : Nat), k < T.length → (aL T c)[k]? = some (yE T c k)
 | [], _, _, h => absurd h (Nat.not_lt_zero _)
 | t :: r, c, 0, _ => by
  unfold aL yE nI;simp only [List.getD_cons_zero, List.take_zero, List.filter_nil, List.length_nil];split
  ·rfl
  ·split
   ·rw [aRd]; rfl
   ·rfl
 | t :: r, c, k + 1, h => by
  have hk : k < r.length := (by simpa using h);have e : ∀ c', (aL (t :: r) c)[k + 1]? = (aL r c')[k]? → yE r c' k = yE (t :: r) c (k + 1) → (aL (t :: r) c)[k + 1]? = some (yE (t :: r) c (k + 1)) := fun c' e1 e2 => (by rw [e1, aBz r c' k hk, e2]);by_cases h1 : t.2.1 = 1
  ·refine e c (by rw [aL, if_pos h1]; rfl) ?_;unfold yE nI;have hi : aP t = false := (by unfold aP; simp [h1]);simp [hi]
  ·by_cases h3 : t.2.1 = 3
   ·refine e c.tail (by rw [aL, if_neg h1, if_pos h3]; rfl) ?_;unfold yE nI;have hi : aP t = true := (by unfold aP; simp [h3]);simp only [List.getD_cons_succ, List.take_succ_cons, List.filter_cons, hi, if_true, List.length_cons, aXb]
   ·refine e c (by rw [aL, if_neg h1, if_neg h3]; rfl) ?_;unfold yE nI;have hi : aP t = false := (by unfold aP; simp [h3]);simp [hi]
theorem sC (T : List bB) (c : List Bool) (k : Nat) (hk : k < T.length) : (aL T c).take (k + 1) = (aL T c).take k ++ [yE T c k] := by
 rw [List.take_add_one, aBz T c k hk];rfl
theorem zQ (T : List bB) (c : List Bool) : (aL T c).take T.length = aL T c := by
 conv => lhs; rw [← lR T c]
 exact List.take_length
def oQ (T : List bB) (c : List Bool) (k : Nat) : List Bool := (aL T c).take k ++ List.replicate (T.length - k) false
theorem bCb (T : List bB) (c : List Bool) (k : Nat) (hk : k ≤ T.length) : (oQ T c k).length = T.length := by
 unfold oQ;rw [List.length_append, List.length_take, lR, List.length_replicate];omega
theorem aWt (T : List bB) (c : List Bool) : oQ T c 0 = List.replicate T.length false := by simp [oQ]
theorem bCa (T : List bB) (c : List Bool) : oQ T c T.length = aL T c := by
 unfold oQ;rw [zQ, Nat.sub_self];simp
theorem aWq (T : List bB) (c : List Bool) (k : Nat) (hk : k < T.length) : oQ T c (k + 1) = (oQ T c k).set k (yE T c k) := by
 unfold oQ;have hl : ((aL T c).take k).length = k := (by rw [List.length_take, lR]; omega);obtain ⟨m, hm⟩ : ∃ m, T.length - k = m + 1 := ⟨T.length - k - 1, by omega⟩;rw [sC T c k hk, hm, show T.length - (k + 1) = m by omega, List.replicate_succ, List.set_append_right _ _ (by omega), hl, Nat.sub_self, List.set_cons_zero, List.append_assoc];rfl
theorem aWs (T : List bB) (c : List Bool) (k : Nat) (hk : k < T.length) (h : yE T c k = false) : oQ T c (k + 1) = oQ T c k := by
 unfold oQ;obtain ⟨m, hm⟩ : ∃ m, T.length - k = m + 1 := ⟨T.length - k - 1, by omega⟩;rw [sC T c k hk, hm, show T.length - (k + 1) = m by omega, List.replicate_succ, h, List.append_assoc];rfl
end Go.Proofs.YtdfegfagedeilaaGreatDoor

namespace Go.Proofs.YtdfegfagedeilaaGreatDoor
open Go.RowKit Go.Lib
set_option maxRecDepth 100000 in
set_option maxHeartbeats 4000000 in
theorem bUc {w : World} {v : Value} {h : aI} {pb : Option Addr} {cb : Nat} (c : List Bool) (hv : cJ w v h) (hm : cU h) (hb : jA w pb c) (hcb : c.length ≤ cb ∧ cb ≤ maxLen) (hc : c.length = (h.2.2.filter aP).length) :
  Calls Tryz.prog 45 #[v, .slice pb c.length cb] w fun e w' => ∃ v', e = .returned v' ∧ w'.ownsRow w.heap.size 4 1 v' h.2.2.length (bG (aL h.2.2 c)) ∧ Below w.heap.size w w' := by
 obtain ⟨v0, v1, v2, rfl, ⟨p0, c0, rfl, -⟩, ⟨p1, c1, rfl, -⟩, ⟨p2, c2, rfl, k2⟩⟩ := hv;have HX := lhid k2;have HC := lhid hb;have HLe := lhid hc;obtain ⟨hcb1, hcb2⟩ := hcb;unfold maxLen at hcb2;have m3 : h.2.2.length ≤ 1000 := hm.2.2.1;obtain ⟨i0, hi, hz0, hz1, hz2⟩ := info_parts oB
 have mk1 : ∀ W : World, (Instr.makeSlice 26 (.int .i64 (h.2.2.length : Int)) (.int .i64 (h.2.2.length : Int))).run Tryz.prog W = .ok (.slice (some ⟨W.heap.size, 0, none⟩) h.2.2.length h.2.2.length) (W.alloc (.cells (madeCells (Value.cells (.bool false)) (h.2.2.length * 1)) 4)) := fun W => by
  have hr := run_make (P := Tryz.prog) W 26 4 i0 (.bool false) Tryz.underlying26 hi hz0 .i64 .i64 h.2.2.length h.2.2.length (by omega) (Int.le_refl _) (by rw [hz2]; omega) (by omega);rw [hz1] at hr;simpa only [Int.toNat_natCast] using hr
 have HAL := lhid ((Below.refl w.heap.size w).alloc (Nat.le_refl _) (.cells #[.slice p0 h.1.length c0, .slice p1 h.2.1.length c1, .slice p2 h.2.2.length c2] 25));have HBX := lhid (Blk.new w 25 [.slice p0 h.1.length c0, .slice p1 h.2.1.length c1, .slice p2 h.2.2.length c2]);have x2 := HBX.out.cell 2 rfl;clear k2 hb hm hc hi hz0 hz1 hz2;go_enter Tryz.func45, Tryz.ntmps45;(go_upto_region 1 with fail);obtain ⟨W1, hW1⟩ : ∃ q, w.alloc (.cells #[.slice p0 h.1.length c0, .slice p1 h.2.1.length c1, .slice p2 h.2.2.length c2] 25) = q := ⟨_, rfl⟩;rw [hW1] at HAL HBX x2 ⊢;clear hW1
 have hr0 : (W1.alloc (.cells (madeCells #[.bool false] h.2.2.length) 4)).ownsRow W1.heap.size 4 1 (.slice (some ⟨W1.heap.size, 0, none⟩) h.2.2.length h.2.2.length) h.2.2.length (bG (oQ h.2.2 c 0)) := by
  have h1 := World.ownsRow_lit (base := W1.heap.size) (e := 4) (size := 1) W1 (madeCells (Value.cells (.bool false)) (h.2.2.length * 1)) h.2.2.length (Nat.le_refl _) (by unfold maxLen; omega) (by rw [size_madeCells]);rw [sJ, Nat.mul_one] at h1;rw [aWt];exact h1
 have HR0 := lhid hr0;have HA0 := lhid ((Below.refl W1.heap.size W1).alloc (Nat.le_refl _) (.cells (madeCells #[.bool false] h.2.2.length) 4));have x3 := (HBX.out.later HA0.out).cell 2 rfl;have HFin := lhid (fun w' (hb : Below W1.heap.size W1 w') => aB HAL.out hb);have hw1 : w.heap.size < W1.heap.size := HBX.out.lt;clear hr0;(go_wp2_with fail);clear x2 x3 mk1
 go_loopw [1, 15] (fun f i wr => ∃ k : Nat, k ≤ h.2.2.length ∧ i = .int .i64 k ∧ (∃ q, f = .slice q (c.length - nI h.2.2 k) (cb - nI h.2.2 k) ∧ (nI h.2.2 k < c.length → ∃ g, pb = some ⟨g, 0, none⟩ ∧ q = some ⟨g, nI h.2.2 k, none⟩)) ∧ wr.ownsRow W1.heap.size 4 1 (.slice (some ⟨W1.heap.size, 0, none⟩) h.2.2.length h.2.2.length) h.2.2.length (bG (oQ h.2.2 c k)) ∧ Below W1.heap.size W1 wr) (fun _ i _ => h.2.2.length - (RowKit.intOf i).toNat)
 case atStart => exact ⟨0, Nat.zero_le _, rfl, ⟨_, rfl, fun hh => by obtain ⟨g, e, -⟩ := HC.out 0 hh; exact ⟨g, e, e⟩⟩, HR0.out, HA0.out⟩
 case round =>
  obtain ⟨k, hk, rfl, hf, hrow, hbw⟩ := hrel;by_cases hk1 : k < h.2.2.length
  ·have hb0 := HFin.out _ hbw;obtain ⟨g, sv, rfl, a1, a2, a3, a4⟩ := HX.out k hk1;have a1 := cell_later hb0 a1;have a2 := cell_later hb0 a2;have a3 := cell_later hb0 a3;have hnx := aKc h.2.2 k hk1;have hlt := bJz h.2.2 k hk1;have hcn := aWq h.2.2 c k hk1;have hcs := aWs h.2.2 c k hk1;have hct : yE h.2.2 c k = if (h.2.2.getD k aM).2.1 = 1 then true else if (h.2.2.getD k aM).2.1 = 3 then c.getD (nI h.2.2 k) false else false := rfl;obtain ⟨⟨ts, tf, tl⟩, htt⟩ : ∃ q, h.2.2.getD k aM = q := ⟨_, rfl⟩;rw [htt] at a1 a2 a4 hnx hlt hct;dsimp only at a1 a2 a4 hct;obtain ⟨p3, c3, rfl, -, -⟩ := a4;have hip : aP (ts, tf, tl) = (tf == 3) := (by unfold aP; rfl);rw [hip] at hnx hlt;have hkl : k < (oQ h.2.2 c k).length := (by rw [bCb _ _ _ hk]; exact hk1);have r0 : wr.cell? ⟨W1.heap.size, k, none⟩ = some (.bool ((oQ h.2.2 c k).getD k false)) := (by rw [hrow.cellAt k (by omega)]; exact aBt _ _ hkl);have r1 := hrow.frozenAt k;have hlw : W1.heap.size < wr.heap.size := (hrow.lt W1.heap.size rfl).2;have HRw := lhid (hrow.alloc (.cells #[.int .i64 ts, .int .i64 tf, .slice p3 tl.length c3] 67));have HBw := lhid (hbw.alloc hbw.size (.cells #[.int .i64 ts, .int .i64 tf, .slice p3 tl.length c3] 67));have HBr := lhid hbw;have HRr := lhid hrow;have HNx := lhid hnx;have HLt := lhid hlt;have HCn := lhid hcn;have HCs := lhid hcs;have HCt := lhid hct;have HF := lhid hf;clear hrow hbw hnx hlt hcn hcs hct htt hip hb0 hkl hf;by_cases h1 : tf = 1
   ·subst h1;have HE : Hid (bG (oQ h.2.2 c (k + 1)) = (bG (oQ h.2.2 c k)).set k (.bool true)) := lhid (by rw [HCn.out, HCt.out, yC]; rfl);have HN2 : Hid (nI h.2.2 (k + 1) = nI h.2.2 k) := lhid HNx.out;clear HCn HCs HCt HNx HLt;(go_wp2_with fail);go_roundw
    case rel => exact ⟨k + 1, by omega, by go_num, by rw [HN2.out]; exact HF.out, by rw [HE.out]; exact ((HRr.out.stored k (.bool true)).1).alloc _, (HBr.out.setCell (p := ⟨W1.heap.size, k, none⟩) (Nat.le_refl _) _).alloc (by have := HBr.out.size; simpa using this) _⟩
    case measure => simp [RowKit.intOf]; omega
   ·have h1b : (tf == 1) = false := (by simpa using h1);by_cases h3 : tf = 3
    ·subst h3;have hn : nI h.2.2 k < c.length := (by rw [HLe.out]; exact HLt.out rfl);obtain ⟨q, hfe, hq⟩ := HF.out;obtain ⟨gc, rfl, rfl⟩ := hq hn;obtain ⟨gc', e', hcc⟩ := HC.out _ hn;cases e';have hcc := cell_later (HFin.out _ HBr.out) hcc;have hgcl := World.block_lt_of_cell? wr ⟨gc, nI h.2.2 k, none⟩ hcc;dsimp only at hgcl;obtain ⟨b, hb⟩ : ∃ b, c.getD (nI h.2.2 k) false = b := ⟨_, rfl⟩;rw [hb] at hcc HCt;have HE : Hid (bG (oQ h.2.2 c (k + 1)) = (bG (oQ h.2.2 c k)).set k (.bool b)) := lhid (by rw [HCn.out, HCt.out, yC]; rfl);have HN2 : Hid (nI h.2.2 (k + 1) = nI h.2.2 k + 1) := lhid HNx.out;obtain ⟨n, hn2⟩ : ∃ n, nI h.2.2 k = n := ⟨_, rfl⟩;rw [hn2] at hcc HN2 hn hfe;subst hfe;obtain ⟨md, hmd⟩ : ∃ md, c.length = n + md + 1 := ⟨c.length - n - 1, by omega⟩;obtain ⟨dd, hdd⟩ : ∃ dd, cb = n + dd + 1 := ⟨cb - n - 1, by omega⟩;rw [show c.length - n = md + 1 by omega, show cb - n = dd + 1 by omega];have HMd := lhid (show c.length - (n + 1) = md by omega);have HDd := lhid (show cb - (n + 1) = dd by omega);have hmd2 : md ≤ dd := (by omega);have hdd2 : dd ≤ 9223372036854775807 := (by omega);clear HCn HCs HCt HNx HLt HF hb hn2 hn hmd hdd hq;(go_wp2_with fail);go_roundw
     case rel => exact ⟨k + 1, by omega, by go_num, ⟨_, by rw [HN2.out, HMd.out, HDd.out], fun hh => ⟨gc, rfl, by
      rw [HN2.out] at hh ⊢;have hz : ¬ dd = 0 := by have := HMd.out; omega
      first | rfl | (rw [if_neg hz]; first | rfl | simp) | simp [hz]⟩⟩, by rw [HE.out]; exact ((HRr.out.stored k (.bool b)).1).alloc _, (HBr.out.setCell (p := ⟨W1.heap.size, k, none⟩) (Nat.le_refl _) _).alloc (by have := HBr.out.size; simpa using this) _⟩
     case measure => simp [RowKit.intOf]; omega
    ·have h3b : (tf == 3) = false := (by simpa using h3);have HE : Hid (oQ h.2.2 c (k + 1) = oQ h.2.2 c k) := lhid (HCs.out (by rw [HCt.out, if_neg h1, if_neg h3]));have HN2 : Hid (nI h.2.2 (k + 1) = nI h.2.2 k) := lhid (by rw [HNx.out, if_neg (by rw [h3b]; exact Bool.false_ne_true)]);clear HCn HCs HCt HNx HLt;(go_wp2_with fail);go_roundw
     case rel => exact ⟨k + 1, by omega, by go_num, by rw [HN2.out]; exact HF.out, by rw [HE.out]; exact HRw.out, HBw.out⟩
     case measure => simp [RowKit.intOf]; omega
  ·have hke : k = h.2.2.length := (by omega);subst hke;rw [bCa] at hrow;have HRw := lhid hrow;clear hrow hf;(go_wp2_with fail);go_ret;exact ⟨_, rfl, cQ HRw.out (by omega), HFin.out _ hbw⟩
set_option maxRecDepth 100000 in
set_option maxHeartbeats 4000000 in
theorem bUa {w : World} {v u : Value} {h : aI} {m : bK} (hv : cJ w v h) (hu : lI w u m) (hm : cU h) (h50 : m.1.length ≤ 1000000 ∧ m.2.length ≤ 1000000) (hc : m.1.length = (h.2.2.filter aP).length) :
  Calls Tryz.prog 22 #[v, u] w fun e w' => ∃ v', e = .returned v' ∧ w'.ownsRow w.heap.size 4 1 v' h.2.2.length (bG (aL h.2.2 m.1)) ∧ Below w.heap.size w w' := by
 obtain ⟨v0, v1, v2, rfl, ⟨p0, c0, rfl, -⟩, ⟨p1, c1, rfl, -⟩, ⟨p2, c2, rfl, k2⟩⟩ := hv;obtain ⟨pb, cb, pv, cv, rfl, hb, -, hcb, -⟩ := lY hu;have HX := lhid k2;have HC := lhid hb;have HLe := lhid hc;have h51 := h50.1;have m3 : h.2.2.length ≤ 1000 := hm.2.2.1;obtain ⟨i0, hi, hz0, hz1, hz2⟩ := info_parts oB;have hal := ((Below.refl w.heap.size w).alloc (Nat.le_refl _) (.cells #[.slice p0 h.1.length c0, .slice p1 h.2.1.length c1, .slice p2 h.2.2.length c2] 25)).alloc (by simp) (.cells #[.slice pb m.1.length cb, .slice pv m.2.length cv] 29);have hbx := (Blk.new w 25 [.slice p0 h.1.length c0, .slice p1 h.2.1.length c1, .slice p2 h.2.2.length c2]).alloc (.cells #[.slice pb m.1.length cb, .slice pv m.2.length cv] 29);have hbw := Blk.new (w.alloc (.cells #[.slice p0 h.1.length c0, .slice p1 h.2.1.length c1, .slice p2 h.2.2.length c2] 25)) 29 [.slice pb m.1.length cb, .slice pv m.2.length cv];simp only [World.size_alloc] at hbw;have HAL := lhid hal;have HBX := lhid hbx;have HBW := lhid hbw;clear hm h50 hal hbx hbw hb hcb hu hc k2;go_enter Tryz.func22, Tryz.ntmps22;(go_upto_region 1 with fail);obtain ⟨W1, hW1⟩ : ∃ q, (w.alloc (.cells #[.slice p0 h.1.length c0, .slice p1 h.2.1.length c1, .slice p2 h.2.2.length c2] 25)).alloc (.cells #[.slice pb m.1.length cb, .slice pv m.2.length cv] 29) = q := ⟨_, rfl⟩;rw [hW1] at HAL HBX HBW ⊢;clear hW1;have HR0 : Hid ((W1.alloc (.cells #[] 4)).ownsRow W1.heap.size 4 1 (.slice (some ⟨W1.heap.size, 0, none⟩) 0 0) 0 []) := lhid (World.ownsRow_made (base := W1.heap.size) (size := 1) (e := 4) W1 #[] 0 (Nat.le_refl _) (Nat.zero_le _) rfl);have HA0 := lhid ((Below.refl W1.heap.size W1).alloc (Nat.le_refl _) (.cells #[] 4));have HFin := lhid (fun w' (hb : Below W1.heap.size W1 w') => aB HAL.out hb);have hw1 : w.heap.size ≤ W1.heap.size := HAL.out.size;go_wp2_with fail
 go_loopw [5, 6, 7] (fun o n i wr => ∃ k : Nat, k ≤ h.2.2.length ∧ i = .int .i64 k ∧ n = .int .i64 (nI h.2.2 k) ∧ wr.ownsRow W1.heap.size 4 1 o k (bG ((aL h.2.2 m.1).take k)) ∧ Below W1.heap.size W1 wr) (fun _ _ i _ => h.2.2.length - (RowKit.intOf i).toNat)
 case atStart => exact ⟨0, Nat.zero_le _, rfl, rfl, HR0.out, HA0.out⟩
 case round =>
  obtain ⟨k, hk, rfl, rfl, hrow, hbw⟩ := hrel;have x2 := (HBX.out.later hbw).cell 2 rfl;by_cases hk1 : k < h.2.2.length
  ·have hb0 := HFin.out _ hbw;obtain ⟨g, sv, rfl, a1, a2, a3, a4⟩ := HX.out k hk1;have a1 := cell_later hb0 a1;have a2 := cell_later hb0 a2;have y0 := (HBW.out.later hbw).cell 0 rfl;have hnx := aKc h.2.2 k hk1;have hlt := bJz h.2.2 k hk1;have hle := bJy h.2.2 k;have hcn := sC h.2.2 m.1 k hk1;have hct : yE h.2.2 m.1 k = if (h.2.2.getD k aM).2.1 = 1 then true else if (h.2.2.getD k aM).2.1 = 3 then m.1.getD (nI h.2.2 k) false else false := rfl;obtain ⟨⟨ts, tf, tl⟩, htt⟩ : ∃ q, h.2.2.getD k aM = q := ⟨_, rfl⟩;rw [htt] at a1 a2 hnx hlt hct;dsimp only at a1 a2 hct;have hip : aP (ts, tf, tl) = (tf == 3) := (by unfold aP; rfl);rw [hip] at hnx hlt;have HRw := lhid hrow;have HBw := lhid hbw;have HNx := lhid hnx;have HCn := lhid hcn;have HCt := lhid hct;have hni : nI h.2.2 k ≤ 1000000 := (by rw [← HLe.out] at hle; omega);clear a3 a4 hrow hbw hnx hcn hct htt hip hb0 hle;by_cases h1 : tf = 1
   ·subst h1;have HE : Hid ((aL h.2.2 m.1).take (k + 1) = (aL h.2.2 m.1).take k ++ [true]) := lhid (by rw [HCn.out, HCt.out]; rfl);have HN2 : Hid (nI h.2.2 (k + 1) = nI h.2.2 k) := lhid HNx.out;clear HCn HCt HNx hlt y0;obtain ⟨p9, c9, rfl⟩ := aF HRw.out;(go_wp2_with (at_builtin; refine wpList_append_own _ rfl _ _ 26 rfl W1.heap.size 4 i0 (.bool false) 1 1 Tryz.underlying26 hi hz0 hz1 hz2 rfl (by decide) _ _ _ rfl (HRw.out.alloc _) ⟨wr.heap.size, 0, none⟩ 1 1 [.bool true] rfl rfl (dB _ _ _ _ (by simp)) (by intro u hu; simp at hu; subst hu; rfl) (by unfold maxLen; omega) (by omega) (by have := HBw.out.size; simp; omega) ?_));intro v4 w4 hown4 hgrow hnil;have HB4 := lhid ((HBw.out.alloc HBw.out.size (.cells #[.bool true] 4)).grown hgrow (by have := HBw.out.size; simp; omega) (fun q hq => ((HRw.out.alloc (.cells #[.bool true] 4)).lt q hq).1));have HO4 : Hid (w4.ownsRow W1.heap.size 4 1 v4 (k + 1) (bG ((aL h.2.2 m.1).take (k + 1)))) := lhid (by rw [HE.out, show bG ((aL h.2.2 m.1).take k ++ [true]) = bG ((aL h.2.2 m.1).take k) ++ [.bool true] by simp [bG]]; exact hown4);clear hown4 hgrow hnil;(go_wp2_with fail);go_roundw
    case rel => exact ⟨k + 1, by omega, by go_num, by rw [HN2.out] <;> first | rfl | go_num, HO4.out, HB4.out⟩
    case measure => simp [RowKit.intOf]; omega
   ·have h1b : (tf == 1) = false := (by simpa using h1);by_cases h3 : tf = 3
    ·subst h3;have hn : nI h.2.2 k < m.1.length := (by rw [HLe.out]; exact hlt rfl);obtain ⟨gc, rfl, hcc⟩ := HC.out _ hn;have hcc := cell_later (HFin.out _ HBw.out) hcc;obtain ⟨b, hb⟩ : ∃ b, m.1.getD (nI h.2.2 k) false = b := ⟨_, rfl⟩;rw [hb] at hcc HCt;have HE : Hid ((aL h.2.2 m.1).take (k + 1) = (aL h.2.2 m.1).take k ++ [b]) := lhid (by rw [HCn.out, HCt.out]; rfl);have HN2 : Hid (nI h.2.2 (k + 1) = nI h.2.2 k + 1) := lhid HNx.out;obtain ⟨n, hn2⟩ : ∃ n, nI h.2.2 k = n := ⟨_, rfl⟩;rw [hn2] at hcc HN2 hn hni;(try rw [hn2]);clear HCn HCt HNx hlt hb hn2;obtain ⟨p9, c9, rfl⟩ := aF HRw.out;(go_wp2_with (at_builtin; refine wpList_append_own _ rfl _ _ 26 rfl W1.heap.size 4 i0 (.bool false) 1 1 Tryz.underlying26 hi hz0 hz1 hz2 rfl (by decide) _ _ _ rfl (HRw.out.alloc _) ⟨wr.heap.size, 0, none⟩ 1 1 [.bool b] rfl rfl (dB _ _ _ _ (by simp)) (by intro u hu; simp at hu; subst hu; rfl) (by unfold maxLen; omega) (by omega) (by have := HBw.out.size; simp; omega) ?_));intro v4 w4 hown4 hgrow hnil;have HB4 := lhid ((HBw.out.alloc HBw.out.size (.cells #[.bool b] 4)).grown hgrow (by have := HBw.out.size; simp; omega) (fun q hq => ((HRw.out.alloc (.cells #[.bool b] 4)).lt q hq).1));have HO4 : Hid (w4.ownsRow W1.heap.size 4 1 v4 (k + 1) (bG ((aL h.2.2 m.1).take (k + 1)))) := lhid (by rw [HE.out, show bG ((aL h.2.2 m.1).take k ++ [b]) = bG ((aL h.2.2 m.1).take k) ++ [.bool b] by simp [bG]]; exact hown4);clear hown4 hgrow hnil;(go_wp2_with fail);go_roundw
     case rel => exact ⟨k + 1, by omega, by go_num, by rw [HN2.out] <;> first | rfl | go_num, HO4.out, HB4.out⟩
     case measure => simp [RowKit.intOf]; omega
    ·have h3b : (tf == 3) = false := (by simpa using h3);have HE : Hid ((aL h.2.2 m.1).take (k + 1) = (aL h.2.2 m.1).take k ++ [false]) := lhid (by rw [HCn.out, HCt.out, if_neg h1, if_neg h3]);have HN2 : Hid (nI h.2.2 (k + 1) = nI h.2.2 k) := lhid (by rw [HNx.out, if_neg (by rw [h3b]; exact Bool.false_ne_true)]);clear HCn HCt HNx hlt y0;obtain ⟨p9, c9, rfl⟩ := aF HRw.out;(go_wp2_with (at_builtin; refine wpList_append_own _ rfl _ _ 26 rfl W1.heap.size 4 i0 (.bool false) 1 1 Tryz.underlying26 hi hz0 hz1 hz2 rfl (by decide) _ _ _ rfl (HRw.out.alloc _) ⟨wr.heap.size, 0, none⟩ 1 1 [.bool false] rfl rfl (dB _ _ _ _ (by simp)) (by intro u hu; simp at hu; subst hu; rfl) (by unfold maxLen; omega) (by omega) (by have := HBw.out.size; simp; omega) ?_));intro v4 w4 hown4 hgrow hnil;have HB4 := lhid ((HBw.out.alloc HBw.out.size (.cells #[.bool false] 4)).grown hgrow (by have := HBw.out.size; simp; omega) (fun q hq => ((HRw.out.alloc (.cells #[.bool false] 4)).lt q hq).1));have HO4 : Hid (w4.ownsRow W1.heap.size 4 1 v4 (k + 1) (bG ((aL h.2.2 m.1).take (k + 1)))) := lhid (by rw [HE.out, show bG ((aL h.2.2 m.1).take k ++ [false]) = bG ((aL h.2.2 m.1).take k) ++ [.bool false] by simp [bG]]; exact hown4);clear hown4 hgrow hnil;(go_wp2_with fail);go_roundw
     case rel => exact ⟨k + 1, by omega, by go_num, by rw [HN2.out] <;> first | rfl | go_num, HO4.out, HB4.out⟩
     case measure => simp [RowKit.intOf]; omega
  ·have hke : k = h.2.2.length := (by omega);subst hke;rw [zQ] at hrow;have HRw := lhid hrow;obtain ⟨p9, c9, rfl⟩ := aF hrow;clear hrow;(go_wp2_with fail);go_ret;exact ⟨_, rfl, cQ HRw.out hw1, HFin.out _ hbw⟩
end Go.Proofs.YtdfegfagedeilaaGreatDoor

namespace Go.Proofs.YtdfegfagedeilaaGreatDoor
open Go.RowKit Go.Shelf Go.Lib
abbrev aGx := Nat × OpM
def bHd (x : aGx) : Array Value := #[.int .i64 (x.1 : Nat), .agg #[.bool x.2.1, .int .i64 x.2.2.1, .int .i64 x.2.2.2.1, .int .i64 x.2.2.2.2]]
def itB (l : List OpM) (k : Nat) : List aGx := (List.range k).map fun j => (l.length - 1 - j, l.getD (l.length - 1 - j) cG)
theorem tM (l : List OpM) (k : Nat) : itB l (k + 1) = itB l k ++ [(l.length - 1 - k, l.getD (l.length - 1 - k) cG)] := by simp [itB, List.range_succ]
theorem aBa (l : List OpM) (k : Nat) : (itB l k).length = k := by simp [itB]
theorem aDa (l : List OpM) (k m : Nat) (h : k ≤ m) : itB l k <+: itB l m := by
 induction m with
 | zero =>
  obtain rfl : k = 0 := (by omega);exact List.prefix_rfl
 | succ m ih =>
  by_cases hk : k ≤ m
  ·rw [tM];exact (ih hk).trans (List.prefix_append _ _)
  ·obtain rfl : k = m + 1 := (by omega);exact List.prefix_rfl
theorem bDd (l : List OpM) (pre : List aGx) (h : pre <+: itB l l.length) : pre = itB l pre.length := by
 have h1 := aDa l pre.length l.length (by have := h.length_le; rwa [aBa] at this);exact (List.prefix_of_prefix_length_le h h1 (by rw [aBa]; exact Nat.le_refl _)).eq_of_length (by rw [aBa])
theorem aEs (key : Int) (l : List OpM) : ∀ k, k ≤ l.length → (∀ x ∈ itB l k, wrO key x.2 = false) → dL key l = dL key (l.take (l.length - k))
 | 0, _, _ => by rw [Nat.sub_zero, List.take_length]
 | k + 1, hk, h => by
  rw [aEs key l k (by omega) (fun x hx => h x (by rw [tM]; exact List.mem_append_left _ hx))];have e : l.length - k = (l.length - (k + 1)) + 1 := (by omega);have h2 := h (l.length - 1 - k, l.getD (l.length - 1 - k) cG) (by rw [tM]; simp);rw [show l.length - 1 - k = l.length - (k + 1) by omega] at h2;rw [e, xK key l _ (by omega), if_neg (by rw [h2]; exact Bool.false_ne_true)]
theorem bEx (key : Int) (l : List OpM) (h : ∀ x ∈ itB l l.length, wrO key x.2 = false) : dL key l = vI := by
 rw [aEs key l l.length (Nat.le_refl _) h, Nat.sub_self, List.take_zero, bIw]
theorem bIv (key : Int) (l : List OpM) (pre : List aGx) (x : aGx) (hp : pre ++ [x] <+: itB l l.length) (h : ∀ y ∈ pre, wrO key y.2 = false) (hx : wrO key x.2 = true) : dL key l = (x.2.2.2, true) := by
 have e := bDd l _ hp;have hl := hp.length_le;rw [List.length_append, List.length_singleton, aBa] at hl;rw [List.length_append, List.length_singleton, tM] at e;obtain ⟨e1, e2⟩ := List.append_inj' e rfl;injection e2 with e2;rw [e1] at h;rw [aEs key l pre.length (by omega) h];have e3 : l.length - pre.length = (l.length - 1 - pre.length) + 1 := (by omega);rw [e3, xK key l _ (by omega)];rw [e2] at hx ⊢;rw [if_pos hx]
attribute [local go_sem] Oper.semAt_some
set_option maxHeartbeats 1000000 in
theorem bGw (F : Fence) (n : Nat) (hF : F.fn 105) (hro : F.round = none) (p : Option Addr) (m c : Nat) (w : World) :
  CallsIn F n Tryz.prog 105 #[.slice p m c] w fun e w' => e = .returned (.func (.func 127) #[] #[.pointer (some ⟨w.heap.size, 0, none⟩)]) ∧ w' = w.alloc (.cells #[.slice p m c] 65) := by
 refine callsIn_of_wp Tryz.func105 rfl hF ?_ hro;simp only [Tryz.ntmps105, List.size_toArray, List.length_cons, List.length_nil, Nat.reduceAdd, Nat.reduceSub, Array.replicate_succ, Array.replicate_zero, List.push_toArray, List.append_toArray, List.nil_append, List.cons_append]
 gi_wp2
 go_ret;exact ⟨rfl, rfl⟩
set_option maxRecDepth 100000 in
set_option maxHeartbeats 4000000 in
theorem bBv (F : Fence) (n : Nat) (hF : F.fn 127) (hro : F.round = none) (hn : 1 ≤ n) (l B : Nat) (w0 : World) (p : Option Addr) (c : Nat) (L : List OpM) (hL : L.length ≤ 1000) (ho : pF w0 p L)
  (J Jx : List aGx → World → Prop)
  (hA : ∀ pre W o, J pre W → J pre (W.alloc o))
  (hY : ∀ pre x W, J pre W → pre ++ [x] <+: itB L L.length → YieldAt F (n - 1) Tryz.prog l (bHd x) W fun e W' =>
   (e = .returned (.bool true) ∧ J (pre ++ [x]) W' ∧ Below w0.heap.size W W') ∨ (e = .returned (.bool false) ∧ Jx (pre ++ [x]) W'))
  (W : World) (hbW : Below w0.heap.size w0 W) (h3 : W.cell? ⟨B, 0, none⟩ = some (.slice p L.length c)) (hfr : ∀ W', Below w0.heap.size w0 W' → W'.cell? ⟨B, 0, none⟩ = some (.slice p L.length c)) (h0 : J [] W) :
  CallsIn F n Tryz.prog 127 #[.func (.yield l) #[] #[], .pointer (some ⟨B, 0, none⟩)] W fun e W' => (∃ v, e = .returned v) ∧
   ((∃ ys, ys = itB L L.length ∧ J ys W') ∨ (∃ pre, pre <+: itB L L.length ∧ Jx pre W')) := by
 have HX := lhid ho;have HY := lhid hY;have HA := lhid hA;have HFR := lhid hfr;clear ho hY hA hfr;refine callsIn_of_wp Tryz.func127 rfl hF ?_ hro;simp only [Tryz.ntmps127, List.size_toArray, List.length_cons, List.length_nil, Nat.reduceAdd, Nat.reduceSub, Array.replicate_succ, Array.replicate_zero, List.push_toArray, List.append_toArray, List.nil_append, List.cons_append];have e0 : IntKind.i64.wrap ((L.length : Int) - 1) = (L.length : Int) - 1 := by rw [IntKind.wrap_i64]; omega
 gi_wp2
 gi_loopw [3] (fun i wr => ∃ k : Nat, k ≤ L.length ∧ i = .int .i64 ((L.length : Int) - 1 - k) ∧ J (itB L k) wr ∧ Below w0.heap.size w0 wr) (fun i _ => (RowKit.intOf i + 1).toNat)
 case atStart => exact ⟨0, Nat.zero_le _, by simp, by simpa [itB] using h0, hbW⟩
 case round =>
  obtain ⟨k, hk, rfl, hJk, hbk⟩ := hrel;have y3 := HFR.out _ hbk;by_cases hlt : k < L.length
  ·obtain ⟨g2, rfl, b1, b2, b3, b4⟩ := HX.out (L.length - 1 - k) (by omega);have b1' := cell_later hbk b1;have b2' := cell_later hbk b2;have b3' := cell_later hbk b3;have b4' := cell_later hbk b4;have HS2 := lhid (tM L k);have hpf := aDa L (k + 1) L.length hlt;have ei : ((L.length : Int) - 1 - k) = ((L.length - 1 - k : Nat) : Int) := (by omega);obtain ⟨j, hj⟩ : ∃ j, L.length - 1 - k = j := ⟨_, rfl⟩;rw [hj] at b1' b2' b3' b4' HS2 ei;rw [ei];obtain ⟨o, ho⟩ : ∃ o, L.getD j cG = o := ⟨_, rfl⟩;rw [ho] at b1' b2' b3' b4' HS2;rw [HS2.out] at hpf;obtain ⟨ow, ok, od, on⟩ := o;simp only at b1' b2' b3' b4' HS2 hpf;have HPf := lhid hpf;have EI := lhid ei;have HJ := lhid hj;clear b1 b2 b3 b4 ho;have hjl : j < L.length := (by omega);have hge : decide ((0 : Int) ≤ (j : Int)) = true := decide_eq_true (by omega);have ew : IntKind.i64.wrap ((j : Int) - 1) = (j : Int) - 1 := (by rw [IntKind.wrap_i64]; omega);obtain ⟨fn, tmps, assign, body, hy, hR⟩ := HY.out _ (j, (ow, ok, od, on)) wr hJk hpf;simp only [bHd] at hy;clear hpf ei hj
   gi_wp2
   refine hR.mono ?_;rintro e W3 (⟨rfl, hJ3, hk3⟩ | ⟨rfl, hJx3⟩)
   ·gi_wp2
    go_roundw
    case rel => exact ⟨k + 1, by omega, by have h1 := EI.out; go_num, by rw [HS2.out]; exact hJ3, hbk.trans hk3⟩
    case measure => simp [RowKit.intOf]
   ·gi_wp2
    refine bodyPost_ret (results_none rfl _ _ _) rfl ?_;exact ⟨⟨_, rfl⟩, .inr ⟨_, HPf.out, hJx3⟩⟩
  ·obtain rfl : k = L.length := (by omega);have hge : decide ((0 : Int) ≤ (L.length : Int) - 1 - (L.length : Nat)) = false := decide_eq_false (by omega)
   gi_wp2
   go_end0
   exact ⟨⟨_, rfl⟩, .inl ⟨_, rfl, hJk⟩⟩
theorem aQm (F : Fence) (n : Nat) (hF : F.fn 127) (hro : F.round = none) (hn : 1 ≤ n) (B : Nat) (w : World) (p : Option Addr) (c : Nat) (L : List OpM) (hL : L.length ≤ 1000) (ho : pF w p L) (h3 : w.cell? ⟨B, 0, none⟩ = some (.slice p L.length c)) :
  SeqStopsK F n Tryz.prog 127 #[.pointer (some ⟨B, 0, none⟩)] bHd (Below w.heap.size) (fun ys => ys = itB L L.length) (fun pre => pre <+: itB L L.length) (itB L L.length).length w := fun l J Jx W hW hJ _ hY h0 => by
 refine (bBv F n hF hro hn l B w p c L hL ho J Jx (fun pre W o h => hJ pre W _ none h (World.grownBy_alloc W o none) (fun r e => by cases e)) (fun pre x W' hj hpf => hY pre x W' hj (aIo hpf)) W hW (cell_later hW h3) (fun W' hb => cell_later hb h3) h0).mono ?_;rintro e W' ⟨he, h⟩;exact ⟨he, h.elim (fun ⟨ys, h1, h2⟩ => .inl ⟨ys, h1, h2⟩) (fun ⟨pre, h1, h2⟩ => .inr ⟨pre, h1, h2⟩)⟩
end Go.Proofs.YtdfegfagedeilaaGreatDoor

namespace Go.Proofs.YtdfegfagedeilaaGreatDoor
open Go.RowKit Go.Shelf Go.Lib
attribute [local go_sem] Oper.semAt_some
theorem aHu {w : World} {b : Nat} {x : Value} (h : Blk w b 4 [x]) : (loadVar 4 ⟨b, 0, none⟩).run Tryz.prog w = .ok x w := by
 have h0 := h.cell 0 rfl;simp [go_sem, h0]
theorem yQ {B : Nat} {w : World} (b i : Nat) (v : Value) (h : b < B) : KeepsFrom B w (w.setCell ⟨b, i, none⟩ v) :=
 KeepsFrom.of_grownBy (row := some b) ⟨rfl, rfl, rfl, by simp [World.setCell], fun k _ hk => Below.heap_setCell w _ v k (fun e => hk (by rw [e]))⟩ (fun j e => by cases e; exact h)
set_option maxRecDepth 100000 in
set_option maxHeartbeats 4000000 in
theorem aMz (p : Option Addr) (c : Nat) (L : List OpM) (key : Int) (w : World) (hL : L.length ≤ 1000) (ho : pF w p L) :
  Calls Tryz.prog 86 #[.slice p L.length c, .int .i64 key] w fun e w' => e = .returned (.tuple #[.agg #[.int .i64 (dL key L).1.1, .int .i64 (dL key L).1.2], .bool (dL key L).2]) ∧ Below w.heap.size w w' := by
 refine (callsIn_wide (n := 10)).1 ?_;refine callsIn_of_wp_marks Tryz.func86 rfl trivial ?_ rfl;simp only [Tryz.ntmps86, List.size_toArray, List.length_cons, List.length_nil, Nat.reduceAdd, Nat.reduceSub, Array.replicate_succ, Array.replicate_zero, List.push_toArray, List.append_toArray, List.nil_append, List.cons_append]
 gi_wp2_with fail
 refine ⟨trivial, (bGw Fence.wide 9 trivial rfl _ _ _ _).mono ?_⟩;rintro e w1 ⟨rfl, rfl⟩
 gi_wp2_with fail
 have b0 := (((Blk.new w 3 [.int .i64 key]).alloc (.cells #[.int .i64 0, .int .i64 0] 57)).alloc (.cells #[.bool false] 4)).alloc (.cells #[.slice p L.length c] 65);have b1 := ((Blk.new (w.alloc (.cells #[.int .i64 key] 3)) 57 [.int .i64 0, .int .i64 0]).alloc (.cells #[.bool false] 4)).alloc (.cells #[.slice p L.length c] 65);have b2 := (Blk.new ((w.alloc (.cells #[.int .i64 key] 3)).alloc (.cells #[.int .i64 0, .int .i64 0] 57)) 4 [.bool false]).alloc (.cells #[.slice p L.length c] 65);have b3 := Blk.new (((w.alloc (.cells #[.int .i64 key] 3)).alloc (.cells #[.int .i64 0, .int .i64 0] 57)).alloc (.cells #[.bool false] 4)) 65 [.slice p L.length c];have hal := ((((Below.refl w.heap.size w).alloc (Nat.le_refl _) (.cells #[.int .i64 key] 3)).alloc (by simp) (.cells #[.int .i64 0, .int .i64 0] 57)).alloc (by simp; omega) (.cells #[.bool false] 4)).alloc (by simp; omega) (.cells #[.slice p L.length c] 65);simp only [World.size_alloc] at b1 b2 b3;obtain ⟨W1, hW1⟩ : ∃ W1, (((w.alloc (.cells #[.int .i64 key] 3)).alloc (.cells #[.int .i64 0, .int .i64 0] 57)).alloc (.cells #[.bool false] 4)).alloc (.cells #[.slice p L.length c] 65) = W1 := ⟨_, rfl⟩;rw [hW1] at b0 b1 b2 b3 hal ⊢;have hz : w.heap.size + 1 + 1 + 1 < W1.heap.size := b3.lt;have B0 := lhid b0;have B1 := lhid b1;have B2 := lhid b2;have HAL := lhid hal;have HSt := lhid (aQm Fence.wide 9 trivial rfl (by omega) (w.heap.size + 1 + 1 + 1) W1 p c L hL (ho.below hal) (b3.cell 0 rfl));clear hW1 b0 b1 b2 b3 hal ho
 refine wpIn_rangeFunc_ownH rfl (by omega) (gf := 127) (lb := #[.pointer (some ⟨w.heap.size + 1 + 1 + 1, 0, none⟩)]) rfl trivial (enters_of Tryz.func127 (by kernel_rfl) rfl)
  HSt.out belowK_t (belowK_b (Nat.le_refl _)) (Below.refl _ _) (fun _ => rfl)
  (fun pre W => (∀ x ∈ pre, wrO key x.2 = false) ∧ Below W1.heap.size W1 W)
  (fun c pre W => (c = .ret ∧ ∃ q x, pre = q ++ [x] ∧ (∀ y ∈ q, wrO key y.2 = false) ∧ wrO key x.2 = true ∧ Blk W (w.heap.size + 1) 57 [.int .i64 x.2.2.2.1, .int .i64 x.2.2.2.2] ∧ Blk W (w.heap.size + 1 + 1) 4 [.bool true]) ∧ Below w.heap.size w W)
  (OwnFrom.and (fun s A B row hs hg hr => hs) (ownFrom_below (Nat.le_refl _) (Nat.le_refl _)))
  (fun c => OwnFrom.and (fun s A B row hs hg hr => by
    obtain ⟨e, q, x, h1, h2, h3, h4, h5⟩ := hs;have hne : ∀ b, b < W1.heap.size → some b ≠ row := fun b hb e => by have := (hr b e.symm).1; omega
    exact ⟨e, q, x, h1, h2, h3, h4.kept hg (hne _ (by omega)), h5.kept hg (hne _ (by omega))⟩) (ownFrom_below (Nat.le_refl _) (by omega)))
  ⟨(fun x hx => by cases hx), Below.refl _ _⟩
  (fun x a' W => ∃ Bx, W1.heap.size ≤ Bx ∧ Blk W Bx 82 [.bool x.2.1, .int .i64 x.2.2.1, .int .i64 x.2.2.2.1, .int .i64 x.2.2.2.2] ∧ a' = { tmps := #[.slice p L.length c, .int .i64 key, undef, .pointer (some ⟨w.heap.size, 0, none⟩), .pointer (some ⟨w.heap.size + 1, 0, none⟩), .pointer (some ⟨w.heap.size + 1 + 1, 0, none⟩), undef, .pointer (some ⟨Bx, 0, none⟩), .slice p L.length c, .func (.func 127) #[] #[.pointer (some ⟨w.heap.size + 1 + 1 + 1, 0, none⟩)], .int .i64 (x.1 : Nat), .agg #[.bool x.2.1, .int .i64 x.2.2.1, .int .i64 x.2.2.2.1, .int .i64 x.2.2.2.2], undef, undef, undef, undef, undef, undef, undef, undef, undef, undef, undef], defers := [] })
  (fun x a' _ X Y row hs hg hr => by
   obtain ⟨Bx, r1, r2, r3⟩ := hs
   exact ⟨Bx, r1, r2.kept hg (fun e => by obtain ⟨-, o, ho, hc⟩ := hr Bx e.symm; have r2' : X.heap[Bx]? = some _ := r2; rw [r2'] at ho; cases ho; cases hc), r3⟩)
  ?assign ?body ?done ?stop
 case assign =>
  rintro l pre x W K ⟨q1, hB⟩ hK;simp only [bHd]
  gi_wp2
  exact hK _ _ ((KeepsOthers.alloc _ _).from _) ((Below.refl _ W).alloc hB.size _) ⟨q1, hB.alloc hB.size _⟩ ⟨W.heap.size, hB.size, Blk.new W _ [_, _, _, _], rfl⟩
 case body =>
  rintro l pre ⟨j, ow, ok, od, on⟩ a' W hl - ⟨q1, hB⟩ ⟨Bx, hBx, bX, rfl⟩ hlt2;dsimp only at bX ⊢;have z0 := bX.cell 0 rfl;have z1 := bX.cell 1 rfl;have z2 := bX.cell 2 rfl;have z3 := bX.cell 3 rfl;have zl := bX.lt;have kc := (B0.out.later hB).cell 0 rfl;have HV := lhid (B1.out.later hB);have HT := lhid (B2.out.later hB);have HB := lhid hB;have Q1 := lhid q1;clear bX q1 hB
  cases ow with
  | false =>
   gi_wp2_with fail
   exact ⟨nD (Below.refl _ _), Below.refl _ _, (fun y hy => by
    rcases List.mem_append.1 hy with hy | hy
    ·exact Q1.out y hy
    ·obtain rfl : y = _ := by simpa using hy
     rfl), HB.out⟩
  | true =>
   by_cases hk : ok = key
   ·subst hk;have r0 := HV.out.cell 0 rfl;have r1 := HV.out.cell 1 rfl;have f0 := HV.out.frozen 0;have f1 := HV.out.frozen 1;have s0 := HT.out.cell 0 rfl;have sf := HT.out.frozen 0
    gi_wp2_with fail
    have hb1 := (((HAL.out.trans (HB.out.mono (by omega))).setCell (p := ⟨w.heap.size + 1, 0, none⟩) (by show w.heap.size ≤ w.heap.size + 1; omega) (.int .i64 od)).setCell (p := ⟨w.heap.size + 1, 1, none⟩) (by show w.heap.size ≤ w.heap.size + 1; omega) (.int .i64 on)).setCell (p := ⟨w.heap.size + 1 + 1, 0, none⟩) (by show w.heap.size ≤ w.heap.size + 1 + 1; omega) (.bool true);refine ⟨((yQ (w.heap.size + 1) 0 _ (by omega)).trans (yQ (w.heap.size + 1) 1 _ (by omega))).trans (yQ (w.heap.size + 1 + 1) 0 _ (by omega)), ⟨rfl, pre, _, rfl, Q1.out, ?_, ?_, ?_⟩, hb1⟩
    ·show (true && ok == ok) = true;simp
    ·exact (dQ HV.out _ _).far (by show w.heap.size + 1 ≠ w.heap.size + 1 + 1; omega) _
    ·exact ((HT.out.far (by show w.heap.size + 1 + 1 ≠ w.heap.size + 1; omega) _).far (by show w.heap.size + 1 + 1 ≠ w.heap.size + 1; omega) _).set 0 _
   ·have hk2 : (ok == key) = false := beq_eq_false_iff_ne.2 hk
    gi_wp2_with fail
    exact ⟨nD (Below.refl _ _), Below.refl _ _, (fun y hy => by
     rcases List.mem_append.1 hy with hy | hy
     ·exact Q1.out y hy
     ·obtain rfl : y = _ := by simpa using hy
      exact hk2), HB.out⟩
 case done =>
  rintro Dd xs W hD hS ⟨q1, hB⟩ hd;have hraw : dL key L = vI := bEx key L (by rw [← hS]; exact q1);have HV := lhid (B1.out.later hB);have HT := lhid (B2.out.later hB);have HB := lhid hB;have HD := lhid hd;have r0 := HV.out.cell 0 rfl;have r1 := HV.out.cell 1 rfl;have f0 := HV.out.frozen 0;have f1 := HV.out.frozen 1;have s0 := HT.out.cell 0 rfl;have sf := HT.out.frozen 0;have HR := lhid hraw;clear q1 hB hS hd hraw
  gi_wp2_with fail
  have hb1 := (((HAL.out.trans (HB.out.mono (by omega))).setCell (p := ⟨w.heap.size + 1, 0, none⟩) (by show w.heap.size ≤ w.heap.size + 1; omega) (.int .i64 0)).setCell (p := ⟨w.heap.size + 1, 1, none⟩) (by show w.heap.size ≤ w.heap.size + 1; omega) (.int .i64 0)).setCell (p := ⟨w.heap.size + 1 + 1, 0, none⟩) (by show w.heap.size ≤ w.heap.size + 1 + 1; omega) (.bool false)
  have hd2 : (((W.setCell ⟨w.heap.size + 1, 0, none⟩ (.int .i64 0)).setCell ⟨w.heap.size + 1, 1, none⟩ (.int .i64 0)).setCell ⟨w.heap.size + 1 + 1, 0, none⟩ (.bool false)).heap[Dd]? = some (.deferred (some [])) := by
   rw [Below.heap_setCell _ _ _ _ (by show Dd ≠ w.heap.size + 1 + 1; omega), Below.heap_setCell _ _ _ _ (by show Dd ≠ w.heap.size + 1; omega), Below.heap_setCell _ _ _ _ (by show Dd ≠ w.heap.size + 1; omega)];exact HD.out
  have hv := sB ((dQ HV.out (.int .i64 0) (.int .i64 0)).far (a := ⟨w.heap.size + 1 + 1, 0, none⟩) (by show w.heap.size + 1 ≠ w.heap.size + 1 + 1; omega) (.bool false)) (l := Dd) (by omega) (.deferred none);have ht := sB (((HT.out.far (a := ⟨w.heap.size + 1, 0, none⟩) (by show w.heap.size + 1 + 1 ≠ w.heap.size + 1; omega) (.int .i64 0)).far (a := ⟨w.heap.size + 1, 1, none⟩) (by show w.heap.size + 1 + 1 ≠ w.heap.size + 1; omega) (.int .i64 0)).set 0 (.bool false)) (l := Dd) (by omega) (.deferred none);refine ⟨by simp, .inl ⟨_, _, rfl, run_takeDeferred hd2, ?_⟩⟩;exact ⟨_, aEv Tryz.results86 _ _ _ _ _ _ _ rfl rfl (kC hv) (aHu ht), by rw [HR.out] <;> rfl, hb1.trans (belowK_b (w := W1) (by omega) _ Dd _ _ hD hd2 rfl rfl)⟩
 case stop =>
  rintro Dd c2 pre W hD hpf ⟨⟨rfl, q, x, rfl, h2, h3, h4, h5⟩, hB⟩ hd;have hraw := bIv key L q x hpf h2 h3;have HB := lhid hB;have HD := lhid hd;have HR := lhid hraw;clear hB hraw h2 h3 hpf hd;have hv := sB h4 (l := Dd) (by omega) (.deferred none);have ht := sB h5 (l := Dd) (by omega) (.deferred none)
  gi_wp2_with fail
  refine ⟨by simp, .inl ⟨_, _, rfl, run_takeDeferred HD.out, ?_⟩⟩;exact ⟨_, aEv Tryz.results86 _ _ _ _ _ _ _ rfl rfl (kC hv) (aHu ht), by rw [HR.out] <;> rfl, HB.out.trans (belowK_b (w := W1) (by omega) _ Dd _ _ hD HD.out rfl rfl)⟩
end Go.Proofs.YtdfegfagedeilaaGreatDoor

namespace Go.Proofs.YtdfegfagedeilaaGreatDoor
open Go.RowKit Go.Lib
theorem aEl (w : World) : qF w (.slice none 0 0) [] := ⟨none, 0, rfl, Nat.le_refl _, fun j hj => absurd hj (Nat.not_lt_zero j)⟩
theorem aMo {w : World} {p : Option Addr} {L : List OpM} (h : pF w p L) (k : Nat) : pF w p (L.take k) := fun j hj => by
 have hj' : j < L.length := (by rw [List.length_take] at hj; omega);have hk : j < k := (by rw [List.length_take] at hj; omega);have e : (L.take k).getD j cG = L.getD j cG := (by simp [hk]);rw [e];exact h j hj'
theorem bHu (p : Option Addr) (c m : Nat) (L : List OpM) (key : Int) (w : World) (hm : L.length = m) (hL : m ≤ 1000) (ho : pF w p L) :
  Calls Tryz.prog 86 #[.slice p m c, .int .i64 key] w fun e w' => e = .returned (.tuple #[.agg #[.int .i64 (dL key L).1.1, .int .i64 (dL key L).1.2], .bool (dL key L).2]) ∧ Below w.heap.size w w' := by
 subst hm;exact aMz p c L key w hL ho
set_option maxRecDepth 100000 in
set_option maxHeartbeats 2000000 in
theorem aJc {w : World} {v : Value} {h : aI} (i : Int) (hv : cJ w v h) (hm : cU h) (hT : Lib.Utf8Tabs 1 2 w) :
  Calls Tryz.prog 85 #[v, .int .i64 i] w fun e w' => ∃ sv, e = .returned sv ∧ qF w' sv (lL h i) ∧ Below w.heap.size w w' := by
 have H0 := lhid hv;obtain ⟨v0, v1, v2, rfl, ⟨p0, c0, rfl, -⟩, ⟨p1, c1, rfl, -⟩, ⟨p2, c2, rfl, k2⟩⟩ := hv;have hal := (Below.refl w.heap.size w).alloc (Nat.le_refl _) (.cells #[.slice p0 h.1.length c0, .slice p1 h.2.1.length c1, .slice p2 h.2.2.length c2] 25);have HMay := lhid (bUd (H0.out.below hal) hm (Utf8Tabs_below hT hal));have HBx := lhid (Blk.new w 25 [.slice p0 h.1.length c0, .slice p1 h.2.1.length c1, .slice p2 h.2.2.length c2]);have HX := lhid k2;have HAL := lhid hal;clear hT hal hm H0 k2;go_enter Tryz.func85, Tryz.ntmps85;(go_wp2_with fail);refine HMay.out.mono ?_;rintro e w1 ⟨rfl, hb1⟩;clear HMay;have hbw1 := aB HAL.out hb1;have hx1 := HBx.out.later hb1;have o2 := hx1.cell 2 rfl;have olt := hx1.lt;clear hb1 HAL HBx hx1
 cases hmm : cZ h with
 | false =>
  have HE := lhid (aKj hmm i);rw [pH hmm];clear hmm;(go_wp2_with fail);go_ret;exact ⟨_, rfl, by rw [HE.out]; exact aEl _, hbw1⟩
 | true =>
  rw [kT hmm];by_cases g1 : i < 0
  ·have HE := lhid (aEk (h := h) i g1);clear hmm;(go_wp2_with fail);go_ret;exact ⟨_, rfl, by rw [HE.out]; exact aEl _, hbw1⟩
  ·by_cases g2 : (h.2.2.length : Int) ≤ i
   ·have HE := lhid (vB (h := h) i g2);clear hmm;(go_wp2_with fail);go_ret;exact ⟨_, rfl, by rw [HE.out]; exact aEl _, hbw1⟩
   ·obtain ⟨k, rfl⟩ : ∃ k : Nat, i = (k : Int) := ⟨i.toNat, by omega⟩;have hk : k < h.2.2.length := (by omega);have HE := lhid (qN hmm k hk);obtain ⟨g, sv, rfl, -, -, a3, a4⟩ := HX.out k hk;have a3' := cell_later hbw1 a3;have A4 := lhid (a4.below hbw1);clear hmm a3 a4 g1 g2;(go_wp2_with fail);go_ret;exact ⟨_, rfl, by rw [HE.out]; exact A4.out, hbw1⟩
set_option maxRecDepth 100000 in
set_option maxHeartbeats 4000000 in
theorem bVk {w : World} {v : Value} {h : aI} (t o : Int) (hv : cJ w v h) (hm : cU h) (hT : Lib.Utf8Tabs 1 2 w) :
  Calls Tryz.prog 64 #[v, .agg #[.int .i64 t, .int .i64 o]] w fun e w' => e = .returned (.tuple #[.agg #[.int .i64 (nE h t o).1.1, .int .i64 (nE h t o).1.2], .bool (nE h t o).2]) ∧ Below w.heap.size w w' := by
 have H0 := lhid hv;obtain ⟨v0, v1, v2, rfl, ⟨p0, c0, rfl, -⟩, ⟨p1, c1, rfl, -⟩, ⟨p2, c2, rfl, -⟩⟩ := hv;have hal := (((Below.refl w.heap.size w).alloc (Nat.le_refl _) (.cells #[.slice p0 h.1.length c0, .slice p1 h.2.1.length c1, .slice p2 h.2.2.length c2] 25)).alloc (by simp) (.cells #[.int .i64 t, .int .i64 o] 70)).alloc (by simp; omega) (.cells #[.int .i64 0, .int .i64 0] 57);have HTx := lhid (aJc t (H0.out.below hal) hm (Utf8Tabs_below hT hal));have hpx := (Blk.new (w.alloc (.cells #[.slice p0 h.1.length c0, .slice p1 h.2.1.length c1, .slice p2 h.2.2.length c2] 25)) 70 [.int .i64 t, .int .i64 o]).alloc (.cells #[.int .i64 0, .int .i64 0] 57);have hvx := Blk.new ((w.alloc (.cells #[.slice p0 h.1.length c0, .slice p1 h.2.1.length c1, .slice p2 h.2.2.length c2] 25)).alloc (.cells #[.int .i64 t, .int .i64 o] 70)) 57 [.int .i64 0, .int .i64 0];simp only [World.size_alloc] at hpx hvx;have HPX := lhid hpx;have HVX := lhid hvx;have HAL := lhid hal;have hlen := aEj hm t;clear hT hal hm H0 hpx hvx;go_enter Tryz.func64, Tryz.ntmps64;(go_wp2_with fail);refine HTx.out.mono ?_;rintro e w1 ⟨sv, rfl, ⟨ps, cs, rfl, hcap, ho⟩, hb1⟩;have HB1 := lhid (aB HAL.out hb1);have hp1 := HPX.out.later hb1;have HV1 := lhid (HVX.out.later hb1);have q1 := hp1.cell 1 rfl;have plt := hp1.lt;have HP1 := lhid hp1;have HO := lhid ho;have hP : nE h t o = if 0 ≤ o ∧ o < ((lL h t).length : Int) then dL ((lL h t).getD o.toNat cG).2.1 ((lL h t).take o.toNat) else vI := rfl;obtain ⟨L, hL⟩ : ∃ L, lL h t = L := ⟨_, rfl⟩;rw [hL] at hP HO hlen hcap ⊢;have HP := lhid hP;clear hb1 HTx HPX HVX HAL hp1 ho hP hL;have r0 := HV1.out.cell 0 rfl;have r1 := HV1.out.cell 1 rfl;have f0 := HV1.out.frozen 0;have f1 := HV1.out.frozen 1;by_cases g1 : o < 0
 ·have HE : Hid (nE h t o = vI) := lhid (by rw [HP.out, if_neg (by omega)]);(go_wp2_with fail);refine bodyPost_ret (cM Tryz.results64 _ _ _ _ _ rfl (kC (dQ HV1.out _ _))) rfl ?_;exact ⟨by rw [HE.out] <;> rfl, aU HB1.out (by omega) _ _⟩
 ·by_cases g2 : (L.length : Int) ≤ o
  ·have HE : Hid (nE h t o = vI) := lhid (by rw [HP.out, if_neg (by omega)]);(go_wp2_with fail);refine bodyPost_ret (cM Tryz.results64 _ _ _ _ _ rfl (kC (dQ HV1.out _ _))) rfl ?_;exact ⟨by rw [HE.out] <;> rfl, aU HB1.out (by omega) _ _⟩
  ·obtain ⟨k, rfl⟩ : ∃ k : Nat, o = (k : Int) := ⟨o.toNat, by omega⟩;have hk : k < L.length := (by omega);have hkc : k ≤ cs := (by omega);have hE : nE h t k = dL (L.getD k cG).2.1 (L.take k) := (by rw [HP.out, if_pos (by omega), Int.toNat_natCast]);obtain ⟨g, rfl, -, a2, -, -⟩ := HO.out k hk;have HOt := lhid (fun w' (hb : Below w1.heap.size w1 w') => aMo (HO.out.below hb) k);obtain ⟨ok, hok⟩ : ∃ q, (L.getD k cG).2.1 = q := ⟨_, rfl⟩;rw [hok] at a2 hE;obtain ⟨⟨⟨gk, gn⟩, gb⟩, hg⟩ : ∃ r, dL ok (L.take k) = r := ⟨_, rfl⟩;rw [hg] at hE;have HG := lhid hg;have HE := lhid hE;clear hg;have HS : Hid (∀ w', Below w1.heap.size w1 w' → w'.cell? ⟨w.heap.size + 1, 1, none⟩ = some (.int .i64 (k : Nat)) ∧ w'.cell? ⟨g, k * 4 + 1, none⟩ = some (.int .i64 ok) ∧ Below w1.heap.size w1 w') := lhid (fun w' hb => ⟨cell_later hb q1, cell_later hb a2, hb⟩);clear hE hok a2 r0 r1 f0 f1;(go_wp2_with fail);refine wpk HS [13] (by kernel_rfl) fun hB0 hS0 => ?_;refine wF 0 ?_;refine wF 1 ?_;refine wT 2 15 hS0 ?_;refine wF 3 ?_;refine wF 4 ?_;refine wO 5 ?_;refine wO 6 ?_;refine wO 7 ?_;refine wO 8 ?_;refine wO 9 ?_;refine won 10 rfl fun K hK => ?_;go_simp;refine (bHu (some ⟨g, 0, none⟩) _ k (L.take k) ok _ (by rw [List.length_take]; omega) (by omega) (HOt.out _ hB0)).mono ?_;rintro e w1 ⟨he, hb1⟩;have hB1 := aB hB0 hb1;have hS1 := HS.out _ hB1;rw [HG.out] at he;dsimp only at he;subst he;refine hK.out _ _ (fun _ _ => hS1) ?_;clear hK K hS0;(try simp only [Act.put, sq]);refine wF 11 ?_;refine wO 12 ?_;have hvk := HV1.out.later hB1;have r0 := hvk.cell 0 rfl;have r1 := hvk.cell 1 rfl;have f0 := hvk.frozen 0;have f1 := hvk.frozen 1;have HVk := lhid hvk;clear hvk;refine wL 13 ?_;refine wO 14 ?_;refine wD ?_;(go_wp2_with fail);refine bodyPost_ret (cM Tryz.results64 _ _ _ _ _ rfl (kC (dQ HVk.out _ _))) rfl ?_;exact ⟨by rw [HE.out] <;> rfl, aU (aB HB1.out hB1) (by omega) _ _⟩
set_option maxRecDepth 100000 in
set_option maxHeartbeats 4000000 in
theorem bUo {w : World} {v : Value} {h : aI} (i key : Int) (hv : cJ w v h) (hm : cU h) (hT : Lib.Utf8Tabs 1 2 w) :
  Calls Tryz.prog 100 #[v, .int .i64 i, .int .i64 key] w fun e w' => e = .returned (.tuple #[.agg #[.int .i64 (dL key (lL h i)).1.1, .int .i64 (dL key (lL h i)).1.2], .bool (dL key (lL h i)).2]) ∧ Below w.heap.size w w' := by
 have H0 := lhid hv;obtain ⟨v0, v1, v2, rfl, ⟨p0, c0, rfl, -⟩, ⟨p1, c1, rfl, -⟩, ⟨p2, c2, rfl, -⟩⟩ := hv;have hal := ((Below.refl w.heap.size w).alloc (Nat.le_refl _) (.cells #[.slice p0 h.1.length c0, .slice p1 h.2.1.length c1, .slice p2 h.2.2.length c2] 25)).alloc (by simp) (.cells #[.int .i64 0, .int .i64 0] 57);have HTx := lhid (aJc i (H0.out.below hal) hm (Utf8Tabs_below hT hal));have hvx := Blk.new (w.alloc (.cells #[.slice p0 h.1.length c0, .slice p1 h.2.1.length c1, .slice p2 h.2.2.length c2] 25)) 57 [.int .i64 0, .int .i64 0];simp only [World.size_alloc] at hvx;have HVX := lhid hvx;have HAL := lhid hal;have HLen := lhid (aEj hm i);clear hT hal hm H0 hvx;go_enter Tryz.func100, Tryz.ntmps100;(go_wp2_with fail);refine HTx.out.mono ?_;rintro e w1 ⟨sv, rfl, ⟨ps, cs, rfl, hcap, ho⟩, hb1⟩;have HB1 := lhid (aB HAL.out hb1);have HV1 := lhid (HVX.out.later hb1);have HO := lhid ho;clear hb1 HTx HVX HAL ho;(go_wp2_with fail);refine (aMz ps cs (lL h i) key w1 HLen.out HO.out).mono ?_;rintro e w2 ⟨he, hb2⟩;obtain ⟨⟨⟨gk, gn⟩, gb⟩, hg⟩ : ∃ r, dL key (lL h i) = r := ⟨_, rfl⟩;rw [hg] at he;dsimp only at he;subst he;have HG := lhid hg;clear hg;have HB2 := lhid (aB HB1.out hb2);have HV2 := lhid (HV1.out.later hb2);have r0 := HV2.out.cell 0 rfl;have r1 := HV2.out.cell 1 rfl;have f0 := HV2.out.frozen 0;have f1 := HV2.out.frozen 1;clear hb2 HB1 HV1;(go_wp2_with fail);refine bodyPost_ret (cM Tryz.results100 _ _ _ _ _ rfl (kC (dQ HV2.out _ _))) rfl ?_;exact ⟨by rw [HG.out] <;> rfl, aU HB2.out (by omega) _ _⟩
end Go.Proofs.YtdfegfagedeilaaGreatDoor

namespace Go.Proofs
open Go.Shelf
def Tryz.laysSortV_ren : Go.Shelf.Ren := ⟨fun | 6 => 101 | 15 => 125 | 14 => 124 | 28 => 150 | 29 => 151 | 20 => 142 | 21 => 143 | 22 => 144 | 23 => 145 | 24 => 146 | 25 => 147 | 26 => 148 | 27 => 149 | 46 => 164 | 47 => 165 | 48 => 166 | 49 => 167 | 50 => 168 | 57 => 177 | n => n, fun | 22 => 27 | 24 => 57 | 25 => 145 | 3 => 3 | 39 => 171 | 0 => 0 | 53 => 197 | 55 => 199 | 4 => 4 | 46 => 191 | 45 => 190 | 50 => 131 | 5 => 5 | 9 => 9 | 66 => 208 | 70 => 212 | 76 => 220 | 77 => 140 | n => n, fun | n => n⟩
theorem Tryz.laysSortV : Go.Proofs.SlLaysF0.n6 Tryz.prog Tryz.laysSortV_ren := {
 mixed := by kernel_rfl
 f6 := ⟨Tryz.f101.name, by decide, Tryz.func101.trans (congrArg some (by kernel_rfl))⟩
 f14 := ⟨Tryz.f124.name, by decide, Tryz.func124.trans (congrArg some (by kernel_rfl))⟩
 f15 := Tryz.func125.trans (congrArg some (by kernel_rfl))
 f20 := ⟨Tryz.f142.name, by decide, Tryz.func142.trans (congrArg some (by kernel_rfl))⟩
 f21 := ⟨Tryz.f143.name, by decide, Tryz.func143.trans (congrArg some (by kernel_rfl))⟩
 f22 := ⟨Tryz.f144.name, by decide, Tryz.func144.trans (congrArg some (by kernel_rfl))⟩
 f23 := ⟨Tryz.f145.name, by decide, Tryz.func145.trans (congrArg some (by kernel_rfl))⟩
 f24 := ⟨Tryz.f146.name, by decide, Tryz.func146.trans (congrArg some (by kernel_rfl))⟩
 f25 := ⟨Tryz.f147.name, by decide, Tryz.func147.trans (congrArg some (by kernel_rfl))⟩
 f26 := ⟨Tryz.f148.name, by decide, Tryz.func148.trans (congrArg some (by kernel_rfl))⟩
 f27 := ⟨Tryz.f149.name, by decide, Tryz.func149.trans (congrArg some (by kernel_rfl))⟩
 f28 := Tryz.func150.trans (congrArg some (by kernel_rfl))
 f29 := Tryz.func151.trans (congrArg some (by kernel_rfl))
 f46 := ⟨Tryz.f164.name, by decide, Tryz.func164.trans (congrArg some (by kernel_rfl))⟩
 f47 := Tryz.func165.trans (congrArg some (by kernel_rfl))
 f48 := Tryz.func166.trans (congrArg some (by kernel_rfl))
 f49 := ⟨Tryz.f167.name, by decide, Tryz.func167.trans (congrArg some (by kernel_rfl))⟩
 f50 := ⟨Tryz.f168.name, by decide, Tryz.func168.trans (congrArg some (by kernel_rfl))⟩
 f57 := ⟨Tryz.f177.name, by decide, Tryz.func177.trans (congrArg some (by kernel_rfl))⟩
 t0 := Tryz.underlying0
 a0 := Tryz.isAgg0
 z0 := Tryz.sizeOf0
 v0 := Tryz.zeroValue0
 t3 := Tryz.underlying3
 a3 := Tryz.isAgg3
 z3 := Tryz.sizeOf3
 v3 := Tryz.zeroValue3
 t4 := Tryz.underlying4
 a4 := Tryz.isAgg4
 z4 := Tryz.sizeOf4
 v4 := Tryz.zeroValue4
 t5 := Tryz.underlying5
 a5 := Tryz.isAgg5
 z5 := Tryz.sizeOf5
 v5 := Tryz.zeroValue5
 t9 := Tryz.underlying9
 a9 := Tryz.isAgg9
 z9 := Tryz.sizeOf9
 v9 := Tryz.zeroValue9
 t22 := Tryz.underlying27
 a22 := Tryz.isAgg27
 z22 := Tryz.sizeOf27
 v22 := Tryz.zeroValue27
 t25 := Tryz.underlying145
 a25 := Tryz.isAgg145
 z25 := Tryz.sizeOf145
 v25 := Tryz.zeroValue145
 t39 := Tryz.underlying171
 a39 := Tryz.isAgg171
 z39 := Tryz.sizeOf171
 v39 := Tryz.zeroValue171
 t45 := Tryz.underlying190
 a45 := Tryz.isAgg190
 z45 := Tryz.sizeOf190
 v45 := Tryz.zeroValue190
 t46 := Tryz.underlying191
 a46 := Tryz.isAgg191
 z46 := Tryz.sizeOf191
 v46 := Tryz.zeroValue191
 t50 := Tryz.underlying131
 a50 := Tryz.isAgg131
 z50 := Tryz.sizeOf131
 v50 := Tryz.zeroValue131
 t53 := Tryz.underlying197
 a53 := Tryz.isAgg197
 z53 := Tryz.sizeOf197
 v53 := Tryz.zeroValue197
 t55 := Tryz.underlying199
 a55 := Tryz.isAgg199
 z55 := Tryz.sizeOf199
 v55 := Tryz.zeroValue199
 t66 := Tryz.underlying208
 a66 := Tryz.isAgg208
 z66 := Tryz.sizeOf208
 v66 := Tryz.zeroValue208
 t70 := Tryz.underlying212
 a70 := Tryz.isAgg212
 z70 := Tryz.sizeOf212
 v70 := Tryz.zeroValue212
 t76 := Tryz.underlying220
 a76 := Tryz.isAgg220
 z76 := Tryz.sizeOf220
 v76 := Tryz.zeroValue220
 t77 := Tryz.underlying140
 a77 := Tryz.isAgg140
 z77 := Tryz.sizeOf140
 v77 := Tryz.zeroValue140 }
end Go.Proofs

namespace Go.Proofs.YtdfegfagedeilaaGreatDoor
open Go.RowKit Go.Lib Go.Maps Go.WideMaps
def mW (w : World) (b n : Nat) (f : Int → Int) : Prop :=
 ∃ D : DataW Unit, w.ownsMap Tryz.prog 3 (plainElem Tryz.prog 3) b n D ∧ ∀ k, (Lit.int .i64 k).wf = true → D.atKey (.int .i64 k) (.lit (.int .i64 0)) = .lit (.int .i64 (f k))
theorem bJm (w : World) : (zeroValue 3).run Tryz.prog w = .ok (.int .i64 0) w := by kernel_rfl
theorem mW.at {w w' : World} {b n : Nat} {f : Int → Int} (h : mW w b n f) (e : w'.heap[b]? = w.heap[b]?) : mW w' b n f := by
 obtain ⟨D, ⟨es, clock, hb, r⟩, h2⟩ := h;exact ⟨D, ⟨es, clock, e.trans hb, r⟩, h2⟩
theorem mW.lt {w : World} {b n : Nat} {f : Int → Int} (h : mW w b n f) : b < w.heap.size := by
 obtain ⟨D, h1, -⟩ := h;exact h1.lt
theorem mW.later {w w' : World} {b n : Nat} {f : Int → Int} (h : mW w b n f) (hb : Below w.heap.size w w') : mW w' b n f := h.at (hb.block b h.lt)
theorem mW.kept {w w' : World} {row : Option Nat} {b n : Nat} {f : Int → Int} (h : mW w b n f) (hg : w.grownBy w' row) (hne : some b ≠ row) : mW w' b n f := h.at (hg.block b h.lt hne)
theorem mW.alloc {w : World} {b n : Nat} {f : Int → Int} (h : mW w b n f) (o : Obj) : mW (w.alloc o) b n f := h.kept (World.grownBy_alloc w o none) (by simp)
theorem bMm (w : World) : mW (w.alloc (.map #[] 0)) w.heap.size 0 (fun _ => 0) :=
 ⟨.map [], World.ownsMap_made w _ _ _, fun k _ => by simp [DataW.atKey]⟩
theorem mW.row {w : World} {b n base size m : Nat} {f : Int → Int} {e : TypeId} {v : Value} {xs : List Value} (h : mW w b n f) (ho : w.ownsRow base e size v m xs) : v.ownBlock ≠ some b := by
 intro he;obtain ⟨D, ⟨es, clock, hb, r⟩, h2⟩ := h;rcases ho.2 with ⟨rfl, -⟩ | ⟨g, cap, cur, rfl, -, hw, -⟩
 ·cases he
 ·have e1 : g = b := (by simpa [Value.ownBlock] using he);subst e1;rw [hw] at hb;cases hb
set_option maxRecDepth 10000 in
theorem bLn {w : World} {b n : Nat} {f : Int → Int} (h : mW w b n f) (k : Int) (h1k : -9223372036854775808 ≤ k) (h2k : k ≤ 9223372036854775807) : (Instr.lookup 68 (.map (some b)) (.int .i64 k) false).run Tryz.prog w = .ok (.int .i64 (f k)) w := by
 obtain ⟨D, h1, h2⟩ := h;have hk : (Lit.int .i64 k).wf = true := WalkArith.wf_i64 (by omega);obtain ⟨c, hr, hat, -⟩ := h1.lookup_int (int_keyed Tryz.underlying3) Tryz.underlying68 Tryz.underlying3 (bJm w) (keyOf_int_mk Tryz.underlying3 hk)
 have e : f k = c := by
  have := (h2 k hk).symm.trans hat;injection this with this;injection this
 rw [e];exact hr
set_option maxRecDepth 10000 in
theorem bMn {w : World} {b n : Nat} {f : Int → Int} (h : mW w b n f) (hn : n < maxLen) (k c : Int) (h1k : -9223372036854775808 ≤ k) (h2k : k ≤ 9223372036854775807) (h1c : -9223372036854775808 ≤ c) (h2c : c ≤ 9223372036854775807) :
  ∃ w', (Instr.mapUpdate 68 (.map (some b)) (.int .i64 k) (.int .i64 c)).run Tryz.prog w = .ok () w' ∧ mW w' b (n + 1) (fun j => if j = k then c else f j) ∧ w.mapTurned w' b := by
 obtain ⟨D, h1, h2⟩ := h;have hk : (Lit.int .i64 k).wf = true := WalkArith.wf_i64 (by omega);obtain ⟨w', r1, r2, r3⟩ := h1.store (int_keyed Tryz.underlying3) Tryz.underlying68 hn (keyOf_int_mk Tryz.underlying3 hk) (plainElem_int Tryz.underlying3 (WalkArith.wf_i64 (n := c) (by omega)));refine ⟨w', r1, ⟨_, r2, fun j hj => ?_⟩, r3⟩;dsimp only;by_cases e : j = k
 ·subst e;rw [if_pos rfl];exact atKey_put_same h1.isMap (show WideAt.IsKeyLit (.int .i64 j) from trivial) _ _
 ·rw [if_neg e];rw [atKey_put_other (by intro h; cases h; exact e rfl)];exact h2 j hj
theorem mW.turn {w w' : World} {b b' n : Nat} {f : Int → Int} (h : mW w b n f) (ht : w.mapTurned w' b') (hne : b ≠ b') : mW w' b n f := h.kept ht.grown (by simpa using hne)
theorem Blk.turn {w w' : World} {B b : Nat} {t : TypeId} {cs : List Value} (h : Blk w B t cs) (ht : w.mapTurned w' b) : Blk w' B t cs := h.kept ht.grown (by
 intro e;obtain ⟨es, clock, es', clock', hb, -⟩ := ht;have h' : w.heap[B]? = some (.cells cs.toArray t (0, 0)) := h;have e1 : B = b := (by simpa using e);subst e1;rw [h'] at hb
 cases hb)
end Go.Proofs.YtdfegfagedeilaaGreatDoor

namespace Go.Proofs.YtdfegfagedeilaaGreatDoor
open Go.RowKit Go.Lib
theorem mW.far {w : World} {b n : Nat} {f : Int → Int} (h : mW w b n f) {a : Addr} {t : TypeId} {cs : List Value} (hB : Blk w a.block t cs) (u : Value) : mW (w.setCell a u) b n f := h.at (Below.heap_setCell w a u b (by
 intro e;obtain ⟨D, ⟨es, clock, hb, r⟩, h2⟩ := h;have h' : w.heap[a.block]? = some (.cells cs.toArray t (0, 0)) := hB;rw [e, h'] at hb
 cases hb))
end Go.Proofs.YtdfegfagedeilaaGreatDoor
