/-
  The walk of layer 8 (log): what a text is read as. Conditions: unicode/utf8's two tables, and event.words, hold what their initialisers lay, internal/bytealg.MaxLen holds a number; texts of at most 1,000,000 bytes.
  Maps of the call's own keyed by texts, in plain words: counts; pointers. No conditions.
  Slices of structs, whatever the struct: what one holds; a row of the call's own as one, and as an argument. No conditions.
  Layer 10 (pair): what the program's maker holds, as memory of the call's own. No conditions.
  DERIVED: THE SHELF's CONTRACTS AT THIS DUMP, IN PLAIN WORDS (tools/lay-plain.mjs out of 'TrydShelfO4.lean', which tools/lay-shelf.mjs wrote): THE SAME DECLARATIONS UNDER THE SAME NAMES: 'import', 'namespace', 'open', 'def', 'theorem' AND NOTHING ELSE: no command of the shelf's: FOR A HAND-IN. Each laying: the table of numbers ('.._ren') and one theorem, a field a fact of the dump's own or the kernel's comparison; each contract: ONE APPLICATION.
  A history in memory: operations, transactions, histories as cells. No conditions.
  Slices of numbers: what one holds, and the walk of the comparison of two. No conditions.
  Layer 10 (pair): the chapter's example. Conditions: unicode/utf8's two tables hold what their initialisers lay.
-/
import Derived.Test.YtdfegfagedeilaaGreatDoorXxEvR
import Derived.Maps.OwnOps
import Derived.Maps.StringElems
import Derived.StringKeys
import Derived.LaidEqlPtr
namespace Go.Proofs.YtdfegfagedeilaaGreatDoor
open Go.RowKit Go.Lib
theorem bKm (t : List UInt8) (r : List (List UInt8)) (i : Nat) (out : List aV) (x : aV) (b : Bool) (e : Int) (h : dX t = (x, b, e)) (he : e ≠ 0) : lU (t :: r) i out = ([], ((i + 1 : Nat) : Int), e) := by
 unfold lU;rw [h, if_pos he]
theorem bCv (t : List UInt8) (r : List (List UInt8)) (i : Nat) (out : List aV) (x : aV) (h : dX t = (x, false, 0)) : lU (t :: r) i out = lU r (i + 1) out := by
 rw [lU];rw [h, if_neg (by simp), if_pos rfl]
theorem bHj (t : List UInt8) (r : List (List UInt8)) (i : Nat) (out : List aV) (x : aV) (h : dX t = (x, true, 0)) (hl : out.length = 1000) : lU (t :: r) i out = ([], ((i + 1 : Nat) : Int), 7) := by
 unfold lU;rw [h, if_neg (by simp), if_neg (by simp), if_pos hl]
theorem bHk (t : List UInt8) (r : List (List UInt8)) (i : Nat) (out : List aV) (x : aV) (h : dX t = (x, true, 0)) (hl : out.length ≠ 1000) : lU (t :: r) i out = lU r (i + 1) (out ++ [bDw x ((i + 1 : Nat) : Int)]) := by
 rw [lU];rw [h, if_neg (by simp), if_neg (by simp), if_neg hl]
theorem aOg (t : List UInt8) : (∃ x e, dX t = (x, false, e) ∧ (e != 0) = true) ∨ (∃ x, dX t = (x, false, 0)) ∨ (∃ x, dX t = (x, true, 0)) := by
 obtain ⟨⟨x, b, e⟩, h⟩ : ∃ y, dX t = y := ⟨_, rfl⟩;have hm := aIn t;rw [h] at hm ⊢
 cases b with
 | false =>
  by_cases he : e = 0
  ·subst he; exact .inr (.inl ⟨x, rfl⟩)
  ·exact .inl ⟨x, e, rfl, by simpa using he⟩
 | true =>
  have := (hm rfl).1;simp only at this;subst this;exact .inr (.inr ⟨x, rfl⟩)
theorem aRz (l : List UInt8) (j : Nat) : ((ofL l).1.getD j []).length ≤ l.length := by
 by_cases h : j < (ofL l).1.length
 ·have hm : (ofL l).1.getD j [] ∈ (ofL l).1 := (by simp [h]);generalize (ofL l).1.getD j [] = x at *
  have key : ∀ (full : List (List UInt8)) (r : List (List UInt8)) (n : Nat), x ∈ (mZ full n r).1 → x ∈ full := by
   intro full r
   induction r with
   | nil => intro n hx; exact hx
   | cons y r ih =>
    intro n hx;unfold mZ at hx;split at hx
    ·exact ih _ hx
    ·cases hx
  unfold ofL at hm;split at hm
  ·cases hm
  ·have h1 := key _ _ _ hm
   have lines : ∀ (t cur : List UInt8), ∀ y ∈ gC cur t, y.length ≤ cur.length + t.length := by
    intro t
    induction t with
    | nil =>
     intro cur y hy;unfold gC at hy;split at hy
     ·cases hy
     ·obtain rfl : y = cur := (by simpa using hy);simp
    | cons b t ih =>
     intro cur y hy;unfold gC at hy;split at hy
     ·rcases List.mem_cons.1 hy with rfl | hy
      ·omega
      ·have := ih [] y hy;simp at this ⊢;omega
     ·have := ih _ y hy;simp at this ⊢;omega
   have := lines l [] x h1;simpa using this
 ·have : (ofL l).1.getD j [] = [] := (by simp [h]);rw [this];exact Nat.zero_le _
set_option maxRecDepth 100000 in
set_option maxHeartbeats 8000000 in
theorem bHx (l : List UInt8) (hl : l.length ≤ 1000000) (w : World) (hT : Lib.Utf8Tabs 1 2 w) (hm : HasMax w) (hE : EvTab w) :
  Calls Tryz.prog 66 #[.string (bs l)] w fun e w' => ∃ v, e = .returned (.tuple #[v, .int .i64 (mL l).2.1, .int .i64 (mL l).2.2]) ∧ aLk w' v (mL l).1 ∧ Below w.heap.size w w' := by
 have HO := lhid (bHw l hl w hm);have HP := lhid (fun t (ht : t.length ≤ 1000000) w' (h : Below w.heap.size w w') => aQy t ht w' (Utf8Tabs_below hT h) (hm.below h) (hE.below h));have HLs := lhid (fun j => Nat.le_trans (aRz l j) hl)
 have hlen : (ofL l).1.length ≤ 1000001 := by
  unfold ofL;split
  ·simp
  ·by_cases h : (mZ (pR l) 0 (pR l)).2.2 = 0
   ·rw [(aEu _ _ _ h).1];have := yV l [];unfold pR;omega
   ·rw [(aIs _ _ _ h).1]; simp
 clear hT hm hE;have hre : mL l = if (ofL l).2.2 ≠ 0 then ([], ((ofL l).2.1 : Int), ((ofL l).2.2 : Int)) else lU (ofL l).1 0 [] := rfl;obtain ⟨⟨lns, en, ee⟩, hof⟩ : ∃ y, ofL l = y := ⟨_, rfl⟩;rw [hof] at HO HLs hlen hre;simp only at HO HLs hlen hre;generalize mL l = R at *;clear hof hl;by_cases he : ee = 0
 ·subst he;rw [if_neg (by simp)] at hre;have HRe := lhid hre;clear hre;obtain ⟨i0, hi, hz0, hz1, hz2⟩ := info_parts bHs;go_enter Tryz.func66, Tryz.ntmps66;(go_wp2_with fail);refine HO.out.mono ?_;rintro e w1 ⟨v1, rfl, hv1, hb1⟩;obtain ⟨p, cap, rfl, hc⟩ := hv1;have HC := lhid hc;have HB1 := lhid hb1;clear hc hb1;go_wp2_with fail
  go_loopw [8, 26] (fun v8 i wr => ∃ (k : Nat) (out : List aV), k ≤ lns.length ∧ out.length ≤ k ∧ i = .int .i64 k ∧ wr.ownsRow w1.heap.size 116 6 v8 out.length (yI out) ∧ Hid (lU (lns.drop k) k out = R) ∧ Below w1.heap.size w1 wr) (fun _ i _ => lns.length - (RowKit.intOf i).toNat)
  case atStart => exact ⟨0, [], Nat.zero_le _, Nat.le_refl _, rfl, World.ownsRow_nil _ _ _ _, lhid (by rw [List.drop_zero]; exact HRe.out.symm), Below.refl _ _⟩
  case round =>
   obtain ⟨k, out, hk, hol, rfl, hown, HG, hbw⟩ := hrel;by_cases hlt : k < lns.length
   ·obtain ⟨g, rfl, hcell⟩ := HC.out k hlt;have hc1 := cell_later hbw hcell
    have hd : lns.drop k = lns.getD k [] :: lns.drop (k + 1) := by
     rw [List.drop_eq_getElem_cons hlt];simp [hlt]
    have HG2 := lhid HG.out;rw [hd] at HG2;have htl := HLs.out k;have HPk := lhid (HP.out (lns.getD k []) htl);generalize lns.getD k [] = t at *;have HB := lhid (aB HB1.out hbw);have HBw := lhid hbw;have HOw := lhid hown;clear HG hd hcell hown hbw htl;rcases aOg t with ⟨x, e, hp, he⟩ | ⟨x, hp⟩ | ⟨x, hp⟩
    ·rw [hp] at HPk;have HR : Hid (R = ([], ((k + 1 : Nat) : Int), e)) := lhid (by rw [← HG2.out]; exact bKm _ _ _ _ _ _ _ hp (by simpa using he));clear hp HG2;obtain ⟨x1, x2, x3, x4, x5, x6⟩ := x;unfold evV at HPk;dsimp only at HPk;(go_wp2_with fail);refine (HPk.out _ HB.out).mono ?_;rintro e2 w2 ⟨rfl, hb2⟩;have hf2 := aB HB.out hb2;go_wp2_with fail
     go_ret3
     exact ⟨_, by rw [HR.out]; rfl, by rw [HR.out]; exact xA _, hf2.alloc hf2.size _⟩
    ·rw [hp] at HPk;have HR : Hid (lU (lns.drop (k + 1)) (k + 1) out = R) := lhid (by rw [← HG2.out]; exact (bCv _ _ _ _ _ hp).symm);clear hp HG2;obtain ⟨x1, x2, x3, x4, x5, x6⟩ := x;unfold evV at HPk;dsimp only at HPk;(go_wp2_with fail);refine (HPk.out _ HB.out).mono ?_;rintro e2 w2 ⟨rfl, hb2⟩;have hf2 := aB HBw.out hb2;have ho2 := (aS HOw.out hb2);(go_wp2_with fail);go_roundw
     case rel => exact ⟨k + 1, out, by omega, by omega, by go_num, ho2.alloc _, HR, hf2.alloc hf2.size _⟩
     case measure => simp [RowKit.intOf]; omega
    ·rw [hp] at HPk;obtain ⟨x1, x2, x3, x4, x5, x6⟩ := x;obtain ⟨p8, c8, rfl⟩ := aF HOw.out;by_cases hfull : out.length = 1000
     ·have HR : Hid (R = ([], ((k + 1 : Nat) : Int), 7)) := lhid (by rw [← HG2.out]; exact bHj _ _ _ _ _ hp hfull);have hfb : ((out.length : Int) == 1000) = true := (by simp; omega);clear hp HG2 hfull;unfold evV at HPk;dsimp only at HPk;(go_wp2_with fail);refine (HPk.out _ HB.out).mono ?_;rintro e2 w2 ⟨rfl, hb2⟩;have hf2 := aB HB.out hb2;go_wp2_with fail
      go_ret3
      exact ⟨_, by rw [HR.out]; rfl, by rw [HR.out]; exact xA _, hf2.alloc hf2.size _⟩
     ·have HR : Hid (lU (lns.drop (k + 1)) (k + 1) (out ++ [(x1, x2, x3, x4, x5, (k : Int) + 1)]) = R) := lhid (by rw [← HG2.out]; exact (bHk _ _ _ _ _ hp hfull).symm);have hfb : ((out.length : Int) == 1000) = false := (by rw [beq_eq_false_iff_ne]; omega);clear hp HG2 hfull;unfold evV at HPk;dsimp only at HPk;(go_wp2_with fail);refine (HPk.out _ HB.out).mono ?_;rintro e2 w2 ⟨rfl, hb2⟩;have hbx := aB HBw.out hb2;have ho2 := aS HOw.out hb2;have hz := hbx.size;clear hb2;(go_wp2_with (at_builtin; refine wpList_append_own _ rfl (.tmp 52) (.tmp 54) 93 rfl w1.heap.size 116 i0 (.agg #[.int .i64 0, .string ByteArray.empty, .string ByteArray.empty, .int .i64 0, .int .i64 0, .int .i64 0]) 6 64 Tryz.underlying93 hi hz0 hz1 hz2 rfl (by decide) _ _ _ rfl ((ho2.alloc _).alloc _) ⟨w2.heap.size + 1, 0, none⟩ 1 1 [.int .i64 x1, .string (bs x2), .string (bs x3), .int .i64 x4, .int .i64 x5, .int .i64 ((k : Int) + 1)] rfl rfl (dB _ _ _ _ (by simp)) (bIg _ _ _ _ _ _) (by unfold maxLen; omega) (by omega) (by simp; omega) ?_));intro v4 w4 hown4 hgrow hnil;have hb4 : Below w1.heap.size w1 w4 := ((hbx.alloc hz _).alloc (by simp; omega) _).grown hgrow (by simp; omega) (fun k hk => (ho2.lt k hk).1);have HO4 : Hid (w4.ownsRow w1.heap.size 116 6 v4 (out ++ [(x1, x2, x3, x4, x5, (k : Int) + 1)]).length (yI (out ++ [(x1, x2, x3, x4, x5, (k : Int) + 1)]))) := lhid (by rw [← aWx, List.length_append]; exact hown4);clear hown4 hgrow hnil ho2 hbx;(go_wp2_with fail);go_roundw
      case rel => exact ⟨k + 1, _, by omega, by simp; omega, by go_num, HO4.out, HR, hb4⟩
      case measure => simp [RowKit.intOf]; omega
   ·have hke : k = lns.length := (by omega);subst hke;have HR : Hid (R = (out, 0, 0)) := lhid (by rw [← HG.out, List.drop_length]; rfl);have HOw := lhid (bIn hown);clear hown HG;go_wp2_with fail
    go_ret3
    exact ⟨_, by rw [HR.out]; rfl, by rw [HR.out]; exact HOw.out, aB HB1.out hbw⟩
 ·have hd : (((ee : Nat) : Int) != 0) = true := (by simp; omega);rw [if_pos he] at hre;have HRe := lhid hre;clear hre he;go_enter Tryz.func66, Tryz.ntmps66;(go_wp2_with fail);refine HO.out.mono ?_;rintro e w1 ⟨v1, rfl, hv1, hb1⟩;go_wp2_with fail
  go_ret3
  exact ⟨_, by rw [HRe.out]; rfl, by rw [HRe.out]; exact xA _, hb1⟩
end Go.Proofs.YtdfegfagedeilaaGreatDoor

namespace Go.Proofs.YtdfegfagedeilaaGreatDoor
open Go.RowKit Go.Lib Go.Maps Go.WideMaps
theorem cW (w : World) (o : Obj) {r : Nat} (h : r < w.heap.size) : (w.alloc o).heap[r]? = w.heap[r]? := by
 show (w.heap.push o)[r]? = _;rw [Array.getElem?_push, if_neg (by omega)]
theorem bEl {w : World} {base size n m c : Nat} {e : TypeId} {v : Value} {xs : List Value} {p : Option Addr} (h : w.ownsRow base e size v n xs) (hv : v = .slice p m c) : n ≤ c := by
 rcases h.2 with ⟨rfl, rfl⟩ | ⟨g, cap, cur, rfl, -, -, hc, -⟩
 ·exact Nat.zero_le _
 ·injection hv with _ _ hv;rw [← hv];exact hc
theorem sI : Keyed Tryz.prog 9 := string_keyed Tryz.underlying9
theorem yR (l : List UInt8) (h : l.length ≤ 9223372036854775807) : keyOf Tryz.prog 9 (.string (bs l)) = some (.string l) := by
 have h1 := keyOf_string_mk Tryz.underlying9 (s := bs l) (by rw [gG]; unfold maxLen; exact h);rw [h1];simp [bs]
theorem wI {H : Type} {w w' : World} {P : Program} {k : TypeId} {R : Value → Option (DataW H × List MemPlace)} {b n : Nat} {D : DataW H} (h : w.ownsMap P k R b n D) (e : w'.heap[b]? = w.heap[b]?) : w'.ownsMap P k R b n D := by
 obtain ⟨es, clock, hb, r⟩ := h;exact ⟨es, clock, e.trans hb, r⟩
theorem vJ {H : Type} {w : World} {P : Program} {k : TypeId} {R : Value → Option (DataW H × List MemPlace)} {b n : Nat} {D : DataW H} (h : w.ownsMap P k R b n D) : w.ownsMap P k R b (Maps.size D) D := by
 obtain ⟨es, clock, hb, F, _, rfl⟩ := h;exact ⟨es, clock, hb, F, by simp [Maps.size, length_sorted], rfl⟩
def oP (w : World) (b : Nat) (ks : List (List UInt8)) (N : Nat) : Prop :=
 ∃ D : DataW Unit, w.ownsMap Tryz.prog 9 (plainElem Tryz.prog 3) b (Maps.size D) D ∧ Maps.size D = ks.length ∧ (∀ l, Maps.has D (.string l) = decide (l ∈ ks)) ∧
  ∀ l, ∃ c : Int, (∀ z, l ∈ ks → D.atKey (.string l) z = .lit (.int .i64 c)) ∧ (l ∈ ks → 1 ≤ c ∧ c ≤ N)
theorem oP.at {w w' : World} {b : Nat} {ks : List (List UInt8)} {N : Nat} (h : oP w b ks N) (e : w'.heap[b]? = w.heap[b]?) : oP w' b ks N := by
 obtain ⟨D, h1, h2⟩ := h;exact ⟨D, wI h1 e, h2⟩
theorem oP.lt {w : World} {b : Nat} {ks : List (List UInt8)} {N : Nat} (h : oP w b ks N) : b < w.heap.size := by
 obtain ⟨D, h1, h2⟩ := h;exact h1.lt
theorem aUs (w : World) : oP (w.alloc (.map #[] 0)) w.heap.size [] 0 :=
 ⟨.map [], vJ (World.ownsMap_made w _ _ _), rfl, fun l => by simp [Maps.has], fun l => ⟨0, fun _ h => (by cases h), fun h => (by cases h)⟩⟩
theorem aQc (w : World) : (zeroValue 3).run Tryz.prog w = .ok (.int .i64 0) w := by kernel_rfl
set_option maxRecDepth 10000 in
theorem aLv {w : World} {b : Nat} {ks : List (List UInt8)} {N : Nat} (h : oP w b ks N) (hN : ks.length ≤ 1000000 ∧ N ≤ 1000000) (l : List UInt8) (hl : l.length ≤ 9223372036854775807) :
  ∃ c : Int, (c = 0 ↔ l ∉ ks) ∧ 0 ≤ c ∧ c ≤ N ∧ ∀ w1 : World, w1.heap[b]? = w.heap[b]? → (Instr.lookup 125 (.map (some b)) (.string (bs l)) false).run Tryz.prog w1 = .ok (.int .i64 c) w1 ∧
   ∃ w', (Instr.mapUpdate 125 (.map (some b)) (.string (bs l)) (.int .i64 (c + 1))).run Tryz.prog w1 = .ok () w' ∧ oP w' b (if l ∈ ks then ks else ks ++ [l]) (N + 1) ∧ w1.mapTurned w' b := by
 obtain ⟨D, h1, h2, h3, h4⟩ := h;obtain ⟨c, -, hat, -⟩ := h1.lookup_int sI Tryz.underlying125 Tryz.underlying3 (aQc w) (yR l hl);have hat0 := hat
 have hc : (c = 0 ↔ l ∉ ks) ∧ 0 ≤ c ∧ c ≤ N := by
  by_cases hk : l ∈ ks
  ·obtain ⟨c', e1, e2⟩ := h4 l;rw [e1 _ hk] at hat;have e : c' = c := (by injection hat with hat; injection hat);have := e2 hk;subst e;exact ⟨⟨fun h => by omega, fun h => absurd hk h⟩, by omega, by omega⟩
  ·have e := atKey_of_not_has (D := D) (k := .string l) (by rw [h3]; exact decide_eq_false hk) (.lit (.int .i64 0));rw [e] at hat;have e : 0 = c := (by injection hat with hat; injection hat);subst e;exact ⟨⟨fun _ => hk, fun _ => rfl⟩, Int.le_refl _, by omega⟩
 have hsz : Maps.size D < maxLen := (by unfold maxLen; omega);refine ⟨c, hc.1, hc.2.1, hc.2.2, fun w1 hw1 => ?_⟩;replace h1 := wI h1 hw1;obtain ⟨c', hrun, hat', -⟩ := h1.lookup_int sI Tryz.underlying125 Tryz.underlying3 (aQc w1) (yR l hl);have ecc : c' = c := (by rw [hat0] at hat'; injection hat' with hat'; injection hat' with _ hat'; exact hat'.symm);subst ecc;obtain ⟨w', r1, r2, r3⟩ := h1.store sI Tryz.underlying125 hsz (yR l hl) (plainElem_int Tryz.underlying3 (WalkArith.wf_i64 (n := c' + 1) (by omega)));refine ⟨hrun, w', r1, ⟨D.put (.string l) (.lit (.int .i64 (c' + 1))), vJ r2, ?_, fun k => ?_, fun k => ?_⟩, r3⟩
 ·rw [size_put (h1.tidy sI), h3, h2];by_cases hk : l ∈ ks
  ·rw [if_pos (decide_eq_true hk), if_pos hk]
  ·rw [if_neg (by simpa using hk), if_neg hk]; simp
 ·by_cases e : k = l
  ·subst e;rw [has_put_same h1.isMap (show WideAt.IsKeyLit (.string k) from trivial)];by_cases hk : k ∈ ks
   ·simp [hk]
   ·simp [hk]
  ·rw [has_put_other (by simpa using e), h3];by_cases hk : l ∈ ks
   ·simp [hk]
   ·simp [hk, e]
 ·by_cases e : k = l
  ·subst e;refine ⟨c' + 1, fun z _ => atKey_put_same h1.isMap (show WideAt.IsKeyLit (.string k) from trivial) _ _, fun _ => ⟨by omega, by omega⟩⟩
  ·obtain ⟨c2, e1, e2⟩ := h4 k
   have hm : k ∈ (if l ∈ ks then ks else ks ++ [l]) → k ∈ ks := by
    by_cases hk : l ∈ ks
    ·rw [if_pos hk]; exact id
    ·rw [if_neg hk]; simp [e]
   exact ⟨c2, fun z h => by rw [atKey_put_other (by simpa using e)]; exact e1 z (hm h), fun h => by have := e2 (hm h); omega⟩
theorem aUq {w : World} {b : Nat} {ks : List (List UInt8)} {N : Nat} (h : oP w b ks N) (ty : TypeId) : (Builtin.len_ #[125] ty #[.map (some b)]).run Tryz.prog w = .ok (.int .i64 ks.length) w := by
 obtain ⟨D, h1, h2, -⟩ := h;rw [← h2];exact h1.len Tryz.underlying125 ty
def aBd : Value → Option (DataW Unit × List MemPlace)
 | .pointer none => some (.lit (.int .i64 (-1)), [])
 | .pointer (some ⟨g, 0, none⟩) => some (.lit (.int .i64 g), [])
 | _ => none
def bEs : Option Nat → Value
 | none => .pointer none
 | some g => .pointer (some ⟨g, 0, none⟩)
def aDy : Option Nat → Int
 | none => -1
 | some g => g
theorem bEt (o : Option Nat) : aBd (bEs o) = some (.lit (.int .i64 (aDy o)), []) := by cases o <;> rfl
theorem bIt {v : Value} {o : Option Nat} {ps : List MemPlace} (h : aBd v = some (.lit (.int .i64 (aDy o)), ps)) : v = bEs o := by
 have lit : ∀ (a b : Int) (q q' : List MemPlace), (some ((.lit (.int .i64 a) : DataW Unit), q) = some ((.lit (.int .i64 b) : DataW Unit), q')) → a = b := fun a b q q' e => by
  simpa using (Prod.mk.inj (Option.some.inj e)).1
 unfold aBd at h;split at h
 ·have e := lit _ _ _ _ h
  cases o with
  | none => rfl
  | some g => simp only [aDy] at e; omega
 ·have e := lit _ _ _ _ h
  cases o with
  | none => simp only [aDy] at e; omega
  | some g =>
   simp only [aDy] at e;rename_i g';have e2 : g' = g := (by omega);rw [e2]; rfl
 ·cases h
def aGw (f : List UInt8 → Option Nat) (l : List UInt8) (o : Option Nat) (k : List UInt8) : Option Nat := if k = l then o else f k
theorem xS (f : List UInt8 → Option Nat) (l : List UInt8) (o : Option Nat) : aGw f l o l = o := if_pos rfl
theorem vF (f : List UInt8 → Option Nat) (l : List UInt8) (o : Option Nat) {k : List UInt8} (h : k ≠ l) : aGw f l o k = f k := if_neg h
def nC (w : World) (b : Nat) (f : List UInt8 → Option Nat) (n : Nat) : Prop :=
 ∃ D : DataW Unit, w.ownsMap Tryz.prog 9 aBd b n D ∧ (∀ l, Maps.has D (.string l) = (f l).isSome) ∧ ∀ l z, (f l).isSome = true → D.atKey (.string l) z = .lit (.int .i64 (aDy (f l)))
theorem nC.at {w w' : World} {b n : Nat} {f : List UInt8 → Option Nat} (h : nC w b f n) (e : w'.heap[b]? = w.heap[b]?) : nC w' b f n := by
 obtain ⟨D, h1, h2⟩ := h;exact ⟨D, wI h1 e, h2⟩
theorem nC.lt {w : World} {b n : Nat} {f : List UInt8 → Option Nat} (h : nC w b f n) : b < w.heap.size := by
 obtain ⟨D, h1, h2⟩ := h;exact h1.lt
theorem bIl (w : World) : nC (w.alloc (.map #[] 0)) w.heap.size (fun _ => none) 0 :=
 ⟨.map [], World.ownsMap_made w _ _ _, fun l => by simp [Maps.has], fun l z h => (by cases h)⟩
theorem bGl (w : World) : (zeroValue 128).run Tryz.prog w = .ok (.pointer none) w := by kernel_rfl
theorem gU {w : World} {b n : Nat} {f : List UInt8 → Option Nat} (h : nC w b f n) (l : List UInt8) (hl : l.length ≤ 9223372036854775807) :
  (Instr.lookup 124 (.map (some b)) (.string (bs l)) false).run Tryz.prog w = .ok (bEs (f l)) w := by
 obtain ⟨D, h1, h2, h3⟩ := h;obtain ⟨v, ps, hrun, hv⟩ := h1.lookup sI Tryz.underlying124 (bGl w) (zd := .lit (.int .i64 (-1))) (zp := []) rfl (yR l hl)
 have e : D.atKey (.string l) (.lit (.int .i64 (-1))) = .lit (.int .i64 (aDy (f l))) := by
  cases hf : f l with
  | some g =>
   have h4 := h3 l (.lit (.int .i64 (-1))) (by rw [hf]; rfl);rw [hf] at h4;exact h4
  | none => exact atKey_of_not_has (by rw [h2, hf]; rfl) _
 rw [e] at hv;rw [hrun, bIt hv]
theorem aVn {w : World} {b n : Nat} {f : List UInt8 → Option Nat} (h : nC w b f n) (hn : n ≤ 1000000) (l : List UInt8) (hl : l.length ≤ 9223372036854775807) (g : Nat) :
  ∃ w', (Instr.mapUpdate 124 (.map (some b)) (.string (bs l)) (.pointer (some ⟨g, 0, none⟩))).run Tryz.prog w = .ok () w' ∧ nC w' b (aGw f l (some g)) (n + 1) ∧ w.mapTurned w' b := by
 obtain ⟨D, h1, h2, h3⟩ := h;obtain ⟨w', r1, r2, r3⟩ := h1.store sI Tryz.underlying124 (by unfold maxLen; omega) (yR l hl) (bEt (some g));refine ⟨w', r1, ⟨_, r2, fun k => ?_, fun k z hk => ?_⟩, r3⟩
 ·by_cases e : k = l
  ·subst e;rw [has_put_same h1.isMap (show WideAt.IsKeyLit (.string k) from trivial), xS]; rfl
  ·rw [has_put_other (by simpa using e), vF _ _ _ e, h2]
 ·by_cases e : k = l
  ·subst e;rw [atKey_put_same h1.isMap (show WideAt.IsKeyLit (.string k) from trivial), xS]
  ·rw [vF _ _ _ e] at hk ⊢;rw [atKey_put_other (by simpa using e)];exact h3 k z hk
theorem bIk {w : World} {b n : Nat} {f : List UInt8 → Option Nat} (h : nC w b f n) (l : List UInt8) (hl : l.length ≤ 9223372036854775807) (ty : TypeId) :
  ∃ w', (Builtin.delete_ #[124, 9] ty #[.map (some b), .string (bs l)]).run Tryz.prog w = .ok (.tuple #[]) w' ∧ nC w' b (aGw f l none) n ∧ w.mapTurned w' b := by
 obtain ⟨D, h1, h2, h3⟩ := h;obtain ⟨w', r1, r2, r3⟩ := h1.drop sI Tryz.underlying124 (yR l hl) ty;refine ⟨w', r1, ⟨_, r2, fun k => ?_, fun k z hk => ?_⟩, r3⟩
 ·by_cases e : k = l
  ·subst e;rw [has_del_same, xS]; rfl
  ·rw [has_del_other (by simpa using e), vF _ _ _ e, h2]
 ·by_cases e : k = l
  ·subst e;rw [xS] at hk; cases hk
  ·rw [vF _ _ _ e] at hk ⊢;rw [atKey_del_other (by simpa using e)];exact h3 k z hk
end Go.Proofs.YtdfegfagedeilaaGreatDoor

namespace Go.Proofs.YtdfegfagedeilaaGreatDoor
open Go.RowKit
theorem aUt {α : Type} (f : α → List Value) (s : Nat) (hf : ∀ x, (f x).length = s) (d : α) : ∀ (L : List α) (j i : Nat), j < L.length → i < s → (L.flatMap f)[j * s + i]? = (f (L.getD j d))[i]?
 | [], j, _, hj, _ => absurd hj (Nat.not_lt_zero j)
 | x :: L, 0, i, _, hi => by
  rw [List.flatMap_cons, Nat.zero_mul, Nat.zero_add, List.getElem?_append_left (by rw [hf]; exact hi)];rfl
 | x :: L, j + 1, i, hj, hi => by
  rw [List.flatMap_cons, List.getElem?_append_right (by rw [hf, Nat.add_mul]; omega), hf, show (j + 1) * s + i - s = j * s + i by rw [Nat.add_mul]; omega];rw [aUt f s hf d L j i (by simpa using hj) hi];rfl
theorem aMj {α : Type} (f : α → List Value) (s : Nat) (hf : ∀ x, (f x).length = s) (L : List α) : (L.flatMap f).length = L.length * s := by
 induction L with
 | nil => simp
 | cons x L ih => rw [List.flatMap_cons, List.length_append, ih, hf, List.length_cons, Nat.add_mul]; omega
theorem bCq {α : Type} (f : α → List Value) (s : Nat) (hf : ∀ x, (f x).length = s) (A B : List α) (x y : α) (i : Nat) (u : Value) (hi : i < s) (hy : f y = (f x).set i u) : ((A ++ x :: B).flatMap f).set (A.length * s + i) u = (A ++ y :: B).flatMap f := by
 rw [List.flatMap_append, List.flatMap_append, List.flatMap_cons, List.flatMap_cons, List.set_append_right _ _ (by rw [aMj f s hf]; omega), aMj f s hf, show A.length * s + i - A.length * s = i by omega, List.set_append_left _ _ (by rw [hf]; exact hi), hy]
theorem yN {α : Type} (f : α → List Value) (L : List α) (x : α) : L.flatMap f ++ f x = (L ++ [x]).flatMap f := by simp
def SlS {α : Type} (f : α → List Value) (s : Nat) (d : α) (w : World) (v : Value) (L : List α) : Prop := ∃ p cap, v = .slice p L.length cap ∧ ∀ j, j < L.length → ∃ g, p = some ⟨g, 0, none⟩ ∧ ∀ i u, (f (L.getD j d))[i]? = some u → w.cell? ⟨g, j * s + i, none⟩ = some u
theorem SlS.below {α : Type} {f : α → List Value} {s : Nat} {d : α} {w w' : World} {v : Value} {L : List α} (h : SlS f s d w v L) (hb : Below w.heap.size w w') : SlS f s d w' v L := by
 obtain ⟨p, cap, hv, hc⟩ := h;refine ⟨p, cap, hv, fun j hj => ?_⟩;obtain ⟨g, hp, h1⟩ := hc j hj;exact ⟨g, hp, fun i u hu => cell_later hb (h1 i u hu)⟩
theorem bFk {α : Type} (f : α → List Value) (s : Nat) (d : α) (w : World) : SlS f s d w (.slice none 0 0) [] := ⟨none, 0, rfl, fun j hj => absurd hj (Nat.not_lt_zero j)⟩
theorem aKm {α : Type} {f : α → List Value} {s : Nat} (d : α) (hf : ∀ x, (f x).length = s) {w : World} {B : Nat} {e : TypeId} {v : Value} {L : List α} (h : w.ownsRow B e s v L.length (L.flatMap f)) : SlS f s d w v L := by
 obtain ⟨-, ⟨h0, hn⟩ | ⟨g, cap, cur, hv, -, hw, -, -, -, ht⟩⟩ := h
 ·have : L = [] := List.eq_nil_of_length_eq_zero hn;subst this h0;exact bFk f s d w
 ·refine ⟨_, cap, hv, fun j hj => ⟨g, rfl, fun i u hu => ?_⟩⟩
  have hi : i < s := by
   have := (List.getElem?_eq_some_iff.1 hu).1;rw [hf] at this;exact this
  have hjs : j * s + i < L.length * s := by
   have : (j + 1) * s ≤ L.length * s := Nat.mul_le_mul_right s hj;rw [Nat.add_mul] at this;omega
  have h1 := congrArg (fun x : List Value => x[j * s + i]?) ht;simp only [List.getElem?_take, hjs, if_true, Array.getElem?_toList] at h1;rw [cell_of_row w g (j * s + i) _ _ (0, 0) hw, h1, aUt f s hf d L j i hj hi];exact hu
end Go.Proofs.YtdfegfagedeilaaGreatDoor

namespace Go.Proofs.YtdfegfagedeilaaGreatDoor
open Go.RowKit Go.Lib Go.Maps
theorem jL {w w' : World} {base size n : Nat} {e : TypeId} {v : Value} {xs : List Value} (h : w.ownsRow base e size v n xs) (hb : ∀ k, v.ownBlock = some k → w'.heap[k]? = w.heap[k]?) : w'.ownsRow base e size v n xs := by
 obtain ⟨h1, h2⟩ := h;refine ⟨h1, ?_⟩;rcases h2 with h2 | ⟨g, cap, cur, e1, hg, hw, r⟩
 ·exact .inl h2
 ·exact .inr ⟨g, cap, cur, e1, hg, (hb g (by subst e1; rfl)).trans hw, r⟩
theorem Blk.at {w w' : World} {B : Nat} {t : TypeId} {cs : List Value} (h : Blk w B t cs) (e : w'.heap[B]? = w.heap[B]?) : Blk w' B t cs := e.trans h
def Ty (w : World) (g : Nat) (t : TypeId) : Prop := ∃ cs fz, w.heap[g]? = some (.cells cs t fz)
theorem Ty.ne {w : World} {g g' : Nat} {t t' : TypeId} (h : Ty w g t) (h' : Ty w g' t') (hne : t ≠ t') : g ≠ g' := by
 rintro rfl;obtain ⟨_, _, h⟩ := h;obtain ⟨_, _, h'⟩ := h';rw [h] at h';injection h' with h';injection h' with _ h';exact hne h'
theorem Blk.ty {w : World} {B : Nat} {t : TypeId} {cs : List Value} (h : Blk w B t cs) : Ty w B t := ⟨_, _, h⟩
theorem aW {w : World} {base size n : Nat} {e : TypeId} {v : Value} {xs : List Value} (h : w.ownsRow base e size v n xs) {g : Nat} (hg : v.ownBlock = some g) : Ty w g e := by
 rcases h.2 with ⟨rfl, -⟩ | ⟨g', cap, cur, rfl, -, hw, -⟩
 ·cases hg
 ·have : g' = g := (by simpa [Value.ownBlock] using hg);subst this;exact ⟨_, _, hw⟩
theorem aSm {H : Type} {w : World} {P : Program} {k t : TypeId} {R : Value → Option (DataW H × List MemPlace)} {b n g : Nat} {D : DataW H} (h : w.ownsMap P k R b n D) (h' : Ty w g t) : b ≠ g := by
 rintro rfl;obtain ⟨es, clock, hb, -⟩ := h;obtain ⟨_, _, h'⟩ := h';rw [hb] at h';cases h'
theorem nC.ty {w : World} {b n g : Nat} {t : TypeId} {f : List UInt8 → Option Nat} (h : nC w b f n) (h' : Ty w g t) : b ≠ g := by
 obtain ⟨D, h1, -⟩ := h;exact aSm h1 h'
theorem oP.ty {w : World} {b n g : Nat} {t : TypeId} {ks : List (List UInt8)} (h : oP w b ks n) (h' : Ty w g t) : b ≠ g := by
 obtain ⟨D, h1, -⟩ := h;exact aSm h1 h'
def opc (o : OpM) : List Value := [.bool o.1, .int .i64 o.2.1, .int .i64 o.2.2.1, .int .i64 o.2.2.2]
theorem aVm (o : OpM) : (opc o).length = 4 := rfl
def nmc (l : List UInt8) : List Value := [.string (bs l)]
abbrev bV := Nat × Value × Value
def bM : bV := (0, .slice none 0 0, .slice none 0 0)
def drc (d : aH) (e : bV) : List Value := [.string (bs d.nm), e.2.1, .int .i64 d.ln, .int .i64 0, .int .i64 d.fate, e.2.2]
structure vV (w : World) (B : Nat) (e : bV) (d : aH) : Prop where
 base : B ≤ e.1
 blk : Blk w e.1 130 (drc d e)
 ks : w.ownsRow B 9 1 e.2.1 d.ks.length (d.ks.flatMap nmc)
 ops : w.ownsRow B 82 4 e.2.2 d.ops.length (d.ops.flatMap opc)
theorem vV.at {w w' : World} {B : Nat} {e : bV} {d : aH} (h : vV w B e d) (h1 : w'.heap[e.1]? = w.heap[e.1]?) (h2 : ∀ k, e.2.1.ownBlock = some k → w'.heap[k]? = w.heap[k]?) (h3 : ∀ k, e.2.2.ownBlock = some k → w'.heap[k]? = w.heap[k]?) : vV w' B e d :=
 ⟨h.base, h.blk.at h1, jL h.ks h2, jL h.ops h3⟩
def ptc (e : bV) : List Value := [.pointer (some ⟨e.1, 0, none⟩)]
def bW (L : List aH) (E : List bV) (l : List UInt8) : Option Nat := if atD L l < L.length then some (E.getD (atD L l) bM).1 else none
structure MkI (w : World) (B gm : Nat) (L : List aH) (N : Nat) (lv : Value) (bo bz bk : Nat) (E : List bV) : Prop where
 bx : Blk w gm 127 [lv, .map (some bo), .map (some bz), .map (some bk)]
 base : B ≤ gm ∧ B ≤ bo ∧ B ≤ bz ∧ B ≤ bk
 maps : bo ≠ bz ∧ bo ≠ bk ∧ bz ≠ bk
 row : w.ownsRow B 128 1 lv E.length (E.flatMap ptc)
 len : E.length = L.length
 opn : nC w bo (bW L E) N
 ses : ∃ ks, oP w bz ks N ∧ ks.Nodup ∧ ∀ x, x ∈ ks ↔ x ∈ gR L
 key : ∃ ks, oP w bk ks N ∧ ks.Nodup ∧ ∀ x, x ∈ ks ↔ x ∈ dT L
 dr : ∀ i, i < L.length → vV w B (E.getD i bM) (L.getD i noD)
 ne : ∀ i j, i < j → j < L.length → (E.getD i bM).1 ≠ (E.getD j bM).1
 nek : ∀ i j, i < j → j < L.length → ∀ g, (E.getD i bM).2.1.ownBlock = some g → (E.getD j bM).2.1.ownBlock ≠ some g
 neo : ∀ i j, i < j → j < L.length → ∀ g, (E.getD i bM).2.2.ownBlock = some g → (E.getD j bM).2.2.ownBlock ≠ some g
theorem gV {w : World} {base size n : Nat} {e : TypeId} {v : Value} {xs : List Value} (h : w.ownsRow base e size v n xs) {k : Nat} (hk : v.ownBlock = some k) : k < w.heap.size := (h.lt k hk).2
theorem MkI.zlt {w : World} {B gm N bo bz bk : Nat} {L : List aH} {lv : Value} {E : List bV} (h : MkI w B gm L N lv bo bz bk E) : bz < w.heap.size := by
 obtain ⟨ks, c1, -⟩ := h.ses;exact c1.lt
theorem MkI.below {w w' : World} {B gm N bo bz bk : Nat} {L : List aH} {lv : Value} {E : List bV} (h : MkI w B gm L N lv bo bz bk E) (hb : Below w.heap.size w w') : MkI w' B gm L N lv bo bz bk E := by
 have k : ∀ g, g < w.heap.size → w'.heap[g]? = w.heap[g]? := fun g hg => hb.block g hg;obtain ⟨k1, c1, n1, m1⟩ := h.ses;obtain ⟨k2, c2, n2, m2⟩ := h.key
 exact ⟨h.bx.at (k _ h.bx.lt), h.base, h.maps, jL h.row (fun g hg => k g (gV h.row hg)), h.len, h.opn.at (k _ h.opn.lt), ⟨k1, c1.at (k _ c1.lt), n1, m1⟩, ⟨k2, c2.at (k _ c2.lt), n2, m2⟩,
  fun i hi => (h.dr i hi).at (k _ (h.dr i hi).blk.lt) (fun g hg => k g (gV (h.dr i hi).ks hg)) (fun g hg => k g (gV (h.dr i hi).ops hg)), h.ne, h.nek, h.neo⟩
theorem jU (E : List bV) (e : bV) (i : Nat) (h : i < E.length) : (E ++ [e]).getD i bM = E.getD i bM := by simp [List.getElem?_append_left h]
theorem lZ (E : List bV) (e : bV) : (E ++ [e]).getD E.length bM = e := by simp
theorem aGj (E : List aH) (e : aH) (i : Nat) (h : i < E.length) : (E ++ [e]).getD i noD = E.getD i noD := by simp [List.getElem?_append_left h]
theorem aGg (E : List aH) (e : aH) : (E ++ [e]).getD E.length noD = e := by simp
theorem bBu (L : List aH) (d : aH) (s : List UInt8) : atD (L ++ [d]) s = if atD L s < L.length then atD L s else if tD s d = true then L.length else L.length + 1 := by
 unfold atD;rw [List.findIdx_append];by_cases h : List.findIdx (tD s) L < L.length
 ·rw [if_pos h, if_pos h]
 ·rw [if_neg h, if_neg h, List.findIdx_singleton];by_cases e : tD s d = true
  ·rw [if_pos e, if_pos e, Nat.zero_add]
  ·rw [if_neg e, if_neg e, Nat.add_comm]
theorem oP.mono {w : World} {b N N' : Nat} {ks : List (List UInt8)} (h : oP w b ks N) (hN : N ≤ N') : oP w b ks N' := by
 obtain ⟨D, h1, h2, h3, h4⟩ := h;refine ⟨D, h1, h2, h3, fun l => ?_⟩;obtain ⟨c, e1, e2⟩ := h4 l;exact ⟨c, e1, fun hk => by have := e2 hk; omega⟩
theorem nC.mono {w : World} {b n n' : Nat} {f : List UInt8 → Option Nat} (h : nC w b f n) (hn : n ≤ n') : nC w b f n' := by
 obtain ⟨D, h1, h2⟩ := h;exact ⟨D, h1.mono hn, h2⟩
theorem uY {s : List UInt8} {ks M : List (List UInt8)} (hd : ks.Nodup) (hm : ∀ x, x ∈ ks ↔ x ∈ M) : (if s ∈ ks then ks else ks ++ [s]).Nodup ∧ ∀ x, x ∈ (if s ∈ ks then ks else ks ++ [s]) ↔ x ∈ M ++ [s] := by
 by_cases h : s ∈ ks
 ·rw [if_pos h];refine ⟨hd, fun x => ?_⟩;rw [hm, List.mem_append, List.mem_singleton];exact ⟨fun h => .inl h, fun h' => h'.elim id (fun e => by rw [e]; exact (hm s).1 h)⟩
 ·rw [if_neg h];refine ⟨List.nodup_append.2 ⟨hd, by simp, fun a ha b hb => ?_⟩, fun x => by rw [List.mem_append, List.mem_append, hm]⟩;rw [List.mem_singleton] at hb;subst hb;intro e;subst e;exact h ha
theorem MkI.mono {w : World} {B gm N N' bo bz bk : Nat} {L : List aH} {lv : Value} {E : List bV} (h : MkI w B gm L N lv bo bz bk E) (hN : N ≤ N') : MkI w B gm L N' lv bo bz bk E := by
 obtain ⟨k1, c1, n1, m1⟩ := h.ses;obtain ⟨k2, c2, n2, m2⟩ := h.key;exact ⟨h.bx, h.base, h.maps, h.row, h.len, h.opn.mono hN, ⟨k1, c1.mono hN, n1, m1⟩, ⟨k2, c2.mono hN, n2, m2⟩, h.dr, h.ne, h.nek, h.neo⟩
theorem MkI.begin {w w' : World} {B gm N N' bo bz bk g : Nat} {L : List aH} {lv lv' : Value} {E : List bV} (s : List UInt8) (ln : Int) (h : MkI w B gm L N lv bo bz bk E) (hno : ¬ atD L s < L.length) (hg : w.heap.size ≤ g) (hB : B ≤ g)
  (hs : ∀ k, k < w.heap.size → k ≠ gm → lv.ownBlock ≠ some k → k ≠ bo → k ≠ bz → w'.heap[k]? = w.heap[k]?) (hm : Blk w' gm 127 [lv', .map (some bo), .map (some bz), .map (some bk)])
  (hr : w'.ownsRow B 128 1 lv' (E.length + 1) (E.flatMap ptc ++ [.pointer (some ⟨g, 0, none⟩)])) (hd : Blk w' g 130 [.string (bs s), .slice none 0 0, .int .i64 ln, .int .i64 0, .int .i64 0, .slice none 0 0])
  (ho : nC w' bo (aGw (bW L E) s (some g)) N') (hz : ∃ ks, oP w' bz ks N' ∧ ks.Nodup ∧ ∀ x, x ∈ ks ↔ x ∈ gR L ++ [s]) (hN : N ≤ N') : MkI w' B gm (L ++ [⟨s, [], ln, 0, [], true⟩]) N' lv' bo bz bk (E ++ [(g, .slice none 0 0, .slice none 0 0)]) := by
 obtain ⟨k1, c1, -⟩ := h.ses;obtain ⟨k2, c2, n2, m2⟩ := h.key;have hl := h.len
 -- what is none of the turned blocks
 have far : ∀ k t, k < w.heap.size → Ty w k t → t ≠ 127 → t ≠ 128 → w'.heap[k]? = w.heap[k]? := fun k t hk ht e1 e2 =>
  hs k hk (ht.ne h.bx.ty e1) (fun e => (ht.ne (aW h.row e) e2) rfl) (fun e => h.opn.ty ht e.symm) (fun e => c1.ty ht e.symm)
 have lt : ∀ i, i < L.length → (E.getD i bM).1 < w.heap.size := fun i hi => (h.dr i hi).blk.lt;refine ⟨hm, h.base, h.maps, ?_, by rw [List.length_append, List.length_append, hl]; rfl, ?_, by rw [aDv]; exact hz, ⟨k2, (c2.at (hs bk c2.lt (c2.ty h.bx.ty) (fun e => c2.ty (aW h.row e) rfl) (Ne.symm h.maps.2.1) (Ne.symm h.maps.2.2))).mono hN, n2, fun x => by rw [aHp, List.append_nil]; exact m2 x⟩, fun i hi => ?_, fun i j hij hj => ?_, fun i j hij hj k hk => ?_, fun i j hij hj k hk => ?_⟩
 ·rw [List.length_append, List.flatMap_append]; exact hr
 ·have e : bW (L ++ [⟨s, [], ln, 0, [], true⟩]) (E ++ [(g, .slice none 0 0, .slice none 0 0)]) = aGw (bW L E) s (some g) := by
   funext x;unfold bW aGw;rw [bBu];by_cases hx : x = s
   ·subst hx;have e2 : tD x (⟨x, [], ln, 0, [], true⟩ : aH) = true := (by simp [tD]);rw [if_neg hno, if_pos e2, if_pos rfl, if_pos (by simp), ← hl, lZ]
   ·have e2 : ¬ tD x (⟨s, [], ln, 0, [], true⟩ : aH) = true := (by simp [tD, Ne.symm hx]);rw [if_neg e2, if_neg hx];by_cases h3 : atD L x < L.length
    ·rw [if_pos h3, if_pos (by simp; omega), jU _ _ _ (by omega)]; exact (if_pos h3).symm
    ·rw [if_neg h3, if_neg (by simp)]; exact (if_neg h3).symm
  rw [e]; exact ho
 ·rw [List.length_append] at hi;have hi' : i < L.length ∨ i = L.length := (by simp at hi; omega);rcases hi' with hi' | rfl
  ·rw [jU _ _ _ (by omega), aGj _ _ _ hi'];have d := h.dr i hi';exact d.at (far _ _ d.blk.lt d.blk.ty (by decide) (by decide)) (fun k hk => far k _ (gV d.ks hk) (aW d.ks hk) (by decide) (by decide)) (fun k hk => far k _ (gV d.ops hk) (aW d.ops hk) (by decide) (by decide))
  ·rw [aGg, ← hl, lZ];exact ⟨hB, hd, World.ownsRow_nil _ _ _ _, World.ownsRow_nil _ _ _ _⟩
 all_goals
  rw [List.length_append] at hj;have hj' : j < L.length ∨ j = L.length := by simp at hj; omega
 ·rcases hj' with hj' | rfl
  ·rw [jU _ _ _ (by omega), jU _ _ _ (by omega)];exact h.ne i j hij hj'
  ·have := lt i hij;rw [jU _ _ _ (by omega), ← hl, lZ];simp only;omega
 ·rcases hj' with hj' | rfl
  ·rw [jU _ _ _ (by omega)] at hk ⊢;exact h.nek i j hij hj' k hk
  ·rw [← hl, lZ];simp [Value.ownBlock]
 ·rcases hj' with hj' | rfl
  ·rw [jU _ _ _ (by omega)] at hk ⊢;exact h.neo i j hij hj' k hk
  ·rw [← hl, lZ];simp [Value.ownBlock]
theorem kV (E : List bV) (i j : Nat) (e : bV) (hi : i < E.length) : (E.set i e).getD j bM = if i = j then e else E.getD j bM := by
 by_cases h : i = j
 ·subst h; simp [hi]
 ·rw [if_neg h]; simp [List.getElem?_set_ne h]
theorem bCp (E : List bV) (i : Nat) (e : bV) (hi : i < E.length) (h : e.1 = (E.getD i bM).1) : (E.set i e).flatMap ptc = E.flatMap ptc := by
 rw [List.flatMap_def, List.flatMap_def];congr 1;apply List.ext_getElem
 ·simp
 ·intro j h1 h2;simp only [List.length_map] at h2;rw [List.getElem_map, List.getElem_map, List.getElem_set];by_cases e2 : i = j
  ·subst e2;have e3 : E.getD i bM = E[i] := (by simp [hi]);rw [if_pos rfl]; unfold ptc; rw [h, e3]
  ·rw [if_neg e2]
theorem MkI.set {w w' : World} {B gm N N' bo bz bk : Nat} {L : List aH} {lv : Value} {E : List bV} (h : MkI w B gm L N lv bo bz bk E) (i : Nat) (hi : i < L.length) (e : bV) (d : aH) (he : e.1 = (E.getD i bM).1) (hn : d.nm = (L.getD i noD).nm)
  (hs : ∀ k, k < w.heap.size → k ≠ (E.getD i bM).1 → (E.getD i bM).2.1.ownBlock ≠ some k → (E.getD i bM).2.2.ownBlock ≠ some k → k ≠ bo → k ≠ bk → w'.heap[k]? = w.heap[k]?) (hd : vV w' B e d)
  (hk : e.2.1.ownBlock = (E.getD i bM).2.1.ownBlock ∨ ∃ g, e.2.1.ownBlock = some g ∧ w.heap.size ≤ g) (ho : e.2.2.ownBlock = (E.getD i bM).2.2.ownBlock ∨ ∃ g, e.2.2.ownBlock = some g ∧ w.heap.size ≤ g)
  (hp : nC w' bo (bW (L.set i d) (E.set i e)) N') (hy : ∃ ks, oP w' bk ks N' ∧ ks.Nodup ∧ ∀ x, x ∈ ks ↔ x ∈ dT (L.set i d)) (hN : N ≤ N') : MkI w' B gm (L.set i d) N' lv bo bz bk (E.set i e) := by
 obtain ⟨k1, c1, n1, m1⟩ := h.ses;obtain ⟨k2, c2, n2, m2⟩ := h.key;have hl := h.len;have hiE : i < E.length := (by omega);have di := h.dr i hi
 have far : ∀ k t, k < w.heap.size → Ty w k t → t ≠ 130 → t ≠ 9 → t ≠ 82 → w'.heap[k]? = w.heap[k]? := fun k t hk ht e1 e2 e3 =>
  hs k hk (ht.ne di.blk.ty e1) (fun e => (ht.ne (aW di.ks e) e2) rfl) (fun e => (ht.ne (aW di.ops e) e3) rfl) (fun e => h.opn.ty ht e.symm) (fun e => c2.ty ht e.symm)
 have near : ∀ j, j < L.length → j ≠ i → vV w' B (E.getD j bM) (L.getD j noD) := fun j hj hji => by
  have dj := h.dr j hj
  have q1 : (E.getD j bM).1 ≠ (E.getD i bM).1 := by
   rcases Nat.lt_or_gt_of_ne hji with h1 | h1
   ·exact h.ne j i h1 hi
   ·exact (h.ne i j h1 hj).symm
  have q2 : ∀ k, (E.getD j bM).2.1.ownBlock = some k → (E.getD i bM).2.1.ownBlock ≠ some k := fun k h3 h4 => by
   rcases Nat.lt_or_gt_of_ne hji with h1 | h1
   ·exact h.nek j i h1 hi k h3 h4
   ·exact h.nek i j h1 hj k h4 h3
  have q3 : ∀ k, (E.getD j bM).2.2.ownBlock = some k → (E.getD i bM).2.2.ownBlock ≠ some k := fun k h3 h4 => by
   rcases Nat.lt_or_gt_of_ne hji with h1 | h1
   ·exact h.neo j i h1 hi k h3 h4
   ·exact h.neo i j h1 hj k h4 h3
  refine dj.at (hs _ dj.blk.lt q1 (fun e => (dj.blk.ty.ne (aW di.ks e) (by decide)) rfl) (fun e => (dj.blk.ty.ne (aW di.ops e) (by decide)) rfl) (fun e => h.opn.ty dj.blk.ty e.symm) (fun e => c2.ty dj.blk.ty e.symm)) (fun k hk => ?_) (fun k hk => ?_)
  ·have t := aW dj.ks hk;exact hs k (gV dj.ks hk) (t.ne di.blk.ty (by decide)) (q2 k hk) (fun e => (t.ne (aW di.ops e) (by decide)) rfl) (fun e => h.opn.ty t e.symm) (fun e => c2.ty t e.symm)
  ·have t := aW dj.ops hk;exact hs k (gV dj.ops hk) (t.ne di.blk.ty (by decide)) (fun e => (t.ne (aW di.ks e) (by decide)) rfl) (q3 k hk) (fun e => h.opn.ty t e.symm) (fun e => c2.ty t e.symm)
 refine ⟨h.bx.at (far _ _ h.bx.lt h.bx.ty (by decide) (by decide) (by decide)), h.base, h.maps, ?_, by rw [List.length_set, List.length_set]; exact hl, hp, ⟨k1, (c1.at (hs bz c1.lt (c1.ty di.blk.ty) (fun e => c1.ty (aW di.ks e) rfl) (fun e => c1.ty (aW di.ops e) rfl) (Ne.symm h.maps.1) h.maps.2.2)).mono hN, n1, fun x => by rw [aId L i d hi hn]; exact m1 x⟩, hy, fun j hj => ?_, fun a b hab hb => ?_, fun a b hab hb k h3 h4 => ?_, fun a b hab hb k h3 h4 => ?_⟩
 ·rw [List.length_set, bCp E i e hiE he];exact jL h.row (fun k hk => far k _ (gV h.row hk) (aW h.row hk) (by decide) (by decide) (by decide))
 ·rw [List.length_set] at hj;rw [kV E i j e hiE, mQ L i j d hi];by_cases q : i = j
  ·rw [if_pos q, if_pos q]; exact hd
  ·rw [if_neg q, if_neg q]; exact near j hj (fun e => q e.symm)
 all_goals rw [List.length_set] at hb
 ·rw [kV E i a e hiE, kV E i b e hiE]
  have q1 : (if i = a then e else E.getD a bM).1 = (E.getD a bM).1 := by
   by_cases q : i = a
   ·rw [if_pos q, he, q]
   ·rw [if_neg q]
  have q2 : (if i = b then e else E.getD b bM).1 = (E.getD b bM).1 := by
   by_cases q : i = b
   ·rw [if_pos q, he, q]
   ·rw [if_neg q]
  rw [q1, q2];exact h.ne a b hab hb
 ·rw [kV E i a e hiE] at h3;rw [kV E i b e hiE] at h4;by_cases qa : i = a
  ·rw [if_pos qa] at h3;rw [if_neg (by omega)] at h4;rcases hk with hk | ⟨g, hk, hg⟩
   ·rw [hk, qa] at h3; exact h.nek a b hab hb k h3 h4
   ·rw [hk] at h3;have := gV (h.dr b hb).ks h4;injection h3 with h3;omega
  ·rw [if_neg qa] at h3;by_cases qb : i = b
   ·rw [if_pos qb] at h4;rcases hk with hk | ⟨g, hk, hg⟩
    ·rw [hk, qb] at h4; exact h.nek a b hab hb k h3 h4
    ·rw [hk] at h4;have := gV (h.dr a (by omega)).ks h3;injection h4 with h4;omega
   ·rw [if_neg qb] at h4; exact h.nek a b hab hb k h3 h4
 ·rw [kV E i a e hiE] at h3;rw [kV E i b e hiE] at h4;by_cases qa : i = a
  ·rw [if_pos qa] at h3;rw [if_neg (by omega)] at h4;rcases ho with hk | ⟨g, hk, hg⟩
   ·rw [hk, qa] at h3; exact h.neo a b hab hb k h3 h4
   ·rw [hk] at h3;have := gV (h.dr b hb).ops h4;injection h3 with h3;omega
  ·rw [if_neg qa] at h3;by_cases qb : i = b
   ·rw [if_pos qb] at h4;rcases ho with hk | ⟨g, hk, hg⟩
    ·rw [hk, qb] at h4; exact h.neo a b hab hb k h3 h4
    ·rw [hk] at h4;have := gV (h.dr a (by omega)).ops h3;injection h4 with h4;omega
   ·rw [if_neg qb] at h4; exact h.neo a b hab hb k h3 h4
theorem pJ {α : Type} (p q : α → Bool) : ∀ (A B : List α), A.length = B.length → (∀ i (h1 : i < A.length) (h2 : i < B.length), p A[i] = q B[i]) → A.findIdx p = B.findIdx q
 | [], [], _, _ => rfl
 | [], b :: B, h, _ => by cases h
 | a :: A, [], h, _ => by cases h
 | a :: A, b :: B, h, hp => by
  rw [List.findIdx_cons, List.findIdx_cons];have h0 := hp 0 (by simp) (by simp);simp only [List.getElem_cons_zero] at h0;rw [h0, pJ p q A B (by simpa using h) (fun i h1 h2 => hp (i + 1) (Nat.succ_lt_succ h1) (Nat.succ_lt_succ h2))]
theorem aEc (L : List aH) (E : List bV) (i : Nat) (d : aH) (e : bV) (hi : i < L.length) (hl : E.length = L.length) (hn : d.nm = (L.getD i noD).nm) (ho : d.op = (L.getD i noD).op) (he : e.1 = (E.getD i bM).1) : bW (L.set i d) (E.set i e) = bW L E := by
 funext s
 have h1 : atD (L.set i d) s = atD L s := by
  refine pJ _ _ _ _ (by simp) (fun j g1 g2 => ?_);rw [List.getElem_set];by_cases q : i = j
  ·subst q;rw [if_pos rfl];have e3 : L.getD i noD = L[i] := (by simp [hi]);unfold tD; rw [hn, ho, e3]
  ·rw [if_neg q]
 unfold bW;rw [h1, List.length_set, kV E i _ e (by omega)];by_cases q : i = atD L s
 ·rw [if_pos q, he, q]
 ·rw [if_neg q]
theorem zA (L : List aH) (E : List bV) (hL : mJ L) (s : List UInt8) (d : aH) (e : bV) (hi : atD L s < L.length) (hl : E.length = L.length) (ho : d.op = false) : bW (L.set (atD L s) d) (E.set (atD L s) e) = aGw (bW L E) s none := by
 obtain ⟨o1, o2⟩ := nY L s hi;funext x;unfold bW aGw;by_cases hx : x = s
 ·subst hx;rw [if_pos rfl];refine if_neg ?_;rw [List.length_set];intro h9;have h8 : atD (L.set (atD L x) d) x < (L.set (atD L x) d).length := (by rw [List.length_set]; exact h9);obtain ⟨p1, p2⟩ := nY _ x h8;rw [mQ L _ _ d hi] at p1 p2;by_cases q : atD L x = atD (L.set (atD L x) d) x
  ·rw [if_pos q, ho] at p1; cases p1
  ·rw [if_neg q] at p1 p2;rcases Nat.lt_or_gt_of_ne q with h1 | h1
   ·exact hL.one _ _ h1 h9 o1 p1 (by rw [o2, p2])
   ·exact hL.one _ _ h1 hi p1 o1 (by rw [o2, p2])
 ·rw [if_neg hx]
  have h1 : atD (L.set (atD L s) d) x = atD L x := by
   refine pJ _ _ _ _ (by simp) (fun j g1 g2 => ?_);rw [List.getElem_set];by_cases q : atD L s = j
   ·rw [if_pos q];have e3 : L.getD j noD = L[j] := (by simp [g2]);have e4 : L[j].nm = s := (by rw [← e3, ← q]; exact o2);unfold tD;rw [ho, e4, decide_eq_false (Ne.symm hx)];simp
   ·rw [if_neg q]
  rw [h1, List.length_set, kV E _ _ e (by omega)];by_cases q : atD L s = atD L x
  ·by_cases h2 : atD L x < L.length
   ·have := (nY L x h2).2;rw [← q, o2] at this;exact absurd this.symm hx
   ·rw [if_neg h2]; exact (if_neg h2).symm
  ·rw [if_neg q]
end Go.Proofs.YtdfegfagedeilaaGreatDoor

namespace Go.Proofs
open Go.Shelf
def Tryz.laysSort_ren : Go.Shelf.Ren := ⟨fun | 6 => 161 | 15 => 125 | 14 => 175 | 28 => 150 | 29 => 151 | 20 => 184 | 21 => 185 | 22 => 186 | 23 => 187 | 24 => 188 | 25 => 189 | 26 => 190 | 27 => 191 | 46 => 194 | 47 => 165 | 48 => 166 | 49 => 195 | 50 => 196 | 57 => 197 | n => n, fun | 22 => 22 | 24 => 9 | 25 => 164 | 3 => 3 | 39 => 171 | 0 => 0 | 53 => 197 | 55 => 199 | 4 => 4 | 46 => 191 | 45 => 190 | 50 => 131 | 5 => 5 | 9 => 9 | 66 => 208 | 70 => 212 | 76 => 220 | 77 => 140 | n => n, fun | n => n⟩
theorem Tryz.laysSort : Go.Proofs.SlLaysF.n6 Tryz.prog Tryz.laysSort_ren := {
 mixed := by kernel_rfl
 f6 := ⟨Tryz.f161.name, by decide, Tryz.func161.trans (congrArg some (by kernel_rfl))⟩
 f14 := ⟨Tryz.f175.name, by decide, Tryz.func175.trans (congrArg some (by kernel_rfl))⟩
 f15 := Tryz.func125.trans (congrArg some (by kernel_rfl))
 f20 := ⟨Tryz.f184.name, by decide, Tryz.func184.trans (congrArg some (by kernel_rfl))⟩
 f21 := ⟨Tryz.f185.name, by decide, Tryz.func185.trans (congrArg some (by kernel_rfl))⟩
 f22 := ⟨Tryz.f186.name, by decide, Tryz.func186.trans (congrArg some (by kernel_rfl))⟩
 f23 := ⟨Tryz.f187.name, by decide, Tryz.func187.trans (congrArg some (by kernel_rfl))⟩
 f24 := ⟨Tryz.f188.name, by decide, Tryz.func188.trans (congrArg some (by kernel_rfl))⟩
 f25 := ⟨Tryz.f189.name, by decide, Tryz.func189.trans (congrArg some (by kernel_rfl))⟩
 f26 := ⟨Tryz.f190.name, by decide, Tryz.func190.trans (congrArg some (by kernel_rfl))⟩
 f27 := ⟨Tryz.f191.name, by decide, Tryz.func191.trans (congrArg some (by kernel_rfl))⟩
 f28 := Tryz.func150.trans (congrArg some (by kernel_rfl))
 f29 := Tryz.func151.trans (congrArg some (by kernel_rfl))
 f46 := ⟨Tryz.f194.name, by decide, Tryz.func194.trans (congrArg some (by kernel_rfl))⟩
 f47 := Tryz.func165.trans (congrArg some (by kernel_rfl))
 f48 := Tryz.func166.trans (congrArg some (by kernel_rfl))
 f49 := ⟨Tryz.f195.name, by decide, Tryz.func195.trans (congrArg some (by kernel_rfl))⟩
 f50 := ⟨Tryz.f196.name, by decide, Tryz.func196.trans (congrArg some (by kernel_rfl))⟩
 f57 := ⟨Tryz.f197.name, by decide, Tryz.func197.trans (congrArg some (by kernel_rfl))⟩
 t0 := Tryz.underlying0
 a0 := Tryz.isAgg0
 z0 := Tryz.sizeOf0
 v0 := Tryz.zeroValue0
 t3 := Tryz.underlying3
 a3 := Tryz.isAgg3
 z3 := Tryz.sizeOf3
 v3 := Tryz.zeroValue3
 t4 := Tryz.underlying4
 a4 := Tryz.isAgg4
 z4 := Tryz.sizeOf4
 v4 := Tryz.zeroValue4
 t5 := Tryz.underlying5
 a5 := Tryz.isAgg5
 z5 := Tryz.sizeOf5
 v5 := Tryz.zeroValue5
 t9 := Tryz.underlying9
 a9 := Tryz.isAgg9
 z9 := Tryz.sizeOf9
 v9 := Tryz.zeroValue9
 t22 := Tryz.underlying22
 a22 := Tryz.isAgg22
 z22 := Tryz.sizeOf22
 v22 := Tryz.zeroValue22
 a24 := Tryz.isAgg9
 z24 := Tryz.sizeOf9
 t25 := Tryz.underlying164
 a25 := Tryz.isAgg164
 z25 := Tryz.sizeOf164
 v25 := Tryz.zeroValue164
 t39 := Tryz.underlying171
 a39 := Tryz.isAgg171
 z39 := Tryz.sizeOf171
 v39 := Tryz.zeroValue171
 t45 := Tryz.underlying190
 a45 := Tryz.isAgg190
 z45 := Tryz.sizeOf190
 v45 := Tryz.zeroValue190
 t46 := Tryz.underlying191
 a46 := Tryz.isAgg191
 z46 := Tryz.sizeOf191
 v46 := Tryz.zeroValue191
 t50 := Tryz.underlying131
 a50 := Tryz.isAgg131
 z50 := Tryz.sizeOf131
 v50 := Tryz.zeroValue131
 t53 := Tryz.underlying197
 a53 := Tryz.isAgg197
 z53 := Tryz.sizeOf197
 v53 := Tryz.zeroValue197
 t55 := Tryz.underlying199
 a55 := Tryz.isAgg199
 z55 := Tryz.sizeOf199
 v55 := Tryz.zeroValue199
 t66 := Tryz.underlying208
 a66 := Tryz.isAgg208
 z66 := Tryz.sizeOf208
 v66 := Tryz.zeroValue208
 t70 := Tryz.underlying212
 a70 := Tryz.isAgg212
 z70 := Tryz.sizeOf212
 v70 := Tryz.zeroValue212
 t76 := Tryz.underlying220
 a76 := Tryz.isAgg220
 z76 := Tryz.sizeOf220
 v76 := Tryz.zeroValue220
 t77 := Tryz.underlying140
 a77 := Tryz.isAgg140
 z77 := Tryz.sizeOf140
 v77 := Tryz.zeroValue140 }
def Tryz.laysSort0_ren : Go.Shelf.Ren := ⟨fun | 6 => 161 | 15 => 125 | 14 => 175 | 28 => 150 | 29 => 151 | 20 => 184 | 21 => 185 | 22 => 186 | 23 => 187 | 24 => 188 | 25 => 189 | 26 => 190 | 27 => 191 | 46 => 194 | 47 => 165 | 48 => 166 | 49 => 195 | 50 => 196 | 57 => 197 | n => n, fun | 22 => 22 | 24 => 9 | 25 => 164 | 3 => 3 | 39 => 171 | 0 => 0 | 53 => 197 | 55 => 199 | 4 => 4 | 46 => 191 | 45 => 190 | 50 => 131 | 5 => 5 | 9 => 9 | 66 => 208 | 70 => 212 | 76 => 220 | 77 => 140 | n => n, fun | n => n⟩
theorem Tryz.laysSort0 : Go.Proofs.SlLaysF0.n6 Tryz.prog Tryz.laysSort0_ren := {
 mixed := by kernel_rfl
 f6 := ⟨Tryz.f161.name, by decide, Tryz.func161.trans (congrArg some (by kernel_rfl))⟩
 f14 := ⟨Tryz.f175.name, by decide, Tryz.func175.trans (congrArg some (by kernel_rfl))⟩
 f15 := Tryz.func125.trans (congrArg some (by kernel_rfl))
 f20 := ⟨Tryz.f184.name, by decide, Tryz.func184.trans (congrArg some (by kernel_rfl))⟩
 f21 := ⟨Tryz.f185.name, by decide, Tryz.func185.trans (congrArg some (by kernel_rfl))⟩
 f22 := ⟨Tryz.f186.name, by decide, Tryz.func186.trans (congrArg some (by kernel_rfl))⟩
 f23 := ⟨Tryz.f187.name, by decide, Tryz.func187.trans (congrArg some (by kernel_rfl))⟩
 f24 := ⟨Tryz.f188.name, by decide, Tryz.func188.trans (congrArg some (by kernel_rfl))⟩
 f25 := ⟨Tryz.f189.name, by decide, Tryz.func189.trans (congrArg some (by kernel_rfl))⟩
 f26 := ⟨Tryz.f190.name, by decide, Tryz.func190.trans (congrArg some (by kernel_rfl))⟩
 f27 := ⟨Tryz.f191.name, by decide, Tryz.func191.trans (congrArg some (by kernel_rfl))⟩
 f28 := Tryz.func150.trans (congrArg some (by kernel_rfl))
 f29 := Tryz.func151.trans (congrArg some (by kernel_rfl))
 f46 := ⟨Tryz.f194.name, by decide, Tryz.func194.trans (congrArg some (by kernel_rfl))⟩
 f47 := Tryz.func165.trans (congrArg some (by kernel_rfl))
 f48 := Tryz.func166.trans (congrArg some (by kernel_rfl))
 f49 := ⟨Tryz.f195.name, by decide, Tryz.func195.trans (congrArg some (by kernel_rfl))⟩
 f50 := ⟨Tryz.f196.name, by decide, Tryz.func196.trans (congrArg some (by kernel_rfl))⟩
 f57 := ⟨Tryz.f197.name, by decide, Tryz.func197.trans (congrArg some (by kernel_rfl))⟩
 t0 := Tryz.underlying0
 a0 := Tryz.isAgg0
 z0 := Tryz.sizeOf0
 v0 := Tryz.zeroValue0
 t3 := Tryz.underlying3
 a3 := Tryz.isAgg3
 z3 := Tryz.sizeOf3
 v3 := Tryz.zeroValue3
 t4 := Tryz.underlying4
 a4 := Tryz.isAgg4
 z4 := Tryz.sizeOf4
 v4 := Tryz.zeroValue4
 t5 := Tryz.underlying5
 a5 := Tryz.isAgg5
 z5 := Tryz.sizeOf5
 v5 := Tryz.zeroValue5
 t9 := Tryz.underlying9
 a9 := Tryz.isAgg9
 z9 := Tryz.sizeOf9
 v9 := Tryz.zeroValue9
 t22 := Tryz.underlying22
 a22 := Tryz.isAgg22
 z22 := Tryz.sizeOf22
 v22 := Tryz.zeroValue22
 t25 := Tryz.underlying164
 a25 := Tryz.isAgg164
 z25 := Tryz.sizeOf164
 v25 := Tryz.zeroValue164
 t39 := Tryz.underlying171
 a39 := Tryz.isAgg171
 z39 := Tryz.sizeOf171
 v39 := Tryz.zeroValue171
 t45 := Tryz.underlying190
 a45 := Tryz.isAgg190
 z45 := Tryz.sizeOf190
 v45 := Tryz.zeroValue190
 t46 := Tryz.underlying191
 a46 := Tryz.isAgg191
 z46 := Tryz.sizeOf191
 v46 := Tryz.zeroValue191
 t50 := Tryz.underlying131
 a50 := Tryz.isAgg131
 z50 := Tryz.sizeOf131
 v50 := Tryz.zeroValue131
 t53 := Tryz.underlying197
 a53 := Tryz.isAgg197
 z53 := Tryz.sizeOf197
 v53 := Tryz.zeroValue197
 t55 := Tryz.underlying199
 a55 := Tryz.isAgg199
 z55 := Tryz.sizeOf199
 v55 := Tryz.zeroValue199
 t66 := Tryz.underlying208
 a66 := Tryz.isAgg208
 z66 := Tryz.sizeOf208
 v66 := Tryz.zeroValue208
 t70 := Tryz.underlying212
 a70 := Tryz.isAgg212
 z70 := Tryz.sizeOf212
 v70 := Tryz.zeroValue212
 t76 := Tryz.underlying220
 a76 := Tryz.isAgg220
 z76 := Tryz.sizeOf220
 v76 := Tryz.zeroValue220
 t77 := Tryz.underlying140
 a77 := Tryz.isAgg140
 z77 := Tryz.sizeOf140
 v77 := Tryz.zeroValue140 }
def Tryz.laysCompact_ren : Go.Shelf.Ren := ⟨fun | 194 => 162 | n => n, fun | 31 => 22 | 9 => 9 | 3 => 3 | 4 => 4 | 0 => 0 | n => n, fun | n => n⟩
theorem Tryz.laysCompact : Go.Proofs.Lays.n194 Tryz.prog Tryz.laysCompact_ren := {
 mixed := by kernel_rfl
 f194 := Tryz.func162.trans (congrArg some (by kernel_rfl))
 t0 := Tryz.underlying0
 a0 := Tryz.isAgg0
 z0 := Tryz.sizeOf0
 v0 := Tryz.zeroValue0
 t3 := Tryz.underlying3
 a3 := Tryz.isAgg3
 z3 := Tryz.sizeOf3
 v3 := Tryz.zeroValue3
 t4 := Tryz.underlying4
 a4 := Tryz.isAgg4
 z4 := Tryz.sizeOf4
 v4 := Tryz.zeroValue4
 t9 := Tryz.underlying9
 a9 := Tryz.isAgg9
 z9 := Tryz.sizeOf9
 v9 := Tryz.zeroValue9
 t31 := Tryz.underlying22
 a31 := Tryz.isAgg22
 z31 := Tryz.sizeOf22
 v31 := Tryz.zeroValue22 }
end Go.Proofs

namespace Go.Proofs.YtdfegfagedeilaaGreatDoor
open Go.RowKit
def pF (w : World) (p : Option Addr) (L : List OpM) : Prop := ∀ j, j < L.length → ∃ g, p = some ⟨g, 0, none⟩ ∧ w.cell? ⟨g, j * 4, none⟩ = some (.bool (L.getD j cG).1) ∧ w.cell? ⟨g, j * 4 + 1, none⟩ = some (.int .i64 (L.getD j cG).2.1) ∧
 w.cell? ⟨g, j * 4 + 2, none⟩ = some (.int .i64 (L.getD j cG).2.2.1) ∧ w.cell? ⟨g, j * 4 + 3, none⟩ = some (.int .i64 (L.getD j cG).2.2.2)
theorem pF.below {w w' : World} {p : Option Addr} {L : List OpM} (h : pF w p L) (hb : Below w.heap.size w w') : pF w' p L := fun j hj => by
 obtain ⟨g, hp, h1, h2, h3, h4⟩ := h j hj;exact ⟨g, hp, cell_later hb h1, cell_later hb h2, cell_later hb h3, cell_later hb h4⟩
def qF (w : World) (v : Value) (L : List OpM) : Prop := ∃ p cap, v = .slice p L.length cap ∧ L.length ≤ cap ∧ pF w p L
theorem qF.below {w w' : World} {v : Value} {L : List OpM} (h : qF w v L) (hb : Below w.heap.size w w') : qF w' v L := by
 obtain ⟨p, cap, hv, hc, ht⟩ := h;exact ⟨p, cap, hv, hc, ht.below hb⟩
def aAv (w : World) (p : Option Addr) (L : List bB) : Prop := ∀ j, j < L.length → ∃ g sv, p = some ⟨g, 0, none⟩ ∧ w.cell? ⟨g, j * 3, none⟩ = some (.int .i64 (L.getD j aM).1) ∧ w.cell? ⟨g, j * 3 + 1, none⟩ = some (.int .i64 (L.getD j aM).2.1) ∧
 w.cell? ⟨g, j * 3 + 2, none⟩ = some sv ∧ qF w sv (L.getD j aM).2.2
theorem aAv.below {w w' : World} {p : Option Addr} {L : List bB} (h : aAv w p L) (hb : Below w.heap.size w w') : aAv w' p L := fun j hj => by
 obtain ⟨g, sv, hp, h1, h2, h3, h4⟩ := h j hj;exact ⟨g, sv, hp, cell_later hb h1, cell_later hb h2, cell_later hb h3, h4.below hb⟩
def kM (w : World) (v : Value) (L : List bB) : Prop := ∃ p cap, v = .slice p L.length cap ∧ aAv w p L
theorem kM.below {w w' : World} {v : Value} {L : List bB} (h : kM w v L) (hb : Below w.heap.size w w') : kM w' v L := by
 obtain ⟨p, cap, hv, ht⟩ := h;exact ⟨p, cap, hv, ht.below hb⟩
def cJ (w : World) (v : Value) (h : aI) : Prop := ∃ v0 v1 v2, v = .agg #[v0, v1, v2] ∧ bF w v0 h.1 ∧ bF w v1 h.2.1 ∧ kM w v2 h.2.2
theorem cJ.below {w w' : World} {v : Value} {h : aI} (hh : cJ w v h) (hb : Below w.heap.size w w') : cJ w' v h := by
 obtain ⟨v0, v1, v2, hv, h0, h1, h2⟩ := hh;exact ⟨v0, v1, v2, hv, h0.below hb, h1.below hb, h2.below hb⟩
end Go.Proofs.YtdfegfagedeilaaGreatDoor

namespace Go.Proofs.YtdfegfagedeilaaGreatDoor
open Go.RowKit
def aAu (w : World) (p : Option Addr) (L : List Int) : Prop := ∀ j, j < L.length → ∃ g, p = some ⟨g, 0, none⟩ ∧ w.cell? ⟨g, j, none⟩ = some (.int .i64 (L.getD j 0))
theorem aAu.below {w w' : World} {p : Option Addr} {L : List Int} (h : aAu w p L) (hb : Below w.heap.size w w') : aAu w' p L := fun j hj => by
 obtain ⟨g, hp, hc⟩ := h j hj;exact ⟨g, hp, cell_later hb hc⟩
def qC (w : World) (v : Value) (L : List Int) : Prop := ∃ p cap, v = .slice p L.length cap ∧ aAu w p L
theorem qC.below {w w' : World} {v : Value} {L : List Int} (h : qC w v L) (hb : Below w.heap.size w w') : qC w' v L := by
 obtain ⟨p, cap, hv, ht⟩ := h;exact ⟨p, cap, hv, ht.below hb⟩
theorem yP (w : World) : qC w (.slice none 0 0) [] := ⟨none, 0, rfl, fun j hj => absurd hj (Nat.not_lt_zero j)⟩
def mG (L : List Int) : List Value := L.map fun n => .int .i64 n
theorem wQ (L : List Int) (n : Int) : mG L ++ [.int .i64 n] = mG (L ++ [n]) := by simp [mG]
theorem aJj (L : List Int) (j : Nat) (n : Int) : (mG L).set j (.int .i64 n) = mG (L.set j n) := by simp [mG, List.map_set]
theorem bUb {w : World} {B : Nat} {e : TypeId} {v : Value} {L : List Int} (h : w.ownsRow B e 1 v L.length (mG L)) : qC w v L := by
 obtain ⟨-, ⟨h0, hn⟩ | ⟨g, cap, cur, hv, -, hw, -, -, -, ht⟩⟩ := h
 ·have : L = [] := List.eq_nil_of_length_eq_zero hn;subst this h0;exact yP w
 ·refine ⟨_, cap, hv, fun j hj => ⟨g, rfl, ?_⟩⟩;have h1 := congrArg (fun x : List Value => x[j]?) ht;simp only [Nat.mul_one, List.getElem?_take, hj, if_true, Array.getElem?_toList] at h1;rw [cell_of_row w g j _ _ (0, 0) hw, h1];simp [mG, hj]
theorem xD : (Tryz.prog.info? 3).map (fun i => (i.zero, i.size, i.bytes)) = some (some (.int .i64 0), 1, 8) := by kernel_rfl
end Go.Proofs.YtdfegfagedeilaaGreatDoor

namespace Go.Proofs.YtdfegfagedeilaaGreatDoor
open Go.RowKit Go.Lib Go.Maps Go.WideMaps
theorem bTy {w : World} {v : Value} {h : aI} (hv : cJ w v h) : ∃ p0 c0 p1 c1 p2 c2, v = .agg #[.slice p0 h.1.length c0, .slice p1 h.2.1.length c1, .slice p2 h.2.2.length c2] := by
 obtain ⟨v0, v1, v2, rfl, ⟨p0, c0, rfl, -⟩, ⟨p1, c1, rfl, -⟩, ⟨p2, c2, rfl, -⟩⟩ := hv;exact ⟨_, _, _, _, _, _, rfl⟩
theorem bUt {w : World} {v0 v1 v2 : Value} {h : aI} (hv : cJ w (.agg #[v0, v1, v2]) h) : bF w v0 h.1 ∧ bF w v1 h.2.1 ∧ kM w v2 h.2.2 := by
 obtain ⟨u0, u1, u2, e, h0, h1, h2⟩ := hv;injection e with e;have e' : [v0, v1, v2] = [u0, u1, u2] := congrArg Array.toList e;injection e' with e0 e';injection e' with e1 e';injection e' with e2 _;subst e0 e1 e2;exact ⟨h0, h1, h2⟩
end Go.Proofs.YtdfegfagedeilaaGreatDoor
