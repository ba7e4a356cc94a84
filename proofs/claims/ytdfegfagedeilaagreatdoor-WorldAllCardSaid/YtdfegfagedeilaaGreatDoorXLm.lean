/-
  Maps of the call's own from numbers to values, in plain words. No conditions.
  Maps of the call's own from numbers of 64 bits to numbers, in plain words. No conditions.
  Layer 15 (writer), the program: what others leave of a key, what a lost read may have read, walked. No conditions but that unicode/utf8's two tables are as their initialisers lay them.
  Slices of values of the call's own, and slices of these, as what they hold: what keeps them. No conditions.
  Layer 16 (world) in plain words: counting up, place by place from the last one; who is a world that is tried; no program in sight. No conditions.
  A history as an argument beside a box of slices: stores into the box leave it as it was. No conditions.
  A history as an argument whose values' numbers are Go's: its reading says so. No conditions.
  Layer 16 (world): what the laws share: who committed, and what is tried, of any world; walked. No conditions but that unicode/utf8's two tables are as their initialisers lay them.
-/
import Derived.Maps.RangeWalk
import Derived.Test.YtdfegfagedeilaaGreatDoorXLk
import Derived.Test.YtdfegfagedeilaaGreatDoorXLl
import Derived.Lib.LazyBuf
import Derived.Test.YtdfegfagedeilaaGreatDoorXxHFew
namespace Go.Proofs.YtdfegfagedeilaaGreatDoor
section
open Go.RowKit Go.Lib Go.Maps Go.WideMaps
def vG (v : Value) : Option (DataW Unit × List MemPlace) :=
 match v with
 | .agg cs => match cs.toList with
  | [.int .i64 a, .int .i64 b] => some (.agg [.lit (.int .i64 a), .lit (.int .i64 b)], [])
  | _ => none
 | _ => none
def zI (x : aR) : DataW Unit := .agg [.lit (.int .i64 x.1), .lit (.int .i64 x.2)]
def uI (x : aR) : Value := .agg #[.int .i64 x.1, .int .i64 x.2]
theorem bFv (x : aR) : vG (uI x) = some (zI x, []) := rfl
theorem aVy {v : Value} {y : DataW Unit × List MemPlace} (h : vG v = some y) : ∃ x : aR, v = uI x ∧ y = (zI x, []) := by
 unfold vG at h;split at h
 ·rename_i cs;split at h
  ·rename_i a b hl;injection h with h;refine ⟨(a, b), ?_, h.symm⟩;unfold uI;rw [show cs = #[Value.int .i64 a, Value.int .i64 b] from Array.toList_inj.1 hl]
  ·cases h
 ·cases h
theorem bFu {x y : aR} (h : zI x = zI y) : x = y := by
 unfold zI at h;injection h with h;injection h with h1 h2;injection h1 with h1;injection h1 with _ h1;injection h2 with h2 _;injection h2 with h2;injection h2 with _ h2;exact Prod.ext h1 h2
def qX (w : World) (b : Nat) (ks : List Int) (f : Int → aR) : Prop :=
 ∃ D : DataW Unit, w.ownsMap Tryz.prog 3 vG b ks.length D ∧ Maps.size D = ks.length ∧ (∀ j : Int, (Lit.int .i64 j).wf = true → Maps.has D (.int .i64 j) = decide (j ∈ ks)) ∧ ∀ j z, j ∈ ks → D.atKey (.int .i64 j) z = zI (f j)
theorem qX.at {w w' : World} {b : Nat} {ks : List Int} {f : Int → aR} (h : qX w b ks f) (e : w'.heap[b]? = w.heap[b]?) : qX w' b ks f := by
 obtain ⟨D, ⟨es, clock, hb, r⟩, h2⟩ := h;exact ⟨D, ⟨es, clock, e.trans hb, r⟩, h2⟩
theorem qX.lt {w : World} {b : Nat} {ks : List Int} {f : Int → aR} (h : qX w b ks f) : b < w.heap.size := by
 obtain ⟨D, h1, -⟩ := h;exact h1.lt
theorem qX.later {w w' : World} {b : Nat} {ks : List Int} {f : Int → aR} (h : qX w b ks f) (hb : Below w.heap.size w w') : qX w' b ks f := h.at (hb.block b h.lt)
theorem bFw (w : World) (f : Int → aR) : qX (w.alloc (.map #[] 0)) w.heap.size [] f :=
 ⟨.map [], World.ownsMap_made w _ _ _, rfl, fun j _ => by simp [Maps.has], fun j z hj => absurd hj List.not_mem_nil⟩
set_option maxRecDepth 10000 in
theorem bFx {w : World} {b : Nat} {ks : List Int} {f : Int → aR} (h : qX w b ks f) (hn : ks.length < 1000000) (k : Int) (hk : k ∉ ks) (h1k : -9223372036854775808 ≤ k) (h2k : k ≤ 9223372036854775807) (x : aR) :
  ∃ w', (Instr.mapUpdate 107 (.map (some b)) (.int .i64 k) (uI x)).run Tryz.prog w = .ok () w' ∧ qX w' b (ks ++ [k]) (fun j => if j = k then x else f j) ∧ w.mapTurned w' b := by
 obtain ⟨D, h1, h2, h3, h4⟩ := h;have hkw : (Lit.int .i64 k).wf = true := WalkArith.wf_i64 (by omega);obtain ⟨w', r1, r2, r3⟩ := h1.store (int_keyed Tryz.underlying3) Tryz.underlying107 (by unfold maxLen; omega) (keyOf_int_mk Tryz.underlying3 hkw) (bFv x);have hK : WideAt.IsKeyLit (.int .i64 k) := trivial;refine ⟨w', r1, ⟨_, by rw [List.length_append]; exact r2, ?_, fun j hj => ?_, fun j z hj => ?_⟩, r3⟩
 ·rw [size_put (h1.tidy (int_keyed Tryz.underlying3)), h3 k hkw, h2, if_neg (by simpa using hk)];simp
 ·by_cases e : j = k
  ·subst e;rw [has_put_same h1.isMap hK];simp
  ·rw [has_put_other (by intro h; cases h; exact e rfl), h3 j hj];simp [e]
 ·dsimp only;by_cases e : j = k
  ·subst e;rw [if_pos rfl];exact atKey_put_same h1.isMap hK _ _
  ·rw [if_neg e, atKey_put_other (by intro h; cases h; exact e rfl)];exact h4 j z (by simpa [e] using hj)
theorem qX.congr {w : World} {b : Nat} {ks : List Int} {f g : Int → aR} (h : qX w b ks f) (hfg : ∀ j ∈ ks, f j = g j) : qX w b ks g := by
 obtain ⟨D, h1, h2, h3, h4⟩ := h;exact ⟨D, h1, h2, h3, fun j z hj => by rw [h4 j z hj, hfg j hj]⟩
end
section
open Go.RowKit Go.Lib Go.Maps Go.WideMaps
def dJ (w : World) (b n : Nat) (f : Int → Int) : Prop :=
 ∃ D : DataW Unit, w.ownsMap Tryz.prog 2 (plainElem Tryz.prog 3) b n D ∧ ∀ k, (Lit.int .i64 k).wf = true → D.atKey (.int .i64 k) (.lit (.int .i64 0)) = .lit (.int .i64 (f k))
theorem bBj (w : World) : (zeroValue 3).run Tryz.prog w = .ok (.int .i64 0) w := by kernel_rfl
theorem dJ.at {w w' : World} {b n : Nat} {f : Int → Int} (h : dJ w b n f) (e : w'.heap[b]? = w.heap[b]?) : dJ w' b n f := by
 obtain ⟨D, ⟨es, clock, hb, r⟩, h2⟩ := h;exact ⟨D, ⟨es, clock, e.trans hb, r⟩, h2⟩
theorem dJ.lt {w : World} {b n : Nat} {f : Int → Int} (h : dJ w b n f) : b < w.heap.size := by
 obtain ⟨D, h1, -⟩ := h;exact h1.lt
theorem dJ.later {w w' : World} {b n : Nat} {f : Int → Int} (h : dJ w b n f) (hb : Below w.heap.size w w') : dJ w' b n f := h.at (hb.block b h.lt)
theorem dJ.kept {w w' : World} {row : Option Nat} {b n : Nat} {f : Int → Int} (h : dJ w b n f) (hg : w.grownBy w' row) (hne : some b ≠ row) : dJ w' b n f := h.at (hg.block b h.lt hne)
theorem dJ.alloc {w : World} {b n : Nat} {f : Int → Int} (h : dJ w b n f) (o : Obj) : dJ (w.alloc o) b n f := h.kept (World.grownBy_alloc w o none) (by simp)
theorem aRk (w : World) : dJ (w.alloc (.map #[] 0)) w.heap.size 0 (fun _ => 0) :=
 ⟨.map [], World.ownsMap_made w _ _ _, fun k _ => by simp [DataW.atKey]⟩
theorem dJ.row {w : World} {b n base size m : Nat} {f : Int → Int} {e : TypeId} {v : Value} {xs : List Value} (h : dJ w b n f) (ho : w.ownsRow base e size v m xs) : v.ownBlock ≠ some b := by
 intro he;obtain ⟨D, ⟨es, clock, hb, r⟩, h2⟩ := h;rcases ho.2 with ⟨rfl, -⟩ | ⟨g, cap, cur, rfl, -, hw, -⟩
 ·cases he
 ·have e1 : g = b := (by simpa [Value.ownBlock] using he);subst e1;rw [hw] at hb;cases hb
set_option maxRecDepth 10000 in
theorem zU {w : World} {b n : Nat} {f : Int → Int} (h : dJ w b n f) (k : Int) (h1k : -9223372036854775808 ≤ k) (h2k : k ≤ 9223372036854775807) : (Instr.lookup 112 (.map (some b)) (.int .i64 k) false).run Tryz.prog w = .ok (.int .i64 (f k)) w := by
 obtain ⟨D, h1, h2⟩ := h;have hk : (Lit.int .i64 k).wf = true := WalkArith.wf_i64 (by omega);obtain ⟨c, hr, hat, -⟩ := h1.lookup_int (int_keyed Tryz.underlying2) Tryz.underlying112 Tryz.underlying3 (bBj w) (keyOf_int_mk Tryz.underlying2 hk)
 have e : f k = c := by
  have := (h2 k hk).symm.trans hat;injection this with this;injection this
 rw [e];exact hr
set_option maxRecDepth 10000 in
theorem aRl {w : World} {b n : Nat} {f : Int → Int} (h : dJ w b n f) (hn : n < maxLen) (k c : Int) (h1k : -9223372036854775808 ≤ k) (h2k : k ≤ 9223372036854775807) (h1c : -9223372036854775808 ≤ c) (h2c : c ≤ 9223372036854775807) :
  ∃ w', (Instr.mapUpdate 112 (.map (some b)) (.int .i64 k) (.int .i64 c)).run Tryz.prog w = .ok () w' ∧ dJ w' b (n + 1) (fun j => if j = k then c else f j) ∧ w.mapTurned w' b := by
 obtain ⟨D, h1, h2⟩ := h;have hk : (Lit.int .i64 k).wf = true := WalkArith.wf_i64 (by omega);obtain ⟨w', r1, r2, r3⟩ := h1.store (int_keyed Tryz.underlying2) Tryz.underlying112 hn (keyOf_int_mk Tryz.underlying2 hk) (plainElem_int Tryz.underlying3 (WalkArith.wf_i64 (n := c) (by omega)));refine ⟨w', r1, ⟨_, r2, fun j hj => ?_⟩, r3⟩;dsimp only;by_cases e : j = k
 ·subst e;rw [if_pos rfl];exact atKey_put_same h1.isMap (show WideAt.IsKeyLit (.int .i64 j) from trivial) _ _
 ·rw [if_neg e];rw [atKey_put_other (by intro h; cases h; exact e rfl)];exact h2 j hj
theorem dJ.turn {w w' : World} {b b' n : Nat} {f : Int → Int} (h : dJ w b n f) (ht : w.mapTurned w' b') (hne : b ≠ b') : dJ w' b n f := h.kept ht.grown (by simpa using hne)
end
section
open Go.RowKit Go.Lib Go.Maps
theorem kQ {w w' : World} {row : Option Nat} (hb : Below w.heap.size w w') : w.grownBy w' row := ⟨hb.os, hb.tape, hb.output, hb.size, fun k hk _ => hb.block k hk⟩
def nJ (h : aI) (t : Nat) (key : Int) : List Int := (jF h key).filter fun j => j != (t : Int)
def qK (h : aI) (key j : Int) : aR := (dL key (lL h j)).1
theorem qX.no_cell {w : World} {b : Nat} {ks : List Int} {f : Int → aR} (h : qX w b ks f) (i : Nat) : w.cell? ⟨b, i, none⟩ = none := by
 obtain ⟨D, ⟨es, clock, hb, r⟩, h2⟩ := h;simp [World.cell?, hb]
theorem aXn (p : bB → Bool) (L : List bB) (n : Nat) : (jH p L n).Pairwise (· < ·) := by
 unfold jH;rw [List.pairwise_map];exact (List.pairwise_lt_range.sublist (List.filter_sublist ..)).imp fun {a b} h => by omega
theorem xW (h : aI) (key : Int) : (jF h key).Pairwise (· < ·) := by
 unfold jF cA;split
 ·exact aXn _ _ _
 ·exact List.Pairwise.nil
theorem sY {h : aI} {key j : Int} (hj : j ∈ jF h key) : 0 ≤ j ∧ j < h.2.2.length := by
 unfold jF cA at hj;split at hj
 ·unfold jH at hj;obtain ⟨i, hi, rfl⟩ := List.mem_map.1 hj;have := List.mem_range.1 (List.mem_filter.1 hi).1;omega
 ·cases hj
theorem aAg {h : aI} (hmm : cZ h = true) (key : Int) (i : Nat) : (i : Int) ∈ jF h key ↔ i < h.2.2.length ∧ dU key (h.2.2.getD i aM) = true := by
 unfold jF;rw [jZ _ hmm];unfold jH;rw [List.mem_map];constructor
 ·rintro ⟨j, hj, e⟩;obtain rfl : j = i := (by exact Int.ofNat.inj e);rw [List.mem_filter, List.mem_range] at hj;exact hj
 ·intro hi;exact ⟨i, by rw [List.mem_filter, List.mem_range]; exact hi, rfl⟩
theorem aXx {h : aI} (hmm : cZ h = true) (t : Nat) (key : Int) (v : aR) : v ∈ dW h.2.2 t key h.2.2.length ↔ ∃ j ∈ nJ h t key, v = qK h key j := by
 rw [aYl];constructor
 ·rintro ⟨i, hi, hne, hw, rfl⟩;refine ⟨(i : Int), ?_, by unfold qK; rw [qN hmm i hi]⟩;unfold nJ;rw [List.mem_filter, aAg hmm];exact ⟨⟨hi, hw⟩, by rw [bne_iff_ne]; omega⟩
 ·rintro ⟨j, hj, rfl⟩;unfold nJ at hj;rw [List.mem_filter] at hj;obtain ⟨h1, h2⟩ := sY hj.1;obtain ⟨i, rfl⟩ : ∃ i : Nat, j = i := ⟨j.toNat, by omega⟩;obtain ⟨k1, k2⟩ := (aAg hmm key i).1 hj.1;exact ⟨i, k1, by have := hj.2; rw [bne_iff_ne] at this; omega, k2, by unfold qK; rw [qN hmm i k1]⟩
theorem aJu (L : List Int) (t : Int) (k : Nat) (hk : k < L.length) : (L.take (k + 1)).filter (fun j => j != t) = (L.take k).filter (fun j => j != t) ++ (if L.getD k 0 = t then [] else [L.getD k 0]) := by
 have e : L.take (k + 1) = L.take k ++ [L.getD k 0] := by
  rw [List.take_add_one];simp [hk]
 rw [e, List.filter_append];congr 1;by_cases h : L.getD k 0 = t
 ·rw [if_pos h, List.filter_cons, if_neg (by rw [h]; simp)];rfl
 ·rw [if_neg h, List.filter_cons, if_pos (by simpa using h)];rfl
theorem bEm {L : List Int} (hp : L.Pairwise (· < ·)) (t : Int) (k : Nat) (hk : k < L.length) : L.getD k 0 ∉ (L.take k).filter (fun j => j != t) := by
 intro hm;have h1 := (List.mem_filter.1 hm).1;obtain ⟨i, hi, e⟩ := List.getElem_of_mem h1;rw [List.length_take] at hi;rw [List.getElem_take] at e;have h2 := List.pairwise_iff_getElem.1 hp i k (by omega) hk (by omega);rw [show L.getD k 0 = L[k] by simp [hk]] at e;omega
set_option maxRecDepth 100000 in
set_option maxHeartbeats 4000000 in
theorem aKk {w : World} {v : Value} {h : aI} (t : Nat) (key : Int) (hv : cJ w v h) (hm : cU h) (hT : Lib.Utf8Tabs 1 2 w) :
  Calls Tryz.prog 83 #[v, .int .i64 (t : Nat), .int .i64 key] w fun e w' => ∃ b, e = .returned (.map (some b)) ∧ qX w' b (nJ h t key) (qK h key) ∧ w.heap.size ≤ b ∧ Below w.heap.size w w' := by
 have H0 := lhid hv;obtain ⟨v0, v1, v2, rfl, ⟨p0, c0, rfl, -⟩, ⟨p1, c1, rfl, -⟩, ⟨p2, c2, rfl, -⟩⟩ := hv;have hal := ((Below.refl w.heap.size w).alloc (Nat.le_refl _) (.cells #[.slice p0 h.1.length c0, .slice p1 h.2.1.length c1, .slice p2 h.2.2.length c2] 25)).alloc (by simp) (.map #[] 0);have hbx := (Blk.new w 25 [.slice p0 h.1.length c0, .slice p1 h.2.1.length c1, .slice p2 h.2.2.length c2]).alloc (.map #[] 0);have hmp := bFw (w.alloc (.cells #[.slice p0 h.1.length c0, .slice p1 h.2.1.length c1, .slice p2 h.2.2.length c2] 25)) (qK h key);simp only [World.size_alloc] at hmp;have HWr := lhid (bUm key (H0.out.below hal) hm (Utf8Tabs_below hT hal));have HLv := lhid (fun w' (hb : Below w.heap.size w w') (i : Int) => bUo i key (H0.out.below hb) hm (Utf8Tabs_below hT hb));have HPr := lhid (xW h key);have HLt := lhid (fun j (hj : j ∈ jF h key) => sY hj);have h1000 : h.2.2.length ≤ 1000 := hm.2.2.1;have hmm := @run_makeMap Tryz.prog;have HAL := lhid hal;have HBX := lhid hbx;have HMP := lhid hmp;have HK : Hid (nJ h t key = (jF h key).filter fun j => j != (t : Int)) := lhid rfl;obtain ⟨L, hL⟩ : ∃ L, jF h key = L := ⟨_, rfl⟩;rw [hL] at HWr HPr HLt HK
 have hLn : L.length ≤ 1000 := by
  have h3 := wH (m := (List.range h.2.2.length).map fun n : Nat => (n : Int)) (HPr.out.imp fun {a b} hab e => by omega) (fun x hx => by
   have := HLt.out x hx
   exact List.mem_map.2 ⟨x.toNat, List.mem_range.2 (by omega), by omega⟩)
  rw [List.length_map, List.length_range] at h3;omega
 clear H0 hm hT hal hbx hmp hL;go_enter Tryz.func83, Tryz.ntmps83;(go_wp2_with fail);obtain ⟨W1, hW1⟩ : ∃ q, (w.alloc (.cells #[.slice p0 h.1.length c0, .slice p1 h.2.1.length c1, .slice p2 h.2.2.length c2] 25)).alloc (.map #[] 0) = q := ⟨_, rfl⟩;(try rw [hW1]);rw [hW1] at HAL HBX HWr HMP;obtain ⟨gh, hgh⟩ : ∃ q, w.heap.size = q := ⟨_, rfl⟩;obtain ⟨bm, hbm⟩ : ∃ q, gh + 1 = q := ⟨_, rfl⟩;have HG := lhid hgh;have HGm := lhid hbm;(try simp only [hgh, hbm]);(try simp only [hgh, hbm] at HBX HMP);clear hW1 hgh hbm hmm;refine HWr.out.mono ?_;rintro e w2 ⟨v', rfl, hi, hb2⟩;obtain ⟨pw, cw, rfl, hin⟩ := hi;have HIn := lhid hin;have HB2 := lhid (aB HAL.out hb2);have HBX2 := lhid (HBX.out.later hb2);have HMP2 := lhid (HMP.out.later hb2);clear hin hb2 HWr HBX HMP HAL;go_wp2_with fail
 go_loopw [15] (fun i wr => ∃ n : Nat, n ≤ L.length ∧ i = .int .i64 n ∧ qX wr bm ((L.take n).filter fun j => j != (t : Int)) (qK h key) ∧ w2.grownBy wr (some bm)) (fun i _ => L.length - (RowKit.intOf i).toNat)
 case atStart => exact ⟨0, Nat.zero_le _, rfl, HMP2.out, ⟨rfl, rfl, rfl, Nat.le_refl _, fun _ _ _ => rfl⟩⟩
 case round =>
  obtain ⟨n, hn, rfl, hvm, hgr⟩ := hrel
  have HBr : Hid (Below w.heap.size w wr) := lhid (HB2.out.grown hgr HB2.out.size (fun q hq => by
   injection hq with hq;have h1 := HG.out;have h2 := HGm.out
   omega))
  by_cases hlt : n < L.length
  ·obtain ⟨gi, rfl, c0'⟩ := HIn.out n hlt
   have hne : gi ≠ bm := fun e => by
    subst e;rw [HMP2.out.no_cell] at c0';cases c0'
   have a0 := hgr.cell c0' (fun e => hne (by injection e));have hfn := aJu L (t : Int) n hlt;have hnw := bEm HPr.out (t : Int) n hlt;have hjb := HLt.out (L.getD n 0) (by rw [show L.getD n 0 = L[n] by simp [hlt]]; exact List.getElem_mem hlt);obtain ⟨j, hj⟩ : ∃ j, L.getD n 0 = j := ⟨_, rfl⟩;rw [hj] at a0 hfn hnw hjb;obtain ⟨K, hK⟩ : ∃ K, (L.take n).filter (fun j => j != (t : Int)) = K := ⟨_, rfl⟩;rw [hK] at hvm hfn hnw
   have hkl : K.length ≤ 1000 := by
    rw [← hK];have h1 := List.length_filter_le (fun j => j != (t : Int)) (L.take n);rw [List.length_take] at h1;omega
   have HVm := lhid hvm;have HGr := lhid hgr;have HFn := lhid hfn;have HNw := lhid hnw
   have xh := (HBX2.out.kept hgr (fun e => by
    injection e with e;have := HGm.out
    omega))
   have x0 := xh.cell 0 rfl;have x1 := xh.cell 1 rfl;have x2 := xh.cell 2 rfl;clear c0' hj hK hvm hgr hfn hnw hne xh;by_cases hjt : j = (t : Int)
   ·have e0 : (j != (t : Int)) = false := (by simpa using hjt);have HKs : Hid ((L.take (n + 1)).filter (fun j => j != (t : Int)) = K) := lhid (by rw [HFn.out, if_pos hjt, List.append_nil]);clear hjt;(go_wp2_with fail);go_roundw
    case rel => exact ⟨n + 1, by omega, by go_num, by rw [HKs.out]; exact HVm.out, HGr.out⟩
    case measure => simp [RowKit.intOf]; omega
   ·have e0 : (j != (t : Int)) = true := (by simpa using hjt);have HKs : Hid ((L.take (n + 1)).filter (fun j => j != (t : Int)) = K ++ [j]) := lhid (by rw [HFn.out, if_neg hjt]);have HLj := lhid (HLv.out wr HBr.out j);rw [show (dL key (lL h j)).1 = qK h key j from rfl] at HLj;obtain ⟨x, hx⟩ : ∃ x, qK h key j = x := ⟨_, rfl⟩;rw [hx] at HLj;have HX := lhid hx;obtain ⟨x1', x2'⟩ := x;dsimp only at HLj;clear hjt hx;(go_wp2_with fail);refine HLj.out.mono ?_;rintro e w3 ⟨rfl, hb3⟩;have hvm3 := HVm.out.later hb3;obtain ⟨w4, hput, hvm4, htn⟩ := bFx hvm3 (by omega) j HNw.out (by omega) (by omega) (x1', x2');unfold uI at hput;dsimp only at hput
    have HV4 : Hid (qX w4 bm ((L.take (n + 1)).filter fun j => j != (t : Int)) (qK h key)) := lhid (by
     rw [HKs.out];refine hvm4.congr fun i _ => ?_;by_cases e : i = j
     ·rw [if_pos e, e, HX.out]
     ·rw [if_neg e])
    have HG4 : Hid (w2.grownBy w4 (some bm)) := lhid (HGr.out.trans ((kQ hb3).trans htn.grown));clear hvm3 hvm4 htn hb3 HLj;(go_wp2_with fail);go_roundw
    case rel => exact ⟨n + 1, by omega, by go_num, HV4.out, HG4.out⟩
    case measure => simp [RowKit.intOf]; omega
  ·have hne : n = L.length := (by omega);subst hne;rw [List.take_length] at hvm;have HVm := lhid hvm
   have hbm' : w.heap.size ≤ bm := by
    have h1 := HG.out;have h2 := HGm.out;omega
   have HBm := lhid hbm';clear hvm hgr hbm';(go_wp2_with fail);go_ret;exact ⟨bm, rfl, by rw [HK.out]; exact HVm.out, HBm.out, HBr.out⟩
end
section
open Go.RowKit Go.Lib
def dM (w : World) (v : Value) (L : List aR) : Prop := ∃ g c cur, v = .slice (some ⟨g, 0, none⟩) L.length c ∧ (L.length ≤ c ∧ c ≤ maxLen) ∧ w.heap[g]? = some (Obj.cells cur 57 (0, 0)) ∧ ∀ (q : Nat) (u : Value), (aJ L)[q]? = some u → cur[q]? = some u
theorem dM.kept {w w' : World} {v : Value} {L : List aR} (h : dM w v L) (hk : ∀ (g : Nat) (cur : Array Value), w.heap[g]? = some (Obj.cells cur 57 (0, 0)) → w'.heap[g]? = w.heap[g]?) : dM w' v L := by
 obtain ⟨g, c, cur, e, h1, h2, h3⟩ := h;exact ⟨g, c, cur, e, h1, (hk g cur h2).trans h2, h3⟩
theorem dM.later {w w' : World} {v : Value} {L : List aR} (h : dM w v L) (hb : Below w.heap.size w w') : dM w' v L := h.kept fun g _ hg => hb.block g (Array.getElem?_eq_some_iff.1 hg).1
theorem dM.grown {w w' : World} {v r : Value} {L : List aR} {base size n : Nat} {e : TypeId} {xs : List Value} (h : dM w v L) (hr : w.ownsRow base e size r n xs) (hne : e ≠ 57) (hg : w.grownBy w' r.ownBlock) : dM w' v L := h.kept fun g cur hc => by
 refine hg.block g (Array.getElem?_eq_some_iff.1 hc).1 fun eq => ?_;rcases hr.2 with ⟨rfl, -⟩ | ⟨g', cap, cur', rfl, -, hw, -⟩
 ·cases eq
 ·have e1 : g = g' := (by simpa [Value.ownBlock] using eq);subst e1;rw [hc] at hw;injection hw with hw;injection hw with _ hw;exact hne hw.symm
theorem dM.block {w w' : World} {v : Value} {L : List aR} {x : Nat} {t : TypeId} {cs : List Value} (h : dM w v L) (hx : Blk w x t cs) (hne : t ≠ 57) (hg : w.grownBy w' (some x)) : dM w' v L := h.kept fun g cur hc => by
 refine hg.block g (Array.getElem?_eq_some_iff.1 hc).1 fun eq => ?_;injection eq with e1;subst e1;have hs' : w.heap[g]? = some (.cells cs.toArray t (0, 0)) := hx;rw [hc] at hs';injection hs' with hs';injection hs' with _ hs';exact hne hs'.symm
theorem aIk {w : World} {base n : Nat} {v : Value} {L : List aR} (h : w.ownsRow base 57 2 v n (aJ L)) (hn : n = L.length) (h0 : 0 < n) : dM w v L := by
 subst hn;have h3 := h;rcases h.2 with ⟨-, h1⟩ | ⟨g, cap, cur, rfl, -, hw, h1, h2, -⟩
 ·omega
 ·refine ⟨g, cap, cur, rfl, ⟨h1, h2⟩, hw, fun q u hq => ?_⟩;have hl := (List.getElem?_eq_some_iff.1 hq).1;rw [bC] at hl;have h4 := h3.cellAt q hl;rw [hq] at h4;simpa [World.cell?, hw] using h4
theorem dM.vals {w : World} {v : Value} {L : List aR} (h : dM w v L) : oS w v L := by
 obtain ⟨g, c, cur, e, h1, h2, h3⟩ := h;refine ⟨_, c, e, h1, fun j hj => ⟨g, rfl, ?_, ?_⟩⟩
 ·have e1 := h3 (j * 2) _ (by
   rw [aJ, show j * 2 = j * 2 + 0 by omega, kB aZ 2 (fun _ => rfl) aN L j 0 hj (by omega)]
   rfl)
  simpa [World.cell?, h2] using e1
 ·have e1 := h3 (j * 2 + 1) _ (by
   rw [aJ, kB aZ 2 (fun _ => rfl) aN L j 1 hj (by omega)]
   rfl)
  simpa [World.cell?, h2] using e1
theorem dM.at {w : World} {v : Value} {L : List aR} (h : dM w v L) : ∃ g c, v = .slice (some ⟨g, 0, none⟩) L.length c ∧ (L.length ≤ c ∧ c ≤ maxLen) ∧ ∀ j, j < L.length → w.cell? ⟨g, j * 2, none⟩ = some (.int .i64 (L.getD j aN).1) ∧ w.cell? ⟨g, j * 2 + 1, none⟩ = some (.int .i64 (L.getD j aN).2) := by
 obtain ⟨p, c, e, hc, hh⟩ := h.vals;obtain ⟨g, c', cur, e', -⟩ := h;rw [e'] at e;injection e with e1 _ e3;subst e3;refine ⟨g, c', e', hc, fun j hj => ?_⟩;obtain ⟨g', eg, h1, h2⟩ := hh j hj;rw [← e1] at eg;injection eg with eg;injection eg with eg;subst eg;exact ⟨h1, h2⟩
def lA (w : World) (vs : List Value) (LL : List (List aR)) : Prop := vs.length = LL.length ∧ ∀ i, i < LL.length → dM w (vs.getD i (.slice none 0 0)) (LL.getD i [])
theorem lA.kept {w w' : World} {vs : List Value} {LL : List (List aR)} (h : lA w vs LL) (hk : ∀ (g : Nat) (cur : Array Value), w.heap[g]? = some (Obj.cells cur 57 (0, 0)) → w'.heap[g]? = w.heap[g]?) : lA w' vs LL := ⟨h.1, fun i hi => (h.2 i hi).kept hk⟩
theorem lA.later {w w' : World} {vs : List Value} {LL : List (List aR)} (h : lA w vs LL) (hb : Below w.heap.size w w') : lA w' vs LL := ⟨h.1, fun i hi => (h.2 i hi).later hb⟩
theorem lA.grown {w w' : World} {r : Value} {vs : List Value} {LL : List (List aR)} {base size n : Nat} {e : TypeId} {xs : List Value} (h : lA w vs LL) (hr : w.ownsRow base e size r n xs) (hne : e ≠ 57) (hg : w.grownBy w' r.ownBlock) : lA w' vs LL := ⟨h.1, fun i hi => (h.2 i hi).grown hr hne hg⟩
theorem lA.nil (w : World) : lA w [] [] := ⟨rfl, fun i hi => absurd hi (Nat.not_lt_zero i)⟩
theorem lA.snoc {w : World} {vs : List Value} {LL : List (List aR)} {v : Value} {l : List aR} (h : lA w vs LL) (k : dM w v l) : lA w (vs ++ [v]) (LL ++ [l]) := by
 refine ⟨by rw [List.length_append, List.length_append, h.1]; rfl, fun i hi => ?_⟩;by_cases e : i < LL.length
 ·rw [show (vs ++ [v]).getD i (.slice none 0 0) = vs.getD i (.slice none 0 0) by simp [List.getD, List.getElem?_append_left (by rw [h.1]; exact e : i < vs.length)], show (LL ++ [l]).getD i [] = LL.getD i [] by simp [List.getD, List.getElem?_append_left e]];exact h.2 i e
 ·have e2 : i = LL.length := by
   rw [List.length_append] at hi;simp at hi;omega
  subst e2;rw [show (vs ++ [v]).getD LL.length (.slice none 0 0) = v by simp [List.getD, ← h.1], show (LL ++ [l]).getD LL.length [] = l by simp [List.getD]];exact k
def kH (w : World) (v : Value) (LL : List (List aR)) : Prop := ∃ p c, v = .slice p LL.length c ∧ (LL.length ≤ c ∧ c ≤ maxLen) ∧ (LL ≠ [] → ∃ (g : Nat) (cur : Array Value), p = some ⟨g, 0, none⟩ ∧ w.heap[g]? = some (Obj.cells cur 27 (0, 0)) ∧ ∀ j, j < LL.length → ∃ u, cur[j]? = some u ∧ dM w u (LL.getD j []))
theorem kH.kept {w w' : World} {v : Value} {LL : List (List aR)} (h : kH w v LL) (hk : ∀ (g : Nat) (cur : Array Value) (t : TypeId), t = 27 ∨ t = 57 → w.heap[g]? = some (Obj.cells cur t (0, 0)) → w'.heap[g]? = w.heap[g]?) : kH w' v LL := by
 obtain ⟨p, c, e, hc, hh⟩ := h;refine ⟨p, c, e, hc, fun hl => ?_⟩;obtain ⟨g, cur, e1, e2, e3⟩ := hh hl;refine ⟨g, cur, e1, (hk g cur _ (.inl rfl) e2).trans e2, fun j hj => ?_⟩;obtain ⟨u, h1, h2⟩ := e3 j hj;exact ⟨u, h1, h2.kept fun g cur hg => hk g cur _ (.inr rfl) hg⟩
theorem kH.below {w w' : World} {v : Value} {LL : List (List aR)} (h : kH w v LL) (hb : Below w.heap.size w w') : kH w' v LL := h.kept fun g _ _ _ hg => hb.block g (Array.getElem?_eq_some_iff.1 hg).1
theorem kH.block {w w' : World} {v : Value} {LL : List (List aR)} {x : Nat} {t : TypeId} {cs : List Value} (h : kH w v LL) (hx : Blk w x t cs) (h1 : t ≠ 57) (h2 : t ≠ 27) (hg : w.grownBy w' (some x)) : kH w' v LL := h.kept fun g cur e he hc => by
 refine hg.block g (Array.getElem?_eq_some_iff.1 hc).1 fun eq => ?_;injection eq with e1;subst e1;have hs' : w.heap[g]? = some (.cells cs.toArray t (0, 0)) := hx;rw [hc] at hs';injection hs' with hs';injection hs' with _ hs';rcases he with he | he
 ·exact h2 (hs'.symm.trans he)
 ·exact h1 (hs'.symm.trans he)
theorem kH.get {w : World} {v : Value} {LL : List (List aR)} (h : kH w v LL) (j : Nat) (hj : j < LL.length) : ∃ g c u, v = .slice (some ⟨g, 0, none⟩) LL.length c ∧ w.cell? ⟨g, j, none⟩ = some u ∧ dM w u (LL.getD j []) := by
 obtain ⟨p, c, e, hc, hh⟩ := h;obtain ⟨g, cur, rfl, e2, e3⟩ := hh (fun q => by rw [q] at hj; cases hj);obtain ⟨u, h1, h2⟩ := e3 j hj;exact ⟨g, c, u, e, by simp [World.cell?, e2, h1], h2⟩
theorem kH.form {w : World} {v : Value} {LL : List (List aR)} (h : kH w v LL) : ∃ p c, v = .slice p LL.length c ∧ ∀ j, j < LL.length → ∃ g, p = some ⟨g, 0, none⟩ := by
 obtain ⟨p, c, e, hc, hh⟩ := h;refine ⟨p, c, e, fun j hj => ?_⟩;obtain ⟨g, cur, rfl, e2, e3⟩ := hh (fun q => by rw [q] at hj; cases hj);exact ⟨g, rfl⟩
theorem aZj {w : World} {base n : Nat} {v : Value} {vs : List Value} {LL : List (List aR)} (h : w.ownsRow base 27 1 v n vs) (hn : n = LL.length) (hl : lA w vs LL) : kH w v LL := by
 subst hn;have h3 := h;rcases h.2 with ⟨rfl, h1⟩ | ⟨g, cap, cur, rfl, -, hw, h1, h2, -⟩
 ·exact ⟨none, 0, by rw [h1], ⟨by omega, Nat.zero_le _⟩, fun q => absurd (List.eq_nil_of_length_eq_zero h1) q⟩
 ·refine ⟨_, cap, rfl, ⟨h1, h2⟩, fun _ => ⟨g, cur, rfl, hw, fun j hj => ⟨vs.getD j (.slice none 0 0), ?_, hl.2 j hj⟩⟩⟩;have hjv : j < vs.length := (by rw [hl.1]; exact hj);have h4 := h3.cellAt j (by omega);rw [show vs.getD j (.slice none 0 0) = vs[j] by simp [hjv]];rw [List.getElem?_eq_getElem hjv] at h4;simpa [World.cell?, hw] using h4
theorem dM.below {w w' : World} {v : Value} {L : List aR} (h : dM w v L) (hb : Below w.heap.size w w') : dM w' v L := h.later hb
theorem lA.below {w w' : World} {vs : List Value} {LL : List (List aR)} (h : lA w vs LL) (hb : Below w.heap.size w w') : lA w' vs LL := h.later hb
theorem aXc {w a b : World} {row r : Option Nat} (h : w.grownBy a row) (hg : a.grownBy b r) (hr : ∀ q, r = some q → w.heap.size ≤ q) : w.grownBy b row :=
 ⟨hg.os.trans h.os, hg.tape.trans h.tape, hg.output.trans h.output, Nat.le_trans h.size hg.size, fun k hk hne => (hg.block k (Nat.lt_of_lt_of_le hk h.size) (fun e => by have := hr k e.symm; omega)).trans (h.block k hk hne)⟩
end
section
theorem nQ {α : Type} (L : List α) (d : α) (k : Nat) (hk : k < L.length) : L.drop k = L.getD k d :: L.drop (k + 1) := by
 rw [show L.getD k d = L[k] by simp [hk]];exact List.drop_eq_getElem_cons hk
theorem vD {α : Type} (L : List α) (d : α) (k : Nat) (hk : k < L.length) : L.take (k + 1) = L.take k ++ [L.getD k d] := by
 rw [List.take_add_one];simp [hk]
theorem aIu {α : Type} (A X : List α) (y z : α) : (A ++ y :: X).set A.length z = A ++ z :: X := by
 rw [List.set_append];simp
def stL (ts : List (List aR)) (vs : List aR) (k : Nat) : List aR := vs.take k ++ (upV aN (ts.drop k) (vs.drop k)).1
def upB (ts : List (List aR)) (vs : List aR) (k : Nat) : Bool := (upV aN (ts.drop k) (vs.drop k)).2
theorem aVw (t : List aR) (ts : List (List aR)) (v : aR) (vs : List aR) : upV aN (t :: ts) (v :: vs) = if (upV aN ts vs).2 then (v :: (upV aN ts vs).1, true) else if atW t v + 1 < t.length then (t.getD (atW t v + 1) aN :: (upV aN ts vs).1, true) else (t.getD 0 aN :: (upV aN ts vs).1, false) := rfl
theorem aPs {ts : List (List aR)} {vs : List aR} (hl : vs.length = ts.length) {k : Nat} (hk : k < ts.length) (hb : upB ts vs (k + 1) = false) (hin : vs.getD k aN ∈ ts.getD k []) :
  stL ts vs k = (stL ts vs (k + 1)).set k ((ts.getD k []).getD ((atW (ts.getD k []) (vs.getD k aN) + 1) % (ts.getD k []).length) aN) ∧ upB ts vs k = decide (0 < (atW (ts.getD k []) (vs.getD k aN) + 1) % (ts.getD k []).length) := by
 have hkv : k < vs.length := (by omega);have h1 := zN.2 hin;unfold stL upB at *;rw [nQ ts [] k hk, nQ vs aN k hkv, aVw, hb, vD vs aN k hkv];obtain ⟨X, hX⟩ : ∃ X, (upV aN (ts.drop (k + 1)) (vs.drop (k + 1))).1 = X := ⟨_, rfl⟩;rw [hX];have hA : (vs.take k).length = k := by rw [List.length_take]; omega
 have hs : ∀ z, (vs.take k ++ [vs.getD k aN] ++ X).set k z = vs.take k ++ z :: X := fun z => by
  have := aIu (vs.take k) X (vs.getD k aN) z;rw [hA] at this;rw [List.append_assoc];exact this
 rw [if_neg (by simp), hs];by_cases h2 : atW (ts.getD k []) (vs.getD k aN) + 1 < (ts.getD k []).length
 ·rw [if_pos h2, Nat.mod_eq_of_lt h2];exact ⟨rfl, by simp⟩
 ·rw [if_neg h2, show atW (ts.getD k []) (vs.getD k aN) + 1 = (ts.getD k []).length by omega, Nat.mod_self];exact ⟨rfl, by simp⟩
theorem aPq {ts : List (List aR)} {vs : List aR} (hl : vs.length = ts.length) : ∀ {k : Nat}, k ≤ ts.length → upB ts vs k = true → upV aN ts vs = (stL ts vs k, true)
 | 0, _, h => by
  unfold stL upB at *;rw [List.drop_zero, List.drop_zero] at *;rw [List.take_zero, List.nil_append];exact Prod.ext rfl h
 | k + 1, hk, h => by
  have hkv : k < vs.length := (by omega);have hkt : k < ts.length := by omega
  have h0 : upB ts vs k = true ∧ stL ts vs k = stL ts vs (k + 1) := by
   unfold stL upB at *;rw [nQ ts [] k hkt, nQ vs aN k hkv, aVw, h, vD vs aN k hkv];exact ⟨rfl, by simp⟩
  rw [← h0.2];exact aPq hl (by omega) h0.1
theorem vE {ts : List (List aR)} {vs : List aR} (hl : vs.length = ts.length) : stL ts vs ts.length = vs ∧ upB ts vs ts.length = false := by
 unfold stL upB;rw [List.drop_length, ← hl, List.drop_length, List.take_length];exact ⟨List.append_nil _, rfl⟩
def stF (c : List Bool) (k : Nat) : List Bool := c.take k ++ (upF (c.drop k)).1
def fB (c : List Bool) (k : Nat) : Bool := (upF (c.drop k)).2
theorem aPn (c : Bool) (cs : List Bool) : upF (c :: cs) = if (upF cs).2 then (c :: (upF cs).1, true) else if c then (false :: (upF cs).1, false) else (true :: (upF cs).1, true) := rfl
theorem bFt {c : List Bool} {k : Nat} (hk : k < c.length) (hb : fB c (k + 1) = false) :
  stF c k = (stF c (k + 1)).set k (!c.getD k false) ∧ fB c k = (!c.getD k false) ∧ (stF c (k + 1)).getD k false = c.getD k false := by
 unfold stF fB at *;rw [nQ c false k hk, aPn, hb, vD c false k hk];obtain ⟨X, hX⟩ : ∃ X, (upF (c.drop (k + 1))).1 = X := ⟨_, rfl⟩;rw [hX];have hA : (c.take k).length = k := by rw [List.length_take]; omega
 have hs : ∀ z, (c.take k ++ [c.getD k false] ++ X).set k z = c.take k ++ z :: X := fun z => by
  have := aIu (c.take k) X (c.getD k false) z;rw [hA] at this;rw [List.append_assoc];exact this
 have hg : (c.take k ++ [c.getD k false] ++ X).getD k false = c.getD k false := by
  rw [List.append_assoc, List.getD_eq_getElem?_getD, List.getElem?_append_right (by omega), hA];simp
 rw [if_neg (by simp), hs];refine ⟨?_, ?_, hg⟩
 ·cases c.getD k false <;> rfl
 ·cases c.getD k false <;> rfl
theorem aPo {c : List Bool} : ∀ {k : Nat}, k ≤ c.length → fB c k = true → upF c = (stF c k, true)
 | 0, _, h => by
  unfold stF fB at *;rw [List.drop_zero] at *;rw [List.take_zero, List.nil_append];exact Prod.ext rfl h
 | k + 1, hk, h => by
  have hkt : k < c.length := by omega
  have h0 : fB c k = true ∧ stF c k = stF c (k + 1) := by
   unfold stF fB at *;rw [nQ c false k hkt, aPn, h, vD c false k hkt];exact ⟨rfl, by simp⟩
  rw [← h0.2];exact aPo (by omega) h0.1
theorem zH (c : List Bool) : stF c c.length = c ∧ fB c c.length = false := by
 unfold stF fB;rw [List.drop_length, List.take_length];exact ⟨List.append_nil _, rfl⟩
theorem aJx : ∀ {ts : List (List aR)} {vs : List aR}, vs.length = ts.length → (InV ts vs ↔ ∀ i, i < ts.length → vs.getD i aN ∈ ts.getD i [])
 | [], [], _ => ⟨fun _ i hi => absurd hi (Nat.not_lt_zero i), fun _ => trivial⟩
 | [], _ :: _, h => by cases h
 | _ :: _, [], h => by cases h
 | t :: ts, v :: vs, h => by
  have ih := aJx (ts := ts) (vs := vs) (by simpa using h);constructor
  ·rintro ⟨h1, h2⟩ i hi
   cases i with
   | zero => exact h1
   | succ i => exact ih.1 h2 i (by simpa using hi)
  ·intro h1;exact ⟨h1 0 (by simp), ih.2 fun i hi => h1 (i + 1) (by simpa using hi)⟩
theorem aVd {h : aI} {w : bK} (hn : ¬ nX h w) : mB h w = (([], []), false) := by
 unfold mB;rw [if_neg hn]
theorem bDs {h : aI} {w : bK} (hn : nX h w) : mB h w = goE aN (bD h) w.1 w.2 := by
 unfold mB;rw [if_pos hn]
end
section
open Go.RowKit Go.Lib
section
variable {w : World} {B : Nat} {t : TypeId} {cs : List Value} (hB : aBk w B t cs) (i : Nat) (u : Value)
include hB
theorem bRz {α : Type} {size : Nat} {R : World → List Value → α → Prop} (hs : 0 < size) (hR : ∀ cs m, R w cs m → R (w.setCell ⟨B, i, none⟩ u) cs m) (hf : ∀ cs m, R w cs m → ∀ x, cs[0]? = some x → ∀ p n c, x ≠ .slice p n c) {v : Value} {L : List α} (h : SlR size R w v L) : SlR size R (w.setCell ⟨B, i, none⟩ u) v L := by
 obtain ⟨p, cap, hv, hl, hm, hc⟩ := h;refine ⟨p, cap, hv, hl, hm, fun j hj => ?_⟩;obtain ⟨a, ds, hp, hs', h1, h2⟩ := hc j hj;obtain ⟨x, hx⟩ : ∃ x, ds[0]? = some x := ⟨ds[0]'(by omega), by simp⟩;have hc0 := h1 0 x hx;have hne : (a.add (j * size + 0)).block ≠ B := hB.ne hc0 (hf _ _ h2 x hx)
 have hne' : a.block ≠ B := by
  intro e;apply hne;unfold Addr.add;split <;> exact e
 refine ⟨a, ds, hp, hs', fun q y hy => jB (h1 q y hy) ?_, hR _ _ h2⟩;unfold Addr.add;split <;> exact hne'
theorem bRy {v : Value} {L : List (List UInt8)} (h : zM w v L) : zM (w.setCell ⟨B, i, none⟩ u) v L :=
 bRz hB i u (by omega) (fun _ _ h => h) (fun cs m h x hx p n c => by obtain ⟨rfl, -⟩ := h; simp at hx; subst hx; simp) h
theorem bSm {v : Value} {L : List OpM} (h : aLm w v L) : aLm (w.setCell ⟨B, i, none⟩ u) v L :=
 bRz hB i u (by omega) (fun _ _ h => h) (fun cs m h x hx p n c => by unfold OpR at h; subst h; simp [nO] at hx; subst hx; simp) h
theorem bSl {v : Value} {L : List bB} (h : aBl w v L) : aBl (w.setCell ⟨B, i, none⟩ u) v L :=
 bRz hB i u (by omega) (fun _ _ ⟨sv, e, h⟩ => ⟨sv, e, bSm hB i u h⟩) (fun cs m h x hx p n c => by obtain ⟨sv, rfl, -⟩ := h; simp at hx; subst hx; simp) h
theorem bTx {v : Value} {h : aI} (hv : aBj w v h) : aBj (w.setCell ⟨B, i, none⟩ u) v h := by
 obtain ⟨v0, v1, v2, e, h0, h1, h2⟩ := hv;exact ⟨v0, v1, v2, e, bRy hB i u h0, bRy hB i u h1, bSl hB i u h2⟩
end
theorem bUn (h : aI) : cU (bHg h) := by
 refine ⟨Nat.le_trans (bSj _ _) (by omega), Nat.le_trans (bSj _ _) (by omega), ?_, ?_, ?_, ?_⟩
 ·simp [bHg]; omega
 ·intro x hx; have := aQt _ _ x hx; omega
 ·intro x hx; have := aQt _ _ x hx; omega
 ·intro t ht;obtain ⟨t', -, rfl⟩ := List.mem_map.1 ht;simp [tH]; omega
theorem bUy {w w1 : World} {W0 : World} {x0 x1 x2 : Value} {h : aI} {p0 p1 p2 : Option Addr} {n0 n1 n2 c0 c1 c2 : Nat} (hb0 : Below w.heap.size w W0) (hB : Blk W0 w.heap.size 25 [x0, x1, x2]) (hx : ∀ x ∈ [x0, x1, x2], ∃ p n c, x = Value.slice p n c) (hb : Below W0.heap.size W0 w1)
  (hv : cJ w1 (.agg #[.slice p0 n0 c0, .slice p1 n1 c1, .slice p2 n2 c2]) h) (ha : aBj w1 (.agg #[.slice p0 n0 c0, .slice p1 n1 c1, .slice p2 n2 c2]) h) :
  Blk (((w1.setCell ⟨w.heap.size, 0, none⟩ (.slice p0 n0 c0)).setCell ⟨w.heap.size, 1, none⟩ (.slice p1 n1 c1)).setCell ⟨w.heap.size, 2, none⟩ (.slice p2 n2 c2)) w.heap.size 25 [.slice p0 n0 c0, .slice p1 n1 c1, .slice p2 n2 c2] ∧
  cJ (((w1.setCell ⟨w.heap.size, 0, none⟩ (.slice p0 n0 c0)).setCell ⟨w.heap.size, 1, none⟩ (.slice p1 n1 c1)).setCell ⟨w.heap.size, 2, none⟩ (.slice p2 n2 c2)) (.agg #[.slice p0 n0 c0, .slice p1 n1 c1, .slice p2 n2 c2]) h ∧
  aBj (((w1.setCell ⟨w.heap.size, 0, none⟩ (.slice p0 n0 c0)).setCell ⟨w.heap.size, 1, none⟩ (.slice p1 n1 c1)).setCell ⟨w.heap.size, 2, none⟩ (.slice p2 n2 c2)) (.agg #[.slice p0 n0 c0, .slice p1 n1 c1, .slice p2 n2 c2]) h ∧
  Below w.heap.size w (((w1.setCell ⟨w.heap.size, 0, none⟩ (.slice p0 n0 c0)).setCell ⟨w.heap.size, 1, none⟩ (.slice p1 n1 c1)).setCell ⟨w.heap.size, 2, none⟩ (.slice p2 n2 c2)) := by
 have s0 : aBk w1 w.heap.size 25 [x0, x1, x2] := ⟨hB.later hb, hx⟩;have s1 := s0.set 0 p0 n0 c0;have s2 := s1.set 1 p1 n1 c1;have s3 := s2.set 2 p2 n2 c2;refine ⟨s3.1, bTv s2 2 _ (bTv s1 1 _ (bTv s0 0 _ hv)), bTx s2 2 _ (bTx s1 1 _ (bTx s0 0 _ ha)), ?_⟩;exact (((aB hb0 hb).setCell (by show w.heap.size ≤ w.heap.size; omega) _).setCell (by show w.heap.size ≤ w.heap.size; omega) _).setCell (by show w.heap.size ≤ w.heap.size; omega) _
end
section
open Go.ChangeShapes Go.WideShapes Go.ChangeAt Go.RowKit Go.Joins
theorem bTu {h : aI} (hn : bTt h) : bTt (bHg h) := by
 intro t ht o ho;obtain ⟨u, hu, rfl⟩ := List.mem_map.1 (show t ∈ (h.2.2.take 45).map tH from ht);exact hn u (List.mem_of_mem_take hu) o (List.mem_of_mem_take (show o ∈ u.2.2.take 25 from ho))
def bVs (w : World) (cs : List Value) (o : OpM) : Prop := OpR w cs o ∧ -9223372036854775808 ≤ o.2.2.2 ∧ o.2.2.2 ≤ 9223372036854775807
def bVp (w : World) (cs : List Value) (t : bB) : Prop := bKj w cs t ∧ ∀ o ∈ t.2.2, -9223372036854775808 ≤ o.2.2.2 ∧ o.2.2.2 ≤ 9223372036854775807
theorem bVc {α : Type} {size : Nat} {R : World → List Value → α → Prop} {w : World} {v : Value} {L : List α} (h : SlR size R w v L) : ∀ x ∈ L, ∃ cs, R w cs x := by
 obtain ⟨p, cap, -, -, -, hc⟩ := h;intro x hx;obtain ⟨j, hj, rfl⟩ := List.getElem_of_mem hx;obtain ⟨a, cs, -, -, -, h2⟩ := hc j hj;exact ⟨cs, h2⟩
section
variable {H : Type} {enc : TypeId × Value → H} {w : World} {base : Nat} {spare : Nat → Bool} {held : Bool}
theorem bVn {n : Nat} {cs : List Value} {y : DataW H × List MemPlace} (h : DataW.trod enc Tryz.prog w base spare held n 82 cs = some y) : ∃ o, bVs w cs o := by
 have hl := qV Tryz.underlying82 h;obtain ⟨n0, y0, h0⟩ := jD 0 0 4 1 Tryz.underlying82 h rfl rfl rfl (by kernel_rfl);obtain ⟨n1, y1, h1⟩ := jD 1 1 3 1 Tryz.underlying82 h rfl rfl rfl (by kernel_rfl);obtain ⟨n2, y2, h2⟩ := jD 2 2 57 2 Tryz.underlying82 h rfl rfl rfl (by kernel_rfl);obtain ⟨m0, z0, g0⟩ := jD 0 0 3 1 Tryz.underlying57 h2 rfl rfl rfl (by kernel_rfl);obtain ⟨m1, z1, g1⟩ := jD 1 1 2 1 Tryz.underlying57 h2 rfl rfl rfl (by kernel_rfl);obtain ⟨b, hb, -⟩ := DataW.trod_bool Tryz.underlying4 h0;obtain ⟨k, hk, -, -⟩ := DataW.trod_int Tryz.underlying3 h1;obtain ⟨vk, hvk, -, -⟩ := DataW.trod_int Tryz.underlying3 g0;obtain ⟨vn, hvn, -, wn⟩ := DataW.trod_int Tryz.underlying2 g1;have hr := bBc wn;rw [show Tryz.prog.cellsOf 82 = 4 by kernel_rfl] at hl
 match cs, hl with
 | [c0, c1, c2, c3], _ =>
  simp at hb hk hvk hvn;exact ⟨(b, k, vk, vn), by simp [OpR, nO, hb, hk, hvk, hvn], hr.1, hr.2⟩
theorem bVj {n : Nat} {cs : List Value} {y : DataW H × List MemPlace} (h : DataW.trod enc Tryz.prog w base spare held n 67 cs = some y) : ∃ t, bVp w cs t := by
 have hl := qV Tryz.underlying67 h;obtain ⟨n0, y0, h0⟩ := jD 0 0 3 1 Tryz.underlying67 h rfl rfl rfl (by kernel_rfl);obtain ⟨n1, y1, h1⟩ := jD 1 1 3 1 Tryz.underlying67 h rfl rfl rfl (by kernel_rfl);obtain ⟨n2, y2, h2⟩ := jD 2 2 65 1 Tryz.underlying67 h rfl rfl rfl (by kernel_rfl);obtain ⟨s, hs, -, -⟩ := DataW.trod_int Tryz.underlying3 h0;obtain ⟨f, hf', -, -⟩ := DataW.trod_int Tryz.underlying3 h1;obtain ⟨v, L, hv, hL⟩ : ∃ v L, _ = [v] ∧ SlR 4 bVs w v L := tY Tryz.underlying65 (by kernel_rfl) (fun _ _ _ h => bVn h) h2;rw [show Tryz.prog.cellsOf 67 = 3 by kernel_rfl] at hl
 match cs, hl with
 | [c0, c1, c2], _ =>
  simp at hs hf' hv;refine ⟨(s, f, L), ⟨v, by rw [hs, hf', hv], SlR.mono hL (fun _ _ _ h => h.1)⟩, fun o ho => ?_⟩;obtain ⟨cs, h⟩ := bVc hL o ho;exact h.2
set_option maxRecDepth 100000 in
theorem open_histN {r : Reach} {b0 : Nat} {v : Value} {d : DataW H} {ps : List MemPlace} (hval : Value.okWide Tryz.prog w r b0 25 v) (hd : DataW.Trod enc Tryz.prog w base spare held 25 v d ps) : ∃ h, aBj w v h ∧ bTt h := by
 obtain ⟨c0, c1, c2, y0, y1, y2, m, rfl, -, -, h0, h1, h2⟩ := open_agg3 Tryz.underlying25 (by kernel_rfl) (show Tryz.prog.cellsOf 25 = 3 by kernel_rfl) hval hd;obtain ⟨v0, L0, e0, a0⟩ := aEd h0;obtain ⟨v1, L1, e1, a1⟩ := aEd h1;obtain ⟨v2, L2, e2, a2⟩ : ∃ v L, _ = [v] ∧ SlR 3 bVp w v L := tY Tryz.underlying23 (by kernel_rfl) (fun _ _ _ h => bVj h) h2;simp at e0 e1 e2;subst e0 e1 e2;refine ⟨(L0, L1, L2), ⟨c0, c1, c2, rfl, a0, a1, SlR.mono a2 (fun _ _ _ h => h.1)⟩, fun t ht => ?_⟩;obtain ⟨cs, h⟩ := bVc a2 t ht;exact h.2
end
end
section
open Go.RowKit Go.Lib
theorem bTq {h : aI} (hn : bTt h) : ∀ o ∈ bU (bHg h), -9223372036854775808 ≤ o.2.2.2 ∧ o.2.2.2 ≤ 9223372036854775807 := fun o ho => by
 obtain ⟨t, ht, ho⟩ := List.mem_flatMap.1 ho;exact bTu hn t ht o ho
end
end Go.Proofs.YtdfegfagedeilaaGreatDoor
