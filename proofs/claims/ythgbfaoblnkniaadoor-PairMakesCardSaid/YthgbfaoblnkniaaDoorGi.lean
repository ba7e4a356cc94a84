/-
  Layer 8 (log) in plain words: what a text is read as, a log's text, how many events are of a kind; that reading undoes printing; no program in sight. No conditions.
  Layer 10 (pair) in plain words: how many transactions and operations a history has. No conditions.
  Layer 10 (pair): the chapter's example. Conditions: unicode/utf8's two tables hold what their initialisers lay.
  Events as an argument: what its reading says of its cells; rows of a call's own as such. No conditions.
  The walks of layer 8 (log): whether all events may be, in the program's way. Conditions: unicode/utf8's two tables hold what their initialisers lay; names of at most 1,000,000 bytes.
  The statements' own cut of events (not too many, names not too long), walked; events as an argument. No conditions.
  Layer 10 (pair): the statement PairCounts. Conditions: unicode/utf8's two tables hold what their initialisers lay.
-/
import Derived.Test.YthgbfaoblnkniaaDoorGa
import Derived.Test.YthgbfaoblnkniaaDoorGb
import Derived.Test.YthgbfaoblnkniaaDoorGxPaX
import Derived.Test.YthgbfaoblnkniaaDoorGf
import Derived.Test.YthgbfaoblnkniaaDoorGxEvM
import Derived.Test.YthgbfaoblnkniaaDoorGc
import Derived.Laws.OwnMore
namespace Go.Proofs.YthgbfaoblnkniaaDoor
open Go.RowKit Go.Lib
def countL (L : List EventM) (k : Int) : Nat := (L.filter fun x => x.1 == k).length
def cutE (x : EventM) : EventM := (x.1, x.2.1.take 200, x.2.2.1.take 200, x.2.2.2.1, x.2.2.2.2.1, x.2.2.2.2.2)
def fewE (L : List EventM) : List EventM := (L.take 200).map cutE
theorem cutE_cut (x : EventM) : cutE (cutE x) = cutE x := by simp [cutE, List.take_take]
theorem fewE_few (L : List EventM) : fewE (fewE L) = fewE L := by
 unfold fewE
 rw [List.take_of_length_le (l := (L.take 200).map cutE) (by simp; omega), List.map_map]
 exact List.map_congr_left fun x _ => cutE_cut x
def NumE (x : EventM) : Prop := -9223372036854775808 ≤ x.2.2.2.2.1 ∧ x.2.2.2.2.1 ≤ 9223372036854775807
end Go.Proofs.YthgbfaoblnkniaaDoor

namespace Go.Proofs.YthgbfaoblnkniaaDoor
open Go.RowKit Go.Lib
def opsN (L : List DraftM) : Nat := (L.map fun d => d.ops.length).sum
theorem opsN_snoc (L : List DraftM) (d : DraftM) : opsN (L ++ [d]) = opsN L + d.ops.length := by simp [opsN]
theorem opsN_set : ∀ (L : List DraftM) (i : Nat) (d : DraftM), i < L.length → opsN (L.set i d) + (L.getD i noD).ops.length = opsN L + d.ops.length
 | [], _, _, h => absurd h (Nat.not_lt_zero _)
 | x :: L, 0, d, _ => by simp [opsN]; omega
 | x :: L, i + 1, d, h => by
  have := opsN_set L i d (by simpa using h)
  simp [opsN] at this ⊢
  omega
theorem countL_cons (x : EventM) (l : List EventM) (k : Int) : countL (x :: l) k = (if x.1 = k then 1 else 0) + countL l k := by
 unfold countL
 by_cases h : x.1 = k
 ·rw [if_pos h, List.filter_cons_of_pos (by simpa using h), List.length_cons]; omega
 ·rw [if_neg h, List.filter_cons_of_neg (by simpa using h)]; omega
theorem put_counts (L : List DraftM) (x : EventM) (h : (putP L x).2 = 0) : (putP L x).1.length = L.length + (if x.1 = 1 then 1 else 0) ∧ opsN (putP L x).1 = opsN L + (if x.1 = 2 then 1 else 0) + (if x.1 = 3 then 1 else 0) := by
 unfold putP at h ⊢
 by_cases hm : mayE x = false
 ·rw [if_pos hm] at h; exact absurd h (by simp)
 ·rw [if_neg hm] at h ⊢
  have hm' : mayE x = true := by simpa using hm
  obtain ⟨h1, h2, h3, h4⟩ := mayE_nm x hm'
  by_cases hk : x.1 = 1
  ·rw [if_pos hk] at h ⊢
   rw [if_pos hk, if_neg (show ¬ x.1 = 2 by omega), if_neg (show ¬ x.1 = 3 by omega)]
   by_cases ha : atD L x.2.1 < L.length
   ·rw [if_pos ha] at h; exact absurd h (by simp)
   ·rw [if_neg ha] at h ⊢
    by_cases hf : 20 < (sortedN (namesD L ++ [x.2.1])).length ∨ L.length = 40
    ·rw [if_pos hf] at h; exact absurd h (by simp)
    ·rw [if_neg hf]
     exact ⟨by simp, by rw [opsN_snoc]; rfl⟩
  ·rw [if_neg hk] at h ⊢
   rw [if_neg hk]
   by_cases ha : atD L x.2.1 < L.length
   ·rw [if_neg (by simpa using ha)] at h ⊢
    by_cases hf : 4 ≤ x.1
    ·rw [if_pos hf]
     have := opsN_set L (atD L x.2.1) (endD (L.getD (atD L x.2.1) noD) (x.1 - 3)) ha
     rw [if_neg (show ¬ x.1 = 2 by omega), if_neg (show ¬ x.1 = 3 by omega)]
     refine ⟨by simp, ?_⟩
     have e : (endD (L.getD (atD L x.2.1) noD) (x.1 - 3)).ops = (L.getD (atD L x.2.1) noD).ops := rfl
     rw [e] at this
     simp only
     omega
    ·rw [if_neg hf] at h ⊢
     by_cases hc : (L.getD (atD L x.2.1) noD).ops.length = 20 ∨ 40 < (sortedN (keysD L ++ [x.2.2.1])).length
     ·rw [if_pos hc] at h; exact absurd h (by simp)
     ·rw [if_neg hc]
      have := opsN_set L (atD L x.2.1) (moreD (L.getD (atD L x.2.1) noD) x) ha
      have e : (moreD (L.getD (atD L x.2.1) noD) x).ops.length = (L.getD (atD L x.2.1) noD).ops.length + 1 := by simp [moreD]
      rw [e] at this
      refine ⟨by simp, ?_⟩
      simp only
      by_cases h5 : x.1 = 2
      ·rw [if_pos h5, if_neg (show ¬ x.1 = 3 by omega)]; omega
      ·rw [if_neg h5, if_pos (show x.1 = 3 by omega)]; omega
   ·rw [if_pos (by simpa using ha)] at h; exact absurd h (by simp)
theorem made_counts : ∀ (l : List EventM) (L : List DraftM), (madeP l L).2.2 = 0 → (madeP l L).1.length = L.length + countL l 1 ∧ opsN (madeP l L).1 = opsN L + countL l 2 + countL l 3
 | [], _, _ => ⟨rfl, rfl⟩
 | x :: l, L, h => by
  unfold madeP at h ⊢
  by_cases e : (putP L x).2 = 0
  ·rw [if_pos e] at h ⊢
   obtain ⟨a1, a2⟩ := put_counts L x e
   obtain ⟨b1, b2⟩ := made_counts l _ h
   rw [countL_cons, countL_cons, countL_cons]
   omega
  ·rw [if_neg e] at h; exact absurd h e
theorem hist_bad (l : List EventM) (h : (histP l).2.2 ≠ 0) : (histP l).1 = noH := by
 unfold histP at h ⊢
 by_cases e : (madeP l []).2.2 ≠ 0
 ·rw [if_pos e]
 ·rw [if_neg e] at h ⊢
  split
  ·rfl
  ·rename_i h1
   rw [h1] at h
   exact absurd rfl h
theorem hist_counts (l : List EventM) (h : (histP l).2.2 = 0) : (histP l).1.2.2.length = countL l 1 ∧ ((histP l).1.2.2.map fun t => t.2.2.length).sum = countL l 2 + countL l 3 ∧ openP l = [] := by
 unfold histP at h ⊢
 unfold openP
 by_cases e : (madeP l []).2.2 ≠ 0
 ·rw [if_pos e] at h; exact absurd h e
 ·rw [if_neg e] at h ⊢
  rw [if_neg e]
  have e0 : (madeP l []).2.2 = 0 := by simpa using e
  obtain ⟨c1, c2⟩ := made_counts l [] e0
  have hG := made_good l [] good_nil
  cases hf : (madeP l []).1.find? (·.op) with
  | some d => rw [hf] at h; exact absurd h (by simp)
  | none =>
   simp only [List.length_map]
   refine ⟨by simpa using c1, ?_, ?_⟩
   ·rw [List.map_map]
    have : opsN (madeP l []).1 = countL l 2 + countL l 3 := by rw [c2]; simp [opsN]
    rw [← this]
    unfold opsN
    congr 1
    refine List.map_congr_left fun d hd => ?_
    have := (hG.all d hd).len
    simp [txnD]
    omega
   ·have h1 : (madeP l []).1.filter (·.op) = [] := by
     rw [List.find?_eq_none] at hf
     rw [List.filter_eq_nil_iff]
     exact hf
    rw [h1]
    rfl
end Go.Proofs.YthgbfaoblnkniaaDoor

namespace Go.Proofs.YthgbfaoblnkniaaDoor
open Go.RowKit Go.Lib Go.Maps Go.WideMaps
def exE : List EventM := [(1, [115], [], 0, 0, 0), (2, [115], [120], 0, 0, 0), (4, [115], [], 0, 0, 0)]
set_option maxRecDepth 100000 in
theorem ex_hist : histP exE = (([[115]], [[120]], [(0, 1, [(false, 0, 0, 0)])]), 0, 0) := by kernel_rfl
theorem evs_lit (w : World) (L : List EventM) (hL : L.length ≤ 1000) (t : TypeId) : EvsS (w.alloc (.cells (evcs L).toArray t)) (.slice (some ⟨w.heap.size, 0, none⟩) L.length L.length) L := by
 have hl : (evcs L).length = L.length * 6 := by
  have := flat_len evc 6 (fun _ => rfl) L
  exact this
 exact own_evs (World.ownsRow_lit (base := w.heap.size) (e := t) (size := 6) w (evcs L).toArray L.length (Nat.le_refl _) (by unfold maxLen; omega) (by simpa using hl))
theorem texts_lit1 (w : World) (l : List UInt8) (t : TypeId) : Texts (w.alloc (.cells #[.string (bs l)] t)) (.slice (some ⟨w.heap.size, 0, none⟩) 1 1) [l] :=
 own_texts (World.ownsRow_lit (base := w.heap.size) (e := t) (size := 1) w #[.string (bs l)] 1 (Nat.le_refl _) (by decide) rfl)
theorem histV_form {w : World} {v : Value} {h : HistM} (hv : HistV w v h) : ∃ p0 c0 p1 c1 p2 c2, v = .agg #[.slice p0 h.1.length c0, .slice p1 h.2.1.length c1, .slice p2 h.2.2.length c2] := by
 obtain ⟨v0, v1, v2, rfl, ⟨p0, c0, rfl, -⟩, ⟨p1, c1, rfl, -⟩, ⟨p2, c2, rfl, -⟩⟩ := hv
 exact ⟨_, _, _, _, _, _, rfl⟩
theorem histV_parts {w : World} {v0 v1 v2 : Value} {h : HistM} (hv : HistV w (.agg #[v0, v1, v2]) h) : Texts w v0 h.1 ∧ Texts w v1 h.2.1 ∧ TxnsS w v2 h.2.2 := by
 obtain ⟨u0, u1, u2, e, h0, h1, h2⟩ := hv
 injection e with e
 have e' : [v0, v1, v2] = [u0, u1, u2] := congrArg Array.toList e
 injection e' with e0 e'
 injection e' with e1 e'
 injection e' with e2 _
 subst e0 e1 e2
 exact ⟨h0, h1, h2⟩
set_option maxRecDepth 100000 in
set_option maxHeartbeats 2000000 in
theorem works10_any (w : World) (hT : Lib.Utf8Tabs 0 1 w) :
  Calls Tryd.prog 6 #[] w fun e w' => e = .returned (.bool true) ∧ Below w.heap.size w w' := by
 have hal := (Below.refl w.heap.size w).alloc (Nat.le_refl _) (.cells (evcs exE).toArray 28)
 have HH := Lib.hid (hist10_any (w := w.alloc (.cells (evcs exE).toArray 28)) _ exE (evs_lit w exE (by decide) _) (by decide) (by decide) (Utf8Tabs_below hT hal))
 rw [ex_hist] at HH
 have HAL := Lib.hid hal
 clear hT hal
 go_enter Tryd.func6, Tryd.ntmps6
 go_wp2_with fail
 refine HH.out.mono ?_
 rintro e w1 ⟨hv, rfl, hhv, hb1⟩
 obtain ⟨p0, c0, p1, c1, p2, c2, rfl⟩ := histV_form hhv
 have hbw1 := below_next HAL.out hb1
 have HV := Lib.hid hhv
 clear hhv hb1 HH HAL
 dsimp only [List.length_cons, List.length_nil]
 obtain ⟨-, ht1, ⟨p9, c9, e9, ht2⟩⟩ := histV_parts HV.out
 injection e9 with e9 _ _
 subst e9
 obtain ⟨g, sv, rfl, k0, k1, k2, -⟩ := ht2 0 (by decide)
 simp only [Nat.zero_mul, Nat.zero_add] at k0 k1 k2
 have k1' : w1.cell? ⟨g, 1, none⟩ = some (.int .i64 1) := k1
 have hgl := World.block_lt_of_cell? w1 _ k1'
 have HT1 := Lib.hid ht1
 clear ht1 ht2 k0 k1 k2 HV
 go_wp2_with fail
 have hA2 := ((Below.refl w1.heap.size w1).alloc (Nat.le_refl _) (.cells #[.slice p0 1 c0, .slice p1 1 c1, .slice (some ⟨g, 0, none⟩) 1 c9] 32)).alloc (by simp) (.cells #[.string (bs [120])] 9)
 refine (sametexts_any _ _ _ [[120]] [[120]] (HT1.out.below hA2) ?_ (by decide)).mono ?_
 ·have h := texts_lit1 (w1.alloc (.cells #[.slice p0 1 c0, .slice p1 1 c1, .slice (some ⟨g, 0, none⟩) 1 c9] 32)) [120] 9
  rw [World.size_alloc] at h
  exact h
 ·rintro e w2 ⟨rfl, hb2⟩
  rw [show (([[120]] : List (List UInt8)) == [[120]]) = true from by decide]
  go_wp2_with fail
  go_ret
  exact ⟨rfl, below_next (below_next hbw1 hA2) hb2⟩
end Go.Proofs.YthgbfaoblnkniaaDoor

namespace Go.Proofs.YthgbfaoblnkniaaDoor
open Go.ChangeShapes Go.WideShapes Go.ChangeAt Go.RowKit Go.Joins
def EvsA (w : World) (v : Value) (L : List EventM) : Prop := SlR 6 EvR w v L
theorem EvsA.below {w w' : World} {v : Value} {L : List EventM} (h : EvsA w v L) (hb : Below w.heap.size w w') : EvsA w' v L := SlR.below (fun _ _ _ _ _ h => h) h hb
theorem addr_at' (a : Addr) (m j : Nat) : a.add (m + (j + 1)) = ⟨(a.add m).block, (a.add m).off + (j + 1), none⟩ := by
 unfold Addr.add
 by_cases h : m = 0
 ·subst h; simp
 ·simp [h]; omega
theorem evsA_at {w : World} {p : Option Addr} {n c : Nat} {L : List EventM} (h : EvsA w (.slice p n c) L) (k : Nat) (hk : k < L.length) : ∃ a, p = some a ∧ w.cell? (a.add (k * 6)) = some (.int .i64 L[k].1) ∧ w.cell? ⟨(a.add (k * 6)).block, (a.add (k * 6)).off + 1, none⟩ = some (.string (bs L[k].2.1)) ∧ w.cell? ⟨(a.add (k * 6)).block, (a.add (k * 6)).off + 2, none⟩ = some (.string (bs L[k].2.2.1)) ∧
  w.cell? ⟨(a.add (k * 6)).block, (a.add (k * 6)).off + 3, none⟩ = some (.int .i64 L[k].2.2.2.1) ∧ w.cell? ⟨(a.add (k * 6)).block, (a.add (k * 6)).off + 4, none⟩ = some (.int .i64 L[k].2.2.2.2.1) ∧ w.cell? ⟨(a.add (k * 6)).block, (a.add (k * 6)).off + 5, none⟩ = some (.int .i64 L[k].2.2.2.2.2) ∧ L[k].2.1.length ≤ 9223372036854775807 ∧ L[k].2.2.1.length ≤ 9223372036854775807 := by
 obtain ⟨p', c', e, -, -, hc⟩ := h
 injection e with e1 _ _
 subst e1
 obtain ⟨a, cs, rfl, -, h1, ⟨rfl, h3, h4, -⟩⟩ := hc k hk
 exact ⟨a, rfl, h1 0 _ rfl, by rw [← addr_at' a (k * 6) 0]; exact h1 1 _ rfl, by rw [← addr_at' a (k * 6) 1]; exact h1 2 _ rfl, by rw [← addr_at' a (k * 6) 2]; exact h1 3 _ rfl, by rw [← addr_at' a (k * 6) 3]; exact h1 4 _ rfl, by rw [← addr_at' a (k * 6) 4]; exact h1 5 _ rfl, h3, h4⟩
theorem evsA_all {w : World} {v : Value} {L : List EventM} (h : EvsA w v L) : ∀ x ∈ L, x.2.1.length ≤ 9223372036854775807 ∧ x.2.2.1.length ≤ 9223372036854775807 ∧ NumE x := by
 obtain ⟨p', c', -, -, -, hc⟩ := h
 intro x hx
 obtain ⟨k, hk, rfl⟩ := List.getElem_of_mem hx
 obtain ⟨a, cs, -, -, -, ⟨-, h3⟩⟩ := hc k hk
 exact h3
section
variable {H : Type} {enc : TypeId × Value → H} {w : World} {base : Nat} {spare : Nat → Bool} {held : Bool}
theorem open_evs {n : Nat} {cs : List Value} {y : DataW H × List MemPlace} (h : DataW.trod enc Tryd.prog w base spare held n 24 cs = some y) : ∃ v L, cs = [v] ∧ EvsA w v L :=
 open_slR Tryd.underlying24 (by kernel_rfl) (fun _ _ _ h => open_event h) h
set_option maxRecDepth 100000 in
theorem open_evsV {r : Reach} {b0 : Nat} {v : Value} {d : DataW H} {ps : List MemPlace} (hval : Value.okWide Tryd.prog w r b0 24 v) (hd : DataW.Trod enc Tryd.prog w base spare held 24 v d ps) : ∃ L, EvsA w v L := by
 obtain ⟨a0, len0, cap0, rfl⟩ := okWide_slice Tryd.underlying24 hval
 obtain ⟨fuel, hf⟩ := hd
 obtain ⟨v, L, e, h⟩ := open_evs hf
 simp [Value.cells] at e
 subst e
 exact ⟨L, h⟩
end
theorem own_evsA {w : World} {B : Nat} {e : TypeId} {v : Value} {L : List EventM} (h : w.ownsRow B e 6 v L.length (evcs L)) (hL : ∀ x ∈ L, x.2.1.length ≤ 9223372036854775807 ∧ x.2.2.1.length ≤ 9223372036854775807 ∧ NumE x) : EvsA w v L := by
 obtain ⟨h1, ⟨rfl, h0⟩ | ⟨g, cap, cur, rfl, -, hw, hc, hm, hs, ht⟩⟩ := h
 ·have : L = [] := List.eq_nil_of_length_eq_zero h0
  subst this
  exact ⟨none, 0, rfl, Nat.le_refl _, Nat.zero_le _, fun j hj => absurd hj (Nat.not_lt_zero j)⟩
 ·refine ⟨_, cap, rfl, hc, hm, fun j hj => ⟨⟨g, 0, none⟩, evc L[j], rfl, rfl, fun i u hu => ?_, rfl, hL _ (List.getElem_mem hj)⟩⟩
  have hi : i < 6 := (List.getElem?_eq_some_iff.1 hu).1
  have hD : L.getD j noEv = L[j] := by simp [hj]
  have h2 := congrArg (fun x : List Value => x[j * 6 + i]?) ht
  simp only [List.getElem?_take, show j * 6 + i < L.length * 6 by omega, if_true, Array.getElem?_toList] at h2
  rw [Addr.add_lit, Nat.zero_add, cell_of_row w g (j * 6 + i) _ _ (0, 0) hw, h2, evcs_get L j i hj hi, hD]
  exact hu
theorem few_good {L : List EventM} (hL : ∀ x ∈ L, x.2.1.length ≤ 9223372036854775807 ∧ x.2.2.1.length ≤ 9223372036854775807 ∧ NumE x) : ∀ x ∈ fewE L, x.2.1.length ≤ 200 ∧ x.2.2.1.length ≤ 200 ∧ NumE x := by
 intro x hx
 unfold fewE at hx
 obtain ⟨y, hy, rfl⟩ := List.mem_map.1 hx
 have h3 := (hL y (List.mem_of_mem_take hy)).2.2
 refine ⟨?_, ?_, h3⟩
 ·simp [cutE]; omega
 ·simp [cutE]; omega
end Go.Proofs.YthgbfaoblnkniaaDoor

namespace Go.Proofs.YthgbfaoblnkniaaDoor
open Go.RowKit Go.Lib
def ModE (L : List EventM) : Prop := ∀ x ∈ L, x.2.1.length ≤ 1000000 ∧ x.2.2.1.length ≤ 1000000 ∧ NumE x
theorem ModE.at {L : List EventM} (h : ModE L) (k : Nat) (hk : k < L.length) : (L.getD k noEv).2.1.length ≤ 1000000 ∧ (L.getD k noEv).2.2.1.length ≤ 1000000 ∧ NumE (L.getD k noEv) := by
 have : L.getD k noEv = L[k] := by simp [hk]
 rw [this]
 exact h _ (List.getElem_mem hk)
set_option maxRecDepth 100000 in
set_option maxHeartbeats 1000000 in
theorem take_count (L : List EventM) (q : Int) (k : Nat) (hk : k < L.length) : countL (L.take (k + 1)) q = countL (L.take k) q + if (L.getD k noEv).1 = q then 1 else 0 := by
 unfold countL
 have e : L.take (k + 1) = L.take k ++ [L.getD k noEv] := by
  rw [List.take_succ_eq_append_getElem hk]
  simp [hk]
 rw [e, List.filter_append, List.length_append]
 generalize L.getD k noEv = x
 by_cases h : x.1 = q <;> simp [h]
theorem count_le (L : List EventM) (q : Int) (k : Nat) : countL (L.take k) q ≤ k := by
 unfold countL
 refine Nat.le_trans (List.length_filter_le _ _) ?_
 exact List.length_take_le _ _
set_option maxRecDepth 100000 in
set_option maxHeartbeats 1000000 in
theorem rcount_any (v : Value) (L : List EventM) (q : Int) (w : World) (hv : EvsS w v L) (hL : L.length ≤ 1000000) :
  Calls Tryd.prog 14 #[v, .int .i64 q] w fun e w' => e = .returned (.int .i64 (countL L q)) ∧ Below w.heap.size w w' := by
 obtain ⟨p, c, rfl, hp⟩ := hv
 have HX := Lib.hid hp
 clear hp
 go_enter Tryd.func14, Tryd.ntmps14
 go_wp2_with fail
 go_loopw [5, 6] (fun n i wr => ∃ k : Nat, k ≤ L.length ∧ n = .int .i64 (countL (L.take k) q) ∧ i = .int .i64 k ∧ Below w.heap.size w wr) (fun _ i _ => L.length - (RowKit.intOf i).toNat)
 case atStart => exact ⟨0, Nat.zero_le _, rfl, rfl, Below.refl _ _⟩
 case round =>
  obtain ⟨k, hk, rfl, rfl, hbw⟩ := hrel
  have hcl := count_le L q k
  have hbz := hbw.size
  by_cases hk1 : k < L.length
  ·obtain ⟨g, rfl, hcell⟩ := HX.out k hk1
   have HT := Lib.hid (take_count L q k hk1)
   obtain ⟨t, ht⟩ : ∃ t, L.getD k noEv = t := ⟨_, rfl⟩
   rw [ht] at HT hcell
   obtain ⟨x1, x2, x3, x4, x5, x6⟩ := t
   by_cases hq : x1 = q
   ·have hqb : (x1 == q) = true := by simpa using hq
    have a0 := cell_later hbw (hcell 0 _ rfl)
    simp only [Nat.add_zero] at a0
    have HC : RowKit.Hid ((countL (L.take (k + 1)) q : Int) = countL (L.take k) q + 1) := Lib.hid (by rw [HT.out, if_pos hq]; simp)
    clear hcell ht hq
    go_wp2_with fail
    go_roundw
    case rel => exact ⟨k + 1, by omega, by rw [HC.out], by go_num, (by (repeat' (first | (with_reducible exact Below.refl _ _) | (with_reducible assumption) | (refine below_next ?_ (by with_reducible assumption)) | (with_reducible refine Below.setCell ?_ ?_ _) | (with_reducible refine Below.alloc ?_ ?_ _) | (with_reducible refine Below.drew ?_) | (with_reducible refine below_drewN ?_ _) | omega | (simp; done) | (simp; omega))))⟩
    case measure => simp [RowKit.intOf]; omega
   ·have hqb : (x1 == q) = false := by simpa using hq
    have a0 := cell_later hbw (hcell 0 _ rfl)
    simp only [Nat.add_zero] at a0
    have HC : RowKit.Hid ((countL (L.take (k + 1)) q : Int) = countL (L.take k) q + 0) := Lib.hid (by rw [HT.out, if_neg hq]; simp)
    clear hcell ht hq
    go_wp2_with fail
    go_roundw
    case rel => exact ⟨k + 1, by omega, by rw [HC.out]; go_num, by go_num, (by (repeat' (first | (with_reducible exact Below.refl _ _) | (with_reducible assumption) | (refine below_next ?_ (by with_reducible assumption)) | (with_reducible refine Below.setCell ?_ ?_ _) | (with_reducible refine Below.alloc ?_ ?_ _) | (with_reducible refine Below.drew ?_) | (with_reducible refine below_drewN ?_ _) | omega | (simp; done) | (simp; omega))))⟩
    case measure => simp [RowKit.intOf]; omega
  ·have hke : k = L.length := by omega
   subst hke
   have HE : RowKit.Hid (countL (L.take L.length) q = countL L q) := Lib.hid (by rw [List.take_length])
   go_wp2_with fail
   go_ret
   exact ⟨by rw [HE.out]; rfl, hbw⟩
end Go.Proofs.YthgbfaoblnkniaaDoor

namespace Go.Proofs.YthgbfaoblnkniaaDoor
open Go.RowKit Go.Lib
theorem min200 (x : List UInt8) : x.take (min (x.length : Int) 200).toNat = x.take 200 := by
 by_cases h : x.length ≤ 200
 ·rw [show (min (x.length : Int) 200).toNat = x.length by omega, List.take_length, List.take_of_length_le h]
 ·rw [show (min (x.length : Int) 200).toNat = 200 by omega]
theorem cutE_next (L : List EventM) (k : Nat) (hk : k < L.length) : (L.take (k + 1)).map cutE = (L.take k).map cutE ++ [cutE L[k]] := by
 rw [List.take_succ_eq_append_getElem hk, List.map_append]
 rfl
theorem cutE_len (L : List EventM) (k : Nat) (hk : k ≤ L.length) : ((L.take k).map cutE).length = k := by simp [hk]
theorem few_all (L : List EventM) (k : Nat) (hk : k ≤ 200) (h : L.length ≤ k ∨ k = 200) : (L.take k).map cutE = fewE L := by
 unfold fewE
 rcases h with h | h
 ·rw [List.take_of_length_le h, List.take_of_length_le (by omega)]
 ·rw [h]
set_option maxRecDepth 100000 in
set_option maxHeartbeats 4000000 in
theorem few8_any (v : Value) (L : List EventM) (w : World) (hv : EvsA w v L) :
  Calls Tryd.prog 8 #[v] w fun e w' => ∃ v', e = .returned v' ∧ w'.ownsRow w.heap.size 28 6 v' (fewE L).length (evcs (fewE L)) ∧ Below w.heap.size w w' := by
 have hv0 := hv
 obtain ⟨p, c, rfl, hl, hm, -⟩ := hv0
 have hcs := fun k hk => evsA_at hv k hk
 have HC := Lib.hid hcs
 unfold maxLen at hm
 clear hcs hv
 obtain ⟨i0, hi, hz0, hz1, hz2⟩ := info_parts info_ev
 go_enter Tryd.func8, Tryd.ntmps8
 go_wp2_with fail
 go_loopw [3, 4] (fun v3 i wr => ∃ k : Nat, k ≤ L.length ∧ k ≤ 200 ∧ i = .int .i64 k ∧ wr.ownsRow w.heap.size 28 6 v3 k (evcs ((L.take k).map cutE)) ∧ Below w.heap.size w wr) (fun _ i _ => L.length - (RowKit.intOf i).toNat)
 case atStart => exact ⟨0, Nat.zero_le _, Nat.zero_le _, rfl, World.ownsRow_made w #[] 0 (Nat.le_refl _) (Nat.zero_le _) rfl, (Below.refl _ _).alloc (Nat.le_refl _) _⟩
 case round =>
  obtain ⟨k, hk, hk2, rfl, hown, hbw⟩ := hrel
  have HOw := Lib.hid hown
  obtain ⟨p3, c3, rfl⟩ := owns_form hown
  clear hown
  have hbz := hbw.size
  by_cases hlt : k < L.length ∧ k < 200
  ·obtain ⟨h1, h2⟩ := hlt
   obtain ⟨a, rfl, a0, a1, a2, a3, a4, a5, m2, m3⟩ := HC.out k h1
   have HN := Lib.hid (cutE_next L k h1)
   have HL := Lib.hid (cutE_len L k hk)
   obtain ⟨⟨x1, x2, x3, x4, x5, x6⟩, hx⟩ : ∃ x, L[k] = x := ⟨_, rfl⟩
   rw [hx] at a0 a1 a2 a3 a4 a5 m2 m3 HN
   clear hx
   have b0 := cell_later hbw a0
   have b1 := cell_later hbw a1
   have b2 := cell_later hbw a2
   have b3 := cell_later hbw a3
   have b4 := cell_later hbw a4
   have b5 := cell_later hbw a5
   have M2 := min200 x2
   have M3 := min200 x3
   have n2 : 0 ≤ min (x2.length : Int) 200 := by omega
   have n3 : 0 ≤ min (x3.length : Int) 200 := by omega
   have n4 : min (x2.length : Int) 200 ≤ x2.length := by omega
   have n5 : min (x3.length : Int) 200 ≤ x3.length := by omega
   simp only at b0 b1 b2 b3 b4 b5 m2 m3
   have hlA : (a.add (k * 6)).block < wr.heap.size := World.block_lt_of_cell? wr _ b0
   clear a0 a1 a2 a3 a4 a5
   have h2' : decide ((k : Int) < 200) = true := decide_eq_true (by omega)
   have h1' : decide (k < L.length) = true := decide_eq_true h1
   go_wp2_with fail
   have HS : RowKit.Hid (∀ w', Below (wr.alloc (.cells #[.int .i64 x1, .string (bs x2), .string (bs x3), .int .i64 x4, .int .i64 x5, .int .i64 x6] 28)).heap.size (wr.alloc (.cells #[.int .i64 x1, .string (bs x2), .string (bs x3), .int .i64 x4, .int .i64 x5, .int .i64 x6] 28)) w' → (w'.cell? ⟨wr.heap.size, 1, none⟩ = some (.string (bs x2)) ∧ w'.cell? ⟨wr.heap.size, 2, none⟩ = some (.string (bs x3)))) := Lib.hid (fun w' hb => ⟨cell_later hb (by rw [cell_of_row _ wr.heap.size 1 _ _ (0, 0) (heap_alloc_new wr _)]; rfl), cell_later hb (by rw [cell_of_row _ wr.heap.size 2 _ _ (0, 0) (heap_alloc_new wr _)]; rfl)⟩)
   refine wp_region_keep (fun w' => w'.cell? ⟨wr.heap.size, 1, none⟩ = some (.string (bs x2)) ∧ w'.cell? ⟨wr.heap.size, 2, none⟩ = some (.string (bs x3))) [15, 17] (by kernel_rfl) ?_
   have hB0 : Below ((wr.alloc (.cells #[.int .i64 x1, .string (bs x2), .string (bs x3), .int .i64 x4, .int .i64 x5, .int .i64 x6] 28))).heap.size ((wr.alloc (.cells #[.int .i64 x1, .string (bs x2), .string (bs x3), .int .i64 x4, .int .i64 x5, .int .i64 x6] 28))) ((wr.alloc (.cells #[.int .i64 x1, .string (bs x2), .string (bs x3), .int .i64 x4, .int .i64 x5, .int .i64 x6] 28))).drew := Below.drew (Below.refl _ _)
   have hS0 := HS.out _ hB0
   refine wpAnyM_free 0 (v := ?_) rfl (by kernel_rfl) (by kernel_rfl) (by kernel_rfl) (fun _ _ _ h => h) (Or.inl ⟨by rfl, ?_⟩) ?_
   rotate_left
   ·intro w' hw';go_simp;try with_reducible rfl
   try simp only [Act.put, sq0, sq1, sq2]
   refine wpAnyM_take 1 18 (v := ?_) rfl (by kernel_rfl) (by kernel_rfl) (by kernel_rfl) (by kernel_rfl) (by kernel_rfl) (fun _ _ _ h => h) (Or.inl ⟨by rfl, ?_⟩) hS0 ?_
   rotate_left
   ·intro w' hw';(try dsimp only at hw');go_simp;try with_reducible rfl
   try simp only [Act.put, sq0, sq1, sq2]
   refine wpAnyM_free 2 (v := ?_) rfl (by kernel_rfl) (by kernel_rfl) (by kernel_rfl) (fun _ _ _ h => h) (Or.inl ⟨by rfl, ?_⟩) ?_
   rotate_left
   ·intro w' hw';go_simp;try with_reducible rfl
   try simp only [Act.put, sq0, sq1, sq2]
   refine wpAnyM_take 3 18 (v := ?_) rfl (by kernel_rfl) (by kernel_rfl) (by kernel_rfl) (by kernel_rfl) (by kernel_rfl) (fun _ _ _ h => h) (Or.inl ⟨by rfl, ?_⟩) hS0 ?_
   rotate_left
   ·intro w' hw';(try dsimp only at hw');go_simp;try with_reducible rfl
   try simp only [Act.put, sq0, sq1, sq2]
   refine wpAnyM_free 4 (v := ?_) rfl (by kernel_rfl) (by kernel_rfl) (by kernel_rfl) (fun _ _ _ h => h) (Or.inl ⟨by rfl, ?_⟩) ?_
   rotate_left
   ·intro w' hw';go_simp;try with_reducible rfl
   try simp only [Act.put, sq0, sq1, sq2]
   refine wpAnyM_free 5 (v := ?_) rfl (by kernel_rfl) (by kernel_rfl) (by kernel_rfl) (fun _ _ _ h => h) (Or.inl ⟨by rfl, ?_⟩) ?_
   rotate_left
   ·intro w' hw';go_simp;try with_reducible rfl
   try simp only [Act.put, sq0, sq1, sq2]
   refine wpAnyM_free 6 (v := ?_) rfl (by kernel_rfl) (by kernel_rfl) (by kernel_rfl) (fun _ _ _ h => h) (Or.inl ⟨by rfl, ?_⟩) ?_
   rotate_left
   ·intro w' hw';go_simp;try with_reducible rfl
   try simp only [Act.put, sq0, sq1, sq2]
   refine wpAnyM_free 7 (v := ?_) rfl (by kernel_rfl) (by kernel_rfl) (by kernel_rfl) (fun _ _ _ h => h) (Or.inl ⟨by rfl, ?_⟩) ?_
   rotate_left
   ·intro w' hw';go_simp;try with_reducible rfl
   try simp only [Act.put, sq0, sq1, sq2]
   refine wpAnyM_take 8 18 (v := ?_) rfl (by kernel_rfl) (by kernel_rfl) (by kernel_rfl) (by kernel_rfl) (by kernel_rfl) (fun _ _ _ h => h) (Or.inl ⟨by rfl, ?_⟩) hS0 ?_
   rotate_left
   ·intro w' hw';(try dsimp only at hw');go_simp;try with_reducible rfl
   try simp only [Act.put, sq0, sq1, sq2]
   refine wpAnyM_one 9 rfl (by kernel_rfl) (fun K hK => ?_)
   go_simp
   refine hK.out _ _ (fun _ h => h) ?_
   clear hK K
   try simp only [Act.put, sq0, sq1, sq2]
   refine wpAnyM_one 10 rfl (by kernel_rfl) (fun K hK => ?_)
   go_simp
   refine hK.out _ _ (fun _ h => h) ?_
   clear hK K
   try simp only [Act.put, sq0, sq1, sq2]
   refine wpAnyM_free 11 (v := ?_) rfl (by kernel_rfl) (by kernel_rfl) (by kernel_rfl) (fun _ _ _ h => h) (Or.inl ⟨by rfl, ?_⟩) ?_
   rotate_left
   ·intro w' hw';go_simp;try with_reducible rfl
   try simp only [Act.put, sq0, sq1, sq2]
   refine wpAnyM_free 12 (v := ?_) rfl (by kernel_rfl) (by kernel_rfl) (by kernel_rfl) (fun _ _ _ h => h) (Or.inl ⟨by rfl, ?_⟩) ?_
   rotate_left
   ·intro w' hw';go_simp;try with_reducible rfl
   try simp only [Act.put, sq0, sq1, sq2]
   refine wpAnyM_free 13 (v := ?_) rfl (by kernel_rfl) (by kernel_rfl) (by kernel_rfl) (fun _ _ _ h => h) (Or.inl ⟨by rfl, ?_⟩) ?_
   rotate_left
   ·intro w' hw';go_simp;try with_reducible rfl
   try simp only [Act.put, sq0, sq1, sq2]
   refine wpAnyM_one 14 rfl (by kernel_rfl) (fun K hK => ?_)
   go_simp
   refine hK.out _ _ (fun _ h => h) ?_
   clear hK K
   try simp only [Act.put, sq0, sq1, sq2]
   refine wpAnyM_one 15 rfl (by kernel_rfl) (fun K hK => ?_)
   go_simp
   refine hK.out _ _ (fun h => absurd h (by decide)) ?_
   clear hK K
   try simp only [Act.put, sq0, sq1, sq2]
   refine wpAnyM_one 16 rfl (by kernel_rfl) (fun K hK => ?_)
   go_simp
   refine hK.out _ _ (fun _ h => h) ?_
   clear hK K
   try simp only [Act.put, sq0, sq1, sq2]
   refine wpAnyM_one 17 rfl (by kernel_rfl) (fun K hK => ?_)
   go_simp
   refine hK.out _ _ (fun h => absurd h (by decide)) ?_
   clear hK K
   try simp only [Act.put, sq0, sq1, sq2]
   refine wpAnyM_done (by kernel_rfl) ?_ _
   try simp only [Act.put, sq0, sq1, sq2]
   clear hB0 hS0 HS n2 n3 n4 n5 b0 b1 b2 b3 b4 b5
   go_wp2_with (at_builtin; refine wpList_append_own _ rfl (.tmp 37) (.tmp 39) 24 rfl w.heap.size 28 i0 (.agg #[.int .i64 0, .string ByteArray.empty, .string ByteArray.empty, .int .i64 0, .int .i64 0, .int .i64 0]) 6 64 Tryd.underlying24 hi hz0 hz1 hz2 rfl (by decide) _ _ _ rfl ((HOw.out.alloc _).alloc _) ⟨wr.heap.size + 1, 0, none⟩ 1 1 [.int .i64 x1, .string (bs (x2.take 200)), .string (bs (x3.take 200)), .int .i64 x4, .int .i64 x5, .int .i64 x6] rfl rfl (news_lit _ _ _ _ (by simp)) (ones_ev _ _ _ _ _ _) (by unfold maxLen; omega) (by omega) (by simp; omega) ?_)
   intro v4 w4 hown4 hgrow hnil
   have hb4 : Below w.heap.size w w4 := (((hbw.alloc hbz _).alloc (by simp; omega) _).drew).grown hgrow (by simp; omega) (fun k hk => (HOw.out.lt k hk).1)
   have HO4 : RowKit.Hid (w4.ownsRow w.heap.size 28 6 v4 (k + 1) (evcs ((L.take (k + 1)).map cutE))) := Lib.hid (by rw [HN.out, ← evcs_snoc, List.map_take]; exact hown4)
   clear hown4 hgrow hnil
   go_wp2_with fail
   go_roundw
   case rel => exact ⟨k + 1, by omega, by omega, by go_num, HO4.out, hb4⟩
   case measure => simp [RowKit.intOf]; omega
  ·have HE := Lib.hid (few_all L k hk2 (by omega))
   have HL := Lib.hid (cutE_len L k hk)
   have hlt' : (k < L.length ∧ 200 ≤ k) ∨ L.length ≤ k := by omega
   clear hlt
   have HR : RowKit.Hid (wr.ownsRow w.heap.size 28 6 (.slice p3 k c3) (fewE L).length (evcs (fewE L))) := Lib.hid (by rw [← HE.out, HL.out]; exact HOw.out)
   rcases hlt' with ⟨h1, h2⟩ | h1
   all_goals
    go_wp2_with fail
    go_ret
    exact ⟨_, rfl, HR.out, hbw⟩
end Go.Proofs.YthgbfaoblnkniaaDoor

namespace Go.Proofs.YthgbfaoblnkniaaDoor
open Go.RowKit Go.Lib Go.Maps Go.WideMaps
theorem few_short (L : List EventM) : (fewE L).length ≤ 200 ∧ ∀ x ∈ fewE L, x.2.1.length ≤ 1000000 ∧ x.2.2.1.length ≤ 1000000 := by
 refine ⟨by simp [fewE]; omega, fun x hx => ?_⟩
 unfold fewE at hx
 rw [List.mem_map] at hx
 obtain ⟨y, -, rfl⟩ := hx
 simp [cutE]
 omega
def opsT (T : List TxnM) (k : Nat) : Nat := ((T.take k).map fun t => t.2.2.length).sum
theorem opsT_next (T : List TxnM) (k : Nat) (hk : k < T.length) : opsT T (k + 1) = opsT T k + (T.getD k noTxn).2.2.length := by
 unfold opsT
 have e : T.getD k noTxn = T[k] := by simp [hk]
 rw [List.take_succ_eq_append_getElem hk, List.map_append, List.sum_append, e]
 simp only [List.map_cons, List.map_nil, List.sum_cons, List.sum_nil, Nat.add_zero]
theorem opsT_le (T : List TxnM) (k : Nat) : opsT T k ≤ opsT T T.length := by
 unfold opsT
 rw [List.take_length]
 conv => rhs; rw [← List.take_append_drop k T]
 rw [List.map_append, List.sum_append]
 omega
theorem count_few (l : List EventM) (q : Int) : countL l q ≤ l.length := List.length_filter_le _ _
set_option maxRecDepth 100000 in
set_option maxHeartbeats 4000000 in
theorem paircounts_any (v : Value) (L : List EventM) (w : World) (hv : EvsA w v L) (hT : Lib.Utf8Tabs 0 1 w) :
  Calls Tryd.prog 5 #[v] w fun e w' => e = .returned (.bool true) ∧ Below w.heap.size w w' := by
 have HW := Lib.hid (works10_any w hT)
 have HFew := Lib.hid (fun w' (h : Below w.heap.size w w') => few8_any v L w' (hv.below h))
 have HT := Lib.hid hT
 obtain ⟨hl, hm⟩ := few_short L
 have HM := Lib.hid hm
 have HBad := Lib.hid (hist_bad (fewE L))
 have HOk := Lib.hid (hist_counts (fewE L))
 clear hv hT hm
 obtain ⟨l, hle⟩ : ∃ l, fewE L = l := ⟨_, rfl⟩
 rw [hle] at HFew HM HBad HOk hl
 clear hle
 go_enter Tryd.func5, Tryd.ntmps5
 go_wp2_with fail
 refine HW.out.mono ?_
 rintro e w1 ⟨rfl, hb1⟩
 go_wp2_with fail
 refine (HFew.out _ hb1).mono ?_
 rintro e w2 ⟨vf, rfl, hrow, hb2⟩
 have hb02 := below_next hb1 hb2
 have HEv := Lib.hid (own_evs hrow)
 clear hrow hb1 hb2
 go_wp2_with fail
 refine (hist10_any vf l HEv.out (by omega) HM.out (Utf8Tabs_below HT.out hb02)).mono ?_
 rintro e w3 ⟨hv3, rfl, hh, hb3⟩
 obtain ⟨p0, c0, p1, c1, p2, c2, rfl⟩ := histV_form hh
 have hb03 := below_next hb02 hb3
 have HX := Lib.hid (histV_parts hh).2.2
 have HEv3 := Lib.hid (HEv.out.below hb3)
 clear hh hb3 HEv
 obtain ⟨⟨⟨S, K, T⟩, ln, er⟩, hr⟩ : ∃ r, histP l = r := ⟨_, rfl⟩
 rw [hr] at HBad HOk HX
 simp only [hr]
 clear hr
 try dsimp only at HBad HOk HX ⊢
 by_cases her : er = 0
 ·subst her
  obtain ⟨e1, e2, e3⟩ := HOk.out rfl
  have hc1 := count_few l 1
  have hc2 := count_few l 2
  have hc3 := count_few l 3
  have htot : opsT T T.length = countL l 2 + countL l 3 := by unfold opsT; rw [List.take_length]; exact e2
  have HTot := Lib.hid htot
  have HE1 := Lib.hid e1
  have HE3 := Lib.hid e3
  have hTl : T.length ≤ 200 := by omega
  have hsm : ∀ k, opsT T k ≤ 400 := fun k => by have := opsT_le T k; omega
  have HSm := Lib.hid hsm
  clear e1 e2 e3 htot HBad HOk hsm
  go_wp2_with fail
  have hal := (Below.refl w3.heap.size w3).alloc (Nat.le_refl _) (.cells #[.slice p0 S.length c0, .slice p1 K.length c1, .slice p2 T.length c2] 32)
  have hbx := Blk.new w3 32 [.slice p0 S.length c0, .slice p1 K.length c1, .slice p2 T.length c2]
  obtain ⟨gh, hgh⟩ : ∃ q, w3.heap.size = q := ⟨_, rfl⟩
  have HX4 := Lib.hid (HX.out.below hal)
  have HEv4 := Lib.hid (HEv3.out.below hal)
  have hb04 := below_next hb03 hal
  obtain ⟨w4, hw4⟩ : ∃ q, w3.alloc (.cells #[.slice p0 S.length c0, .slice p1 K.length c1, .slice p2 T.length c2] 32) = q := ⟨_, rfl⟩
  have hbx' : Blk w4 gh 32 [.slice p0 S.length c0, .slice p1 K.length c1, .slice p2 T.length c2] := by rw [← hw4, ← hgh]; exact hbx
  rw [hw4] at HX4 HEv4 hb04
  try simp only [hw4, hgh]
  clear hal hbx hw4 HX HEv3 hb03
  have b2 := hbx'.cell 2 rfl
  go_loopw [6, 7] (fun n i wr => ∃ k : Nat, k ≤ T.length ∧ i = .int .i64 k ∧ n = .int .i64 (opsT T k) ∧ wr = w4) (fun _ i _ => T.length - (RowKit.intOf i).toNat)
  case atStart => exact ⟨0, Nat.zero_le _, rfl, rfl, rfl⟩
  case round =>
   obtain ⟨k, hk, rfl, rfl, rfl⟩ := hrel
   have hsk := HSm.out k
   by_cases hk1 : k < T.length
   ·obtain ⟨p9, c9, e9, ht⟩ := HX4.out
    injection e9 with e9 _ e9'
    subst e9 e9'
    obtain ⟨g, sv, rfl, k0, k1, k2, ⟨p8, c8, rfl, -⟩⟩ := ht k hk1
    have hn := opsT_next T k hk1
    have hs1 := HSm.out (k + 1)
    obtain ⟨t, htk⟩ : ∃ t, (T.getD k noTxn).2.2.length = t := ⟨_, rfl⟩
    rw [htk] at k2 hn
    have HNx : RowKit.Hid ((opsT T (k + 1) : Int) = (opsT T k : Int) + (t : Int)) := Lib.hid (by rw [hn]; push_cast; rfl)
    have hwrap : IntKind.i64.wrap ((opsT T k : Int) + (t : Int)) = (opsT T k : Int) + (t : Int) := by rw [IntKind.wrap_i64]; omega
    clear ht htk k0 k1 hn
    go_wp2_with fail
    go_roundw
    case rel => exact ⟨k + 1, by omega, by go_num, by rw [HNx.out], by first | rfl | trivial⟩
    case measure => simp [RowKit.intOf]; omega
   ·have hke : k = T.length := by omega
    subst hke
    have HCnt := Lib.hid (fun w' (h : Below wr.heap.size wr w') (q : Int) => rcount_any vf l q w' (HEv4.out.below h) (by omega))
    have HOpen := Lib.hid (fun w' (h : Below wr.heap.size wr w') => open10_any vf l (HEv4.out.below h) (by omega) HM.out (Utf8Tabs_below HT.out (hb04.trans (h.mono hb04.size))))
    rw [HE3.out] at HOpen
    rw [HTot.out]
    have e1 : ((countL l 1 : Nat) : Int) = (T.length : Int) := by have := HE1.out; omega
    have hadd : IntKind.i64.wrap ((countL l 2 : Int) + (countL l 3 : Int)) = (countL l 2 : Int) + (countL l 3 : Int) := by rw [IntKind.wrap_i64]; omega
    have HS : RowKit.Hid (∀ w', Below wr.heap.size wr w' → (w'.cell? ⟨gh, 2, none⟩ = some (.slice p2 T.length c2) ∧ Below wr.heap.size wr w')) := Lib.hid (fun w' hb => ⟨cell_later hb b2, hb⟩)
    have hpc : ((countL l 2 + countL l 3 : Nat) : Int) = (countL l 2 : Int) + (countL l 3 : Int) := by push_cast; rfl
    rw [hpc]
    clear hsk
    go_wp2_with fail
    refine wp_region_keep (fun w' => w'.cell? ⟨gh, 2, none⟩ = some (.slice p2 T.length c2) ∧ Below wr.heap.size wr w') [] (by kernel_rfl) ?_
    have hB0 : Below (wr).heap.size (wr) (wr).drew := Below.drew (Below.refl _ _)
    have hS0 := HS.out _ hB0
    refine wpAnyM_free 0 (v := ?_) rfl (by kernel_rfl) (by kernel_rfl) (by kernel_rfl) (fun _ _ _ h => h) (Or.inl ⟨by rfl, ?_⟩) ?_
    rotate_left
    ·intro w' hw';go_simp;try with_reducible rfl
    try simp only [Act.put, sq0, sq1, sq2]
    refine wpAnyM_take 1 22 (v := ?_) rfl (by kernel_rfl) (by kernel_rfl) (by kernel_rfl) (by kernel_rfl) (by kernel_rfl) (fun _ _ _ h => h) (Or.inl ⟨by rfl, ?_⟩) hS0 ?_
    rotate_left
    ·intro w' hw';(try dsimp only at hw');go_simp;try with_reducible rfl
    try simp only [Act.put, sq0, sq1, sq2]
    refine wpAnyM_free 2 (v := ?_) rfl (by kernel_rfl) (by kernel_rfl) (by kernel_rfl) (fun _ _ _ h => h) (Or.inl ⟨by rfl, ?_⟩) ?_
    rotate_left
    ·intro w' hw';go_simp;try with_reducible rfl
    try simp only [Act.put, sq0, sq1, sq2]
    refine wpAnyM_one 3 rfl (by kernel_rfl) (fun K hK => ?_)
    go_simp
    refine hK.out _ _ (fun _ h => h) ?_
    clear hK K
    try simp only [Act.put, sq0, sq1, sq2]
    refine wpAnyM_one 4 rfl (by kernel_rfl) (fun K hK => ?_)
    go_simp
    refine ((HCnt.out _ hB0 1)).mono ?_
    rintro e w1 ⟨rfl, hb1⟩
    have hB1 := below_next hB0 hb1
    have hS1 := HS.out _ hB1
    rw [e1]
    refine hK.out _ _ (fun _ _ => hS1) ?_
    clear hK K hS0
    try simp only [Act.put, sq0, sq1, sq2]
    refine wpAnyM_one 5 rfl (by kernel_rfl) (fun K hK => ?_)
    go_simp
    refine hK.out _ _ (fun _ h => h) ?_
    clear hK K
    try simp only [Act.put, sq0, sq1, sq2]
    refine wpAnyM_one 6 rfl (by kernel_rfl) (fun K hK => ?_)
    go_simp
    refine hK.out _ _ (fun _ h => h) ?_
    clear hK K
    try simp only [Act.put, sq0, sq1, sq2]
    refine wpAnyM_free 7 (v := ?_) rfl (by kernel_rfl) (by kernel_rfl) (by kernel_rfl) (fun _ _ _ h => h) (Or.inl ⟨by rfl, ?_⟩) ?_
    rotate_left
    ·intro w' hw';go_simp;try with_reducible rfl
    try simp only [Act.put, sq0, sq1, sq2]
    refine wpAnyM_free 8 (v := ?_) rfl (by kernel_rfl) (by kernel_rfl) (by kernel_rfl) (fun _ _ _ h => h) (Or.inl ⟨by rfl, ?_⟩) ?_
    rotate_left
    ·intro w' hw';go_simp;try with_reducible rfl
    try simp only [Act.put, sq0, sq1, sq2]
    refine wpAnyM_free 10 (v := ?_) rfl (by kernel_rfl) (by kernel_rfl) (by kernel_rfl) (fun _ _ _ h => h) (Or.inl ⟨by rfl, ?_⟩) ?_
    rotate_left
    ·intro w' hw';go_simp;try with_reducible rfl
    try simp only [Act.put, sq0, sq1, sq2]
    refine wpAnyM_one 9 rfl (by kernel_rfl) (fun K hK => ?_)
    go_simp
    refine ((HCnt.out _ hB1 2)).mono ?_
    rintro e w2 ⟨rfl, hb2⟩
    have hB2 := below_next hB1 hb2
    have hS2 := HS.out _ hB2
    refine hK.out _ _ (fun _ _ => hS2) ?_
    clear hK K hS1
    try simp only [Act.put, sq0, sq1, sq2]
    refine wpAnyM_one 11 rfl (by kernel_rfl) (fun K hK => ?_)
    go_simp
    refine ((HCnt.out _ hB2 3)).mono ?_
    rintro e w3 ⟨rfl, hb3⟩
    have hB3 := below_next hB2 hb3
    have hS3 := HS.out _ hB3
    refine hK.out _ _ (fun _ _ => hS3) ?_
    clear hK K hS2
    try simp only [Act.put, sq0, sq1, sq2]
    refine wpAnyM_one 12 rfl (by kernel_rfl) (fun K hK => ?_)
    go_simp
    refine hK.out _ _ (fun _ h => h) ?_
    clear hK K
    try simp only [Act.put, sq0, sq1, sq2]
    refine wpAnyM_one 13 rfl (by kernel_rfl) (fun K hK => ?_)
    go_simp
    refine hK.out _ _ (fun _ h => h) ?_
    clear hK K
    try simp only [Act.put, sq0, sq1, sq2]
    refine wpAnyM_one 14 rfl (by kernel_rfl) (fun K hK => ?_)
    go_simp
    refine hK.out _ _ (fun _ h => h) ?_
    clear hK K
    try simp only [Act.put, sq0, sq1, sq2]
    refine wpAnyM_one 15 rfl (by kernel_rfl) (fun K hK => ?_)
    go_simp
    refine hK.out _ _ (fun _ h => h) ?_
    clear hK K
    try simp only [Act.put, sq0, sq1, sq2]
    refine wpAnyM_one 16 rfl (by kernel_rfl) (fun K hK => ?_)
    go_simp
    refine hK.out _ _ (fun _ h => h) ?_
    clear hK K
    try simp only [Act.put, sq0, sq1, sq2]
    refine wpAnyM_one 17 rfl (by kernel_rfl) (fun K hK => ?_)
    go_simp
    refine ((HOpen.out _ hB3)).mono ?_
    rintro e w4 ⟨vo, rfl, ⟨po, co, rfl, -⟩, hb4⟩
    have hB4 := below_next hB3 hb4
    have hS4 := HS.out _ hB4
    refine hK.out _ _ (fun _ _ => hS4) ?_
    clear hK K hS3
    try simp only [Act.put, sq0, sq1, sq2]
    refine wpAnyM_one 18 rfl (by kernel_rfl) (fun K hK => ?_)
    go_simp
    refine hK.out _ _ (fun _ h => h) ?_
    clear hK K
    try simp only [Act.put, sq0, sq1, sq2]
    refine wpAnyM_one 19 rfl (by kernel_rfl) (fun K hK => ?_)
    go_simp
    refine hK.out _ _ (fun _ h => h) ?_
    clear hK K
    try simp only [Act.put, sq0, sq1, sq2]
    refine wpAnyM_one 20 rfl (by kernel_rfl) (fun K hK => ?_)
    go_simp
    refine hK.out _ _ (fun _ h => h) ?_
    clear hK K
    try simp only [Act.put, sq0, sq1, sq2]
    refine wpAnyM_one 21 rfl (by kernel_rfl) (fun K hK => ?_)
    go_simp
    refine hK.out _ _ (fun _ h => h) ?_
    clear hK K
    try simp only [Act.put, sq0, sq1, sq2]
    refine wpAnyM_done (by kernel_rfl) ?_ _
    try simp only [Act.put, sq0, sq1, sq2]
    go_wp2_with fail
    go_ret
    exact ⟨rfl, below_next hb04 hB4⟩
 ·have hfb : (er != 0) = true := by simpa using her
  have hno := HBad.out her
  try dsimp only at hno
  injection hno with h1 h2
  injection h2 with h2 h3
  subst h1 h2 h3
  have hal := (Below.refl w3.heap.size w3).alloc (Nat.le_refl _) (.cells #[.slice p0 0 c0, .slice p1 0 c1, .slice p2 0 c2] 32)
  clear her HBad HOk
  go_wp2_with fail
  go_ret
  exact ⟨rfl, below_next hb03 hal⟩
end Go.Proofs.YthgbfaoblnkniaaDoor
