/-
  Layer 10 (pair) in plain words: how many transactions and operations a history has. No conditions.
  Layer 10 (pair): the chapter's example. Conditions: unicode/utf8's two tables hold what their initialisers lay.
  Layer 10 (pair), the document's answer: what its W holds, as memory of the call's own; at, keys, walked. No conditions.
  Layer 10 (pair), the document's answer: four rows that grow in a region that draws its order. No conditions.
  Layer 10 (pair), the document's answer: what W's steps leave in memory, the walks apart. No conditions.
-/
import Derived.Test.YthgbfaoblnkniaaGreatDoorZp
import Derived.Test.YthgbfaoblnkniaaGreatDoorZm
import Derived.Test.YthgbfaoblnkniaaGreatDoorZxPaX
import Derived.Test.YthgbfaoblnkniaaGreatDoorZq
import Derived.Test.YthgbfaoblnkniaaGreatDoorZd
import Derived.Laws.AppendOwnNone
import Derived.Test.YthgbfaoblnkniaaGreatDoorZn
namespace Go.Proofs.YthgbfaoblnkniaaGreatDoor
open Go.RowKit Go.Lib
end Go.Proofs.YthgbfaoblnkniaaGreatDoor

namespace Go.Proofs.YthgbfaoblnkniaaGreatDoor
open Go.RowKit Go.Lib Go.Maps Go.WideMaps
theorem histV_form {w : World} {v : Value} {h : HistM} (hv : HistV w v h) : ∃ p0 c0 p1 c1 p2 c2, v = .agg #[.slice p0 h.1.length c0, .slice p1 h.2.1.length c1, .slice p2 h.2.2.length c2] := by
 obtain ⟨v0, v1, v2, rfl, ⟨p0, c0, rfl, -⟩, ⟨p1, c1, rfl, -⟩, ⟨p2, c2, rfl, -⟩⟩ := hv
 exact ⟨_, _, _, _, _, _, rfl⟩
theorem histV_parts {w : World} {v0 v1 v2 : Value} {h : HistM} (hv : HistV w (.agg #[v0, v1, v2]) h) : Texts w v0 h.1 ∧ Texts w v1 h.2.1 ∧ TxnsS w v2 h.2.2 := by
 obtain ⟨u0, u1, u2, e, h0, h1, h2⟩ := hv
 injection e with e
 have e' : [v0, v1, v2] = [u0, u1, u2] := congrArg Array.toList e
 injection e' with e0 e'
 injection e' with e1 e'
 injection e' with e2 _
 subst e0 e1 e2
 exact ⟨h0, h1, h2⟩
end Go.Proofs.YthgbfaoblnkniaaGreatDoor

namespace Go.Proofs.YthgbfaoblnkniaaGreatDoor
open Go.RowKit Go.Lib Go.Maps
abbrev EntR := Value × Value
def noR : EntR := (.slice none 0 0, .slice none 0 0)
def noQ : DraftM × EntR := (noD, noR)
def wtc (p : DraftM × EntR) : List Value := [.int .i64 0, .int .i64 p.1.fate, p.2.1]
def nmd (d : DraftM) : List Value := [.string (bs d.nm)]
def lnd (d : DraftM) : List Value := [.int .i64 d.ln]
def opd (d : DraftM) : List Value := [.bool d.op]
def ksd (e : EntR) : List Value := [e.2]
theorem wtc_len (p : DraftM × EntR) : (wtc p).length = 3 := rfl
theorem nmd_strs (L : List DraftM) : L.flatMap nmd = strs (namesD L) := by
 induction L with
 | nil => rfl
 | cons d L ih => rw [List.flatMap_cons, ih]; rfl
structure WI (w : World) (B gm : Nat) (L : List DraftM) (vT vN vK vL vO : Value) (E : List EntR) : Prop where
 bx : Blk w gm 109 [.slice none 0 0, .slice none 0 0, vT, vN, vK, vL, vO]
 base : B ≤ gm
 len : E.length = L.length
 rT : w.ownsRow B 43 3 vT L.length ((L.zip E).flatMap wtc)
 rN : w.ownsRow B 9 1 vN L.length (L.flatMap nmd)
 rK : w.ownsRow B 22 1 vK L.length (E.flatMap ksd)
 rL : w.ownsRow B 3 1 vL L.length (L.flatMap lnd)
 rO : w.ownsRow B 4 1 vO L.length (L.flatMap opd)
 ops : ∀ i, i < L.length → w.ownsRow B 50 4 (E.getD i noR).1 (L.getD i noD).ops.length ((L.getD i noD).ops.flatMap opc)
 ks : ∀ i, i < L.length → w.ownsRow B 9 1 (E.getD i noR).2 (L.getD i noD).ks.length (strs (L.getD i noD).ks)
 neo : ∀ i j, i < j → j < L.length → ∀ g, (E.getD i noR).1.ownBlock = some g → (E.getD j noR).1.ownBlock ≠ some g
 nek : ∀ i j, i < j → j < L.length → ∀ g, (E.getD i noR).2.ownBlock = some g → (E.getD j noR).2.ownBlock ≠ some g
 nkn : ∀ i, i < L.length → ∀ g, (E.getD i noR).2.ownBlock = some g → vN.ownBlock ≠ some g
theorem WI.below {w w' : World} {B gm : Nat} {L : List DraftM} {vT vN vK vL vO : Value} {E : List EntR} (h : WI w B gm L vT vN vK vL vO E) (hb : Below w.heap.size w w') : WI w' B gm L vT vN vK vL vO E :=
 ⟨h.bx.later hb, h.base, h.len, owns_later h.rT hb, owns_later h.rN hb, owns_later h.rK hb, owns_later h.rL hb, owns_later h.rO hb, fun i hi => owns_later (h.ops i hi) hb, fun i hi => owns_later (h.ks i hi) hb, h.neo, h.nek, h.nkn⟩
theorem wi_new (w : World) {B : Nat} (hB : B ≤ w.heap.size) : WI (w.alloc (.cells #[.slice none 0 0, .slice none 0 0, .slice none 0 0, .slice none 0 0, .slice none 0 0, .slice none 0 0, .slice none 0 0] 109)) B w.heap.size [] (.slice none 0 0) (.slice none 0 0) (.slice none 0 0) (.slice none 0 0) (.slice none 0 0) [] :=
 ⟨Blk.new w _ [.slice none 0 0, .slice none 0 0, .slice none 0 0, .slice none 0 0, .slice none 0 0, .slice none 0 0, .slice none 0 0], hB, rfl, World.ownsRow_nil _ _ _ _, World.ownsRow_nil _ _ _ _, World.ownsRow_nil _ _ _ _, World.ownsRow_nil _ _ _ _, World.ownsRow_nil _ _ _ _,
  fun i hi => absurd hi (Nat.not_lt_zero i), fun i hi => absurd hi (Nat.not_lt_zero i), fun _i j _ hj => absurd hj (Nat.not_lt_zero j), fun _i j _ hj => absurd hj (Nat.not_lt_zero j), fun i hi => absurd hi (Nat.not_lt_zero i)⟩
theorem own_cell {α : Type} {f : α → List Value} {s : Nat} (d : α) (hf : ∀ x, (f x).length = s) {w : World} {B n : Nat} {e : TypeId} {v : Value} {L : List α} (h : w.ownsRow B e s v n (L.flatMap f)) (hn : L.length = n) (j : Nat) (hj : j < n) : ∃ g cap, v = .slice (some ⟨g, 0, none⟩) n cap ∧ (∀ i u, (f (L.getD j d))[i]? = some u → w.cell? ⟨g, j * s + i, none⟩ = some u) ∧ ∀ i, w.frozen? ⟨g, i, none⟩ = false := by
 subst hn
 obtain ⟨p, cap, hv, hc⟩ := own_sls d hf h
 obtain ⟨g, rfl, hg⟩ := hc j hj
 subst hv
 exact ⟨g, cap, rfl, hg, fun i => h.frozenAt i⟩
def atI (L : List DraftM) (s : List UInt8) : Int := if atD L s < L.length then (atD L s : Nat) else -1
theorem atI_at (L : List DraftM) (s : List UInt8) (k : Nat) (hk : k < L.length) (h : isAt s (L.getD k noD) = true) (hb : ∀ j, j < k → isAt s (L.getD j noD) = false) : atI L s = (k : Nat) := by
 have e : atD L s = k := by
  unfold atD
  rw [List.findIdx_eq hk]
  refine ⟨by simpa [hk] using h, fun j hj => ?_⟩
  have := hb j hj
  have hjl : j < L.length := by omega
  simpa [hjl] using this
 unfold atI
 rw [e, if_pos hk]
theorem atI_no (L : List DraftM) (s : List UInt8) (hb : ∀ j, j < L.length → isAt s (L.getD j noD) = false) : atI L s = -1 := by
 unfold atI
 refine if_neg (fun hlt => ?_)
 obtain ⟨o1, o2⟩ := atD_spec L s hlt
 have := hb _ hlt
 unfold isAt at this
 rw [o1, o2] at this
 simp at this
set_option maxRecDepth 100000 in
set_option maxHeartbeats 1000000 in
theorem rat10_any {w : World} {B gm : Nat} {L : List DraftM} {vT vN vK vL vO : Value} {E : List EntR} (s : List UInt8) (h : WI w B gm L vT vN vK vL vO E) (hL : L.length ≤ 1000) :
  Calls Tryz.prog 117 #[.pointer (some ⟨gm, 0, none⟩), .string (bs s)] w fun e w' => e = .returned (.int .i64 (atI L s)) ∧ w' = w := by
 obtain ⟨pO, cO, rfl⟩ := owns_form h.rO
 obtain ⟨pN, cN, rfl⟩ := owns_form h.rN
 have hb4 := h.bx.cell 6 rfl
 have hb1 := h.bx.cell 3 rfl
 have HO := Lib.hid h.rO
 have HN := Lib.hid h.rN
 have HY := Lib.hid (atI_at L s)
 have HZ := Lib.hid (atI_no L s)
 obtain ⟨r, hr⟩ : ∃ r, atI L s = r := ⟨_, rfl⟩
 rw [hr] at HY HZ ⊢
 clear h hr
 go_enter Tryz.func117, Tryz.ntmps117
 go_wp2_with fail
 go_loopw [5] (fun i wr => ∃ k : Nat, k ≤ L.length ∧ i = .int .i64 k ∧ (∀ j, j < k → isAt s (L.getD j noD) = false) ∧ wr = w) (fun i _ => L.length - (RowKit.intOf i).toNat)
 case atStart => exact ⟨0, Nat.zero_le _, rfl, fun j hj => absurd hj (Nat.not_lt_zero j), rfl⟩
 case round =>
  obtain ⟨k, hk, rfl, hno, rfl⟩ := hrel
  have HNo := Lib.hid hno
  clear hno
  by_cases hk1 : k < L.length
  ·obtain ⟨gO, c1, e1, a1, -⟩ := own_cell (f := opd) (s := 1) noD (fun _ => rfl) HO.out rfl k hk1
   obtain ⟨gN, c2, e2, a2, -⟩ := own_cell (f := nmd) (s := 1) noD (fun _ => rfl) HN.out rfl k hk1
   injection e1 with e1 _ e1'
   injection e2 with e2 _ e2'
   subst e1 e2 e1' e2'
   have b1 := a1 0 _ rfl
   have b2 := a2 0 _ rfl
   simp only [Nat.mul_one, Nat.add_zero] at b1 b2
   obtain ⟨d, hd⟩ : ∃ d, L.getD k noD = d := ⟨_, rfl⟩
   have HIs : RowKit.Hid (∀ b, isAt s d = b → isAt s (L.getD k noD) = b) := Lib.hid (fun b hb => by rw [hd]; exact hb)
   rw [hd] at b1 b2
   clear hd a1 a2
   cases ho : d.op with
   | false =>
    rw [ho] at b1
    have HF := Lib.hid (HIs.out false (by unfold isAt; rw [ho]; rfl))
    clear HIs ho
    go_wp2_with fail
    go_roundw
    case rel => exact ⟨k + 1, by omega, by go_num, fun j hj => by
     rcases Nat.lt_or_ge j k with h1 | h1
     ·exact HNo.out j h1
     ·have e : j = k := by omega
      rw [e]; exact HF.out, by first | rfl | trivial⟩
    case measure => simp [RowKit.intOf]; omega
   | true =>
    rw [ho] at b1
    by_cases hs : d.nm = s
    ·have HT := Lib.hid (HY.out k hk1 (HIs.out true (by unfold isAt; rw [ho, hs]; simp)) HNo.out)
     rw [hs] at b2
     clear HIs ho hs
     go_wp2_with fail
     go_ret
     exact ⟨by rw [HT.out]; rfl, rfl⟩
    ·have HF := Lib.hid (HIs.out false (by unfold isAt; rw [ho]; simp [hs]))
     have hsb : (d.nm == s) = false := by simpa using hs
     clear HIs ho
     go_wp2_with fail
     go_roundw
     case rel => exact ⟨k + 1, by omega, by go_num, fun j hj => by
      rcases Nat.lt_or_ge j k with h1 | h1
      ·exact HNo.out j h1
      ·have e : j = k := by omega
       rw [e]; exact HF.out, by first | rfl | trivial⟩
     case measure => simp [RowKit.intOf]; omega
  ·have hke : k = L.length := by omega
   subst hke
   have HT := Lib.hid (HZ.out HNo.out)
   go_wp2_with fail
   go_ret
   exact ⟨by rw [HT.out]; rfl, rfl⟩
theorem keys_take (L : List DraftM) (k : Nat) (hk : k < L.length) : keysD (L.take (k + 1)) = keysD (L.take k) ++ (L.getD k noD).ks := by
 rw [List.take_succ_eq_append_getElem hk, keys_snoc]
 simp [hk]
theorem keys_few (L : List DraftM) (h : ∀ d ∈ L, d.ks.length ≤ 20) : (keysD L).length ≤ 20 * L.length := by
 induction L with
 | nil => simp [keysD]
 | cons d L ih =>
  have h1 := ih (fun x hx => h x (List.mem_cons_of_mem _ hx))
  have h2 := h d (List.mem_cons_self ..)
  have e : keysD (d :: L) = d.ks ++ keysD L := rfl
  rw [e, List.length_append, List.length_cons]
  omega
theorem strs_app (A B : List (List UInt8)) : strs A ++ strs B = strs (A ++ B) := by simp [strs]
set_option maxRecDepth 100000 in
set_option maxHeartbeats 2000000 in
theorem rkeys10_any {w : World} {B gm : Nat} {L : List DraftM} {vT vN vK vL vO : Value} {E : List EntR} (h : WI w B gm L vT vN vK vL vO E) (hL : L.length ≤ 1000) (hK : ∀ d ∈ L, d.ks.length ≤ 20) :
  Calls Tryz.prog 57 #[.pointer (some ⟨gm, 0, none⟩)] w fun e w' => ∃ v', e = .returned v' ∧ w'.ownsRow w.heap.size 9 1 v' (keysD L).length (strs (keysD L)) ∧ Below w.heap.size w w' := by
 have HW := Lib.hid h
 have hel := h.len
 obtain ⟨pK, cK, rfl⟩ := owns_form h.rK
 have hb2 := h.bx.cell 4 rfl
 have hlt := h.bx.lt
 have HR := Lib.hid h.rK
 have HFew := Lib.hid (fun k (hk : k ≤ L.length) => keys_few (L.take k) (fun d hd => hK d (List.mem_of_mem_take hd)))
 have HFe2 := Lib.hid (fun k (hk : k < L.length) => hK _ (getD_memD L k hk))
 have HOE := Lib.hid (own_empty (heap_alloc_new w (.cells #[] 9)) (Nat.le_refl _))
 obtain ⟨i0, hi, hz0, hz1, hz2⟩ := info_parts info_str
 have HEl := Lib.hid hel
 clear h hK hel
 go_enter Tryz.func57, Tryz.ntmps57
 go_wp2_with fail
 go_loopw [3, 4] (fun out i wr => ∃ k : Nat, k ≤ L.length ∧ i = .int .i64 k ∧ wr.ownsRow w.heap.size 9 1 out (keysD (L.take k)).length (strs (keysD (L.take k))) ∧ Below w.heap.size w wr) (fun _ i _ => L.length - (RowKit.intOf i).toNat)
 case atStart => exact ⟨0, Nat.zero_le _, rfl, HOE.out, (Below.refl _ _).alloc (Nat.le_refl _) _⟩
 case round =>
  obtain ⟨k, hk, rfl, hown, hbw⟩ := hrel
  have hb2' := cell_later hbw hb2
  have hfl := HFew.out k hk
  rw [List.length_take] at hfl
  by_cases hk1 : k < L.length
  ·obtain ⟨gK, c1, e1, a1, -⟩ := own_cell (f := ksd) (s := 1) noR (fun _ => rfl) (owns_later HR.out hbw) HEl.out k hk1
   injection e1 with e1 _ e1'
   subst e1 e1'
   have b1 := a1 0 _ rfl
   simp only [Nat.mul_one, Nat.add_zero] at b1
   have hks := owns_later (HW.out.ks k hk1) hbw
   have hkf := HFe2.out k hk1
   have HNx := Lib.hid (keys_take L k hk1)
   obtain ⟨d, hd⟩ : ∃ d, (L.getD k noD).ks = d := ⟨_, rfl⟩
   obtain ⟨⟨vo, vk⟩, he⟩ : ∃ e, E.getD k noR = e := ⟨_, rfl⟩
   rw [hd, he] at hks
   rw [he] at b1
   rw [hd] at HNx hkf
   dsimp only at hks b1
   clear a1 hd he
   rcases id hks.2 with ⟨rfl, hn0⟩ | ⟨g, cap, cur, rfl, -⟩
   ·have hd0 : d = [] := List.eq_nil_of_length_eq_zero hn0
    subst hd0
    go_wp2_with (at_builtin; refine wpList_append_own_none rfl _ _ 22 rfl w.heap.size 9 i0 1 Tryz.underlying22 hi _ _ _ rfl hown rfl ?_)
    go_wp2_with fail
    go_roundw
    case rel => exact ⟨k + 1, by omega, by go_num, by rw [HNx.out, List.append_nil]; exact hown, hbw⟩
    case measure => simp [RowKit.intOf]; omega
   ·have hcs := hks.cells (g := g) rfl
    go_wp2_with (at_builtin; refine wpList_append_own _ rfl _ _ 22 rfl w.heap.size 9 i0 (.string ByteArray.empty) 1 16 Tryz.underlying22 hi hz0 hz1 hz2 rfl (by decide) _ _ _ rfl hown ⟨g, 0, none⟩ d.length cap (strs d) rfl (by simp [strs]) hcs (ones_strs _) (by unfold maxLen; omega) (by omega) hbw.size ?_)
    intro v4 w4 hown4 hgrow hnil
    have hb4 : Below w.heap.size w w4 := hbw.grown hgrow hbw.size (fun q hq => (hown.lt q hq).1)
    rw [strs_app, ← List.length_append, ← HNx.out] at hown4
    clear hown hgrow hnil hks hcs hbw
    go_wp2_with fail
    go_roundw
    case rel => exact ⟨k + 1, by omega, by go_num, hown4, hb4⟩
    case measure => simp [RowKit.intOf]; omega
  ·have hke : k = L.length := by omega
   subst hke
   rw [List.take_length] at hown
   have HO := Lib.hid hown
   clear hown
   go_wp2_with fail
   go_ret
   exact ⟨_, rfl, HO.out, hbw⟩
end Go.Proofs.YthgbfaoblnkniaaGreatDoor

namespace Go.Proofs.YthgbfaoblnkniaaGreatDoor
open Go.RowKit Go.Lib Go.Maps
section
variable {P : Program} {ops : Array Oper} {Q : Exit → Act → World → Prop} {md : Region.Mode} {S : World → Prop} {late : List Nat}
theorem wpAnyM_steps (I : Act → Nat → Array Bool → Act → World → Prop) (A0 : Act) (fuel : Nat)
  (hr : ∀ n listed a w, I A0 (n + 1) listed a w → Region.ready md ops listed ≠ [])
  (hs : ∀ n listed a w, I A0 (n + 1) listed a w → ∀ i o, i ∈ Region.ready md ops listed → ops[i]? = some o → ∀ K : Act → World → Prop, RowKit.Hid (∀ a' w', (late.contains i = false → S w → S w') → I A0 n (listed.setIfInBounds i true) a' w' → K a' w') → if Region.wanted o (yielded ops a.tmps) = true then Oper.wp P o a w K Q else K (a.put o.dst undef) w)
  (he : ∀ listed a w, I A0 0 listed a w → wpAnyM P md ops Q S late fuel listed a w) : ∀ n listed a w, I A0 n listed a w → wpAnyM P md ops Q S late (fuel + n) listed a w
 | 0, listed, a, w, h => he listed a w h
 | n + 1, listed, a, w, h => ⟨fun h0 => absurd h0 (hr n listed a w h), fun i hi => by
  obtain ⟨-, o, ho, -⟩ := mem_ready.1 hi
  exact wpOp_step ho (fun K hK => hs n listed a w h i o hi ho K (Lib.hid (fun a' w' g1 g2 => hK a' w' ⟨g1, wpAnyM_steps I A0 fuel hr hs he n _ a' w' g2⟩)))⟩
end
structure R10 (w : World) (B gm : Nat) (L : List DraftM) (E : List EntR) (s : List UInt8) (ln : Int) (nT : Nat) (xT : List Value) (vT oN oK oL oO : Value) (s1 s2 s3 s4 : Nat) (vN vK vL vO t1 t2 t3 t4 : Value) : Prop where
 bx : Blk w gm 109 [.slice none 0 0, .slice none 0 0, vT, oN, oK, oL, oO]
 rT : w.ownsRow B 43 3 vT nT xT
 a1 : s1 ≠ 2 → w.ownsRow B 9 1 oN L.length (L.flatMap nmd)
 b1 : s1 = 2 → w.ownsRow B 9 1 vN (L.length + 1) (L.flatMap nmd ++ [.string (bs s)])
 c1 : s1 = 1 → ∃ b, t1 = .slice (some ⟨b, 0, none⟩) 1 1 ∧ Blk w b 9 [.string (bs s)]
 a2 : s2 ≠ 2 → w.ownsRow B 22 1 oK L.length (E.flatMap ksd)
 b2 : s2 = 2 → w.ownsRow B 22 1 vK (L.length + 1) (E.flatMap ksd ++ [.slice none 0 0])
 c2 : s2 = 1 → ∃ b, t2 = .slice (some ⟨b, 0, none⟩) 1 1 ∧ Blk w b 22 [.slice none 0 0]
 a3 : s3 ≠ 2 → w.ownsRow B 3 1 oL L.length (L.flatMap lnd)
 b3 : s3 = 2 → w.ownsRow B 3 1 vL (L.length + 1) (L.flatMap lnd ++ [.int .i64 ln])
 c3 : s3 = 1 → ∃ b, t3 = .slice (some ⟨b, 0, none⟩) 1 1 ∧ Blk w b 3 [.int .i64 ln]
 a4 : s4 ≠ 2 → w.ownsRow B 4 1 oO L.length (L.flatMap opd)
 b4 : s4 = 2 → w.ownsRow B 4 1 vO (L.length + 1) (L.flatMap opd ++ [.bool true])
 c4 : s4 = 1 → ∃ b, t4 = .slice (some ⟨b, 0, none⟩) 1 1 ∧ Blk w b 4 [.bool true]
 ops : ∀ i, i < L.length → w.ownsRow B 50 4 (E.getD i noR).1 (L.getD i noD).ops.length ((L.getD i noD).ops.flatMap opc)
 ks : ∀ i, i < L.length → w.ownsRow B 9 1 (E.getD i noR).2 (L.getD i noD).ks.length (strs (L.getD i noD).ks)
 n1 : s1 ≠ 2 → ∀ i, i < L.length → ∀ g, (E.getD i noR).2.ownBlock = some g → oN.ownBlock ≠ some g
 n2 : s1 = 2 → ∀ i, i < L.length → ∀ g, (E.getD i noR).2.ownBlock = some g → vN.ownBlock ≠ some g
theorem R10.alloc1 {w : World} {B gm : Nat} {L : List DraftM} {E : List EntR} {s : List UInt8} {ln : Int} {vT oN oK oL oO vN vK vL vO t1 t2 t3 t4 : Value} {_s1 s2 s3 s4 nT : Nat} {xT : List Value} (h : R10 w B gm L E s ln nT xT vT oN oK oL oO 0 s2 s3 s4 vN vK vL vO t1 t2 t3 t4) : R10 (w.alloc (.cells #[.string (bs s)] 9)) B gm L E s ln nT xT vT oN oK oL oO 1 s2 s3 s4 vN vK vL vO (.slice (some ⟨w.heap.size, 0, none⟩) 1 1) t2 t3 t4 := by
 exact ⟨h.bx.alloc _,
  h.rT.alloc _,
  fun _ => (h.a1 (by decide)).alloc _,
  fun e => (by cases e),
  fun _ => ⟨_, rfl, Blk.new w _ [.string (bs s)]⟩,
  fun e => (h.a2 e).alloc _,
  fun e => (h.b2 e).alloc _,
  fun e => by
  obtain ⟨b, e1, e2⟩ := h.c2 e
  exact ⟨b, e1, e2.alloc _⟩,
  fun e => (h.a3 e).alloc _,
  fun e => (h.b3 e).alloc _,
  fun e => by
  obtain ⟨b, e1, e2⟩ := h.c3 e
  exact ⟨b, e1, e2.alloc _⟩,
  fun e => (h.a4 e).alloc _,
  fun e => (h.b4 e).alloc _,
  fun e => by
  obtain ⟨b, e1, e2⟩ := h.c4 e
  exact ⟨b, e1, e2.alloc _⟩,
  fun i hi => (h.ops i hi).alloc _,
  fun i hi => (h.ks i hi).alloc _,
  fun _ => h.n1 (by decide),
  fun e => (by cases e)⟩
theorem R10.app1 {w w' : World} {v' : Value} {B gm : Nat} {L : List DraftM} {E : List EntR} {s : List UInt8} {ln : Int} {vT oN oK oL oO vN vK vL vO t1 t2 t3 t4 : Value} {_s1 s2 s3 s4 nT : Nat} {xT : List Value} (h : R10 w B gm L E s ln nT xT vT oN oK oL oO 1 s2 s3 s4 vN vK vL vO t1 t2 t3 t4) (hg : w.grownBy w' oN.ownBlock) (hown : w'.ownsRow B 9 1 v' (L.length + 1) (L.flatMap nmd ++ [.string (bs s)])) (hat : v'.ownBlock = oN.ownBlock ∨ v'.ownBlock = some w.heap.size) : R10 w' B gm L E s ln nT xT vT oN oK oL oO 2 s2 s3 s4 v' vK vL vO t1 t2 t3 t4 := by
 have hr := h.a1 (by decide)
 have kb : ∀ {q t}, Ty w q t → t ≠ 9 → w'.heap[q]? = w.heap[q]? := fun {q t} hq hne => hg.block q hq.lt (fun e => (hq.ne (owns_ty hr e.symm) hne) rfl)
 exact ⟨h.bx.at (kb h.bx.ty (by decide)),
  owns_other h.rT hr (by decide) hg,
  fun e => absurd rfl e,
  fun _ => hown,
  fun e => (by cases e),
  fun e => owns_other (h.a2 e) hr (by decide) hg,
  fun e => owns_other (h.b2 e) hr (by decide) hg,
  fun e => by
  obtain ⟨b, e1, e2⟩ := h.c2 e
  exact ⟨b, e1, e2.at (kb e2.ty (by decide))⟩,
  fun e => owns_other (h.a3 e) hr (by decide) hg,
  fun e => owns_other (h.b3 e) hr (by decide) hg,
  fun e => by
  obtain ⟨b, e1, e2⟩ := h.c3 e
  exact ⟨b, e1, e2.at (kb e2.ty (by decide))⟩,
  fun e => owns_other (h.a4 e) hr (by decide) hg,
  fun e => owns_other (h.b4 e) hr (by decide) hg,
  fun e => by
  obtain ⟨b, e1, e2⟩ := h.c4 e
  exact ⟨b, e1, e2.at (kb e2.ty (by decide))⟩,
  fun i hi => owns_other (h.ops i hi) hr (by decide) hg,
  fun i hi => owns_at (h.ks i hi) (fun q hq => hg.block q (own_lt (h.ks i hi) hq) (fun e => h.n1 (by decide) i hi q hq e.symm)),
  fun e => absurd rfl e,
  fun _ i hi g hg1 hg2 => by
  rcases hat with e | e
  ·rw [e] at hg2; exact h.n1 (by decide) i hi g hg1 hg2
  ·rw [e] at hg2
   injection hg2 with hg2
   have := own_lt (h.ks i hi) hg1
   omega⟩
theorem R10.alloc2 {w : World} {B gm : Nat} {L : List DraftM} {E : List EntR} {s : List UInt8} {ln : Int} {vT oN oK oL oO vN vK vL vO t1 t2 t3 t4 : Value} {s1 _s2 s3 s4 nT : Nat} {xT : List Value} (h : R10 w B gm L E s ln nT xT vT oN oK oL oO s1 0 s3 s4 vN vK vL vO t1 t2 t3 t4) : R10 (w.alloc (.cells #[.slice none 0 0] 22)) B gm L E s ln nT xT vT oN oK oL oO s1 1 s3 s4 vN vK vL vO t1 (.slice (some ⟨w.heap.size, 0, none⟩) 1 1) t3 t4 := by
 exact ⟨h.bx.alloc _,
  h.rT.alloc _,
  fun e => (h.a1 e).alloc _,
  fun e => (h.b1 e).alloc _,
  fun e => by
  obtain ⟨b, e1, e2⟩ := h.c1 e
  exact ⟨b, e1, e2.alloc _⟩,
  fun _ => (h.a2 (by decide)).alloc _,
  fun e => (by cases e),
  fun _ => ⟨_, rfl, Blk.new w _ [.slice none 0 0]⟩,
  fun e => (h.a3 e).alloc _,
  fun e => (h.b3 e).alloc _,
  fun e => by
  obtain ⟨b, e1, e2⟩ := h.c3 e
  exact ⟨b, e1, e2.alloc _⟩,
  fun e => (h.a4 e).alloc _,
  fun e => (h.b4 e).alloc _,
  fun e => by
  obtain ⟨b, e1, e2⟩ := h.c4 e
  exact ⟨b, e1, e2.alloc _⟩,
  fun i hi => (h.ops i hi).alloc _,
  fun i hi => (h.ks i hi).alloc _,
  h.n1,
  h.n2⟩
theorem R10.app2 {w w' : World} {v' : Value} {B gm : Nat} {L : List DraftM} {E : List EntR} {s : List UInt8} {ln : Int} {vT oN oK oL oO vN vK vL vO t1 t2 t3 t4 : Value} {s1 _s2 s3 s4 nT : Nat} {xT : List Value} (h : R10 w B gm L E s ln nT xT vT oN oK oL oO s1 1 s3 s4 vN vK vL vO t1 t2 t3 t4) (hg : w.grownBy w' oK.ownBlock) (hown : w'.ownsRow B 22 1 v' (L.length + 1) (E.flatMap ksd ++ [.slice none 0 0])) (_hat : v'.ownBlock = oK.ownBlock ∨ v'.ownBlock = some w.heap.size) : R10 w' B gm L E s ln nT xT vT oN oK oL oO s1 2 s3 s4 vN v' vL vO t1 t2 t3 t4 := by
 have hr := h.a2 (by decide)
 have kb : ∀ {q t}, Ty w q t → t ≠ 22 → w'.heap[q]? = w.heap[q]? := fun {q t} hq hne => hg.block q hq.lt (fun e => (hq.ne (owns_ty hr e.symm) hne) rfl)
 exact ⟨h.bx.at (kb h.bx.ty (by decide)),
  owns_other h.rT hr (by decide) hg,
  fun e => owns_other (h.a1 e) hr (by decide) hg,
  fun e => owns_other (h.b1 e) hr (by decide) hg,
  fun e => by
  obtain ⟨b, e1, e2⟩ := h.c1 e
  exact ⟨b, e1, e2.at (kb e2.ty (by decide))⟩,
  fun e => absurd rfl e,
  fun _ => hown,
  fun e => (by cases e),
  fun e => owns_other (h.a3 e) hr (by decide) hg,
  fun e => owns_other (h.b3 e) hr (by decide) hg,
  fun e => by
  obtain ⟨b, e1, e2⟩ := h.c3 e
  exact ⟨b, e1, e2.at (kb e2.ty (by decide))⟩,
  fun e => owns_other (h.a4 e) hr (by decide) hg,
  fun e => owns_other (h.b4 e) hr (by decide) hg,
  fun e => by
  obtain ⟨b, e1, e2⟩ := h.c4 e
  exact ⟨b, e1, e2.at (kb e2.ty (by decide))⟩,
  fun i hi => owns_other (h.ops i hi) hr (by decide) hg,
  fun i hi => owns_other (h.ks i hi) hr (by decide) hg,
  h.n1,
  h.n2⟩
theorem R10.alloc3 {w : World} {B gm : Nat} {L : List DraftM} {E : List EntR} {s : List UInt8} {ln : Int} {vT oN oK oL oO vN vK vL vO t1 t2 t3 t4 : Value} {s1 s2 _s3 s4 nT : Nat} {xT : List Value} (h : R10 w B gm L E s ln nT xT vT oN oK oL oO s1 s2 0 s4 vN vK vL vO t1 t2 t3 t4) : R10 (w.alloc (.cells #[.int .i64 ln] 3)) B gm L E s ln nT xT vT oN oK oL oO s1 s2 1 s4 vN vK vL vO t1 t2 (.slice (some ⟨w.heap.size, 0, none⟩) 1 1) t4 := by
 exact ⟨h.bx.alloc _,
  h.rT.alloc _,
  fun e => (h.a1 e).alloc _,
  fun e => (h.b1 e).alloc _,
  fun e => by
  obtain ⟨b, e1, e2⟩ := h.c1 e
  exact ⟨b, e1, e2.alloc _⟩,
  fun e => (h.a2 e).alloc _,
  fun e => (h.b2 e).alloc _,
  fun e => by
  obtain ⟨b, e1, e2⟩ := h.c2 e
  exact ⟨b, e1, e2.alloc _⟩,
  fun _ => (h.a3 (by decide)).alloc _,
  fun e => (by cases e),
  fun _ => ⟨_, rfl, Blk.new w _ [.int .i64 ln]⟩,
  fun e => (h.a4 e).alloc _,
  fun e => (h.b4 e).alloc _,
  fun e => by
  obtain ⟨b, e1, e2⟩ := h.c4 e
  exact ⟨b, e1, e2.alloc _⟩,
  fun i hi => (h.ops i hi).alloc _,
  fun i hi => (h.ks i hi).alloc _,
  h.n1,
  h.n2⟩
theorem R10.app3 {w w' : World} {v' : Value} {B gm : Nat} {L : List DraftM} {E : List EntR} {s : List UInt8} {ln : Int} {vT oN oK oL oO vN vK vL vO t1 t2 t3 t4 : Value} {s1 s2 _s3 s4 nT : Nat} {xT : List Value} (h : R10 w B gm L E s ln nT xT vT oN oK oL oO s1 s2 1 s4 vN vK vL vO t1 t2 t3 t4) (hg : w.grownBy w' oL.ownBlock) (hown : w'.ownsRow B 3 1 v' (L.length + 1) (L.flatMap lnd ++ [.int .i64 ln])) (_hat : v'.ownBlock = oL.ownBlock ∨ v'.ownBlock = some w.heap.size) : R10 w' B gm L E s ln nT xT vT oN oK oL oO s1 s2 2 s4 vN vK v' vO t1 t2 t3 t4 := by
 have hr := h.a3 (by decide)
 have kb : ∀ {q t}, Ty w q t → t ≠ 3 → w'.heap[q]? = w.heap[q]? := fun {q t} hq hne => hg.block q hq.lt (fun e => (hq.ne (owns_ty hr e.symm) hne) rfl)
 exact ⟨h.bx.at (kb h.bx.ty (by decide)),
  owns_other h.rT hr (by decide) hg,
  fun e => owns_other (h.a1 e) hr (by decide) hg,
  fun e => owns_other (h.b1 e) hr (by decide) hg,
  fun e => by
  obtain ⟨b, e1, e2⟩ := h.c1 e
  exact ⟨b, e1, e2.at (kb e2.ty (by decide))⟩,
  fun e => owns_other (h.a2 e) hr (by decide) hg,
  fun e => owns_other (h.b2 e) hr (by decide) hg,
  fun e => by
  obtain ⟨b, e1, e2⟩ := h.c2 e
  exact ⟨b, e1, e2.at (kb e2.ty (by decide))⟩,
  fun e => absurd rfl e,
  fun _ => hown,
  fun e => (by cases e),
  fun e => owns_other (h.a4 e) hr (by decide) hg,
  fun e => owns_other (h.b4 e) hr (by decide) hg,
  fun e => by
  obtain ⟨b, e1, e2⟩ := h.c4 e
  exact ⟨b, e1, e2.at (kb e2.ty (by decide))⟩,
  fun i hi => owns_other (h.ops i hi) hr (by decide) hg,
  fun i hi => owns_other (h.ks i hi) hr (by decide) hg,
  h.n1,
  h.n2⟩
theorem R10.alloc4 {w : World} {B gm : Nat} {L : List DraftM} {E : List EntR} {s : List UInt8} {ln : Int} {vT oN oK oL oO vN vK vL vO t1 t2 t3 t4 : Value} {s1 s2 s3 _s4 nT : Nat} {xT : List Value} (h : R10 w B gm L E s ln nT xT vT oN oK oL oO s1 s2 s3 0 vN vK vL vO t1 t2 t3 t4) : R10 (w.alloc (.cells #[.bool true] 4)) B gm L E s ln nT xT vT oN oK oL oO s1 s2 s3 1 vN vK vL vO t1 t2 t3 (.slice (some ⟨w.heap.size, 0, none⟩) 1 1) := by
 exact ⟨h.bx.alloc _,
  h.rT.alloc _,
  fun e => (h.a1 e).alloc _,
  fun e => (h.b1 e).alloc _,
  fun e => by
  obtain ⟨b, e1, e2⟩ := h.c1 e
  exact ⟨b, e1, e2.alloc _⟩,
  fun e => (h.a2 e).alloc _,
  fun e => (h.b2 e).alloc _,
  fun e => by
  obtain ⟨b, e1, e2⟩ := h.c2 e
  exact ⟨b, e1, e2.alloc _⟩,
  fun e => (h.a3 e).alloc _,
  fun e => (h.b3 e).alloc _,
  fun e => by
  obtain ⟨b, e1, e2⟩ := h.c3 e
  exact ⟨b, e1, e2.alloc _⟩,
  fun _ => (h.a4 (by decide)).alloc _,
  fun e => (by cases e),
  fun _ => ⟨_, rfl, Blk.new w _ [.bool true]⟩,
  fun i hi => (h.ops i hi).alloc _,
  fun i hi => (h.ks i hi).alloc _,
  h.n1,
  h.n2⟩
theorem R10.app4 {w w' : World} {v' : Value} {B gm : Nat} {L : List DraftM} {E : List EntR} {s : List UInt8} {ln : Int} {vT oN oK oL oO vN vK vL vO t1 t2 t3 t4 : Value} {s1 s2 s3 _s4 nT : Nat} {xT : List Value} (h : R10 w B gm L E s ln nT xT vT oN oK oL oO s1 s2 s3 1 vN vK vL vO t1 t2 t3 t4) (hg : w.grownBy w' oO.ownBlock) (hown : w'.ownsRow B 4 1 v' (L.length + 1) (L.flatMap opd ++ [.bool true])) (_hat : v'.ownBlock = oO.ownBlock ∨ v'.ownBlock = some w.heap.size) : R10 w' B gm L E s ln nT xT vT oN oK oL oO s1 s2 s3 2 vN vK vL v' t1 t2 t3 t4 := by
 have hr := h.a4 (by decide)
 have kb : ∀ {q t}, Ty w q t → t ≠ 4 → w'.heap[q]? = w.heap[q]? := fun {q t} hq hne => hg.block q hq.lt (fun e => (hq.ne (owns_ty hr e.symm) hne) rfl)
 exact ⟨h.bx.at (kb h.bx.ty (by decide)),
  owns_other h.rT hr (by decide) hg,
  fun e => owns_other (h.a1 e) hr (by decide) hg,
  fun e => owns_other (h.b1 e) hr (by decide) hg,
  fun e => by
  obtain ⟨b, e1, e2⟩ := h.c1 e
  exact ⟨b, e1, e2.at (kb e2.ty (by decide))⟩,
  fun e => owns_other (h.a2 e) hr (by decide) hg,
  fun e => owns_other (h.b2 e) hr (by decide) hg,
  fun e => by
  obtain ⟨b, e1, e2⟩ := h.c2 e
  exact ⟨b, e1, e2.at (kb e2.ty (by decide))⟩,
  fun e => owns_other (h.a3 e) hr (by decide) hg,
  fun e => owns_other (h.b3 e) hr (by decide) hg,
  fun e => by
  obtain ⟨b, e1, e2⟩ := h.c3 e
  exact ⟨b, e1, e2.at (kb e2.ty (by decide))⟩,
  fun e => absurd rfl e,
  fun _ => hown,
  fun e => (by cases e),
  fun i hi => owns_other (h.ops i hi) hr (by decide) hg,
  fun i hi => owns_other (h.ks i hi) hr (by decide) hg,
  h.n1,
  h.n2⟩
def mkL (s1 s2 s3 s4 : Nat) : Array Bool := ((List.range 44).map fun j => decide (j < 32) && !(decide (j = 10) && decide (s1 < 1)) && !(decide (j = 11) && decide (s1 < 2)) && !(decide (j = 16) && decide (s2 < 1)) && !(decide (j = 17) && decide (s2 < 2)) && !(decide (j = 24) && decide (s3 < 1)) && !(decide (j = 25) && decide (s3 < 2)) && !(decide (j = 30) && decide (s4 < 1)) && !(decide (j = 31) && decide (s4 < 2))).toArray
theorem mkL_10 {s2 s3 s4 : Nat} (h : s2 ≤ 2 ∧ s3 ≤ 2 ∧ s4 ≤ 2) : (mkL 0 s2 s3 s4).setIfInBounds 10 true = mkL 1 s2 s3 s4 := by
 have H : ∀ s2 s3 s4 : Fin 3, (mkL 0 s2.val s3.val s4.val).setIfInBounds 10 true = mkL 1 s2.val s3.val s4.val := by decide +kernel
 exact H ⟨s2, by omega⟩ ⟨s3, by omega⟩ ⟨s4, by omega⟩
theorem mkL_11 {s2 s3 s4 : Nat} (h : s2 ≤ 2 ∧ s3 ≤ 2 ∧ s4 ≤ 2) : (mkL 1 s2 s3 s4).setIfInBounds 11 true = mkL 2 s2 s3 s4 := by
 have H : ∀ s2 s3 s4 : Fin 3, (mkL 1 s2.val s3.val s4.val).setIfInBounds 11 true = mkL 2 s2.val s3.val s4.val := by decide +kernel
 exact H ⟨s2, by omega⟩ ⟨s3, by omega⟩ ⟨s4, by omega⟩
theorem mkL_16 {s1 s3 s4 : Nat} (h : s1 ≤ 2 ∧ s3 ≤ 2 ∧ s4 ≤ 2) : (mkL s1 0 s3 s4).setIfInBounds 16 true = mkL s1 1 s3 s4 := by
 have H : ∀ s1 s3 s4 : Fin 3, (mkL s1.val 0 s3.val s4.val).setIfInBounds 16 true = mkL s1.val 1 s3.val s4.val := by decide +kernel
 exact H ⟨s1, by omega⟩ ⟨s3, by omega⟩ ⟨s4, by omega⟩
theorem mkL_17 {s1 s3 s4 : Nat} (h : s1 ≤ 2 ∧ s3 ≤ 2 ∧ s4 ≤ 2) : (mkL s1 1 s3 s4).setIfInBounds 17 true = mkL s1 2 s3 s4 := by
 have H : ∀ s1 s3 s4 : Fin 3, (mkL s1.val 1 s3.val s4.val).setIfInBounds 17 true = mkL s1.val 2 s3.val s4.val := by decide +kernel
 exact H ⟨s1, by omega⟩ ⟨s3, by omega⟩ ⟨s4, by omega⟩
theorem mkL_24 {s1 s2 s4 : Nat} (h : s1 ≤ 2 ∧ s2 ≤ 2 ∧ s4 ≤ 2) : (mkL s1 s2 0 s4).setIfInBounds 24 true = mkL s1 s2 1 s4 := by
 have H : ∀ s1 s2 s4 : Fin 3, (mkL s1.val s2.val 0 s4.val).setIfInBounds 24 true = mkL s1.val s2.val 1 s4.val := by decide +kernel
 exact H ⟨s1, by omega⟩ ⟨s2, by omega⟩ ⟨s4, by omega⟩
theorem mkL_25 {s1 s2 s4 : Nat} (h : s1 ≤ 2 ∧ s2 ≤ 2 ∧ s4 ≤ 2) : (mkL s1 s2 1 s4).setIfInBounds 25 true = mkL s1 s2 2 s4 := by
 have H : ∀ s1 s2 s4 : Fin 3, (mkL s1.val s2.val 1 s4.val).setIfInBounds 25 true = mkL s1.val s2.val 2 s4.val := by decide +kernel
 exact H ⟨s1, by omega⟩ ⟨s2, by omega⟩ ⟨s4, by omega⟩
theorem mkL_30 {s1 s2 s3 : Nat} (h : s1 ≤ 2 ∧ s2 ≤ 2 ∧ s3 ≤ 2) : (mkL s1 s2 s3 0).setIfInBounds 30 true = mkL s1 s2 s3 1 := by
 have H : ∀ s1 s2 s3 : Fin 3, (mkL s1.val s2.val s3.val 0).setIfInBounds 30 true = mkL s1.val s2.val s3.val 1 := by decide +kernel
 exact H ⟨s1, by omega⟩ ⟨s2, by omega⟩ ⟨s3, by omega⟩
theorem mkL_31 {s1 s2 s3 : Nat} (h : s1 ≤ 2 ∧ s2 ≤ 2 ∧ s3 ≤ 2) : (mkL s1 s2 s3 1).setIfInBounds 31 true = mkL s1 s2 s3 2 := by
 have H : ∀ s1 s2 s3 : Fin 3, (mkL s1.val s2.val s3.val 1).setIfInBounds 31 true = mkL s1.val s2.val s3.val 2 := by decide +kernel
 exact H ⟨s1, by omega⟩ ⟨s2, by omega⟩ ⟨s3, by omega⟩
end Go.Proofs.YthgbfaoblnkniaaGreatDoor

namespace Go.Proofs.YthgbfaoblnkniaaGreatDoor
open Go.RowKit Go.Lib Go.Maps
theorem set_split {α : Type} (M : List α) (i : Nat) (y : α) (hi : i < M.length) : M.set i y = M.take i ++ y :: M.drop (i + 1) := by
 rw [List.set_eq_take_append_cons_drop, if_pos hi]
theorem flat_at_set {α : Type} (f : α → List Value) (s : Nat) (hf : ∀ x, (f x).length = s) (d : α) (M : List α) (i j : Nat) (y : α) (u : Value) (hi : i < M.length) (hj : j < s) (hy : f y = (f (M.getD i d)).set j u) : (M.flatMap f).set (i * s + j) u = (M.set i y).flatMap f := by
 have e : M = M.take i ++ M.getD i d :: M.drop (i + 1) := by
  have h1 : M.getD i d = M[i] := by simp [hi]
  rw [h1, ← List.drop_eq_getElem_cons hi, List.take_append_drop]
 have hl : (M.take i).length = i := by simp; omega
 have h2 := flat_set f s hf (M.take i) (M.drop (i + 1)) (M.getD i d) y j u hj hy
 rw [hl, ← e] at h2
 rw [h2, set_split M i y hi]
theorem flat_same {α : Type} (f : α → List Value) (d : α) (M : List α) (i : Nat) (y : α) (hi : i < M.length) (hy : f y = f (M.getD i d)) : (M.set i y).flatMap f = M.flatMap f := by
 have e : M = M.take i ++ M.getD i d :: M.drop (i + 1) := by
  have h1 : M.getD i d = M[i] := by simp [hi]
  rw [h1, ← List.drop_eq_getElem_cons hi, List.take_append_drop]
 rw [set_split M i y hi]
 conv => rhs; rw [e]
 rw [List.flatMap_append, List.flatMap_append, List.flatMap_cons, List.flatMap_cons, hy]
theorem zip_set (L : List DraftM) (E : List EntR) (_hl : E.length = L.length) (i : Nat) (d : DraftM) (e : EntR) (_hi : i < L.length) : (L.set i d).zip (E.set i e) = (L.zip E).set i (d, e) := by
 apply List.ext_getElem
 ·simp
 ·intro j h1 h2
  simp only [List.getElem_zip, List.getElem_set]
  by_cases q : i = j
  ·simp [q]
  ·simp [q]
theorem zip_set1 (L : List DraftM) (E : List EntR) (hl : E.length = L.length) (i : Nat) (d : DraftM) (hi : i < L.length) : (L.set i d).zip E = (L.zip E).set i (d, E.getD i noR) := by
 have h2 : i < E.length := by omega
 have e : E.set i (E.getD i noR) = E := by
  have : E.getD i noR = E[i] := by simp [h2]
  rw [this, List.set_getElem_self]
 rw [← zip_set L E hl i d _ hi, e]
theorem zip_atR (L : List DraftM) (E : List EntR) (hl : E.length = L.length) (i : Nat) (hi : i < L.length) : (L.zip E).getD i noQ = (L.getD i noD, E.getD i noR) := by
 have h2 : i < E.length := by omega
 have h3 : i < (L.zip E).length := by simp; omega
 have e : (L.zip E).getD i noQ = (L.zip E)[i] := by simp [List.getD, List.getElem?_eq_getElem h3]
 rw [e, List.getElem_zip]
 simp [hi, h2]
theorem getD_setR (E : List EntR) (i j : Nat) (e : EntR) (hi : i < E.length) : (E.set i e).getD j noR = if i = j then e else E.getD j noR := by
 by_cases h : i = j
 ·subst h; simp [hi]
 ·rw [if_neg h]; simp [List.getElem?_set_ne h]
theorem getD_snocR (E : List EntR) (e : EntR) (i : Nat) (h : i < E.length) : (E ++ [e]).getD i noR = E.getD i noR := by simp [List.getElem?_append_left h]
theorem getD_snocR' (E : List EntR) (e : EntR) : (E ++ [e]).getD E.length noR = e := by simp
structure StR (w0 w : World) (B gm gx : Nat) (L : List DraftM) (vT vN vK vL vO : Value) (E : List EntR) (x : EventM) : Prop where
 wi : WI w B gm L vT vN vK vL vO E
 box : Blk w gx 47 [.int .i64 x.1, .string (bs x.2.1), .string (bs x.2.2.1), .int .i64 x.2.2.2.1, .int .i64 x.2.2.2.2.1, .int .i64 x.2.2.2.2.2]
 bel : Below w0.heap.size w0 w
theorem StR.below {w0 w w' : World} {B gm gx : Nat} {L : List DraftM} {vT vN vK vL vO : Value} {E : List EntR} {x : EventM} (h : StR w0 w B gm gx L vT vN vK vL vO E x) (hb : Below w.heap.size w w') : StR w0 w' B gm gx L vT vN vK vL vO E x :=
 ⟨h.wi.below hb, h.box.later hb, below_next h.bel hb⟩
theorem WI.fin {w : World} {B gm i gT cT gO cO : Nat} {L : List DraftM} {vN vK vL : Value} {E : List EntR} (h : WI w B gm L (.slice (some ⟨gT, 0, none⟩) L.length cT) vN vK vL (.slice (some ⟨gO, 0, none⟩) L.length cO) E) (hi : i < L.length) (f : Int) :
  WI ((w.setCell ⟨gT, i * 3 + 1, none⟩ (.int .i64 f)).setCell ⟨gO, i, none⟩ (.bool false)) B gm (L.set i (endD (L.getD i noD) f)) (.slice (some ⟨gT, 0, none⟩) L.length cT) vN vK vL (.slice (some ⟨gO, 0, none⟩) L.length cO) E := by
 have tT := owns_ty h.rT (g := gT) rfl
 have tO := owns_ty h.rO (g := gO) rfl
 have hne : gO ≠ gT := tO.ne tT (by decide)
 have old : ∀ k, k ≠ gT → k ≠ gO → ((w.setCell ⟨gT, i * 3 + 1, none⟩ (.int .i64 f)).setCell ⟨gO, i, none⟩ (.bool false)).heap[k]? = w.heap[k]? := fun k h1 h2 => by
  rw [Below.heap_setCell _ _ _ _ h2, Below.heap_setCell _ _ _ _ h1]
 have keep : ∀ {t s n v xs}, w.ownsRow B t s v n xs → t ≠ 43 → t ≠ 4 → ((w.setCell ⟨gT, i * 3 + 1, none⟩ (.int .i64 f)).setCell ⟨gO, i, none⟩ (.bool false)).ownsRow B t s v n xs := fun hr h1 h2 =>
  owns_at hr (fun q hq => old q ((owns_ty hr hq).ne tT h1) ((owns_ty hr hq).ne tO h2))
 have hl := h.len
 have gd : ∀ j, ((L.set i (endD (L.getD i noD) f)).getD j noD).ops = (L.getD j noD).ops ∧ ((L.set i (endD (L.getD i noD) f)).getD j noD).ks = (L.getD j noD).ks := fun j => by
  rw [getD_setD L i j _ hi]
  by_cases q : i = j
  ·rw [if_pos q, ← q]; exact ⟨rfl, rfl⟩
  ·rw [if_neg q]; exact ⟨rfl, rfl⟩
 refine ⟨h.bx.at (old gm (h.bx.ty.ne tT (by decide)) (h.bx.ty.ne tO (by decide))), h.base, by rw [List.length_set]; exact hl, ?_, ?_, ?_, ?_, ?_, fun j hj => ?_, fun j hj => ?_, fun a b hab hb => ?_, fun a b hab hb => ?_, fun a ha => ?_⟩
 ·rw [List.length_set, zip_set1 L E hl i _ hi, ← flat_at_set wtc 3 wtc_len noQ (L.zip E) i 1 _ (.int .i64 f) (by simp; omega) (by decide) (by rw [zip_atR L E hl i hi]; rfl)]
  exact owns_at (h.rT.stored (i * 3 + 1) (.int .i64 f)).1 (fun q hq => by
   have e : gT = q := by simpa [Value.ownBlock] using hq
   rw [Below.heap_setCell _ _ _ _ (by rw [← e]; exact hne.symm)])
 ·rw [List.length_set, flat_same nmd noD L i (endD (L.getD i noD) f) hi rfl]
  exact keep h.rN (by decide) (by decide)
 ·rw [List.length_set]
  exact keep h.rK (by decide) (by decide)
 ·rw [List.length_set, flat_same lnd noD L i (endD (L.getD i noD) f) hi rfl]
  exact keep h.rL (by decide) (by decide)
 ·have e := flat_at_set opd 1 (fun _ => rfl) noD L i 0 (endD (L.getD i noD) f) (.bool false) hi (by decide) rfl
  rw [Nat.mul_one, Nat.add_zero] at e
  rw [List.length_set, ← e]
  exact ((owns_at h.rO (fun q hq => Below.heap_setCell _ _ _ _ (by
   have e : gO = q := by simpa [Value.ownBlock] using hq
   rw [← e]; exact hne))).stored i (.bool false)).1
 all_goals rw [List.length_set] at *
 ·rw [(gd j).1]; exact keep (h.ops j hj) (by decide) (by decide)
 ·rw [(gd j).2]; exact keep (h.ks j hj) (by decide) (by decide)
 ·exact h.neo a b hab hb
 ·exact h.nek a b hab hb
 ·exact h.nkn a ha
theorem WI.addop {w w4 : World} {B gm i gT cT : Nat} {L : List DraftM} {vN vK vL vO v4 : Value} {E : List EntR} {ob : Obj} (h : WI w B gm L (.slice (some ⟨gT, 0, none⟩) L.length cT) vN vK vL vO E) (hi : i < L.length) (o : OpM)
  (hown : w4.ownsRow B 50 4 v4 ((L.getD i noD).ops.length + 1) ((L.getD i noD).ops.flatMap opc ++ opc o)) (hg : (w.alloc ob).grownBy w4 (E.getD i noR).1.ownBlock) (hat : v4.ownBlock = (E.getD i noR).1.ownBlock ∨ v4.ownBlock = some (w.alloc ob).heap.size) :
  w4.ownsRow B 43 3 (.slice (some ⟨gT, 0, none⟩) L.length cT) L.length ((L.zip E).flatMap wtc) ∧
  WI (w4.setCell ⟨gT, i * 3 + 2, none⟩ v4) B gm (L.set i { L.getD i noD with ops := (L.getD i noD).ops ++ [o] }) (.slice (some ⟨gT, 0, none⟩) L.length cT) vN vK vL vO (E.set i (v4, (E.getD i noR).2)) := by
 have tT := owns_ty h.rT (g := gT) rfl
 have hr := h.ops i hi
 have hl := h.len
 have hiE : i < E.length := by omega
 have old : ∀ k, k < w.heap.size → (E.getD i noR).1.ownBlock ≠ some k → w4.heap[k]? = w.heap[k]? := fun k hk hne => by
  rw [hg.block k (by simp; omega) (fun e => hne e.symm), heap_alloc_old _ _ hk]
 have no : ∀ {k t}, Ty w k t → t ≠ 50 → (E.getD i noR).1.ownBlock ≠ some k := fun {k t} hk ht he => (hk.ne (owns_ty hr he) ht) rfl
 have hT4 : w4.ownsRow B 43 3 (.slice (some ⟨gT, 0, none⟩) L.length cT) L.length ((L.zip E).flatMap wtc) := owns_at h.rT (fun q hq => old q (own_lt h.rT hq) (no (owns_ty h.rT hq) (by decide)))
 have old5 : ∀ k, k < w.heap.size → (E.getD i noR).1.ownBlock ≠ some k → k ≠ gT → (w4.setCell ⟨gT, i * 3 + 2, none⟩ v4).heap[k]? = w.heap[k]? := fun k hk hne h1 => by
  rw [Below.heap_setCell _ _ _ _ h1]
  exact old k hk hne
 have keep : ∀ {t s n v xs}, w.ownsRow B t s v n xs → t ≠ 43 → t ≠ 50 → (w4.setCell ⟨gT, i * 3 + 2, none⟩ v4).ownsRow B t s v n xs := fun hr h1 h2 =>
  owns_at hr (fun q hq => old5 q (own_lt hr hq) (no (owns_ty hr hq) h2) ((owns_ty hr hq).ne tT h1))
 have tT4 := owns_ty hT4 (g := gT) rfl
 refine ⟨hT4, h.bx.at (old5 gm h.bx.lt (no h.bx.ty (by decide)) (h.bx.ty.ne tT (by decide))), h.base, by rw [List.length_set, List.length_set]; exact hl, ?_, ?_, ?_, ?_, ?_, fun j hj => ?_, fun j hj => ?_, fun a b hab hb g h1 h2 => ?_, fun a b hab hb g h1 h2 => ?_, fun a ha g h1 => ?_⟩
 ·rw [List.length_set, zip_set L E hl i _ _ hi, ← flat_at_set wtc 3 wtc_len noQ (L.zip E) i 2 _ v4 (by simp; omega) (by decide) (by rw [zip_atR L E hl i hi]; rfl)]
  exact (hT4.stored (i * 3 + 2) v4).1
 ·rw [List.length_set, flat_same nmd noD L i _ hi (by rfl)]
  exact keep h.rN (by decide) (by decide)
 ·rw [List.length_set, flat_same ksd noR E i (v4, (E.getD i noR).2) hiE (by rfl)]
  exact keep h.rK (by decide) (by decide)
 ·rw [List.length_set, flat_same lnd noD L i _ hi (by rfl)]
  exact keep h.rL (by decide) (by decide)
 ·rw [List.length_set, flat_same opd noD L i _ hi (by rfl)]
  exact keep h.rO (by decide) (by decide)
 all_goals rw [List.length_set] at *
 ·rw [getD_setD L i j _ hi, getD_setR E i j _ hiE]
  by_cases q : i = j
  ·rw [if_pos q, if_pos q]
   have h9 := owns_at (w' := w4.setCell ⟨gT, i * 3 + 2, none⟩ v4) hown (fun q hq => Below.heap_setCell _ _ _ _ ((owns_ty hown hq).ne tT4 (by decide)))
   rw [flat_snoc] at h9
   simpa using h9
  ·rw [if_neg q, if_neg q]
   refine owns_at (h.ops j hj) (fun g hq => old5 g (own_lt (h.ops j hj) hq) (fun e => ?_) ((owns_ty (h.ops j hj) hq).ne tT (by decide)))
   rcases Nat.lt_or_gt_of_ne q with q1 | q1
   ·exact h.neo i j q1 hj g e hq
   ·exact h.neo j i q1 hi g hq e
 ·rw [getD_setD L i j _ hi, getD_setR E i j _ hiE]
  by_cases q : i = j
  ·rw [if_pos q, if_pos q]
   exact keep (h.ks i hi) (by decide) (by decide)
  ·rw [if_neg q, if_neg q]
   exact keep (h.ks j hj) (by decide) (by decide)
 ·rw [getD_setR E i a _ hiE] at h1
  rw [getD_setR E i b _ hiE] at h2
  have big : ∀ {j}, j < L.length → (E.getD j noR).1.ownBlock = some g → g ≠ (w.alloc ob).heap.size := fun {j} hj hg9 => by
   have := own_lt (h.ops j hj) hg9
   simp; omega
  by_cases qa : i = a
  ·rw [if_pos qa] at h1
   rw [if_neg (by omega)] at h2
   rcases hat with e | e
   ·rw [e, qa] at h1; exact h.neo a b hab hb g h1 h2
   ·rw [e] at h1; injection h1 with h1; exact big hb h2 h1.symm
  ·rw [if_neg qa] at h1
   by_cases qb : i = b
   ·rw [if_pos qb] at h2
    rcases hat with e | e
    ·rw [e, qb] at h2; exact h.neo a b hab hb g h1 h2
    ·rw [e] at h2; injection h2 with h2; exact big (by omega) h1 h2.symm
   ·rw [if_neg qb] at h2; exact h.neo a b hab hb g h1 h2
 ·rw [getD_setR E i a _ hiE] at h1
  rw [getD_setR E i b _ hiE] at h2
  have ea : (if i = a then ((v4, (E.getD i noR).2) : EntR) else E.getD a noR).2 = (E.getD a noR).2 := by
   by_cases qa : i = a
   ·rw [if_pos qa, qa]
   ·rw [if_neg qa]
  have eb : (if i = b then ((v4, (E.getD i noR).2) : EntR) else E.getD b noR).2 = (E.getD b noR).2 := by
   by_cases qb : i = b
   ·rw [if_pos qb, qb]
   ·rw [if_neg qb]
  rw [ea] at h1
  rw [eb] at h2
  exact h.nek a b hab hb g h1 h2
 ·rw [getD_setR E i a _ hiE] at h1
  have ea : (if i = a then ((v4, (E.getD i noR).2) : EntR) else E.getD a noR).2 = (E.getD a noR).2 := by
   by_cases qa : i = a
   ·rw [if_pos qa, qa]
   ·rw [if_neg qa]
  rw [ea] at h1
  exact h.nkn a ha g h1
theorem WI.addkey {w w4 : World} {B gm i gK cK : Nat} {L : List DraftM} {vT vN vL vO v4 : Value} {E : List EntR} {ob : Obj} (h : WI w B gm L vT vN (.slice (some ⟨gK, 0, none⟩) L.length cK) vL vO E) (hi : i < L.length) (o : List UInt8)
  (hown : w4.ownsRow B 9 1 v4 ((L.getD i noD).ks.length + 1) (strs (L.getD i noD).ks ++ [.string (bs o)])) (hg : (w.alloc ob).grownBy w4 (E.getD i noR).2.ownBlock) (hat : v4.ownBlock = (E.getD i noR).2.ownBlock ∨ v4.ownBlock = some (w.alloc ob).heap.size) :
  w4.ownsRow B 22 1 (.slice (some ⟨gK, 0, none⟩) L.length cK) L.length (E.flatMap ksd) ∧
  WI (w4.setCell ⟨gK, i, none⟩ v4) B gm (L.set i { L.getD i noD with ks := (L.getD i noD).ks ++ [o] }) vT vN (.slice (some ⟨gK, 0, none⟩) L.length cK) vL vO (E.set i ((E.getD i noR).1, v4)) := by
 have tK := owns_ty h.rK (g := gK) rfl
 have hr := h.ks i hi
 have hl := h.len
 have hiE : i < E.length := by omega
 have old : ∀ k, k < w.heap.size → (E.getD i noR).2.ownBlock ≠ some k → w4.heap[k]? = w.heap[k]? := fun k hk hne => by
  rw [hg.block k (by simp; omega) (fun e => hne e.symm), heap_alloc_old _ _ hk]
 have no : ∀ {k t}, Ty w k t → t ≠ 9 → (E.getD i noR).2.ownBlock ≠ some k := fun {k t} hk ht he => (hk.ne (owns_ty hr he) ht) rfl
 have hK4 : w4.ownsRow B 22 1 (.slice (some ⟨gK, 0, none⟩) L.length cK) L.length (E.flatMap ksd) := owns_at h.rK (fun q hq => old q (own_lt h.rK hq) (no (owns_ty h.rK hq) (by decide)))
 have old5 : ∀ k, k < w.heap.size → (E.getD i noR).2.ownBlock ≠ some k → k ≠ gK → (w4.setCell ⟨gK, i, none⟩ v4).heap[k]? = w.heap[k]? := fun k hk hne h1 => by
  rw [Below.heap_setCell _ _ _ _ h1]
  exact old k hk hne
 have keep : ∀ {t s n v xs}, w.ownsRow B t s v n xs → t ≠ 22 → t ≠ 9 → (w4.setCell ⟨gK, i, none⟩ v4).ownsRow B t s v n xs := fun hr h1 h2 =>
  owns_at hr (fun q hq => old5 q (own_lt hr hq) (no (owns_ty hr hq) h2) ((owns_ty hr hq).ne tK h1))
 have tK4 := owns_ty hK4 (g := gK) rfl
 refine ⟨hK4, h.bx.at (old5 gm h.bx.lt (no h.bx.ty (by decide)) (h.bx.ty.ne tK (by decide))), h.base, by rw [List.length_set, List.length_set]; exact hl, ?_, ?_, ?_, ?_, ?_, fun j hj => ?_, fun j hj => ?_, fun a b hab hb g h1 h2 => ?_, fun a b hab hb g h1 h2 => ?_, fun a ha g h1 h2 => ?_⟩
 ·rw [List.length_set, zip_set L E hl i _ _ hi, flat_same wtc noQ (L.zip E) i _ (by simp; omega) (by rw [zip_atR L E hl i hi]; rfl)]
  exact keep h.rT (by decide) (by decide)
 ·rw [List.length_set, flat_same nmd noD L i _ hi (by rfl)]
  exact owns_at h.rN (fun q hq => old5 q (own_lt h.rN hq) (fun e => h.nkn i hi q e hq) ((owns_ty h.rN hq).ne tK (by decide)))
 ·have e := flat_at_set ksd 1 (fun _ => rfl) noR E i 0 ((E.getD i noR).1, v4) v4 hiE (by decide) rfl
  rw [Nat.mul_one, Nat.add_zero] at e
  rw [List.length_set, ← e]
  exact (hK4.stored i v4).1
 ·rw [List.length_set, flat_same lnd noD L i _ hi (by rfl)]
  exact keep h.rL (by decide) (by decide)
 ·rw [List.length_set, flat_same opd noD L i _ hi (by rfl)]
  exact keep h.rO (by decide) (by decide)
 all_goals rw [List.length_set] at *
 ·rw [getD_setD L i j _ hi, getD_setR E i j _ hiE]
  by_cases q : i = j
  ·rw [if_pos q, if_pos q]
   exact keep (h.ops i hi) (by decide) (by decide)
  ·rw [if_neg q, if_neg q]
   exact keep (h.ops j hj) (by decide) (by decide)
 ·rw [getD_setD L i j _ hi, getD_setR E i j _ hiE]
  by_cases q : i = j
  ·rw [if_pos q, if_pos q]
   have h9 := owns_at (w' := w4.setCell ⟨gK, i, none⟩ v4) hown (fun q hq => Below.heap_setCell _ _ _ _ ((owns_ty hown hq).ne tK4 (by decide)))
   rw [strs_snoc] at h9
   simpa using h9
  ·rw [if_neg q, if_neg q]
   refine owns_at (h.ks j hj) (fun g hq => old5 g (own_lt (h.ks j hj) hq) (fun e => ?_) ((owns_ty (h.ks j hj) hq).ne tK (by decide)))
   rcases Nat.lt_or_gt_of_ne q with q1 | q1
   ·exact h.nek i j q1 hj g e hq
   ·exact h.nek j i q1 hi g hq e
 ·rw [getD_setR E i a _ hiE] at h1
  rw [getD_setR E i b _ hiE] at h2
  have ea : (if i = a then (((E.getD i noR).1, v4) : EntR) else E.getD a noR).1 = (E.getD a noR).1 := by
   by_cases qa : i = a
   ·rw [if_pos qa, qa]
   ·rw [if_neg qa]
  have eb : (if i = b then (((E.getD i noR).1, v4) : EntR) else E.getD b noR).1 = (E.getD b noR).1 := by
   by_cases qb : i = b
   ·rw [if_pos qb, qb]
   ·rw [if_neg qb]
  rw [ea] at h1
  rw [eb] at h2
  exact h.neo a b hab hb g h1 h2
 ·rw [getD_setR E i a _ hiE] at h1
  rw [getD_setR E i b _ hiE] at h2
  have big : ∀ {j}, j < L.length → (E.getD j noR).2.ownBlock = some g → g ≠ (w.alloc ob).heap.size := fun {j} hj hg9 => by
   have := own_lt (h.ks j hj) hg9
   simp; omega
  by_cases qa : i = a
  ·rw [if_pos qa] at h1
   rw [if_neg (by omega)] at h2
   rcases hat with e | e
   ·rw [e, qa] at h1; exact h.nek a b hab hb g h1 h2
   ·rw [e] at h1; injection h1 with h1; exact big hb h2 h1.symm
  ·rw [if_neg qa] at h1
   by_cases qb : i = b
   ·rw [if_pos qb] at h2
    rcases hat with e | e
    ·rw [e, qb] at h2; exact h.nek a b hab hb g h1 h2
    ·rw [e] at h2; injection h2 with h2; exact big (by omega) h1 h2.symm
   ·rw [if_neg qb] at h2; exact h.nek a b hab hb g h1 h2
 ·rw [getD_setR E i a _ hiE] at h1
  by_cases qa : i = a
  ·rw [if_pos qa] at h1
   rcases hat with e | e
   ·rw [e, qa] at h1; exact h.nkn a ha g h1 h2
   ·rw [e] at h1; injection h1 with h1
    have := own_lt h.rN h2
    simp at h1; omega
  ·rw [if_neg qa] at h1
   exact h.nkn a ha g h1 h2
end Go.Proofs.YthgbfaoblnkniaaGreatDoor
