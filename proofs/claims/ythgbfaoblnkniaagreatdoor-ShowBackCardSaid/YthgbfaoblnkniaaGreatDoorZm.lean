/-
  Layer 8 (log) in plain words: what a text is read as, a log's text, how many events are of a kind; that reading undoes printing; no program in sight. No conditions.
  Slices of events: what one holds; a row of the call's own as one. No conditions.
  The walks of layer 8 (log): whether all events may be, in the program's way. Conditions: unicode/utf8's two tables hold what their initialisers lay; names of at most 1,000,000 bytes.
  The walk of layer 7 (event): an event's line. Conditions: unicode/utf8's two tables, and event.words, hold what their initialisers lay; texts of at most 1,000,000 bytes.
  An event's six cells in memory: the build, the store and the load of a whole event as one rule of the walk each. No conditions.
  The walks of layer 7 (event): an event of four words; whether an event may be, in the program and in the reference. Conditions: unicode/utf8's two tables, and event.words, hold what their initialisers lay; texts of at most 1,000,000 bytes.
  A region that draws its order, some of whose operations wait for all that read: one condition on the world serves till those. No conditions.
-/
import Derived.Test.YthgbfaoblnkniaaGreatDoorZl
import Derived.Test.YthgbfaoblnkniaaGreatDoorZh
import Derived.Test.YthgbfaoblnkniaaGreatDoorZa
import Derived.Laws.AppendOwn
import Derived.WalkKit
import Derived.Test.YthgbfaoblnkniaaGreatDoorZxEvM
import Derived.Test.YthgbfaoblnkniaaGreatDoorZj
import Derived.Deep.MidRow
import Derived.Test.YthgbfaoblnkniaaGreatDoorZc
import Derived.Deep.DeepCutAuto
import Derived.OrdersHeld
namespace Go.Proofs.YthgbfaoblnkniaaGreatDoor
open Go.RowKit Go.Lib
def onLine (x : EventM) (n : Int) : EventM := (x.1, x.2.1, x.2.2.1, x.2.2.2.1, x.2.2.2.2.1, n)
def logGo : List (List UInt8) → Nat → List EventM → List EventM × Int × Int
 | [], _, out => (out, 0, 0)
 | t :: r, i, out =>
  if (parseE t).2.2 ≠ 0 then ([], ((i + 1 : Nat) : Int), (parseE t).2.2)
  else if (parseE t).2.1 = false then logGo r (i + 1) out
  else if out.length = 1000 then ([], ((i + 1 : Nat) : Int), 7)
  else logGo r (i + 1) (out ++ [onLine (parseE t).1 ((i + 1 : Nat) : Int)])
def readL (s : List UInt8) : List EventM × Int × Int :=
 if (ofL s).2.2 ≠ 0 then ([], ((ofL s).2.1 : Int), ((ofL s).2.2 : Int)) else logGo (ofL s).1 0 []
def catGo : List EventM → List UInt8 → List UInt8 × Int
 | [], s => (s, 0)
 | x :: r, s => if 65536 < (s ++ lineE x ++ [10]).length then ([], 6) else catGo r (s ++ lineE x ++ [10])
def writeL (L : List EventM) : List UInt8 × Int := if L.all mayE then catGo L [] else ([], 4)
def cutE (x : EventM) : EventM := (x.1, x.2.1.take 200, x.2.2.1.take 200, x.2.2.2.1, x.2.2.2.2.1, x.2.2.2.2.2)
def fewE (L : List EventM) : List EventM := (L.take 200).map cutE
def lined : List EventM → Nat → List EventM
 | [], _ => []
 | x :: r, i => onLine x ((i + 1 : Nat) : Int) :: lined r (i + 1)
theorem lines_run : ∀ (x cur t : List UInt8), (∀ b ∈ x, b ≠ 10) → linesAux cur (x ++ 10 :: t) = (cur ++ x) :: linesAux [] t
 | [], cur, t, _ => by
  show (if (10 : UInt8) = 10 then _ else _) = _
  rw [if_pos rfl]
  simp
 | b :: x, cur, t, h => by
  have hb : b ≠ 10 := h b (List.mem_cons_self ..)
  show (if b = 10 then _ else linesAux (cur ++ [b]) (x ++ 10 :: t)) = _
  rw [if_neg hb, lines_run x (cur ++ [b]) t (fun c hc => h c (List.mem_cons_of_mem _ hc))]
  simp
theorem lines_feed : ∀ L : List (List UInt8), (∀ x ∈ L, ∀ b ∈ x, b ≠ 10) → linesL (feedL L) = L
 | [], _ => rfl
 | x :: r, h => by
  have e : feedL (x :: r) = x ++ 10 :: feedL r := by simp [feedL]
  unfold linesL
  rw [e, lines_run x [] _ (h x (List.mem_cons_self ..)), List.nil_append]
  have := lines_feed r (fun y hy => h y (List.mem_cons_of_mem _ hy))
  unfold linesL at this
  rw [this]
theorem resGo_all (full : List (List UInt8)) : ∀ (r : List (List UInt8)) (n : Nat), (∀ x ∈ r, validD x = true) → resGo full n r = (full, 0, 0)
 | [], _, _ => rfl
 | x :: r, n, h => by
  unfold resGo
  rw [if_pos (h x (List.mem_cons_self ..)), resGo_all full r (n + 1) (fun y hy => h y (List.mem_cons_of_mem _ hy))]
theorem of_feed (L : List (List UInt8)) (h10 : ∀ x ∈ L, ∀ b ∈ x, b ≠ 10) (hv : ∀ x ∈ L, validD x = true) (hl : (feedL L).length ≤ 65536) : ofL (feedL L) = (L, 0, 0) := by
 unfold ofL
 rw [if_neg (by omega), lines_feed L h10, resGo_all L L 0 hv]
theorem cat_text : ∀ (L : List EventM) (s : List UInt8), (catGo L s).2 = 0 → (catGo L s).1 = s ++ feedL (L.map lineE) ∧ (s.length ≤ 65536 → (catGo L s).1.length ≤ 65536)
 | [], s, _ => by simp [catGo, feedL]
 | x :: r, s, h => by
  unfold catGo at h ⊢
  split at h
  ·simp at h
  ·rename_i hc
   rw [if_neg hc]
   obtain ⟨h1, h2⟩ := cat_text r _ h
   refine ⟨?_, fun _ => h2 (by omega)⟩
   rw [h1]
   simp [feedL]
theorem cat_err : ∀ (L : List EventM) (s : List UInt8), (catGo L s).2 ≠ 0 → catGo L s = ([], 6)
 | [], s, h => absurd rfl h
 | x :: r, s, h => by
  unfold catGo at h ⊢
  split at h
  ·rename_i hc
   rw [if_pos hc]
  ·rename_i hc
   rw [if_neg hc]
   exact cat_err r _ h
def NumE (x : EventM) : Prop := -9223372036854775808 ≤ x.2.2.2.2.1 ∧ x.2.2.2.2.1 ≤ 9223372036854775807
theorem log_lines : ∀ (L : List EventM) (i : Nat) (out : List EventM), (∀ x ∈ L, mayE x = true ∧ NumE x) → out.length + L.length ≤ 1000 → logGo (L.map lineE) i out = (out ++ lined L i, 0, 0)
 | [], i, out, _, _ => by simp [logGo, lined]
 | x :: r, i, out, h, hl => by
  obtain ⟨hm, hn⟩ := h x (List.mem_cons_self ..)
  have hp := parse_line x hm hn.1 hn.2
  rw [List.map_cons]
  unfold logGo
  rw [hp]
  simp only [List.length_cons] at hl
  rw [if_neg (by simp), if_neg (by simp), if_neg (by omega), log_lines r (i + 1) _ (fun y hy => h y (List.mem_cons_of_mem _ hy)) (by simp; omega)]
  simp [lined, onLine]
theorem line_good (x : EventM) (h : mayE x = true) : validD (lineE x) = true ∧ ∀ b ∈ lineE x, b ≠ 10 := by
 unfold lineE
 rw [if_pos h]
 obtain ⟨h1, h2⟩ := join_valid (wordsE x) (may_words x h)
 exact ⟨h1, fun b hb => (h2 b hb).2⟩
theorem write_read (L : List EventM) (h : (writeL L).2 = 0) (hn : ∀ x ∈ L, NumE x) (hl : L.length ≤ 1000) : readL (writeL L).1 = (lined L 0, 0, 0) := by
 unfold writeL at h ⊢
 split at h
 ·rename_i hc
  rw [if_pos hc]
  rw [List.all_eq_true] at hc
  obtain ⟨h1, h2⟩ := cat_text L [] h
  have hlen := h2 (by simp)
  rw [h1, List.nil_append] at hlen ⊢
  have hof : ofL (feedL (L.map lineE)) = (L.map lineE, 0, 0) := by
   refine of_feed _ ?_ ?_ hlen
   ·intro x hx
    obtain ⟨y, hy, rfl⟩ := List.mem_map.1 hx
    exact (line_good y (hc y hy)).2
   ·intro x hx
    obtain ⟨y, hy, rfl⟩ := List.mem_map.1 hx
    exact (line_good y (hc y hy)).1
  unfold readL
  rw [hof, if_neg (by simp)]
  have := log_lines L 0 [] (fun x hx => ⟨hc x hx, hn x hx⟩) (by simpa using hl)
  simpa using this
 ·simp at h
end Go.Proofs.YthgbfaoblnkniaaGreatDoor

namespace Go.Proofs.YthgbfaoblnkniaaGreatDoor
open Go.RowKit
def evc (x : EventM) : List Value := [.int .i64 x.1, .string (bs x.2.1), .string (bs x.2.2.1), .int .i64 x.2.2.2.1, .int .i64 x.2.2.2.2.1, .int .i64 x.2.2.2.2.2]
def evcs (L : List EventM) : List Value := L.flatMap evc
theorem evcs_snoc (L : List EventM) (x : EventM) : evcs L ++ evc x = evcs (L ++ [x]) := by simp [evcs]
def EvsS (w : World) (v : Value) (L : List EventM) : Prop := ∃ p cap, v = .slice p L.length cap ∧ ∀ j, j < L.length → ∃ g, p = some ⟨g, 0, none⟩ ∧ ∀ i u, (evc (L.getD j noEv))[i]? = some u → w.cell? ⟨g, j * 6 + i, none⟩ = some u
theorem EvsS.below {w w' : World} {v : Value} {L : List EventM} (h : EvsS w v L) (hb : Below w.heap.size w w') : EvsS w' v L := by
 obtain ⟨p, cap, hv, hc⟩ := h
 refine ⟨p, cap, hv, fun j hj => ?_⟩
 obtain ⟨g, hp, h1⟩ := hc j hj
 exact ⟨g, hp, fun i u hu => cell_later hb (h1 i u hu)⟩
theorem evs_none (w : World) : EvsS w (.slice none 0 0) [] := ⟨none, 0, rfl, fun j hj => absurd hj (Nat.not_lt_zero j)⟩
theorem evcs_get : ∀ (L : List EventM) (j i : Nat), j < L.length → i < 6 → (evcs L)[j * 6 + i]? = (evc (L.getD j noEv))[i]?
 | [], j, _, hj, _ => absurd hj (Nat.not_lt_zero j)
 | x :: L, 0, i, _, hi => by
  have e : evcs (x :: L) = evc x ++ evcs L := by simp [evcs]
  rw [e, Nat.zero_mul, Nat.zero_add, List.getElem?_append_left (by simp [evc]; omega)]
  rfl
 | x :: L, j + 1, i, hj, hi => by
  have e : evcs (x :: L) = evc x ++ evcs L := by simp [evcs]
  have h6 : (evc x).length = 6 := rfl
  rw [e, List.getElem?_append_right (by rw [h6]; omega), h6, show (j + 1) * 6 + i - 6 = j * 6 + i by omega, evcs_get L j i (by simpa using hj) hi]
  rfl
theorem own_evs {w : World} {B : Nat} {e : TypeId} {v : Value} {L : List EventM} (h : w.ownsRow B e 6 v L.length (evcs L)) : EvsS w v L := by
 obtain ⟨-, ⟨h0, hn⟩ | ⟨g, cap, cur, hv, -, hw, -, -, -, ht⟩⟩ := h
 ·have : L = [] := List.eq_nil_of_length_eq_zero hn
  subst this h0
  exact evs_none w
 ·refine ⟨_, cap, hv, fun j hj => ⟨g, rfl, fun i u hu => ?_⟩⟩
  have hi : i < 6 := (List.getElem?_eq_some_iff.1 hu).1
  have h1 := congrArg (fun x : List Value => x[j * 6 + i]?) ht
  simp only [List.getElem?_take, show j * 6 + i < L.length * 6 by omega, if_true, Array.getElem?_toList] at h1
  rw [cell_of_row w g (j * 6 + i) _ _ (0, 0) hw, h1, evcs_get L j i hj hi]
  exact hu
theorem info_ev : (Tryz.prog.info? 47).map (fun i => (i.zero, i.size, i.bytes)) = some (some (.agg #[.int .i64 0, .string ByteArray.empty, .string ByteArray.empty, .int .i64 0, .int .i64 0, .int .i64 0]), 6, 64) := by kernel_rfl
theorem ones_ev (k vk n ln : Int) (s key : ByteArray) : ∀ u ∈ ([.int .i64 k, .string s, .string key, .int .i64 vk, .int .i64 n, .int .i64 ln] : List Value), u.oneCell' = true := by
 intro u hu
 simp at hu
 rcases hu with rfl | rfl | rfl | rfl | rfl | rfl <;> rfl
end Go.Proofs.YthgbfaoblnkniaaGreatDoor

namespace Go.Proofs.YthgbfaoblnkniaaGreatDoor
open Go.RowKit Go.Lib
def ModE (L : List EventM) : Prop := ∀ x ∈ L, x.2.1.length ≤ 1000000 ∧ x.2.2.1.length ≤ 1000000 ∧ NumE x
theorem ModE.at {L : List EventM} (h : ModE L) (k : Nat) (hk : k < L.length) : (L.getD k noEv).2.1.length ≤ 1000000 ∧ (L.getD k noEv).2.2.1.length ≤ 1000000 ∧ NumE (L.getD k noEv) := by
 have : L.getD k noEv = L[k] := by simp [hk]
 rw [this]
 exact h _ (List.getElem_mem hk)
set_option maxRecDepth 100000 in
set_option maxHeartbeats 1000000 in
theorem logmay1_any (x : EventM) (h1 : x.2.1.length ≤ 1000000) (h2 : x.2.2.1.length ≤ 1000000) (w : World) (hT : Lib.Utf8Tabs 1 2 w) :
  Calls Tryz.prog 39 #[evV x] w fun e w' => e = .returned (.bool (!mayE x)) ∧ Below w.heap.size w w' := by
 obtain ⟨k, s, key, vk, n, ln⟩ := x
 have H1 := Lib.hid (fun w' (h : Below w.heap.size w w') => emay_any k s key vk n ln h1 h2 w' (Utf8Tabs_below hT h))
 have hal := (Below.refl w.heap.size w).alloc (Nat.le_refl _) (.cells #[.int .i64 k, .string (bs s), .string (bs key), .int .i64 vk, .int .i64 n, .int .i64 ln] 47)
 have HA := Lib.hid hal
 unfold evV
 dsimp only
 clear hT hal h1 h2
 go_enter Tryz.func39, Tryz.ntmps39
 go_wp2_with fail
 refine (H1.out _ HA.out).mono ?_
 rintro e w1 ⟨rfl, hb1⟩
 go_wp2_with fail
 go_ret
 exact ⟨rfl, below_next HA.out hb1⟩
set_option maxRecDepth 100000 in
set_option maxHeartbeats 2000000 in
theorem evindex_any (v : Value) (L : List EventM) (w : World) (hv : EvsS w v L) (hL : L.length ≤ 1000000) (hM : ModE L) (hT : Lib.Utf8Tabs 1 2 w) :
  Calls Tryz.prog 67 #[v, .func (.func 39) #[] #[]] w fun e w' => ∃ i : Int, e = .returned (.int .i64 i) ∧ decide (0 ≤ i) = !(L.all mayE) ∧ Below w.heap.size w w' := by
 obtain ⟨p, c, rfl, hp⟩ := hv
 have HX := Lib.hid hp
 have en := enters_of Tryz.func39 (by kernel_rfl) rfl
 have HYes : RowKit.Hid (∀ k : Nat, k < L.length → mayE (L.getD k noEv) = false → decide ((0 : Int) ≤ (k : Int)) = !(L.all mayE)) := Lib.hid (fun k hk hf => by
  have : L.all mayE = false := by
   rw [List.all_eq_false]
   refine ⟨L.getD k noEv, ?_, by rw [hf]; exact Bool.false_ne_true⟩
   have : L.getD k noEv = L[k] := by simp [hk]
   rw [this]
   exact List.getElem_mem hk
  rw [this]
  simp)
 have HNo : RowKit.Hid ((∀ k : Nat, k < L.length → mayE (L.getD k noEv) = true) → decide ((0 : Int) ≤ -1) = !(L.all mayE)) := Lib.hid (fun h => by
  have : L.all mayE = true := by
   rw [List.all_eq_true]
   intro x hx
   obtain ⟨k, hk, e⟩ := List.getElem_of_mem hx
   have := h k hk
   simpa [hk, e] using this
  rw [this]
  rfl)
 have HO := Lib.hid (fun k (hk : k < L.length) w' (h : Below w.heap.size w w') => logmay1_any (L.getD k noEv) (hM.at k hk).1 (hM.at k hk).2.1 w' (Utf8Tabs_below hT h))
 generalize (!(L.all mayE)) = R at *
 clear hp hT hM
 go_enter Tryz.func67, Tryz.ntmps67
 go_wp2_with fail
 go_loopw [8] (fun i wr => ∃ k : Nat, k ≤ L.length ∧ i = .int .i64 k ∧ (∀ j, j < k → mayE (L.getD j noEv) = true) ∧ Below w.heap.size w wr) (fun i _ => L.length - (RowKit.intOf i).toNat)
 case atStart => exact ⟨0, Nat.zero_le _, rfl, fun j hj => absurd hj (Nat.not_lt_zero j), Below.refl _ _⟩
 case round =>
  obtain ⟨k, hk, rfl, hn, hbw⟩ := hrel
  have HN := Lib.hid hn
  clear hn
  by_cases hk1 : k < L.length
  ·obtain ⟨g, rfl, hcell⟩ := HX.out k hk1
   have HM := Lib.hid (HO.out k hk1 wr hbw)
   have HY := Lib.hid (HYes.out k hk1)
   have HK : RowKit.Hid (mayE (L.getD k noEv) = true → ∀ j, j < k + 1 → mayE (L.getD j noEv) = true) := Lib.hid (fun h j hj => by
    by_cases hjk : j < k
    ·exact HN.out j hjk
    ·obtain rfl : j = k := by omega
     exact h)
   obtain ⟨b, hb⟩ : ∃ b, mayE (L.getD k noEv) = b := ⟨_, rfl⟩
   rw [hb] at HM HY HK
   obtain ⟨t, ht⟩ : ∃ t, L.getD k noEv = t := ⟨_, rfl⟩
   rw [ht] at HM hcell
   obtain ⟨x1, x2, x3, x4, x5, x6⟩ := t
   have a0 := cell_later hbw (hcell 0 _ rfl)
   have a1 := cell_later hbw (hcell 1 _ rfl)
   have a2 := cell_later hbw (hcell 2 _ rfl)
   have a3 := cell_later hbw (hcell 3 _ rfl)
   have a4 := cell_later hbw (hcell 4 _ rfl)
   have a5 := cell_later hbw (hcell 5 _ rfl)
   simp only [Nat.add_zero] at a0 a1 a2 a3 a4 a5
   unfold evV at HM
   dsimp only at HM
   clear hcell hb ht
   cases b with
   | false =>
    go_wp2_with (first | (go_at_call 39; refine HM.out.mono ?_; rintro e w1 ⟨rfl, hb1⟩))
    go_ret
    exact ⟨_, rfl, HY.out trivial, below_next hbw hb1⟩
   | true =>
    go_wp2_with (first | (go_at_call 39; refine HM.out.mono ?_; rintro e w1 ⟨rfl, hb1⟩))
    go_roundw
    case rel => exact ⟨k + 1, by omega, by go_num, HK.out trivial, below_next hbw hb1⟩
    case measure => simp [RowKit.intOf]; omega
  ·have hke : k = L.length := by omega
   subst hke
   have H1 := Lib.hid (HNo.out HN.out)
   go_wp2_with fail
   go_ret
   exact ⟨_, rfl, H1.out, hbw⟩
set_option maxRecDepth 100000 in
set_option maxHeartbeats 1000000 in
theorem evcontains_any (v : Value) (L : List EventM) (w : World) (hv : EvsS w v L) (hL : L.length ≤ 1000000) (hM : ModE L) (hT : Lib.Utf8Tabs 1 2 w) :
  Calls Tryz.prog 38 #[v, .func (.func 39) #[] #[]] w fun e w' => e = .returned (.bool (!(L.all mayE))) ∧ Below w.heap.size w w' := by
 have H1 := Lib.hid (evindex_any v L w hv hL hM hT)
 generalize (!(L.all mayE)) = R at *
 clear hv hL hM hT
 go_enter Tryz.func38, Tryz.ntmps38
 go_wp2_with fail
 refine H1.out.mono ?_
 rintro e w1 ⟨i, rfl, hi, hb1⟩
 have HI := Lib.hid hi
 clear hi
 go_wp2_with fail
 go_ret
 refine ⟨?_, hb1⟩
 rw [← HI.out]
 rfl
end Go.Proofs.YthgbfaoblnkniaaGreatDoor

namespace Go.Proofs.YthgbfaoblnkniaaGreatDoor
open Go.RowKit Go.Lib
theorem textsC_two (W : World) (a b : List UInt8) (t : TypeId) : TextsC (W.alloc (.cells #[.string (bs a), .string (bs b)] t)) (.slice (some ⟨W.heap.size, 0, none⟩) 2 2) [a, b] := by
 refine ⟨_, 2, rfl, Nat.le_refl _, fun j hj => ⟨_, rfl, ?_⟩⟩
 rw [cell_of_row _ W.heap.size j _ _ (0, 0) (heap_alloc_new W _)]
 match j, hj with
 | 0, _ => rfl
 | 1, _ => rfl
theorem textsC_four (W : World) (a b c d : List UInt8) (t : TypeId) : TextsC (W.alloc (.cells #[.string (bs a), .string (bs b), .string (bs c), .string (bs d)] t)) (.slice (some ⟨W.heap.size, 0, none⟩) 4 4) [a, b, c, d] := by
 refine ⟨_, 4, rfl, Nat.le_refl _, fun j hj => ⟨_, rfl, ?_⟩⟩
 rw [cell_of_row _ W.heap.size j _ _ (0, 0) (heap_alloc_new W _)]
 match j, hj with
 | 0, _ => rfl
 | 1, _ => rfl
 | 2, _ => rfl
 | 3, _ => rfl
theorem kindW_len (k : Int) : (kindW k).length ≤ 5 := by
 unfold kindW
 (repeat' split) <;> simp
theorem may_range (x : EventM) (h : mayE x = true) : 1 ≤ x.1 ∧ x.1 ≤ 6 := by
 unfold mayE at h
 simp only [Bool.and_eq_true, decide_eq_true_eq] at h
 exact ⟨h.1, h.2.1⟩
theorem join2_len (a b : List UInt8) : (join [a, b] [32]).length = a.length + b.length + 1 := by
 rw [join_two, join_one]
 simp
 omega
theorem join4_len (a b c d : List UInt8) : (join [a, b, c, d] [32]).length = a.length + b.length + c.length + d.length + 3 := by
 rw [join_two, join_two, join_two, join_one]
 simp
 omega
set_option maxRecDepth 100000 in
set_option maxHeartbeats 4000000 in
theorem eprint_any (k : Int) (s key : List UInt8) (vk n ln : Int) (hs : s.length ≤ 1000000) (hk : key.length ≤ 1000000) (h0 : -9223372036854775808 ≤ n) (h1 : n ≤ 9223372036854775807) (w : World) (hT : Lib.Utf8Tabs 1 2 w) (hE : EvTab w) :
  Calls Tryz.prog 41 #[.agg #[.int .i64 k, .string (bs s), .string (bs key), .int .i64 vk, .int .i64 n, .int .i64 ln]] w fun e w' => e = .returned (.tuple #[.string (bs (lineE (k, s, key, vk, n, ln))), .int .i64 (errE (k, s, key, vk, n, ln))]) ∧ Below w.heap.size w w' := by
 have HM := Lib.hid (fun w' (h : Below w.heap.size w w') => emay_any k s key vk n ln hs hk w' (Utf8Tabs_below hT h))
 have HV := Lib.hid (fun w' (_ : Below w.heap.size w w') => vprint_any vk n h0 h1 w')
 have HE := Lib.hid (fun w' (h : Below w.heap.size w w') => hE.below h)
 have tl := txt_len vk n h0 h1
 clear hT hE h0 h1
 cases hm : mayE (k, s, key, vk, n, ln) with
 | false =>
  have HLine : RowKit.Hid (lineE (k, s, key, vk, n, ln) = []) := Lib.hid (by unfold lineE; rw [hm]; rfl)
  have HErr : RowKit.Hid (errE (k, s, key, vk, n, ln) = 4) := Lib.hid (by unfold errE; rw [hm]; rfl)
  rw [hm] at HM
  clear hm tl
  go_enter Tryz.func41, Tryz.ntmps41
  go_wp2_with (fail)
  refine (HM.out _ (by (repeat' (first | (with_reducible exact Below.refl _ _) | (with_reducible assumption) | (refine below_next ?_ (by with_reducible assumption)) | (with_reducible refine Below.alloc ?_ ?_ _) | (with_reducible refine Below.drew ?_) | (with_reducible refine below_drewN ?_ _) | omega | (simp; done) | (simp; omega))))).mono ?_
  rintro e w1 ⟨rfl, hb1⟩
  obtain ⟨hc1, hf1⟩ := bcell hb1
  have hz1 := hb1.size
  try simp at hz1
  have hl1_0 : w.heap.size < w1.heap.size := by omega
  go_wp2_with fail
  go_ret2
  exact ⟨by rw [HLine.out, HErr.out]; rfl, by (repeat' (first | (with_reducible exact Below.refl _ _) | (with_reducible assumption) | (refine below_next ?_ (by with_reducible assumption)) | (with_reducible refine Below.alloc ?_ ?_ _) | (with_reducible refine Below.drew ?_) | (with_reducible refine below_drewN ?_ _) | omega | (simp; done) | (simp; omega)))⟩
 | true =>
  have hr := may_range _ hm
  obtain ⟨i, rfl⟩ := Int.eq_ofNat_of_zero_le (show (0 : Int) ≤ k by have := hr.1; simp only at this; omega)
  have hi1 : 1 ≤ i := by have := hr.1; simp only at this; omega
  have hi6 : i ≤ 6 := by have := hr.2; simp only at this; omega
  have HErr : RowKit.Hid (errE ((i : Int), s, key, vk, n, ln) = 0) := Lib.hid (by unfold errE; rw [hm]; rfl)
  have hkl := kindW_len (i : Int)
  cases hl : longK (i : Int) with
  | false =>
   have HLine : RowKit.Hid (lineE ((i : Int), s, key, vk, n, ln) = join [kindW (i : Int), s] [32]) := Lib.hid (by unfold lineE wordsE; rw [hm, if_pos rfl, hl]; rfl)
   have HLen := Lib.hid (show (join [kindW (i : Int), s] [32]).length ≤ 10000000 by rw [join2_len]; omega)
   have HL := Lib.hid (long_any (i : Int))
   rw [hm] at HM
   rw [hl] at HL
   clear hm hl hr tl hkl
   go_enter Tryz.func41, Tryz.ntmps41
   go_wp2_with (fail)
   refine (HM.out _ (by (repeat' (first | (with_reducible exact Below.refl _ _) | (with_reducible assumption) | (refine below_next ?_ (by with_reducible assumption)) | (with_reducible refine Below.alloc ?_ ?_ _) | (with_reducible refine Below.drew ?_) | (with_reducible refine below_drewN ?_ _) | omega | (simp; done) | (simp; omega))))).mono ?_
   rintro e w1 ⟨rfl, hb1⟩
   obtain ⟨hc1, hf1⟩ := bcell hb1
   have hz1 := hb1.size
   try simp at hz1
   have hl1_0 : w.heap.size < w1.heap.size := by omega
   have q0 : w1.cell? ⟨w.heap.size, 0, none⟩ = some (.int .i64 (i : Int)) := by go_simp
   have q1 : w1.cell? ⟨w.heap.size, 1, none⟩ = some (.string (bs s)) := by go_simp
   have hbx : Below w.heap.size w w1 := by (repeat' (first | (with_reducible exact Below.refl _ _) | (with_reducible assumption) | (refine below_next ?_ (by with_reducible assumption)) | (with_reducible refine Below.alloc ?_ ?_ _) | (with_reducible refine Below.drew ?_) | (with_reducible refine below_drewN ?_ _) | omega | (simp; done) | (simp; omega)))
   go_wp2_with fail
   refine (HL.out _).mono ?_
   rintro e wl ⟨rfl, rfl⟩
   go_wp2_with fail
   have HS : RowKit.Hid (∀ w', Below w1.heap.size w1 w' → (w'.cell? ⟨w.heap.size, 0, none⟩ = some (.int .i64 (i : Int)) ∧ w'.cell? ⟨w.heap.size, 1, none⟩ = some (.string (bs s)) ∧ w'.cell? ⟨0, i, none⟩ = some (.string (bs (kindW i))) ∧ Below w1.heap.size w1 w')) := Lib.hid (fun w' hb => ⟨cell_later hb q0, cell_later hb q1, cell_later hb (HE.out _ hbx i (by omega)), hb⟩)
   have hi0 : (0 : Int) ≤ (i : Int) := by omega
   have hi7 : (i : Int) < 7 := by omega
   go_region_held3 (fun w' => w'.cell? ⟨w.heap.size, 0, none⟩ = some (.int .i64 (i : Int)) ∧ w'.cell? ⟨w.heap.size, 1, none⟩ = some (.string (bs s)) ∧ w'.cell? ⟨0, i, none⟩ = some (.string (bs (kindW i))) ∧ Below w1.heap.size w1 w')
    ((go_split_ands; exact HS.out _ (by (repeat' (first | (with_reducible exact Below.refl _ _) | (with_reducible assumption) | (refine below_next ?_ (by with_reducible assumption)) | (with_reducible refine Below.alloc ?_ ?_ _) | (with_reducible refine Below.drew ?_) | omega | (simp; done) | (simp; omega))))))
    ((go_split_ands; first
     | (go_at_call 70; refine (sjoin_any _ _ [kindW (i : Int), s] (by first | exact textsC_two _ _ _ _ | exact textsC_four _ _ _ _ _ _) (by simp) HLen.out).mono ?_; rintro e w9 ⟨rfl, hb9⟩)))
   all_goals
    go_split_ands
    go_wp2_with fail
    go_ret2
    exact ⟨by rw [HLine.out, HErr.out]; rfl, by (repeat' (first | (with_reducible exact Below.refl _ _) | (with_reducible assumption) | (refine below_next ?_ (by with_reducible assumption)) | (with_reducible refine Below.alloc ?_ ?_ _) | (with_reducible refine Below.drew ?_) | (with_reducible refine below_drewN ?_ _) | omega | (simp; done) | (simp; omega)))⟩
  | true =>
   have HLine : RowKit.Hid (lineE ((i : Int), s, key, vk, n, ln) = join [kindW (i : Int), s, key, vTxt vk n] [32]) := Lib.hid (by unfold lineE wordsE; rw [hm, if_pos rfl, hl]; rfl)
   have HLen := Lib.hid (show (join [kindW (i : Int), s, key, vTxt vk n] [32]).length ≤ 10000000 by rw [join4_len]; omega)
   have HL := Lib.hid (long_any (i : Int))
   rw [hm] at HM
   rw [hl] at HL
   clear hm hl hr tl hkl
   go_enter Tryz.func41, Tryz.ntmps41
   go_wp2_with (fail)
   refine (HM.out _ (by (repeat' (first | (with_reducible exact Below.refl _ _) | (with_reducible assumption) | (refine below_next ?_ (by with_reducible assumption)) | (with_reducible refine Below.alloc ?_ ?_ _) | (with_reducible refine Below.drew ?_) | (with_reducible refine below_drewN ?_ _) | omega | (simp; done) | (simp; omega))))).mono ?_
   rintro e w1 ⟨rfl, hb1⟩
   obtain ⟨hc1, hf1⟩ := bcell hb1
   have hz1 := hb1.size
   try simp at hz1
   have hl1_0 : w.heap.size < w1.heap.size := by omega
   have q0' : w1.cell? ⟨w.heap.size, 0, none⟩ = some (.int .i64 (i : Int)) := by go_simp
   have q1' : w1.cell? ⟨w.heap.size, 1, none⟩ = some (.string (bs s)) := by go_simp
   have q2' : w1.cell? ⟨w.heap.size, 2, none⟩ = some (.string (bs key)) := by go_simp
   go_wp2_with fail
   refine (HL.out _).mono ?_
   rintro e wl ⟨rfl, rfl⟩
   go_wp2_with (fail)
   refine (HV.out _ (by (repeat' (first | (with_reducible exact Below.refl _ _) | (with_reducible assumption) | (refine below_next ?_ (by with_reducible assumption)) | (with_reducible refine Below.alloc ?_ ?_ _) | (with_reducible refine Below.drew ?_) | (with_reducible refine below_drewN ?_ _) | omega | (simp; done) | (simp; omega))))).mono ?_
   rintro e w2 ⟨rfl, hb2⟩
   obtain ⟨hc2, hf2⟩ := bcell hb2
   have hz2 := hb2.size
   try simp at hz2
   have hl2_0 : w.heap.size < w2.heap.size := by omega
   have q0 := cell_later hb2 q0'
   have q1 := cell_later hb2 q1'
   have q2 := cell_later hb2 q2'
   have hbx : Below w.heap.size w w2 := by (repeat' (first | (with_reducible exact Below.refl _ _) | (with_reducible assumption) | (refine below_next ?_ (by with_reducible assumption)) | (with_reducible refine Below.alloc ?_ ?_ _) | (with_reducible refine Below.drew ?_) | (with_reducible refine below_drewN ?_ _) | omega | (simp; done) | (simp; omega)))
   clear q0' q1' q2'
   go_wp2_with fail
   have HS : RowKit.Hid (∀ w', Below w2.heap.size w2 w' → (w'.cell? ⟨w.heap.size, 0, none⟩ = some (.int .i64 (i : Int)) ∧ w'.cell? ⟨w.heap.size, 1, none⟩ = some (.string (bs s)) ∧ w'.cell? ⟨0, i, none⟩ = some (.string (bs (kindW i))) ∧ w'.cell? ⟨w.heap.size, 2, none⟩ = some (.string (bs key)) ∧ Below w2.heap.size w2 w')) := Lib.hid (fun w' hb => ⟨cell_later hb q0, cell_later hb q1, cell_later hb (HE.out _ hbx i (by omega)), cell_later hb q2, hb⟩)
   have hi0 : (0 : Int) ≤ (i : Int) := by omega
   have hi7 : (i : Int) < 7 := by omega
   go_region_held3 (fun w' => w'.cell? ⟨w.heap.size, 0, none⟩ = some (.int .i64 (i : Int)) ∧ w'.cell? ⟨w.heap.size, 1, none⟩ = some (.string (bs s)) ∧ w'.cell? ⟨0, i, none⟩ = some (.string (bs (kindW i))) ∧ w'.cell? ⟨w.heap.size, 2, none⟩ = some (.string (bs key)) ∧ Below w2.heap.size w2 w')
    ((go_split_ands; exact HS.out _ (by (repeat' (first | (with_reducible exact Below.refl _ _) | (with_reducible assumption) | (refine below_next ?_ (by with_reducible assumption)) | (with_reducible refine Below.alloc ?_ ?_ _) | (with_reducible refine Below.drew ?_) | omega | (simp; done) | (simp; omega))))))
    ((go_split_ands; first
     | (go_at_call 70; refine (sjoin_any _ _ [kindW (i : Int), s, key, vTxt vk n] (by first | exact textsC_two _ _ _ _ | exact textsC_four _ _ _ _ _ _) (by simp) HLen.out).mono ?_; rintro e w9 ⟨rfl, hb9⟩)))
   all_goals
    go_split_ands
    go_wp2_with fail
    go_ret2
    exact ⟨by rw [HLine.out, HErr.out]; rfl, by (repeat' (first | (with_reducible exact Below.refl _ _) | (with_reducible assumption) | (refine below_next ?_ (by with_reducible assumption)) | (with_reducible refine Below.alloc ?_ ?_ _) | (with_reducible refine Below.drew ?_) | (with_reducible refine below_drewN ?_ _) | omega | (simp; done) | (simp; omega)))⟩
end Go.Proofs.YthgbfaoblnkniaaGreatDoor

namespace Go.Proofs.YthgbfaoblnkniaaGreatDoor
open Go.RowKit
theorem store_ev (w : World) (b : Nat) (k vk n ln : Int) (s key : ByteArray) (h : w.there b 0 6) : (Instr.storeAt 47 (.pointer (some ⟨b, 0, none⟩)) (.agg #[.int .i64 k, .string s, .string key, .int .i64 vk, .int .i64 n, .int .i64 ln])).run Tryz.prog w = .ok () ((((((w.setCell ⟨b, 0, none⟩ (.int .i64 k)).setCell ⟨b, 1, none⟩ (.string s)).setCell ⟨b, 2, none⟩ (.string key)).setCell ⟨b, 3, none⟩ (.int .i64 vk)).setCell ⟨b, 4, none⟩ (.int .i64 n)).setCell ⟨b, 5, none⟩ (.int .i64 ln)) :=
 run_storeAt_mid (P := Tryz.prog) w b 0 47 #[.int .i64 k, .string s, .string key, .int .i64 vk, .int .i64 n, .int .i64 ln] h (by kernel_rfl) (by simp [Value.oneCell'])
theorem free_blk {w : World} {g : Nat} {t : TypeId} {C : Array Value} (h : w.heap[g]? = some (.cells C t (0, 0))) (i : Nat) : w.frozen? ⟨g, i, none⟩ = false := by simp [World.frozen?, h]
theorem storeVar_ev (w : World) (b : Nat) (k vk n ln : Int) (s key : ByteArray) (h : w.there b 0 6) : (storeVar 47 ⟨b, 0, none⟩ (.agg #[.int .i64 k, .string s, .string key, .int .i64 vk, .int .i64 n, .int .i64 ln])).run Tryz.prog w = .ok () ((((((w.setCell ⟨b, 0, none⟩ (.int .i64 k)).setCell ⟨b, 1, none⟩ (.string s)).setCell ⟨b, 2, none⟩ (.string key)).setCell ⟨b, 3, none⟩ (.int .i64 vk)).setCell ⟨b, 4, none⟩ (.int .i64 n)).setCell ⟨b, 5, none⟩ (.int .i64 ln)) :=
 run_storeVar_mid (P := Tryz.prog) w b 0 47 #[.int .i64 k, .string s, .string key, .int .i64 vk, .int .i64 n, .int .i64 ln] h (by kernel_rfl) (by simp [Value.oneCell'])
theorem there_new (w : World) (t : TypeId) (a0 a1 a2 a3 a4 a5 : Value) : (w.alloc (.cells #[a0, a1, a2, a3, a4, a5] t)).there w.heap.size 0 6 := by
 intro j hj
 have hb := heap_alloc_new w (.cells #[a0, a1, a2, a3, a4, a5] t)
 rw [Nat.zero_add]
 refine ⟨?_, free_blk hb j⟩
 rw [cell_of_row _ w.heap.size j _ _ (0, 0) hb]
 match j, hj with
 | 0, _ => rfl
 | 1, _ => rfl
 | 2, _ => rfl
 | 3, _ => rfl
 | 4, _ => rfl
 | 5, _ => rfl
theorem there_later {w w' : World} {b o n : Nat} (h : w.there b o n) (hb : Below w.heap.size w w') : w'.there b o n := by
 intro j hj
 obtain ⟨h1, h2⟩ := h j hj
 obtain ⟨v, hv⟩ := Option.isSome_iff_exists.1 h1
 have hl := World.block_lt_of_cell? w _ hv
 rw [hb.cell hl, hb.frozen hl]
 exact ⟨h1, h2⟩
theorem there_past {w : World} {b o n : Nat} (h : w.there b o n) : ∀ ob, (w.alloc ob).there b o n := fun ob => World.there_alloc h ob
theorem there_set {w : World} {b o n : Nat} (h : w.there b o n) (a : Addr) (v : Value) : (w.setCell a v).there b o n := by
 intro j hj
 obtain ⟨h1, h2⟩ := h j hj
 obtain ⟨u, hu⟩ := Option.isSome_iff_exists.1 h1
 obtain ⟨u', hu'⟩ := cell?_setCell_some (w := w) (p := a) (x := v) (q := ⟨b, o + j, none⟩) (v := u) hu
 exact ⟨by rw [hu']; rfl, by rw [World.frozen?_setCell]; exact h2⟩
theorem range_ev (w : World) (b : Nat) (k vk n ln : Int) (s key : ByteArray) (h : w.there b 0 6) : ((((((w.setCell ⟨b, 0, none⟩ (.int .i64 k)).setCell ⟨b, 1, none⟩ (.string s)).setCell ⟨b, 2, none⟩ (.string key)).setCell ⟨b, 3, none⟩ (.int .i64 vk)).setCell ⟨b, 4, none⟩ (.int .i64 n)).setCell ⟨b, 5, none⟩ (.int .i64 ln)).rangeAt b 0 [.int .i64 k, .string s, .string key, .int .i64 vk, .int .i64 n, .int .i64 ln] :=
 World.rangeAt_setCells_same w b 0 [.int .i64 k, .string s, .string key, .int .i64 vk, .int .i64 n, .int .i64 ln] h
theorem load_ev (w : World) (b : Nat) (k vk n ln : Int) (s key : ByteArray) (h : w.there b 0 6) : (Instr.loadAt 47 (.pointer (some ⟨b, 0, none⟩))).run Tryz.prog ((((((w.setCell ⟨b, 0, none⟩ (.int .i64 k)).setCell ⟨b, 1, none⟩ (.string s)).setCell ⟨b, 2, none⟩ (.string key)).setCell ⟨b, 3, none⟩ (.int .i64 vk)).setCell ⟨b, 4, none⟩ (.int .i64 n)).setCell ⟨b, 5, none⟩ (.int .i64 ln)) = .ok (.agg #[.int .i64 k, .string s, .string key, .int .i64 vk, .int .i64 n, .int .i64 ln]) ((((((w.setCell ⟨b, 0, none⟩ (.int .i64 k)).setCell ⟨b, 1, none⟩ (.string s)).setCell ⟨b, 2, none⟩ (.string key)).setCell ⟨b, 3, none⟩ (.int .i64 vk)).setCell ⟨b, 4, none⟩ (.int .i64 n)).setCell ⟨b, 5, none⟩ (.int .i64 ln)) :=
 run_loadAt_mid _ b 0 47 [.int .i64 k, .string s, .string key, .int .i64 vk, .int .i64 n, .int .i64 ln] _ (range_ev w b k vk n ln s key h) Tryz.underlying47 rfl (by kernel_rfl)
theorem loadVar_ev (w : World) (b : Nat) (k vk n ln : Int) (s key : ByteArray) (h : w.there b 0 6) : (loadVar 47 ⟨b, 0, none⟩).run Tryz.prog ((((((w.setCell ⟨b, 0, none⟩ (.int .i64 k)).setCell ⟨b, 1, none⟩ (.string s)).setCell ⟨b, 2, none⟩ (.string key)).setCell ⟨b, 3, none⟩ (.int .i64 vk)).setCell ⟨b, 4, none⟩ (.int .i64 n)).setCell ⟨b, 5, none⟩ (.int .i64 ln)) = .ok (.agg #[.int .i64 k, .string s, .string key, .int .i64 vk, .int .i64 n, .int .i64 ln]) ((((((w.setCell ⟨b, 0, none⟩ (.int .i64 k)).setCell ⟨b, 1, none⟩ (.string s)).setCell ⟨b, 2, none⟩ (.string key)).setCell ⟨b, 3, none⟩ (.int .i64 vk)).setCell ⟨b, 4, none⟩ (.int .i64 n)).setCell ⟨b, 5, none⟩ (.int .i64 ln)) :=
 run_loadVar_mid _ b 0 47 [.int .i64 k, .string s, .string key, .int .i64 vk, .int .i64 n, .int .i64 ln] _ (range_ev w b k vk n ln s key h) Tryz.underlying47 rfl (by kernel_rfl)
theorem below_setCells {B : Nat} {w w' : World} (h : Below B w w') {b : Nat} (hb : B ≤ b) : ∀ (vs : List Value) (o : Nat), Below B w (w'.setCells b o vs)
 | [], _ => h
 | v :: vs, o => below_setCells (h.setCell (p := ⟨b, o, none⟩) hb v) hb vs (o + 1)
theorem there_set' {w : World} {b n : Nat} {a : Addr} {v : Value} (h : w.there b 0 n) : (w.setCell a v).there b 0 n ↔ True := iff_true_intro (there_set h a v)
end Go.Proofs.YthgbfaoblnkniaaGreatDoor

namespace Go.Proofs.YthgbfaoblnkniaaGreatDoor
open Go.RowKit
set_option maxRecDepth 100000 in
set_option maxHeartbeats 1000000 in
theorem rkinds_any (w : World) :
  Calls Tryz.prog 73 #[] w fun e w' => e = .returned (.slice (some ⟨w.heap.size, 0, none⟩) 7 7) ∧ (∀ i : Nat, i < 7 → w'.cell? ⟨w.heap.size, i, none⟩ = some (.string (bs (kindW i)))) ∧ w.heap.size < w'.heap.size ∧ Below w.heap.size w w' := by
 have K : ∀ i : Nat, i < 7 → (w.alloc (.cells #[.string (bs []), .string (bs [98, 101, 103, 105, 110]), .string (bs [114, 101, 97, 100]), .string (bs [119, 114, 105, 116, 101]), .string (bs [111, 107]), .string (bs [102, 97, 105, 108]), .string (bs [105, 110, 102, 111])] 9)).cell? ⟨w.heap.size, i, none⟩ = some (.string (bs (kindW i))) := by
  intro i hi
  rw [cell_of_row _ w.heap.size i _ _ (0, 0) (heap_alloc_new w _), kindW_at i hi]
  match i, hi with
  | 0, _ => rfl
  | 1, _ => rfl
  | 2, _ => rfl
  | 3, _ => rfl
  | 4, _ => rfl
  | 5, _ => rfl
  | 6, _ => rfl
 have HK := Lib.hid K
 clear K
 go_enter Tryz.func73, Tryz.ntmps73
 go_wp2
 go_ret
 exact ⟨rfl, HK.out, by simp, (Below.refl _ _).alloc (Nat.le_refl _) _⟩
theorem valued_cases (k : Int) (s key t : List UInt8) : (∃ a b c, vParse t = (a, b, c) ∧ (c != 0) = true ∧ valuedE k s key t = (noEv, c)) ∨
  (∃ b, k = 3 ∧ vParse t = (0, b, 0) ∧ valuedE k s key t = (noEv, 11)) ∨ (∃ b, k = 3 ∧ vParse t = (2, b, 0) ∧ valuedE k s key t = (noEv, 5)) ∨
  (∃ a b, vParse t = (a, b, 0) ∧ (k == 3) = false ∧ valuedE k s key t = ((k, s, key, a, b, 0), 0)) ∨
  (∃ a b, k = 3 ∧ vParse t = (a, b, 0) ∧ (a == 0) = false ∧ (a == 2) = false ∧ valuedE k s key t = ((k, s, key, a, b, 0), 0)) := by
 obtain ⟨a, b, c, hp⟩ : ∃ a b c, vParse t = (a, b, c) := ⟨_, _, _, rfl⟩
 unfold valuedE
 rw [hp]
 by_cases hc : c = 0
 ·subst hc
  rw [if_neg (by simp)]
  by_cases hk : k = 3
  ·by_cases h0 : a = 0
   ·subst h0
    exact .inr (.inl ⟨b, hk, rfl, by rw [if_pos ⟨hk, rfl⟩]⟩)
   ·by_cases h2 : a = 2
    ·subst h2
     exact .inr (.inr (.inl ⟨b, hk, rfl, by rw [if_neg (fun h => h0 h.2), if_pos ⟨hk, rfl⟩]⟩))
    ·exact .inr (.inr (.inr (.inr ⟨a, b, hk, rfl, by simpa using h0, by simpa using h2, by rw [if_neg (fun h => h0 h.2), if_neg (fun h => h2 h.2)]⟩)))
  ·exact .inr (.inr (.inr (.inl ⟨a, b, rfl, by simpa using hk, by rw [if_neg (fun h => hk h.1), if_neg (fun h => hk h.1)]⟩)))
 ·exact .inl ⟨a, b, c, rfl, by simpa using hc, by rw [if_pos hc]⟩
section
attribute [local go_sem ↓] store_ev
set_option maxRecDepth 100000 in
set_option maxHeartbeats 2000000 in
theorem valued_any (k : Int) (s key t : List UInt8) (ht : t.length ≤ 9223372036854775806) (w : World) :
  Calls Tryz.prog 80 #[.int .i64 k, .string (bs s), .string (bs key), .string (bs t)] w fun e w' => e = .returned (.tuple #[evV (valuedE k s key t).1, .int .i64 (valuedE k s key t).2]) ∧ Below w.heap.size w w' := by
 have T0 := Lib.hid (there_new w 47 (.int .i64 0) (.string { data := #[] }) (.string { data := #[] }) (.int .i64 0) (.int .i64 0) (.int .i64 0))
 rcases valued_cases k s key t with ⟨a, b, c, hp, hc, h⟩ | ⟨b, rfl, hp, h⟩ | ⟨b, rfl, hp, h⟩ | ⟨a, b, hp, hk, h⟩ | ⟨a, b, rfl, hp, h0, h2, h⟩
 all_goals
  have HV := Lib.hid (vparse_of t _ _ _ ht hp)
  rw [h]
  clear h hp
  go_enter Tryz.func80, Tryz.ntmps80
  go_wp2_with (fail)
  refine (HV.out _).mono ?_
  rintro e w1 ⟨rfl, hb1⟩
  obtain ⟨hc1, hf1⟩ := bcell hb1
  have hz1 := hb1.size
  try simp at hz1
  have hl1_0 : w.heap.size < w1.heap.size := by omega
  have hl1_0_1 : w.heap.size < w1.heap.size + 1 := by omega
  have th := there_past (there_later T0.out hb1)
  go_wp21
  refine bodyPost_ret ?_ rfl ⟨rfl, ?_⟩
  ·simp [results, Tryz.results80, go_sem, hc1, hl1_0, evV, noEv]
   try rfl
  ·(repeat' (first | (with_reducible exact Below.refl _ _) | (with_reducible assumption) | (refine below_next ?_ (by with_reducible assumption)) | (with_reducible refine Below.setCell ?_ ?_ _) | (with_reducible refine Below.alloc ?_ ?_ _) | (with_reducible refine Below.drew ?_) | (with_reducible refine below_drewN ?_ _) | omega | (simp; done) | (simp; omega)))
end
end Go.Proofs.YthgbfaoblnkniaaGreatDoor

namespace Go.Proofs.YthgbfaoblnkniaaGreatDoor
open Go.RowKit
section
variable {P : Program} {ops : Array Oper} {Q : Exit → Act → World → Prop} {md : Region.Mode} {S : World → Prop} {late : List Nat}
def wpAnyL (P : Program) (md : Region.Mode) (ops : Array Oper) (Q : Exit → Act → World → Prop) (S : World → Prop) (late : List Nat) : Nat → Array Bool → Act → World → Prop
 | 0, listed, a, w => Region.ready md ops listed = [] ∧ Q .normal a w
 | fuel + 1, listed, a, w =>
  (Region.ready md ops listed = [] → Q .normal a w) ∧
  ∀ i ∈ Region.ready md ops listed, wpOp P ops Q i (fun a' w' => (late.contains i = false → S w') ∧ wpAnyL P md ops Q S late fuel (listed.setIfInBounds i true) a' w') a w
theorem wpAny_of_late : ∀ (fuel : Nat) (listed : Array Bool) (a : Act) (w : World), wpAnyL P md ops Q S late fuel listed a w → wpAny P md ops Q fuel listed a w
 | 0, _, _, _, h => h
 | fuel + 1, _, _, _, h => ⟨h.1, fun i hi => wpOp_mono (fun a' w' h' => wpAny_of_late fuel _ a' w' h'.2) (h.2 i hi)⟩
def waitsN (md : Region.Mode) (ops : Array Oper) : Nat → Nat → Nat → Bool
 | 0, _, _ => false
 | n + 1, l, i => match ops[l]? with
  | some o => o.after.any fun e => Region.binds md e && (e.on == i || waitsN md ops n e.on i)
  | none => false
def closedB (md : Region.Mode) (ops : Array Oper) (listed : Array Bool) : Bool := (List.range ops.size).all fun j => !listed.getD j true || match ops[j]? with
 | some o => o.after.all fun e => !Region.binds md e || listed.getD e.on true
 | none => true
def Closed (md : Region.Mode) (ops : Array Oper) (listed : Array Bool) : Prop := ∀ j o, ops[j]? = some o → listed.getD j true = true → ∀ e ∈ o.after, Region.binds md e = true → listed.getD e.on true = true
theorem closed_of {listed : Array Bool} (h : closedB md ops listed = true) : Closed md ops listed := by
 intro j o ho hj e he hb
 have hlt : j < ops.size := (Array.getElem?_eq_some_iff.1 ho).1
 have h1 := List.all_eq_true.1 h j (List.mem_range.2 hlt)
 simp only [hj, Bool.not_true, Bool.false_or, ho] at h1
 have h2 := Array.all_eq_true_iff_forall_mem.1 h1 e he
 simpa [hb] using h2
theorem ready_on {listed : Array Bool} {j : Nat} {o : Oper} (hj : j ∈ Region.ready md ops listed) (ho : ops[j]? = some o) : ∀ e ∈ o.after, Region.binds md e = true → listed.getD e.on true = true := by
 intro e he hb
 obtain ⟨-, o', ho', hall⟩ := mem_ready.1 hj
 obtain rfl := Option.some.inj (ho.symm.trans ho')
 have h1 := hall e he hb
 rcases Nat.lt_or_ge e.on listed.size with h' | h'
 ·simp [h'] at h1 ⊢; exact h1
 ·simp [Array.getElem?_eq_none h'] at h1
theorem Closed.next {listed : Array Bool} (h : Closed md ops listed) {j : Nat} (hj : j ∈ Region.ready md ops listed) : Closed md ops (listed.setIfInBounds j true) := by
 have up : ∀ k, listed.getD k true = true → (listed.setIfInBounds j true).getD k true = true := by
  intro k hk
  by_cases hjk : j = k
  ·subst hjk
   rcases Nat.lt_or_ge j listed.size with h' | h'
   ·simp [h']
   ·simp
  ·rw [getD_set_ne true hjk]; exact hk
 intro k o ho hk e he hb
 apply up
 by_cases hjk : j = k
 ·subst hjk
  exact ready_on hj ho e he hb
 ·rw [getD_set_ne true hjk] at hk
  exact h k o ho hk e he hb
theorem waits_open {i : Nat} {listed : Array Bool} (hc : Closed md ops listed) (hi : listed.getD i true = false) : ∀ n l, waitsN md ops n l i = true → listed.getD l true = false ∧ l ∉ Region.ready md ops listed
 | 0, _, h => by cases h
 | n + 1, l, h => by
  unfold waitsN at h
  split at h
  ·rename_i o ho
   obtain ⟨e, he, hb⟩ := Array.any_eq_true'.1 h
   simp only [Bool.and_eq_true, Bool.or_eq_true, beq_iff_eq] at hb
   have hne : listed.getD e.on true = false := by
    rcases hb.2 with h1 | h1
    ·rw [h1]; exact hi
    ·exact (waits_open hc hi n e.on h1).1
   constructor
   ·cases hl : listed.getD l true with
    | false => rfl
    | true => rw [hc l o ho hl e he hb.1] at hne; cases hne
   ·intro hr
    rw [ready_on hr ho e he hb.1] at hne
    cases hne
  ·cases h
theorem wpAnyL_first {i n : Nat} {oi : Oper} {v : Value} (hi : ops[i]? = some oi) (hsel : ∀ (j : Nat) (o : Oper) cs b, ops[j]? = some o → o.op ≠ .select cs b)
  (hQ : ∀ c a w, Q (.panic c) (a.put oi.dst v) w → Q (.panic c) a w) (hw : late.all (fun l => waitsN md ops n l i) = true) :
  ∀ (fuel : Nat) (listed : Array Bool) (a : Act) (w : World), Closed md ops listed →
   (∀ j oj, ops[j]? = some oj → j ≠ i → listed.getD j true = false → (∀ e ∈ oj.after, Region.binds md e = true → e.on ≠ i) → oi.apart ops oj = true) →
   i ∈ Region.ready md ops listed → YieldsIf P ops S oi v a → S w →
   wpAnyL P md ops Q S late fuel (listed.setIfInBounds i true) (a.put oi.dst v) w → wpAnyL P md ops Q S late (fuel + 1) listed a w := by
 intro fuel
 induction fuel with
 | zero =>
  intro listed a w _ _ hr hy hS H
  refine ⟨fun h => (by rw [h] at hr; cases hr), fun j hj => ?_⟩
  by_cases hji : j = i
  ·subst hji; exact hy.wpOp hi hS ⟨fun _ => hS, H⟩
  ·have := ready_mono hj hji
   rw [H.1] at this
   cases this
 | succ fuel ih =>
  intro listed a w hcl hfree hr hy hS H
  refine ⟨fun h => (by rw [h] at hr; cases hr), fun j hj => ?_⟩
  by_cases hji : j = i
  ·subst hji; exact hy.wpOp hi hS ⟨fun _ => hS, H⟩
  ·have hjl : late.contains j = false := by
    cases hc : late.contains j with
    | false => rfl
    | true =>
     have hm : j ∈ late := by simpa using hc
     exact absurd hj (waits_open hcl (mem_ready.1 hr).1 n j (List.all_eq_true.1 hw j hm)).2
   have h1 := H.2 j (ready_mono hj hji)
   obtain ⟨hjun, oj, hoj, hall⟩ := mem_ready.1 hj
   have hnot : ∀ e ∈ oj.after, Region.binds md e = true → e.on ≠ i := fun e he hb heq => by
    have h1 := hall e he hb
    have h0 := (mem_ready.1 hr).1
    rw [heq] at h1
    rcases Nat.lt_or_ge i listed.size with h' | h'
    ·simp [h'] at h0 h1; rw [h0] at h1; cases h1
    ·simp [Array.getElem?_eq_none h'] at h1
   have h2 := wpOp_putIf hoj (hfree j oj hoj hji hjun hnot) (fun cs b => hsel i oi cs b hi) (fun cs b => hsel j oj cs b hoj) hQ hy h1
   have hfree' : ∀ k ok, ops[k]? = some ok → k ≠ i → (listed.setIfInBounds j true).getD k true = false →
     (∀ e ∈ ok.after, Region.binds md e = true → e.on ≠ i) → oi.apart ops ok = true := fun k ok hk hki hun hno => by
    refine hfree k ok hk hki ?_ hno
    by_cases hjk : j = k
    ·subst hjk; exact hjun
    ·rw [getD_set_ne true hjk] at hun; exact hun
   refine wpOp_mono (fun a' w' h3 => ⟨fun _ => h3.2.1 hjl, ih (listed.setIfInBounds j true) a' w' (hcl.next hj) hfree' (ready_mono hr (Ne.symm hji)) h3.1 (h3.2.1 hjl) ?_⟩) h2
   rw [Array.setIfInBounds_comm _ _ hji]
   exact h3.2.2
theorem wpAnyL_loose {i : Nat} {oi : Oper} {v : Value} (hi : ops[i]? = some oi) (hsel : ∀ (j : Nat) (o : Oper) cs b, ops[j]? = some o → o.op ≠ .select cs b)
  (hQ : ∀ c a w, Q (.panic c) (a.put oi.dst v) w → Q (.panic c) a w) (hl : late.contains i = true) :
  ∀ (fuel : Nat) (listed : Array Bool) (a : Act) (w : World),
   (∀ j oj, ops[j]? = some oj → j ≠ i → listed.getD j true = false → (∀ e ∈ oj.after, Region.binds md e = true → e.on ≠ i) → oi.apart ops oj = true) →
   i ∈ Region.ready md ops listed → YieldsIf P ops (fun _ => True) oi v a →
   wpAnyL P md ops Q S late fuel (listed.setIfInBounds i true) (a.put oi.dst v) w → wpAnyL P md ops Q S late (fuel + 1) listed a w := by
 intro fuel
 induction fuel with
 | zero =>
  intro listed a w _ hr hy H
  refine ⟨fun h => (by rw [h] at hr; cases hr), fun j hj => ?_⟩
  by_cases hji : j = i
  ·subst hji; exact hy.wpOp hi trivial ⟨fun h => (by rw [hl] at h; cases h), H⟩
  ·have := ready_mono hj hji
   rw [H.1] at this
   cases this
 | succ fuel ih =>
  intro listed a w hfree hr hy H
  refine ⟨fun h => (by rw [h] at hr; cases hr), fun j hj => ?_⟩
  by_cases hji : j = i
  ·subst hji; exact hy.wpOp hi trivial ⟨fun h => (by rw [hl] at h; cases h), H⟩
  ·have h1 := H.2 j (ready_mono hj hji)
   obtain ⟨hjun, oj, hoj, hall⟩ := mem_ready.1 hj
   have hnot : ∀ e ∈ oj.after, Region.binds md e = true → e.on ≠ i := fun e he hb heq => by
    have h1 := hall e he hb
    have h0 := (mem_ready.1 hr).1
    rw [heq] at h1
    rcases Nat.lt_or_ge i listed.size with h' | h'
    ·simp [h'] at h0 h1; rw [h0] at h1; cases h1
    ·simp [Array.getElem?_eq_none h'] at h1
   have h2 := wpOp_putIf hoj (hfree j oj hoj hji hjun hnot) (fun cs b => hsel i oi cs b hi) (fun cs b => hsel j oj cs b hoj) hQ hy h1
   have hfree' : ∀ k ok, ops[k]? = some ok → k ≠ i → (listed.setIfInBounds j true).getD k true = false →
     (∀ e ∈ ok.after, Region.binds md e = true → e.on ≠ i) → oi.apart ops ok = true := fun k ok hk hki hun hno => by
    refine hfree k ok hk hki ?_ hno
    by_cases hjk : j = k
    ·subst hjk; exact hjun
    ·rw [getD_set_ne true hjk] at hun; exact hun
   refine wpOp_mono (fun a' w' h3 => ⟨h3.2.1, ih (listed.setIfInBounds j true) a' w' hfree' (ready_mono hr (Ne.symm hji)) h3.1 ?_⟩) h2
   rw [Array.setIfInBounds_comm _ _ hji]
   exact h3.2.2
theorem wpAnyL_free (i : Nat) {d : Tmp} {op : Op} {ty : TypeId} {pos : String} {aft : Array Edge} {gd : Option (Nat × Bool)} {v : Value} {fuel : Nat} {listed : Array Bool} {a : Act} {w : World} (hi : ops[i]? = some ⟨some d, op, ty, pos, aft, gd⟩)
  (hs : Region.noSelect ops = true) (hf : Region.free md ops listed i = true) (hr : (Region.ready md ops listed).contains i = true) (hl : late.contains i = true)
  (hQ : ∀ c a w, Q (.panic c) (a.put (some d) v) w → Q (.panic c) a w) (hy : YieldsIf P ops (fun _ => True) ⟨some d, op, ty, pos, aft, gd⟩ v a)
  (h : wpAnyL P md ops Q S late fuel (listed.setIfInBounds i true) (a.put (some d) v) w) : wpAnyL P md ops Q S late (fuel + 1) listed a w :=
 wpAnyL_loose hi (Region.noSelect_spec hs) hQ hl fuel listed a w (Region.free_spec hi hf) (by simpa using hr) hy h
theorem wpAnyL_take (i n : Nat) {d : Tmp} {op : Op} {ty : TypeId} {pos : String} {aft : Array Edge} {gd : Option (Nat × Bool)} {v : Value} {fuel : Nat} {listed : Array Bool} {a : Act} {w : World} (hi : ops[i]? = some ⟨some d, op, ty, pos, aft, gd⟩)
  (hs : Region.noSelect ops = true) (hf : Region.free md ops listed i = true) (hr : (Region.ready md ops listed).contains i = true) (hw : late.all (fun l => waitsN md ops n l i) = true) (hcl : closedB md ops listed = true)
  (hQ : ∀ c a w, Q (.panic c) (a.put (some d) v) w → Q (.panic c) a w) (hy : YieldsIf P ops S ⟨some d, op, ty, pos, aft, gd⟩ v a) (hS : S w)
  (h : wpAnyL P md ops Q S late fuel (listed.setIfInBounds i true) (a.put (some d) v) w) : wpAnyL P md ops Q S late (fuel + 1) listed a w :=
 wpAnyL_first hi (Region.noSelect_spec hs) hQ hw fuel listed a w (closed_of hcl) (Region.free_spec hi hf) (by simpa using hr) hy hS h
theorem wpAnyL_one (i : Nat) {d : Option Tmp} {op : Op} {ty : TypeId} {pos : String} {aft : Array Edge} {gd : Option (Nat × Bool)} {fuel : Nat} {listed : Array Bool} {a : Act} {w : World} (ho : ops[i]? = some ⟨d, op, ty, pos, aft, gd⟩) (hr : Region.ready md ops listed = [i])
  (h : ∀ K : Act → World → Prop, RowKit.Hid (∀ a' w', (late.contains i = false → S w') → wpAnyL P md ops Q S late fuel (listed.setIfInBounds i true) a' w' → K a' w') → if Region.wanted ⟨d, op, ty, pos, aft, gd⟩ (yielded ops a.tmps) = true then Oper.wp P ⟨d, op, ty, pos, aft, gd⟩ a w K Q else K (a.put d undef) w) : wpAnyL P md ops Q S late (fuel + 1) listed a w := by
 refine ⟨fun h0 => (by rw [hr] at h0; cases h0), fun j hj => ?_⟩
 rw [hr] at hj
 obtain rfl : j = i := by simpa using hj
 exact wpOp_step ho (fun K hK => h K (Lib.hid (fun a' w' h1 h2 => hK a' w' ⟨h1, h2⟩)))
theorem wpAnyL_done {listed : Array Bool} {a : Act} {w : World} (hr : Region.ready md ops listed = []) (h : Q .normal a w) : ∀ fuel, wpAnyL P md ops Q S late fuel listed a w
 | 0 => ⟨hr, h⟩
 | _ + 1 => ⟨fun _ => h, by rw [hr]; simp⟩
theorem wp_region_late (S : World → Prop) (late : List Nat) {id : Nat} {a : Act} {w : World} (hm : P.follows .mixedOrders = true)
  (h : wpAnyL P .any ops Q S late ops.size (Array.replicate ops.size false) a w.drew) : (Code.region id ops true).wp P Q a w :=
 wp_region_any hm (wpAny_of_late _ _ _ _ h)
end
end Go.Proofs.YthgbfaoblnkniaaGreatDoor
