/-
  The walks of layer 8 (log): whether all events may be, in the program's way. Conditions: unicode/utf8's two tables hold what their initialisers lay; names of at most 1,000,000 bytes.
  The walk of layer 7's reference (event): an event's line. No conditions but texts of at most 1,000,000 bytes.
  A strings.Builder of the call's own: written, measured, read. No conditions but those on sizes.
  The walks of layer 8 (log): events' text, in the program and in the reference. Conditions: unicode/utf8's two tables, and event.words, hold what their initialisers lay; names of at most 1,000,000 bytes.
  What an argument's reading says of its cells: slices of whatever element. No conditions.
  The step from a law's walk ('returns true; all memory that was there stands as it stood') to its row, for whatever arguments. No conditions.
  An event as an argument; a table of texts as its initialiser lays it. No conditions.
  Events as an argument: what its reading says of its cells; rows of a call's own as such. No conditions.
  A region that draws its order: one condition on the world that all but the late operations keep; what asks nothing of the world may come when it will. No conditions.
  The statements' own cut of events (not too many, names not too long), walked; events as an argument. No conditions.
-/
import Derived.Test.YtphhgdgamnogpaaDoorG8d
import Derived.Test.YtphhgdgamnogpaaDoorG8f
import Derived.Test.YtphhgdgamnogpaaDoorG8e
import Derived.Test.YtphhgdgamnogpaaDoorG8b
import Derived.Shelf.Strings.Builder1
import Derived.Deep.DeepCutAuto
import Derived.Deep.CutBlock
import Derived.Test.YtphhgdgamnogpaaDoorG8a
import Derived.Deep.Slices
import Derived.ChangeSame
import Derived.ProofKit
import Derived.OpenShut
import Derived.SizedLaws
import Derived.Lib.SmallJoins
import Derived.Lib.LaidU8
import Derived.OrdersHeld
import Derived.Laws.OwnMore
namespace Go.Proofs.YtphhgdgamnogpaaDoor
open Go.RowKit Go.Lib

/-- Events whose names are not too long, and whose numbers are Go's. -/
def ModE (L : List EventM) : Prop := ∀ x ∈ L, x.2.1.length ≤ 1000000 ∧ x.2.2.1.length ≤ 1000000 ∧ NumE x
theorem ModE.at {L : List EventM} (h : ModE L) (k : Nat) (hk : k < L.length) : (L.getD k noEv).2.1.length ≤ 1000000 ∧ (L.getD k noEv).2.2.1.length ≤ 1000000 ∧ NumE (L.getD k noEv) := by
  have : L.getD k noEv = L[k] := by simp [hk]
  rw [this]
  exact h _ (List.getElem_mem hk)

set_option maxRecDepth 100000 in
set_option maxHeartbeats 1000000 in
theorem logmay1_any (x : EventM) (h1 : x.2.1.length ≤ 1000000) (h2 : x.2.2.1.length ≤ 1000000) (w : World) (hT : Lib.Utf8Tabs 4 5 w) :
    Calls Tryd.prog 91 #[evV x] w fun e w' => e = .returned (.bool (!mayE x)) ∧ Below w.heap.size w w' := by
  obtain ⟨k, s, key, vk, n, ln⟩ := x
  have H1 := Lib.hid (fun w' (h : Below w.heap.size w w') => emay_any k s key vk n ln h1 h2 w' (Utf8Tabs_below hT h))
  have hal := (Below.refl w.heap.size w).alloc (Nat.le_refl _) (.cells #[.int .i64 k, .string (bs s), .string (bs key), .int .i64 vk, .int .i64 n, .int .i64 ln] 37)
  have HA := Lib.hid hal
  unfold evV
  dsimp only
  clear hT hal h1 h2
  go_enter Tryd.func91, Tryd.ntmps91
  go_wp2_with fail
  refine (H1.out _ HA.out).mono ?_
  rintro e w1 ⟨rfl, hb1⟩
  go_wp2_with fail
  go_ret
  exact ⟨rfl, below_next HA.out hb1⟩

set_option maxRecDepth 100000 in
set_option maxHeartbeats 2000000 in
theorem evindex_any (v : Value) (L : List EventM) (w : World) (hv : EvsS w v L) (hL : L.length ≤ 1000000) (hM : ModE L) (hT : Lib.Utf8Tabs 4 5 w) :
    Calls Tryd.prog 128 #[v, .func (.func 91) #[] #[]] w fun e w' => ∃ i : Int, e = .returned (.int .i64 i) ∧ decide (0 ≤ i) = !(L.all mayE) ∧ Below w.heap.size w w' := by
  obtain ⟨p, c, rfl, hp⟩ := hv
  have HX := Lib.hid hp
  have en := enters_of Tryd.func91 (by kernel_rfl) rfl
  have HYes : RowKit.Hid (∀ k : Nat, k < L.length → mayE (L.getD k noEv) = false → decide ((0 : Int) ≤ (k : Int)) = !(L.all mayE)) := Lib.hid (fun k hk hf => by
    have : L.all mayE = false := by
      rw [List.all_eq_false]
      refine ⟨L.getD k noEv, ?_, by rw [hf]; exact Bool.false_ne_true⟩
      have : L.getD k noEv = L[k] := by simp [hk]
      rw [this]
      exact List.getElem_mem hk
    rw [this]
    simp)
  have HNo : RowKit.Hid ((∀ k : Nat, k < L.length → mayE (L.getD k noEv) = true) → decide ((0 : Int) ≤ -1) = !(L.all mayE)) := Lib.hid (fun h => by
    have : L.all mayE = true := by
      rw [List.all_eq_true]
      intro x hx
      obtain ⟨k, hk, e⟩ := List.getElem_of_mem hx
      have := h k hk
      simpa [hk, e] using this
    rw [this]
    rfl)
  have HO := Lib.hid (fun k (hk : k < L.length) w' (h : Below w.heap.size w w') => logmay1_any (L.getD k noEv) (hM.at k hk).1 (hM.at k hk).2.1 w' (Utf8Tabs_below hT h))
  generalize (!(L.all mayE)) = R at *
  clear hp hT hM
  go_enter Tryd.func128, Tryd.ntmps128
  go_wp2_with fail
  go_loopw [8] (fun i wr => ∃ k : Nat, k ≤ L.length ∧ i = .int .i64 k ∧ (∀ j, j < k → mayE (L.getD j noEv) = true) ∧ Below w.heap.size w wr) (fun i _ => L.length - (RowKit.intOf i).toNat)
  case atStart => exact ⟨0, Nat.zero_le _, rfl, fun j hj => absurd hj (Nat.not_lt_zero j), Below.refl _ _⟩
  case round =>
    obtain ⟨k, hk, rfl, hn, hbw⟩ := hrel
    have HN := Lib.hid hn
    clear hn
    by_cases hk1 : k < L.length
    · obtain ⟨g, rfl, hcell⟩ := HX.out k hk1
      have HM := Lib.hid (HO.out k hk1 wr hbw)
      have HY := Lib.hid (HYes.out k hk1)
      have HK : RowKit.Hid (mayE (L.getD k noEv) = true → ∀ j, j < k + 1 → mayE (L.getD j noEv) = true) := Lib.hid (fun h j hj => by
        by_cases hjk : j < k
        · exact HN.out j hjk
        · obtain rfl : j = k := by omega
          exact h)
      obtain ⟨b, hb⟩ : ∃ b, mayE (L.getD k noEv) = b := ⟨_, rfl⟩
      rw [hb] at HM HY HK
      obtain ⟨t, ht⟩ : ∃ t, L.getD k noEv = t := ⟨_, rfl⟩
      rw [ht] at HM hcell
      obtain ⟨x1, x2, x3, x4, x5, x6⟩ := t
      have a0 := cell_later hbw (hcell 0 _ rfl)
      have a1 := cell_later hbw (hcell 1 _ rfl)
      have a2 := cell_later hbw (hcell 2 _ rfl)
      have a3 := cell_later hbw (hcell 3 _ rfl)
      have a4 := cell_later hbw (hcell 4 _ rfl)
      have a5 := cell_later hbw (hcell 5 _ rfl)
      simp only [Nat.add_zero] at a0 a1 a2 a3 a4 a5
      unfold evV at HM
      dsimp only at HM
      clear hcell hb ht
      cases b with
      | false =>
        go_wp2_with (first | (go_at_call 91; refine HM.out.mono ?_; rintro e w1 ⟨rfl, hb1⟩))
        go_ret
        exact ⟨_, rfl, HY.out trivial, below_next hbw hb1⟩
      | true =>
        go_wp2_with (first | (go_at_call 91; refine HM.out.mono ?_; rintro e w1 ⟨rfl, hb1⟩))
        go_roundw
        case rel => exact ⟨k + 1, by omega, by go_num, HK.out trivial, below_next hbw hb1⟩
        case measure => simp [RowKit.intOf]; omega
    · have hke : k = L.length := by omega
      subst hke
      have H1 := Lib.hid (HNo.out HN.out)
      go_wp2_with fail
      go_ret
      exact ⟨_, rfl, H1.out, hbw⟩

set_option maxRecDepth 100000 in
set_option maxHeartbeats 1000000 in
theorem evcontains_any (v : Value) (L : List EventM) (w : World) (hv : EvsS w v L) (hL : L.length ≤ 1000000) (hM : ModE L) (hT : Lib.Utf8Tabs 4 5 w) :
    Calls Tryd.prog 90 #[v, .func (.func 91) #[] #[]] w fun e w' => e = .returned (.bool (!(L.all mayE))) ∧ Below w.heap.size w w' := by
  have H1 := Lib.hid (evindex_any v L w hv hL hM hT)
  generalize (!(L.all mayE)) = R at *
  clear hv hL hM hT
  go_enter Tryd.func90, Tryd.ntmps90
  go_wp2_with fail
  refine H1.out.mono ?_
  rintro e w1 ⟨i, rfl, hi, hb1⟩
  have HI := Lib.hid hi
  clear hi
  go_wp2_with fail
  go_ret
  refine ⟨?_, hb1⟩
  rw [← HI.out]
  rfl

/-! ### how many are of a kind -/
set_option maxRecDepth 100000 in
set_option maxHeartbeats 1000000 in
theorem take_count (L : List EventM) (q : Int) (k : Nat) (hk : k < L.length) : countL (L.take (k + 1)) q = countL (L.take k) q + if (L.getD k noEv).1 = q then 1 else 0 := by
  unfold countL
  have e : L.take (k + 1) = L.take k ++ [L.getD k noEv] := by
    rw [List.take_succ_eq_append_getElem hk]
    simp [hk]
  rw [e, List.filter_append, List.length_append]
  generalize L.getD k noEv = x
  by_cases h : x.1 = q <;> simp [h]
theorem count_le (L : List EventM) (q : Int) (k : Nat) : countL (L.take k) q ≤ k := by
  unfold countL
  refine Nat.le_trans (List.length_filter_le _ _) ?_
  exact List.length_take_le _ _

set_option maxRecDepth 100000 in
set_option maxHeartbeats 1000000 in
theorem count_any (v : Value) (L : List EventM) (q : Int) (w : World) (hv : EvsS w v L) (hL : L.length ≤ 1000000) :
    Calls Tryd.prog 50 #[v, .int .i64 q] w fun e w' => e = .returned (.int .i64 (countL L q)) ∧ Below w.heap.size w w' := by
  obtain ⟨p, c, rfl, hp⟩ := hv
  have HX := Lib.hid hp
  clear hp
  go_enter Tryd.func50, Tryd.ntmps50
  go_wp2_with fail
  go_loopw [5, 10] (fun n i wr => ∃ k : Nat, k ≤ L.length ∧ n = .int .i64 (countL (L.take k) q) ∧ i = .int .i64 k ∧ Below w.heap.size w wr) (fun _ i _ => L.length - (RowKit.intOf i).toNat)
  case atStart => exact ⟨0, Nat.zero_le _, rfl, rfl, Below.refl _ _⟩
  case round =>
    obtain ⟨k, hk, rfl, rfl, hbw⟩ := hrel
    have hcl := count_le L q k
    have hbz := hbw.size
    by_cases hk1 : k < L.length
    · obtain ⟨g, rfl, hcell⟩ := HX.out k hk1
      have HT := Lib.hid (take_count L q k hk1)
      obtain ⟨t, ht⟩ : ∃ t, L.getD k noEv = t := ⟨_, rfl⟩
      rw [ht] at HT hcell
      obtain ⟨x1, x2, x3, x4, x5, x6⟩ := t
      by_cases hq : x1 = q
      · have hqb : (x1 == q) = true := by simpa using hq
        have a0 := cell_later hbw (hcell 0 _ rfl)
        have a1 := cell_later hbw (hcell 1 _ rfl)
        have a2 := cell_later hbw (hcell 2 _ rfl)
        have a3 := cell_later hbw (hcell 3 _ rfl)
        have a4 := cell_later hbw (hcell 4 _ rfl)
        have a5 := cell_later hbw (hcell 5 _ rfl)
        simp only [Nat.add_zero] at a0
        have HC : RowKit.Hid ((countL (L.take (k + 1)) q : Int) = countL (L.take k) q + 1) := Lib.hid (by rw [HT.out, if_pos hq]; simp)
        clear hcell ht hq
        go_wp2_with fail
        go_roundw
        case rel => exact ⟨k + 1, by omega, by rw [HC.out], by go_num, (by (repeat' (first | (with_reducible exact Below.refl _ _) | (with_reducible assumption) | (refine below_next ?_ (by with_reducible assumption)) | (with_reducible refine Below.setCell ?_ ?_ _) | (with_reducible refine Below.alloc ?_ ?_ _) | (with_reducible refine Below.drew ?_) | (with_reducible refine below_drewN ?_ _) | omega | (simp; done) | (simp; omega))))⟩
        case measure => simp [RowKit.intOf]; omega
      · have hqb : (x1 == q) = false := by simpa using hq
        have a0 := cell_later hbw (hcell 0 _ rfl)
        have a1 := cell_later hbw (hcell 1 _ rfl)
        have a2 := cell_later hbw (hcell 2 _ rfl)
        have a3 := cell_later hbw (hcell 3 _ rfl)
        have a4 := cell_later hbw (hcell 4 _ rfl)
        have a5 := cell_later hbw (hcell 5 _ rfl)
        simp only [Nat.add_zero] at a0
        have HC : RowKit.Hid ((countL (L.take (k + 1)) q : Int) = countL (L.take k) q + 0) := Lib.hid (by rw [HT.out, if_neg hq]; simp)
        clear hcell ht hq
        go_wp2_with fail
        go_roundw
        case rel => exact ⟨k + 1, by omega, by rw [HC.out]; go_num, by go_num, (by (repeat' (first | (with_reducible exact Below.refl _ _) | (with_reducible assumption) | (refine below_next ?_ (by with_reducible assumption)) | (with_reducible refine Below.setCell ?_ ?_ _) | (with_reducible refine Below.alloc ?_ ?_ _) | (with_reducible refine Below.drew ?_) | (with_reducible refine below_drewN ?_ _) | omega | (simp; done) | (simp; omega))))⟩
        case measure => simp [RowKit.intOf]; omega
    · have hke : k = L.length := by omega
      subst hke
      have HE : RowKit.Hid (countL (L.take L.length) q = countL L q) := Lib.hid (by rw [List.take_length])
      go_wp2_with fail
      go_ret
      exact ⟨by rw [HE.out]; rfl, hbw⟩

set_option maxRecDepth 100000 in
set_option maxHeartbeats 1000000 in
theorem rcount_any (v : Value) (L : List EventM) (q : Int) (w : World) (hv : EvsS w v L) (hL : L.length ≤ 1000000) :
    Calls Tryd.prog 47 #[v, .int .i64 q] w fun e w' => e = .returned (.int .i64 (countL L q)) ∧ Below w.heap.size w w' := by
  obtain ⟨p, c, rfl, hp⟩ := hv
  have HX := Lib.hid hp
  clear hp
  go_enter Tryd.func47, Tryd.ntmps47
  go_wp2_with fail
  go_loopw [5, 6] (fun n i wr => ∃ k : Nat, k ≤ L.length ∧ n = .int .i64 (countL (L.take k) q) ∧ i = .int .i64 k ∧ Below w.heap.size w wr) (fun _ i _ => L.length - (RowKit.intOf i).toNat)
  case atStart => exact ⟨0, Nat.zero_le _, rfl, rfl, Below.refl _ _⟩
  case round =>
    obtain ⟨k, hk, rfl, rfl, hbw⟩ := hrel
    have hcl := count_le L q k
    have hbz := hbw.size
    by_cases hk1 : k < L.length
    · obtain ⟨g, rfl, hcell⟩ := HX.out k hk1
      have HT := Lib.hid (take_count L q k hk1)
      obtain ⟨t, ht⟩ : ∃ t, L.getD k noEv = t := ⟨_, rfl⟩
      rw [ht] at HT hcell
      obtain ⟨x1, x2, x3, x4, x5, x6⟩ := t
      by_cases hq : x1 = q
      · have hqb : (x1 == q) = true := by simpa using hq
        have a0 := cell_later hbw (hcell 0 _ rfl)
        simp only [Nat.add_zero] at a0
        have HC : RowKit.Hid ((countL (L.take (k + 1)) q : Int) = countL (L.take k) q + 1) := Lib.hid (by rw [HT.out, if_pos hq]; simp)
        clear hcell ht hq
        go_wp2_with fail
        go_roundw
        case rel => exact ⟨k + 1, by omega, by rw [HC.out], by go_num, (by (repeat' (first | (with_reducible exact Below.refl _ _) | (with_reducible assumption) | (refine below_next ?_ (by with_reducible assumption)) | (with_reducible refine Below.setCell ?_ ?_ _) | (with_reducible refine Below.alloc ?_ ?_ _) | (with_reducible refine Below.drew ?_) | (with_reducible refine below_drewN ?_ _) | omega | (simp; done) | (simp; omega))))⟩
        case measure => simp [RowKit.intOf]; omega
      · have hqb : (x1 == q) = false := by simpa using hq
        have a0 := cell_later hbw (hcell 0 _ rfl)
        simp only [Nat.add_zero] at a0
        have HC : RowKit.Hid ((countL (L.take (k + 1)) q : Int) = countL (L.take k) q + 0) := Lib.hid (by rw [HT.out, if_neg hq]; simp)
        clear hcell ht hq
        go_wp2_with fail
        go_roundw
        case rel => exact ⟨k + 1, by omega, by rw [HC.out]; go_num, by go_num, (by (repeat' (first | (with_reducible exact Below.refl _ _) | (with_reducible assumption) | (refine below_next ?_ (by with_reducible assumption)) | (with_reducible refine Below.setCell ?_ ?_ _) | (with_reducible refine Below.alloc ?_ ?_ _) | (with_reducible refine Below.drew ?_) | (with_reducible refine below_drewN ?_ _) | omega | (simp; done) | (simp; omega))))⟩
        case measure => simp [RowKit.intOf]; omega
    · have hke : k = L.length := by omega
      subst hke
      have HE : RowKit.Hid (countL (L.take L.length) q = countL L q) := Lib.hid (by rw [List.take_length])
      go_wp2_with fail
      go_ret
      exact ⟨by rw [HE.out]; rfl, hbw⟩
end Go.Proofs.YtphhgdgamnogpaaDoor

namespace Go.Proofs.YtphhgdgamnogpaaDoor
open Go.RowKit Go.Lib

theorem join2_eq (a b : List UInt8) : join [a, b] [32] = a ++ 32 :: b := by rw [join_two, join_one]
theorem join4_eq (a b c d : List UInt8) : join [a, b, c, d] [32] = a ++ 32 :: (b ++ 32 :: (c ++ 32 :: d)) := by rw [join_two, join_two, join_two, join_one]
theorem bs_sp (l : List UInt8) : bs l ++ ({ data := #[32] } : ByteArray) = bs (l ++ [32]) := bs_append l [32]
theorem sp_bs (l : List UInt8) : ({ data := #[32] } : ByteArray) ++ bs l = bs ([32] ++ l) := bs_append [32] l
section
attribute [local go_sem] bs_sp sp_bs
set_option maxRecDepth 100000 in
set_option maxHeartbeats 4000000 in
theorem reprint_any (k : Int) (s key : List UInt8) (vk n ln : Int) (hs : s.length ≤ 1000000) (hk : key.length ≤ 1000000) (h0 : -9223372036854775808 ≤ n) (h1 : n ≤ 9223372036854775807) (w : World) :
    Calls Tryd.prog 22 #[.agg #[.int .i64 k, .string (bs s), .string (bs key), .int .i64 vk, .int .i64 n, .int .i64 ln]] w fun e w' => e = .returned (.tuple #[.string (bs (lineE (k, s, key, vk, n, ln))), .int .i64 (errE (k, s, key, vk, n, ln))]) ∧ Below w.heap.size w w' := by
  have HM := Lib.hid (fun w' (_ : Below w.heap.size w w') => remay_any k s key vk n ln hs hk w')
  have HV := Lib.hid (fun w' (_ : Below w.heap.size w w') => refvprint_any vk n h0 h1 w')
  have tl := txt_len vk n h0 h1
  clear h0 h1
  cases hm : mayE (k, s, key, vk, n, ln) with
  | false =>
    have HLine : RowKit.Hid (lineE (k, s, key, vk, n, ln) = []) := Lib.hid (by unfold lineE; rw [hm]; rfl)
    have HErr : RowKit.Hid (errE (k, s, key, vk, n, ln) = 4) := Lib.hid (by unfold errE; rw [hm]; rfl)
    rw [hm] at HM
    clear hm tl hs hk
    go_enter Tryd.func22, Tryd.ntmps22
    go_wp2_with (fail)
    refine (HM.out _ (by (repeat' (first | (with_reducible exact Below.refl _ _) | (with_reducible assumption) | (refine below_next ?_ (by with_reducible assumption)) | (with_reducible refine Below.setCell ?_ ?_ _) | (with_reducible refine Below.alloc ?_ ?_ _) | (with_reducible refine Below.drew ?_) | (with_reducible refine below_drewN ?_ _) | omega | (simp; done) | (simp; omega))))).mono ?_
    rintro e w1 ⟨rfl, hb1⟩
    obtain ⟨hc1, hf1⟩ := bcell hb1
    have hz1 := hb1.size
    try simp at hz1
    have hl1_0 : w.heap.size < w1.heap.size := by omega
    go_wp2_with fail
    go_ret2
    exact ⟨by rw [HLine.out, HErr.out]; rfl, by (repeat' (first | (with_reducible exact Below.refl _ _) | (with_reducible assumption) | (refine below_next ?_ (by with_reducible assumption)) | (with_reducible refine Below.alloc ?_ ?_ _) | (with_reducible refine Below.drew ?_) | (with_reducible refine below_drewN ?_ _) | omega | (simp; done) | (simp; omega)))⟩
  | true =>
    have hr := may_range _ hm
    have hkl := kindW_len k
    obtain ⟨i, rfl⟩ := Int.eq_ofNat_of_zero_le (show (0 : Int) ≤ k by have := hr.1; simp only at this; omega)
    have hi1 : 1 ≤ i := by have := hr.1; simp only at this; omega
    have hi6 : i ≤ 6 := by have := hr.2; simp only at this; omega
    have HErr : RowKit.Hid (errE ((i : Int), s, key, vk, n, ln) = 0) := Lib.hid (by unfold errE; rw [hm]; rfl)
    rcases long_cases (i : Int) with ⟨hi, hl⟩ | ⟨hi, hl⟩ | ⟨hk2, hk3, hl⟩
    · have HLine : RowKit.Hid (lineE ((i : Int), s, key, vk, n, ln) = kindW (i : Int) ++ 32 :: (s ++ 32 :: (key ++ 32 :: vTxt vk n))) := Lib.hid (by unfold lineE wordsE; rw [hm, if_pos rfl, hl, ← join4_eq]; rfl)
      rw [hm] at HM
      have hi2 : ((i : Int) == 2) = true := by simpa using hi
      clear hm hl hr hi
      go_enter Tryd.func22, Tryd.ntmps22
      go_wp2_with (fail)
      refine (HM.out _ (by (repeat' (first | (with_reducible exact Below.refl _ _) | (with_reducible assumption) | (refine below_next ?_ (by with_reducible assumption)) | (with_reducible refine Below.setCell ?_ ?_ _) | (with_reducible refine Below.alloc ?_ ?_ _) | (with_reducible refine Below.drew ?_) | (with_reducible refine below_drewN ?_ _) | omega | (simp; done) | (simp; omega))))).mono ?_
      rintro e w1 ⟨rfl, hb1⟩
      obtain ⟨hc1, hf1⟩ := bcell hb1
      have hz1 := hb1.size
      try simp at hz1
      have hl1_0 : w.heap.size < w1.heap.size := by omega
      have q0 : w1.cell? ⟨w.heap.size, 0, none⟩ = some (.int .i64 (i : Int)) := by go_simp
      have q1 : w1.cell? ⟨w.heap.size, 1, none⟩ = some (.string (bs s)) := by go_simp
      have q2 : w1.cell? ⟨w.heap.size, 2, none⟩ = some (.string (bs key)) := by go_simp
      have q3 : w1.cell? ⟨w.heap.size, 3, none⟩ = some (.int .i64 vk) := by go_simp
      have q4 : w1.cell? ⟨w.heap.size, 4, none⟩ = some (.int .i64 n) := by go_simp
      have hbx : Below w.heap.size w w1 := (by (repeat' (first | (with_reducible exact Below.refl _ _) | (with_reducible assumption) | (refine below_next ?_ (by with_reducible assumption)) | (with_reducible refine Below.setCell ?_ ?_ _) | (with_reducible refine Below.alloc ?_ ?_ _) | (with_reducible refine Below.drew ?_) | (with_reducible refine below_drewN ?_ _) | omega | (simp; done) | (simp; omega))))
      have HBX := Lib.hid hbx
      have hq1 : ¬ 9223372036854775807 < (kindW (i : Int)).length + 1 := by omega
      have hq2 : ¬ 9223372036854775807 < (kindW (i : Int)).length + 1 + s.length := by omega
      have HS : RowKit.Hid (∀ w', Below w1.heap.size w1 w' → (w'.cell? ⟨w.heap.size, 0, none⟩ = some (.int .i64 (i : Int)) ∧ w'.cell? ⟨w.heap.size, 1, none⟩ = some (.string (bs s)) ∧ Below w1.heap.size w1 w')) := Lib.hid (fun w' hb => ⟨cell_later hb q0, cell_later hb q1, hb⟩)
      go_wp2_with fail
      refine wp_region_late (fun w' => w'.cell? ⟨w.heap.size, 0, none⟩ = some (.int .i64 (i : Int)) ∧ w'.cell? ⟨w.heap.size, 1, none⟩ = some (.string (bs s)) ∧ Below w1.heap.size w1 w') [] (by kernel_rfl) ?_
      have hB0 : Below (w1).heap.size (w1) (w1).drew := Below.drew (Below.refl _ _)
      have hS0 := HS.out _ hB0
      refine wpAnyL_take 1 10 (v := ?_) rfl (by kernel_rfl) (by kernel_rfl) (by kernel_rfl) (by kernel_rfl) (by kernel_rfl) (fun _ _ _ h => h) (Or.inl ⟨by rfl, ?_⟩) hS0 ?_
      rotate_left
      · intro w' hw'
        try dsimp only at hw'
        go_simp
        try with_reducible rfl
      try simp only [Act.put, List.setIfInBounds_toArray, List.set_cons_zero, List.set_cons_succ]
      refine wpAnyL_take 2 10 (v := ?_) rfl (by kernel_rfl) (by kernel_rfl) (by kernel_rfl) (by kernel_rfl) (by kernel_rfl) (fun _ _ _ h => h) (Or.inl ⟨by rfl, ?_⟩) hS0 ?_
      rotate_left
      · intro w' hw'
        try dsimp only at hw'
        go_simp
        try with_reducible rfl
      try simp only [Act.put, List.setIfInBounds_toArray, List.set_cons_zero, List.set_cons_succ]
      refine wpAnyL_take 6 10 (v := ?_) rfl (by kernel_rfl) (by kernel_rfl) (by kernel_rfl) (by kernel_rfl) (by kernel_rfl) (fun _ _ _ h => h) (Or.inl ⟨by rfl, ?_⟩) hS0 ?_
      rotate_left
      · intro w' hw'
        try dsimp only at hw'
        go_simp
        try with_reducible rfl
      try simp only [Act.put, List.setIfInBounds_toArray, List.set_cons_zero, List.set_cons_succ]
      refine wpAnyL_take 7 10 (v := ?_) rfl (by kernel_rfl) (by kernel_rfl) (by kernel_rfl) (by kernel_rfl) (by kernel_rfl) (fun _ _ _ h => h) (Or.inl ⟨by rfl, ?_⟩) hS0 ?_
      rotate_left
      · intro w' hw'
        try dsimp only at hw'
        go_simp
        try with_reducible rfl
      try simp only [Act.put, List.setIfInBounds_toArray, List.set_cons_zero, List.set_cons_succ]
      refine wpAnyL_one 0 rfl (by kernel_rfl) (fun K hK => ?_)
      go_simp
      refine (rkinds_any _).mono ?_
      rintro e w2 ⟨rfl, hkc, hgl, hb2⟩
      have hB1 := below_next hB0 hb2
      have hS1 := HS.out _ hB1
      have hkw : w2.cell? ⟨w1.heap.size, i, none⟩ = some (.string (bs (kindW (i : Int)))) := hkc i (by omega)
      have hi0 : (0 : Int) ≤ (i : Int) := by omega
      have hi7 : (i : Int) < 7 := by omega
      refine hK.out _ _ (fun _ => hS1) ?_
      clear hK K hS0
      try simp only [Act.put, List.setIfInBounds_toArray, List.set_cons_zero, List.set_cons_succ]
      refine wpAnyL_one 3 rfl (by kernel_rfl) (fun K hK => ?_)
      go_simp
      refine hK.out _ _ (fun _ => hS1) ?_
      clear hK K
      try simp only [Act.put, List.setIfInBounds_toArray, List.set_cons_zero, List.set_cons_succ]
      refine wpAnyL_one 4 rfl (by kernel_rfl) (fun K hK => ?_)
      go_simp
      refine hK.out _ _ (fun _ => hS1) ?_
      clear hK K
      try simp only [Act.put, List.setIfInBounds_toArray, List.set_cons_zero, List.set_cons_succ]
      refine wpAnyL_one 5 rfl (by kernel_rfl) (fun K hK => ?_)
      go_simp
      refine hK.out _ _ (fun _ => hS1) ?_
      clear hK K
      try simp only [Act.put, List.setIfInBounds_toArray, List.set_cons_zero, List.set_cons_succ]
      refine wpAnyL_one 8 rfl (by kernel_rfl) (fun K hK => ?_)
      go_simp
      refine hK.out _ _ (fun _ => hS1) ?_
      clear hK K
      try simp only [Act.put, List.setIfInBounds_toArray, List.set_cons_zero, List.set_cons_succ]
      refine wpAnyL_one 9 rfl (by kernel_rfl) (fun K hK => ?_)
      go_simp
      refine hK.out _ _ (fun _ => hS1) ?_
      clear hK K
      try simp only [Act.put, List.setIfInBounds_toArray, List.set_cons_zero, List.set_cons_succ]
      refine wpAnyL_done (by kernel_rfl) ?_ _
      try simp only [Act.put, List.setIfInBounds_toArray, List.set_cons_zero, List.set_cons_succ]
      have r0 := cell_later hB1 q0
      have r1 := cell_later hB1 q1
      have r2 := cell_later hB1 q2
      have r3 := cell_later hB1 q3
      have r4 := cell_later hB1 q4
      have hb02 : Below w.heap.size w w2 := below_next HBX.out hB1
      clear q0 q1 q2 q3 q4 hS1 hB0 hB1 hbx hc1 hf1 hkc hkw hb2
      go_wp2_with fail
      refine (HV.out _ hb02).mono ?_
      rintro e w3 ⟨rfl, hb3⟩
      have s2 := cell_later hb3 r2
      go_wp2_with fail
      go_ret2
      exact ⟨by rw [HLine.out, HErr.out]; rfl, (by (repeat' (first | (with_reducible exact Below.refl _ _) | (with_reducible assumption) | (refine below_next ?_ (by with_reducible assumption)) | (with_reducible refine Below.setCell ?_ ?_ _) | (with_reducible refine Below.alloc ?_ ?_ _) | (with_reducible refine Below.drew ?_) | (with_reducible refine below_drewN ?_ _) | omega | (simp; done) | (simp; omega))))⟩
    · have HLine : RowKit.Hid (lineE ((i : Int), s, key, vk, n, ln) = kindW (i : Int) ++ 32 :: (s ++ 32 :: (key ++ 32 :: vTxt vk n))) := Lib.hid (by unfold lineE wordsE; rw [hm, if_pos rfl, hl, ← join4_eq]; rfl)
      rw [hm] at HM
      have hi2 : ((i : Int) == 3) = true := by simpa using hi
      have hi3 : ((i : Int) == 2) = false := by rw [beq_eq_false_iff_ne]; omega
      clear hm hl hr hi
      go_enter Tryd.func22, Tryd.ntmps22
      go_wp2_with (fail)
      refine (HM.out _ (by (repeat' (first | (with_reducible exact Below.refl _ _) | (with_reducible assumption) | (refine below_next ?_ (by with_reducible assumption)) | (with_reducible refine Below.setCell ?_ ?_ _) | (with_reducible refine Below.alloc ?_ ?_ _) | (with_reducible refine Below.drew ?_) | (with_reducible refine below_drewN ?_ _) | omega | (simp; done) | (simp; omega))))).mono ?_
      rintro e w1 ⟨rfl, hb1⟩
      obtain ⟨hc1, hf1⟩ := bcell hb1
      have hz1 := hb1.size
      try simp at hz1
      have hl1_0 : w.heap.size < w1.heap.size := by omega
      have q0 : w1.cell? ⟨w.heap.size, 0, none⟩ = some (.int .i64 (i : Int)) := by go_simp
      have q1 : w1.cell? ⟨w.heap.size, 1, none⟩ = some (.string (bs s)) := by go_simp
      have q2 : w1.cell? ⟨w.heap.size, 2, none⟩ = some (.string (bs key)) := by go_simp
      have q3 : w1.cell? ⟨w.heap.size, 3, none⟩ = some (.int .i64 vk) := by go_simp
      have q4 : w1.cell? ⟨w.heap.size, 4, none⟩ = some (.int .i64 n) := by go_simp
      have hbx : Below w.heap.size w w1 := (by (repeat' (first | (with_reducible exact Below.refl _ _) | (with_reducible assumption) | (refine below_next ?_ (by with_reducible assumption)) | (with_reducible refine Below.setCell ?_ ?_ _) | (with_reducible refine Below.alloc ?_ ?_ _) | (with_reducible refine Below.drew ?_) | (with_reducible refine below_drewN ?_ _) | omega | (simp; done) | (simp; omega))))
      have HBX := Lib.hid hbx
      have hq1 : ¬ 9223372036854775807 < (kindW (i : Int)).length + 1 := by omega
      have hq2 : ¬ 9223372036854775807 < (kindW (i : Int)).length + 1 + s.length := by omega
      have HS : RowKit.Hid (∀ w', Below w1.heap.size w1 w' → (w'.cell? ⟨w.heap.size, 0, none⟩ = some (.int .i64 (i : Int)) ∧ w'.cell? ⟨w.heap.size, 1, none⟩ = some (.string (bs s)) ∧ Below w1.heap.size w1 w')) := Lib.hid (fun w' hb => ⟨cell_later hb q0, cell_later hb q1, hb⟩)
      go_wp2_with fail
      refine wp_region_late (fun w' => w'.cell? ⟨w.heap.size, 0, none⟩ = some (.int .i64 (i : Int)) ∧ w'.cell? ⟨w.heap.size, 1, none⟩ = some (.string (bs s)) ∧ Below w1.heap.size w1 w') [] (by kernel_rfl) ?_
      have hB0 : Below (w1).heap.size (w1) (w1).drew := Below.drew (Below.refl _ _)
      have hS0 := HS.out _ hB0
      refine wpAnyL_take 1 10 (v := ?_) rfl (by kernel_rfl) (by kernel_rfl) (by kernel_rfl) (by kernel_rfl) (by kernel_rfl) (fun _ _ _ h => h) (Or.inl ⟨by rfl, ?_⟩) hS0 ?_
      rotate_left
      · intro w' hw'
        try dsimp only at hw'
        go_simp
        try with_reducible rfl
      try simp only [Act.put, List.setIfInBounds_toArray, List.set_cons_zero, List.set_cons_succ]
      refine wpAnyL_take 2 10 (v := ?_) rfl (by kernel_rfl) (by kernel_rfl) (by kernel_rfl) (by kernel_rfl) (by kernel_rfl) (fun _ _ _ h => h) (Or.inl ⟨by rfl, ?_⟩) hS0 ?_
      rotate_left
      · intro w' hw'
        try dsimp only at hw'
        go_simp
        try with_reducible rfl
      try simp only [Act.put, List.setIfInBounds_toArray, List.set_cons_zero, List.set_cons_succ]
      refine wpAnyL_take 6 10 (v := ?_) rfl (by kernel_rfl) (by kernel_rfl) (by kernel_rfl) (by kernel_rfl) (by kernel_rfl) (fun _ _ _ h => h) (Or.inl ⟨by rfl, ?_⟩) hS0 ?_
      rotate_left
      · intro w' hw'
        try dsimp only at hw'
        go_simp
        try with_reducible rfl
      try simp only [Act.put, List.setIfInBounds_toArray, List.set_cons_zero, List.set_cons_succ]
      refine wpAnyL_take 7 10 (v := ?_) rfl (by kernel_rfl) (by kernel_rfl) (by kernel_rfl) (by kernel_rfl) (by kernel_rfl) (fun _ _ _ h => h) (Or.inl ⟨by rfl, ?_⟩) hS0 ?_
      rotate_left
      · intro w' hw'
        try dsimp only at hw'
        go_simp
        try with_reducible rfl
      try simp only [Act.put, List.setIfInBounds_toArray, List.set_cons_zero, List.set_cons_succ]
      refine wpAnyL_one 0 rfl (by kernel_rfl) (fun K hK => ?_)
      go_simp
      refine (rkinds_any _).mono ?_
      rintro e w2 ⟨rfl, hkc, hgl, hb2⟩
      have hB1 := below_next hB0 hb2
      have hS1 := HS.out _ hB1
      have hkw : w2.cell? ⟨w1.heap.size, i, none⟩ = some (.string (bs (kindW (i : Int)))) := hkc i (by omega)
      have hi0 : (0 : Int) ≤ (i : Int) := by omega
      have hi7 : (i : Int) < 7 := by omega
      refine hK.out _ _ (fun _ => hS1) ?_
      clear hK K hS0
      try simp only [Act.put, List.setIfInBounds_toArray, List.set_cons_zero, List.set_cons_succ]
      refine wpAnyL_one 3 rfl (by kernel_rfl) (fun K hK => ?_)
      go_simp
      refine hK.out _ _ (fun _ => hS1) ?_
      clear hK K
      try simp only [Act.put, List.setIfInBounds_toArray, List.set_cons_zero, List.set_cons_succ]
      refine wpAnyL_one 4 rfl (by kernel_rfl) (fun K hK => ?_)
      go_simp
      refine hK.out _ _ (fun _ => hS1) ?_
      clear hK K
      try simp only [Act.put, List.setIfInBounds_toArray, List.set_cons_zero, List.set_cons_succ]
      refine wpAnyL_one 5 rfl (by kernel_rfl) (fun K hK => ?_)
      go_simp
      refine hK.out _ _ (fun _ => hS1) ?_
      clear hK K
      try simp only [Act.put, List.setIfInBounds_toArray, List.set_cons_zero, List.set_cons_succ]
      refine wpAnyL_one 8 rfl (by kernel_rfl) (fun K hK => ?_)
      go_simp
      refine hK.out _ _ (fun _ => hS1) ?_
      clear hK K
      try simp only [Act.put, List.setIfInBounds_toArray, List.set_cons_zero, List.set_cons_succ]
      refine wpAnyL_one 9 rfl (by kernel_rfl) (fun K hK => ?_)
      go_simp
      refine hK.out _ _ (fun _ => hS1) ?_
      clear hK K
      try simp only [Act.put, List.setIfInBounds_toArray, List.set_cons_zero, List.set_cons_succ]
      refine wpAnyL_done (by kernel_rfl) ?_ _
      try simp only [Act.put, List.setIfInBounds_toArray, List.set_cons_zero, List.set_cons_succ]
      have r0 := cell_later hB1 q0
      have r1 := cell_later hB1 q1
      have r2 := cell_later hB1 q2
      have r3 := cell_later hB1 q3
      have r4 := cell_later hB1 q4
      have hb02 : Below w.heap.size w w2 := below_next HBX.out hB1
      clear q0 q1 q2 q3 q4 hS1 hB0 hB1 hbx hc1 hf1 hkc hkw hb2
      go_wp2_with fail
      refine (HV.out _ hb02).mono ?_
      rintro e w3 ⟨rfl, hb3⟩
      have s2 := cell_later hb3 r2
      go_wp2_with fail
      go_ret2
      exact ⟨by rw [HLine.out, HErr.out]; rfl, (by (repeat' (first | (with_reducible exact Below.refl _ _) | (with_reducible assumption) | (refine below_next ?_ (by with_reducible assumption)) | (with_reducible refine Below.setCell ?_ ?_ _) | (with_reducible refine Below.alloc ?_ ?_ _) | (with_reducible refine Below.drew ?_) | (with_reducible refine below_drewN ?_ _) | omega | (simp; done) | (simp; omega))))⟩
    · have HLine : RowKit.Hid (lineE ((i : Int), s, key, vk, n, ln) = kindW (i : Int) ++ 32 :: s) := Lib.hid (by unfold lineE wordsE; rw [hm, if_pos rfl, hl, ← join2_eq]; rfl)
      rw [hm] at HM
      clear hm hl hr
      go_enter Tryd.func22, Tryd.ntmps22
      go_wp2_with (fail)
      refine (HM.out _ (by (repeat' (first | (with_reducible exact Below.refl _ _) | (with_reducible assumption) | (refine below_next ?_ (by with_reducible assumption)) | (with_reducible refine Below.setCell ?_ ?_ _) | (with_reducible refine Below.alloc ?_ ?_ _) | (with_reducible refine Below.drew ?_) | (with_reducible refine below_drewN ?_ _) | omega | (simp; done) | (simp; omega))))).mono ?_
      rintro e w1 ⟨rfl, hb1⟩
      obtain ⟨hc1, hf1⟩ := bcell hb1
      have hz1 := hb1.size
      try simp at hz1
      have hl1_0 : w.heap.size < w1.heap.size := by omega
      have q0 : w1.cell? ⟨w.heap.size, 0, none⟩ = some (.int .i64 (i : Int)) := by go_simp
      have q1 : w1.cell? ⟨w.heap.size, 1, none⟩ = some (.string (bs s)) := by go_simp
      have q2 : w1.cell? ⟨w.heap.size, 2, none⟩ = some (.string (bs key)) := by go_simp
      have q3 : w1.cell? ⟨w.heap.size, 3, none⟩ = some (.int .i64 vk) := by go_simp
      have q4 : w1.cell? ⟨w.heap.size, 4, none⟩ = some (.int .i64 n) := by go_simp
      have hbx : Below w.heap.size w w1 := (by (repeat' (first | (with_reducible exact Below.refl _ _) | (with_reducible assumption) | (refine below_next ?_ (by with_reducible assumption)) | (with_reducible refine Below.setCell ?_ ?_ _) | (with_reducible refine Below.alloc ?_ ?_ _) | (with_reducible refine Below.drew ?_) | (with_reducible refine below_drewN ?_ _) | omega | (simp; done) | (simp; omega))))
      have HBX := Lib.hid hbx
      have hq1 : ¬ 9223372036854775807 < (kindW (i : Int)).length + 1 := by omega
      have hq2 : ¬ 9223372036854775807 < (kindW (i : Int)).length + 1 + s.length := by omega
      have HS : RowKit.Hid (∀ w', Below w1.heap.size w1 w' → (w'.cell? ⟨w.heap.size, 0, none⟩ = some (.int .i64 (i : Int)) ∧ w'.cell? ⟨w.heap.size, 1, none⟩ = some (.string (bs s)) ∧ Below w1.heap.size w1 w')) := Lib.hid (fun w' hb => ⟨cell_later hb q0, cell_later hb q1, hb⟩)
      go_wp2_with fail
      refine wp_region_late (fun w' => w'.cell? ⟨w.heap.size, 0, none⟩ = some (.int .i64 (i : Int)) ∧ w'.cell? ⟨w.heap.size, 1, none⟩ = some (.string (bs s)) ∧ Below w1.heap.size w1 w') [] (by kernel_rfl) ?_
      have hB0 : Below (w1).heap.size (w1) (w1).drew := Below.drew (Below.refl _ _)
      have hS0 := HS.out _ hB0
      refine wpAnyL_take 1 10 (v := ?_) rfl (by kernel_rfl) (by kernel_rfl) (by kernel_rfl) (by kernel_rfl) (by kernel_rfl) (fun _ _ _ h => h) (Or.inl ⟨by rfl, ?_⟩) hS0 ?_
      rotate_left
      · intro w' hw'
        try dsimp only at hw'
        go_simp
        try with_reducible rfl
      try simp only [Act.put, List.setIfInBounds_toArray, List.set_cons_zero, List.set_cons_succ]
      refine wpAnyL_take 2 10 (v := ?_) rfl (by kernel_rfl) (by kernel_rfl) (by kernel_rfl) (by kernel_rfl) (by kernel_rfl) (fun _ _ _ h => h) (Or.inl ⟨by rfl, ?_⟩) hS0 ?_
      rotate_left
      · intro w' hw'
        try dsimp only at hw'
        go_simp
        try with_reducible rfl
      try simp only [Act.put, List.setIfInBounds_toArray, List.set_cons_zero, List.set_cons_succ]
      refine wpAnyL_take 6 10 (v := ?_) rfl (by kernel_rfl) (by kernel_rfl) (by kernel_rfl) (by kernel_rfl) (by kernel_rfl) (fun _ _ _ h => h) (Or.inl ⟨by rfl, ?_⟩) hS0 ?_
      rotate_left
      · intro w' hw'
        try dsimp only at hw'
        go_simp
        try with_reducible rfl
      try simp only [Act.put, List.setIfInBounds_toArray, List.set_cons_zero, List.set_cons_succ]
      refine wpAnyL_take 7 10 (v := ?_) rfl (by kernel_rfl) (by kernel_rfl) (by kernel_rfl) (by kernel_rfl) (by kernel_rfl) (fun _ _ _ h => h) (Or.inl ⟨by rfl, ?_⟩) hS0 ?_
      rotate_left
      · intro w' hw'
        try dsimp only at hw'
        go_simp
        try with_reducible rfl
      try simp only [Act.put, List.setIfInBounds_toArray, List.set_cons_zero, List.set_cons_succ]
      refine wpAnyL_one 0 rfl (by kernel_rfl) (fun K hK => ?_)
      go_simp
      refine (rkinds_any _).mono ?_
      rintro e w2 ⟨rfl, hkc, hgl, hb2⟩
      have hB1 := below_next hB0 hb2
      have hS1 := HS.out _ hB1
      have hkw : w2.cell? ⟨w1.heap.size, i, none⟩ = some (.string (bs (kindW (i : Int)))) := hkc i (by omega)
      have hi0 : (0 : Int) ≤ (i : Int) := by omega
      have hi7 : (i : Int) < 7 := by omega
      refine hK.out _ _ (fun _ => hS1) ?_
      clear hK K hS0
      try simp only [Act.put, List.setIfInBounds_toArray, List.set_cons_zero, List.set_cons_succ]
      refine wpAnyL_one 3 rfl (by kernel_rfl) (fun K hK => ?_)
      go_simp
      refine hK.out _ _ (fun _ => hS1) ?_
      clear hK K
      try simp only [Act.put, List.setIfInBounds_toArray, List.set_cons_zero, List.set_cons_succ]
      refine wpAnyL_one 4 rfl (by kernel_rfl) (fun K hK => ?_)
      go_simp
      refine hK.out _ _ (fun _ => hS1) ?_
      clear hK K
      try simp only [Act.put, List.setIfInBounds_toArray, List.set_cons_zero, List.set_cons_succ]
      refine wpAnyL_one 5 rfl (by kernel_rfl) (fun K hK => ?_)
      go_simp
      refine hK.out _ _ (fun _ => hS1) ?_
      clear hK K
      try simp only [Act.put, List.setIfInBounds_toArray, List.set_cons_zero, List.set_cons_succ]
      refine wpAnyL_one 8 rfl (by kernel_rfl) (fun K hK => ?_)
      go_simp
      refine hK.out _ _ (fun _ => hS1) ?_
      clear hK K
      try simp only [Act.put, List.setIfInBounds_toArray, List.set_cons_zero, List.set_cons_succ]
      refine wpAnyL_one 9 rfl (by kernel_rfl) (fun K hK => ?_)
      go_simp
      refine hK.out _ _ (fun _ => hS1) ?_
      clear hK K
      try simp only [Act.put, List.setIfInBounds_toArray, List.set_cons_zero, List.set_cons_succ]
      refine wpAnyL_done (by kernel_rfl) ?_ _
      try simp only [Act.put, List.setIfInBounds_toArray, List.set_cons_zero, List.set_cons_succ]
      have r0 := cell_later hB1 q0
      have r1 := cell_later hB1 q1
      have r2 := cell_later hB1 q2
      have r3 := cell_later hB1 q3
      have r4 := cell_later hB1 q4
      have hb02 : Below w.heap.size w w2 := below_next HBX.out hB1
      clear q0 q1 q2 q3 q4 hS1 hB0 hB1 hbx hc1 hf1 hkc hkw hb2
      go_wp2_with fail
      go_ret2
      exact ⟨by rw [HLine.out, HErr.out]; rfl, (by (repeat' (first | (with_reducible exact Below.refl _ _) | (with_reducible assumption) | (refine below_next ?_ (by with_reducible assumption)) | (with_reducible refine Below.setCell ?_ ?_ _) | (with_reducible refine Below.alloc ?_ ?_ _) | (with_reducible refine Below.drew ?_) | (with_reducible refine below_drewN ?_ _) | omega | (simp; done) | (simp; omega))))⟩
end
end Go.Proofs.YtphhgdgamnogpaaDoor

namespace Go.Proofs.YtphhgdgamnogpaaDoor
open Go.RowKit Go.Lib

/-- Block b is a builder of the call's own (from block B on) that holds these bytes. -/
def IsB (B b : Nat) (l : List UInt8) (w : World) : Prop := Lib.IsBuilder 106 5 B b (Lib.byteCells l) w
theorem isB_new (w : World) : IsB w.heap.size w.heap.size [] (w.alloc (.cells #[.pointer none, .slice none 0 0] 106)) := Lib.fresh_isBuilder _ _ w
theorem builderAt_later {T e : TypeId} {B b : Nat} {p : Value} {cs : List Value} {w w' : World} (h : Lib.BuilderAt T e B b p cs w) (hb : Below w.heap.size w w') : Lib.BuilderAt T e B b p cs w' := by
  have hlt := h.lt
  obtain ⟨hB, v, hbk, hown, hne⟩ := h
  exact ⟨hB, v, (hb.block b hlt).trans hbk, owns_later hown hb, hne⟩
theorem IsB.later {B b : Nat} {l : List UInt8} {w w' : World} (h : IsB B b l w) (hb : Below w.heap.size w w') : IsB B b l w' := by
  rcases h with h | h
  · exact .inl (builderAt_later h hb)
  · exact .inr (builderAt_later h hb)
theorem IsB.alloc {B b : Nat} {l : List UInt8} {w : World} (h : IsB B b l w) (o : Obj) : IsB B b l (w.alloc o) := h.later ((Below.refl _ _).alloc (Nat.le_refl _) o)
theorem IsB.drew {B b : Nat} {l : List UInt8} {w : World} (h : IsB B b l w) : IsB B b l w.drew := h.later (Below.refl _ _).drew
theorem IsB.lt {B b : Nat} {l : List UInt8} {w : World} (h : IsB B b l w) : b < w.heap.size := by
  rcases h with h | h
  · exact h.lt
  · exact h.lt
def Tryd.laysLen_ren : Go.Shelf.Ren := ⟨fun | 170 => 92 | n => n, Tryd.laysJoin_ren.t, fun n => n⟩
theorem Tryd.laysLen : Go.Proofs.Lays.n170 Tryd.prog Tryd.laysLen_ren := { Tryd.laysJoin with f170 := Tryd.func92.trans (congrArg some (by kernel_rfl)) }
theorem bwrite_any (B b : Nat) (l t : List UInt8) (w : World) (h : IsB B b l w) (hl : l.length + t.length ≤ 140737488355328) (hB : B ≤ w.heap.size) :
    Calls Tryd.prog 69 #[.pointer (some ⟨b, 0, none⟩), .string (bs t)] w fun e w' => e = .returned (.tuple #[.int .i64 t.length, .nilIface]) ∧ IsB B b (l ++ t) w' ∧ Below B w w' := by
  have h1 := Any.Builder_WriteString { Tryd.laysJoin with } Tryd.extraJoin B b (Lib.byteCells l) (bs t) w h (by rw [Lib.byteCells_length, bs_size]; exact hl) hB
  refine h1.mono ?_
  rintro e w' ⟨rfl, h2, h3⟩
  refine ⟨by rw [bs_size], ?_, h3⟩
  have e1 : Lib.byteCells l ++ Lib.strCells (bs t) = Lib.byteCells (l ++ t) := by
    rw [show Lib.strCells (bs t) = Lib.byteCells t from rfl]
    simp [Lib.byteCells]
  rw [e1] at h2
  exact .inr h2
theorem bstring_any (B b : Nat) (l : List UInt8) (w : World) (h : IsB B b l w) (hB : B ≤ w.heap.size) :
    Calls Tryd.prog 71 #[.pointer (some ⟨b, 0, none⟩)] w fun e w' => e = .returned (.string (bs l)) ∧ Below B w w' :=
  Any.Builder_String_any { Tryd.laysJoin with } Tryd.extraJoin B b l w h hB
theorem blen_any (B b : Nat) (l : List UInt8) (w : World) (h : IsB B b l w) :
    Calls Tryd.prog 92 #[.pointer (some ⟨b, 0, none⟩)] w fun e w' => e = .returned (.int .i64 l.length) ∧ w = w' := by
  have h1 := Any.Builder_Len Tryd.laysLen B b (Lib.byteCells l) w h
  refine h1.mono ?_
  rintro e w' ⟨rfl, h2⟩
  exact ⟨by rw [Lib.byteCells_length], h2.symm⟩
end Go.Proofs.YtphhgdgamnogpaaDoor

namespace Go.Proofs.YtphhgdgamnogpaaDoor
open Go.RowKit Go.Lib

theorem join_one (x : List UInt8) : join [x] [32] = x := by simp [join]
theorem lineE_len (x : EventM) (h1 : x.2.1.length ≤ 1000000) (h2 : x.2.2.1.length ≤ 1000000) (h3 : NumE x) : (lineE x).length ≤ 3000000 := by
  unfold lineE
  split
  · unfold wordsE
    have hk := kindW_len x.1
    have hv := txt_len x.2.2.2.1 x.2.2.2.2.1 h3.1 h3.2
    split
    · rw [join_two, join_two, join_two, join_one]
      simp only [List.length_append, List.length_cons]
      omega
    · rw [join_two, join_one]
      simp only [List.length_append, List.length_cons]
      omega
  · simp
theorem cat_stop (x : EventM) (r : List EventM) (s : List UInt8) (h : 65536 < (s ++ (lineE x ++ [10])).length) : catGo (x :: r) s = ([], 6) := by
  unfold catGo
  rw [if_pos (by rw [List.append_assoc]; exact h)]
theorem cat_more (x : EventM) (r : List EventM) (s : List UInt8) (h : ¬ 65536 < (s ++ (lineE x ++ [10])).length) : catGo (x :: r) s = catGo r (s ++ (lineE x ++ [10])) := by
  rw [catGo, if_neg (by rw [List.append_assoc]; exact h), List.append_assoc]
theorem drop_cons (L : List EventM) (k : Nat) (h : k < L.length) : L.drop k = L.getD k noEv :: L.drop (k + 1) := by
  rw [List.drop_eq_getElem_cons h]
  simp [h]

set_option maxRecDepth 100000 in
set_option maxHeartbeats 4000000 in
theorem logprint_any (v : Value) (L : List EventM) (w : World) (hv : EvsS w v L) (hL : L.length ≤ 1000000) (hM : ModE L) (hT : Lib.Utf8Tabs 4 5 w) (hE : EvTab w) :
    Calls Tryd.prog 48 #[v] w fun e w' => e = .returned (.tuple #[.string (bs (writeL L).1), .int .i64 (writeL L).2]) ∧ Below w.heap.size w w' := by
  have HA := Lib.hid (evcontains_any v L w hv hL hM hT)
  have HP := Lib.hid (fun k (hk : k < L.length) w' (h : Below w.heap.size w w') => eprint_any (L.getD k noEv).1 (L.getD k noEv).2.1 (L.getD k noEv).2.2.1 (L.getD k noEv).2.2.2.1 (L.getD k noEv).2.2.2.2.1 (L.getD k noEv).2.2.2.2.2 (hM.at k hk).1 (hM.at k hk).2.1 (hM.at k hk).2.2.1 (hM.at k hk).2.2.2 w' (Utf8Tabs_below hT h) (hE.below h))
  have HLn := Lib.hid (fun k (hk : k < L.length) => lineE_len (L.getD k noEv) (hM.at k hk).1 (hM.at k hk).2.1 (hM.at k hk).2.2)
  have hen := enters_of Tryd.func91 (by kernel_rfl) rfl
  obtain ⟨p, c, rfl, hp⟩ := hv
  have HX := Lib.hid hp
  clear hp hT hE hM hen
  unfold writeL
  cases hall : L.all mayE with
  | false =>
    rw [hall] at HA
    rw [if_neg (by decide)]
    clear hall HP HLn
    go_enter Tryd.func48, Tryd.ntmps48
    go_wp2_with fail
    refine HA.out.mono ?_
    rintro e w1 ⟨rfl, hb1⟩
    go_wp2_with fail
    go_ret2
    exact ⟨rfl, hb1⟩
  | true =>
    rw [hall] at HA
    rw [if_pos rfl]
    clear hall
    obtain ⟨R, hR⟩ : ∃ R, catGo L [] = R := ⟨_, rfl⟩
    rw [hR]
    have HR0 := Lib.hid hR
    clear hR
    go_enter Tryd.func48, Tryd.ntmps48
    go_wp2_with fail
    refine HA.out.mono ?_
    rintro e w1 ⟨rfl, hb1⟩
    have HB1 := Lib.hid hb1
    have HN1 := Lib.hid (isB_new w1)
    clear hb1
    go_wp2_with fail
    go_loopw [13] (fun i wr => ∃ (k : Nat) (s : List UInt8), k ≤ L.length ∧ i = .int .i64 k ∧ s.length ≤ 65536 ∧ IsB w1.heap.size w1.heap.size s wr ∧ RowKit.Hid (catGo (L.drop k) s = R) ∧ Below w1.heap.size w1 wr) (fun i _ => L.length - (RowKit.intOf i).toNat)
    case atStart => exact ⟨0, [], Nat.zero_le _, rfl, Nat.zero_le _, HN1.out, Lib.hid (by rw [List.drop_zero]; exact HR0.out), (Below.refl _ _).alloc (Nat.le_refl _) _⟩
    case round =>
      obtain ⟨k, s, hk, rfl, hs, hB, HR, hbw⟩ := hrel
      have HIB := Lib.hid hB
      have hBz := hbw.size
      clear hB
      by_cases hk1 : k < L.length
      · obtain ⟨g, rfl, hcell⟩ := HX.out k hk1
        have hd := drop_cons L k hk1
        have HG := Lib.hid HR.out
        rw [hd] at HG
        have hbo := below_next HB1.out hbw
        have HPk := Lib.hid (HP.out k hk1)
        have hln := HLn.out k hk1
        have hfr := HB1.out
        have a0 := cell_later hbo (hcell 0 _ rfl)
        have a1 := cell_later hbo (hcell 1 _ rfl)
        have a2 := cell_later hbo (hcell 2 _ rfl)
        have a3 := cell_later hbo (hcell 3 _ rfl)
        have a4 := cell_later hbo (hcell 4 _ rfl)
        have a5 := cell_later hbo (hcell 5 _ rfl)
        simp only [Nat.add_zero] at a0 a1 a2 a3 a4 a5
        clear hcell hd HR hfr
        obtain ⟨t, ht⟩ : ∃ t, L.getD k noEv = t := ⟨_, rfl⟩
        rw [ht] at HG HPk hln a0 a1 a2 a3 a4 a5
        obtain ⟨x1, x2, x3, x4, x5, x6⟩ := t
        simp only at HPk a0 a1 a2 a3 a4 a5
        have HBO := Lib.hid hbo
        have HBW := Lib.hid hbw
        obtain ⟨tl, htl⟩ : ∃ tl, lineE (x1, x2, x3, x4, x5, x6) = tl := ⟨_, rfl⟩
        have HST := Lib.hid (cat_stop (x1, x2, x3, x4, x5, x6) (L.drop (k + 1)) s)
        have HMO := Lib.hid (cat_more (x1, x2, x3, x4, x5, x6) (L.drop (k + 1)) s)
        rw [htl] at HPk hln HST HMO
        clear ht hbo hbw htl
        go_wp2_with fail
        refine (HPk.out _ (HBO.out.alloc HBO.out.size _)).mono ?_
        rintro e w2 ⟨rfl, hb2⟩
        have hw2 : Below wr.heap.size wr w2 := below_next ((Below.refl _ _).alloc (Nat.le_refl _) _) hb2
        have hB2 := HIB.out.later hw2
        have hz2 := hw2.size
        go_wp2_with fail
        refine (bwrite_any w1.heap.size w1.heap.size s (tl ++ [10]) _ hB2 (by simp; omega) (by omega)).mono ?_
        rintro e w3 ⟨rfl, hB3, hb3⟩
        obtain ⟨S', hS'⟩ : ∃ S', s ++ (tl ++ [10]) = S' := ⟨_, rfl⟩
        rw [hS'] at hB3 HST HMO
        have HB3 := Lib.hid hB3
        have hbw3 : Below w1.heap.size w1 w3 := (HBW.out.trans (hw2.mono hBz)).trans hb3
        have HBW3 := Lib.hid hbw3
        clear hB2 hb2 hS' hB3 hb3 hbw3
        by_cases hbig : 65536 < S'.length
        · have HE : RowKit.Hid (R = ([], 6)) := Lib.hid (by rw [← HG.out]; exact HST.out hbig)
          have hdec : decide ((65536 : Int) < (S'.length : Int)) = true := decide_eq_true (by omega)
          clear HST HMO HG
          go_wp2_with fail
          refine (blen_any w1.heap.size w1.heap.size S' _ HB3.out).mono ?_
          rintro e w4 ⟨rfl, rfl⟩
          go_wp2_with fail
          go_ret2
          exact ⟨by rw [HE.out]; rfl, below_next HB1.out HBW3.out⟩
        · have HE : RowKit.Hid (catGo (L.drop (k + 1)) S' = R) := Lib.hid (by rw [← HG.out]; exact (HMO.out hbig).symm)
          have hdec : decide ((65536 : Int) < (S'.length : Int)) = false := decide_eq_false (by omega)
          clear HST HMO HG
          go_wp2_with fail
          refine (blen_any w1.heap.size w1.heap.size S' _ HB3.out).mono ?_
          rintro e w4 ⟨rfl, rfl⟩
          go_wp2_with fail
          go_roundw
          case rel => exact ⟨k + 1, S', by omega, by go_num, by omega, HB3.out, HE, HBW3.out⟩
          case measure => simp [RowKit.intOf]; omega
      · have hke : k = L.length := by omega
        subst hke
        have HE : RowKit.Hid (R = (s, 0)) := Lib.hid (by rw [← HR.out, List.drop_length]; rfl)
        clear HR
        go_wp2_with fail
        refine (bstring_any w1.heap.size w1.heap.size s _ HIB.out (by omega)).mono ?_
        rintro e w4 ⟨rfl, hb4⟩
        go_wp2_with fail
        go_ret2
        exact ⟨by rw [HE.out]; rfl, below_next HB1.out (hbw.trans hb4)⟩

theorem write_no (L : List EventM) (k : Nat) (hk : k < L.length) (h : mayE (L.getD k noEv) = false) : writeL L = ([], 4) := by
  unfold writeL
  rw [if_neg]
  intro h1
  rw [List.all_eq_true] at h1
  have := h1 (L.getD k noEv) (by
    have : L.getD k noEv = L[k] := by simp [hk]
    rw [this]
    exact List.getElem_mem hk)
  rw [h] at this
  cases this
theorem write_yes (L : List EventM) (h : ∀ k, k < L.length → mayE (L.getD k noEv) = true) : writeL L = catGo L [] := by
  unfold writeL
  rw [if_pos]
  rw [List.all_eq_true]
  intro x hx
  obtain ⟨k, hk, e⟩ := List.getElem_of_mem hx
  have := h k hk
  simpa [hk, e] using this
set_option maxRecDepth 100000 in
set_option maxHeartbeats 4000000 in
theorem rlogprint_any (v : Value) (L : List EventM) (w : World) (hv : EvsS w v L) (hL : L.length ≤ 1000000) (hM : ModE L) :
    Calls Tryd.prog 49 #[v] w fun e w' => e = .returned (.tuple #[.string (bs (writeL L).1), .int .i64 (writeL L).2]) ∧ Below w.heap.size w w' := by
  have HP := Lib.hid (fun k (hk : k < L.length) w' => reprint_any (L.getD k noEv).1 (L.getD k noEv).2.1 (L.getD k noEv).2.2.1 (L.getD k noEv).2.2.2.1 (L.getD k noEv).2.2.2.2.1 (L.getD k noEv).2.2.2.2.2 (hM.at k hk).1 (hM.at k hk).2.1 (hM.at k hk).2.2.1 (hM.at k hk).2.2.2 w')
  have HQ := Lib.hid (fun k (hk : k < L.length) w' => remay_any (L.getD k noEv).1 (L.getD k noEv).2.1 (L.getD k noEv).2.2.1 (L.getD k noEv).2.2.2.1 (L.getD k noEv).2.2.2.2.1 (L.getD k noEv).2.2.2.2.2 (hM.at k hk).1 (hM.at k hk).2.1 w')
  have HLn := Lib.hid (fun k (hk : k < L.length) => lineE_len (L.getD k noEv) (hM.at k hk).1 (hM.at k hk).2.1 (hM.at k hk).2.2)
  have HNo := Lib.hid (fun k (hk : k < L.length) => write_no L k hk)
  have HYes := Lib.hid (write_yes L)
  obtain ⟨R, hR⟩ : ∃ R, writeL L = R := ⟨_, rfl⟩
  rw [hR] at HNo HYes
  rw [hR]
  obtain ⟨p, c, rfl, hp⟩ := hv
  have HX := Lib.hid hp
  clear hp hM hR
  go_enter Tryd.func49, Tryd.ntmps49
  go_upto_block 0 with fail
  go_cut [] (fun wx => (∀ k, k < L.length → mayE (L.getD k noEv) = true) ∧ Below w.heap.size w wx)
  case first =>
    go_wp2_with fail
    go_loopw [4] (fun i wr => ∃ k : Nat, k ≤ L.length ∧ i = .int .i64 k ∧ (∀ j, j < k → mayE (L.getD j noEv) = true) ∧ Below w.heap.size w wr) (fun i _ => L.length - (RowKit.intOf i).toNat)
    case atStart => exact ⟨0, Nat.zero_le _, rfl, fun j hj => absurd hj (Nat.not_lt_zero j), Below.refl _ _⟩
    case round =>
      obtain ⟨k, hk, rfl, hn, hbw⟩ := hrel
      have HN := Lib.hid hn
      clear hn
      by_cases hk1 : k < L.length
      · obtain ⟨g, rfl, hcell⟩ := HX.out k hk1
        have HM := Lib.hid (HQ.out k hk1 wr)
        have HY := Lib.hid (HNo.out k hk1)
        have HK : RowKit.Hid (mayE (L.getD k noEv) = true → ∀ j, j < k + 1 → mayE (L.getD j noEv) = true) := Lib.hid (fun h j hj => by
          by_cases hjk : j < k
          · exact HN.out j hjk
          · obtain rfl : j = k := by omega
            exact h)
        have a0 := cell_later hbw (hcell 0 _ rfl)
        have a1 := cell_later hbw (hcell 1 _ rfl)
        have a2 := cell_later hbw (hcell 2 _ rfl)
        have a3 := cell_later hbw (hcell 3 _ rfl)
        have a4 := cell_later hbw (hcell 4 _ rfl)
        have a5 := cell_later hbw (hcell 5 _ rfl)
        simp only [Nat.add_zero] at a0 a1 a2 a3 a4 a5
        obtain ⟨t, ht⟩ : ∃ t, L.getD k noEv = t := ⟨_, rfl⟩
        rw [ht] at HM HY HK a0 a1 a2 a3 a4 a5
        obtain ⟨x1, x2, x3, x4, x5, x6⟩ := t
        obtain ⟨b, hb⟩ : ∃ b, mayE (x1, x2, x3, x4, x5, x6) = b := ⟨_, rfl⟩
        simp only at HM a0 a1 a2 a3 a4 a5
        rw [hb] at HM HY HK
        clear hcell hb ht
        cases b with
        | false =>
          have hR := HY.out rfl
          subst hR
          go_wp2_with (first | (go_at_call 24; refine HM.out.mono ?_; rintro e w1 ⟨rfl, hb1⟩))
          go_ret2
          exact ⟨rfl, below_next hbw hb1⟩
        | true =>
          go_wp2_with (first | (go_at_call 24; refine HM.out.mono ?_; rintro e w1 ⟨rfl, hb1⟩))
          go_roundw
          case rel => exact ⟨k + 1, by omega, by go_num, HK.out trivial, below_next hbw hb1⟩
          case measure => simp [RowKit.intOf]; omega
      · have hke : k = L.length := by omega
        subst hke
        go_wp2_with fail
        go_meet
        exact ⟨HN.out, hbw⟩
  case rest =>
    obtain ⟨hall, hbw0⟩ := hcut
    obtain ⟨wo, rfl⟩ : ∃ wo : World, wo = wc := ⟨_, rfl⟩
    have HRe := Lib.hid (HYes.out hall)
    clear hall
    go_wp2_with fail
    go_loopw [5, 6] (fun v5 i wr => ∃ (k : Nat) (s : List UInt8), k ≤ L.length ∧ v5 = .string (bs s) ∧ i = .int .i64 k ∧ s.length ≤ 65536 ∧ RowKit.Hid (catGo (L.drop k) s = R) ∧ Below wo.heap.size wo wr) (fun _ i _ => L.length - (RowKit.intOf i).toNat)
    case atStart => exact ⟨0, [], Nat.zero_le _, rfl, rfl, Nat.zero_le _, Lib.hid (by rw [List.drop_zero]; exact HRe.out.symm), Below.refl _ _⟩
    case round =>
      obtain ⟨k, s, hk, rfl, rfl, hs, HR, hbw⟩ := hrel
      by_cases hk1 : k < L.length
      · obtain ⟨g, rfl, hcell⟩ := HX.out k hk1
        have hd := drop_cons L k hk1
        have HG := Lib.hid HR.out
        rw [hd] at HG
        have hbo := below_next hbw0 hbw
        have HPk := Lib.hid (HP.out k hk1)
        have hln := HLn.out k hk1
        have a0 := cell_later hbo (hcell 0 _ rfl)
        have a1 := cell_later hbo (hcell 1 _ rfl)
        have a2 := cell_later hbo (hcell 2 _ rfl)
        have a3 := cell_later hbo (hcell 3 _ rfl)
        have a4 := cell_later hbo (hcell 4 _ rfl)
        have a5 := cell_later hbo (hcell 5 _ rfl)
        simp only [Nat.add_zero] at a0 a1 a2 a3 a4 a5
        clear hcell hd HR
        obtain ⟨t, ht⟩ : ∃ t, L.getD k noEv = t := ⟨_, rfl⟩
        rw [ht] at HG HPk hln a0 a1 a2 a3 a4 a5
        obtain ⟨x1, x2, x3, x4, x5, x6⟩ := t
        simp only at HPk a0 a1 a2 a3 a4 a5
        obtain ⟨tl, htl⟩ : ∃ tl, lineE (x1, x2, x3, x4, x5, x6) = tl := ⟨_, rfl⟩
        have HST := Lib.hid (cat_stop (x1, x2, x3, x4, x5, x6) (L.drop (k + 1)) s)
        have HMO := Lib.hid (cat_more (x1, x2, x3, x4, x5, x6) (L.drop (k + 1)) s)
        rw [htl] at HPk hln HST HMO
        clear ht hbo htl
        have hlen : (s ++ (tl ++ [10])).length = s.length + (tl.length + 1) := by simp
        rw [hlen] at HST HMO
        clear hlen
        by_cases hbig : 65536 < s.length + (tl.length + 1)
        · have HE : RowKit.Hid (R = ([], 6)) := Lib.hid (by rw [← HG.out]; exact HST.out hbig)
          have hdec : decide ((65536 : Int) < (s.length : Int) + ((tl.length : Int) + 1)) = true := decide_eq_true (by omega)
          clear HST HMO HG hbig
          go_wp2_with fail
          refine (HPk.out _).mono ?_
          rintro e w2 ⟨rfl, hb2⟩
          go_wp2_with fail
          go_ret2
          exact ⟨by rw [HE.out]; rfl, below_next hbw0 (below_next hbw hb2)⟩
        · have HE : RowKit.Hid (catGo (L.drop (k + 1)) (s ++ (tl ++ [10])) = R) := Lib.hid (by rw [← HG.out]; exact (HMO.out hbig).symm)
          have hdec : decide ((65536 : Int) < (s.length : Int) + ((tl.length : Int) + 1)) = false := decide_eq_false (by omega)
          have HBG := Lib.hid hbig
          clear HST HMO HG hbig
          go_wp2_with fail
          refine (HPk.out _).mono ?_
          rintro e w2 ⟨rfl, hb2⟩
          go_wp2_with fail
          go_roundw
          case rel => exact ⟨k + 1, s ++ (tl ++ [10]), by omega, rfl, by go_num, by have := HBG.out; simp; omega, HE, below_next hbw hb2⟩
          case measure => simp [RowKit.intOf]; omega
      · have hke : k = L.length := by omega
        subst hke
        have HE : RowKit.Hid (R = (s, 0)) := Lib.hid (by rw [← HR.out, List.drop_length]; rfl)
        clear HR
        go_wp2_with fail
        go_ret2
        exact ⟨by rw [HE.out]; rfl, below_next hbw0 hbw⟩
end Go.Proofs.YtphhgdgamnogpaaDoor

namespace Go.Proofs.YtphhgdgamnogpaaDoor
open Go.ChangeShapes Go.WideShapes Go.RowKit

/-- A slice of elements, each of so many cells that read as R says. -/
def SlR {α : Type} (size : Nat) (R : World → List Value → α → Prop) (w : World) (v : Value) (L : List α) : Prop :=
  ∃ p cap, v = .slice p L.length cap ∧ L.length ≤ cap ∧ cap ≤ maxLen ∧ ∀ (j : Nat) (hj : j < L.length), ∃ (a : Addr) (cs : List Value), p = some a ∧ cs.length = size ∧ (∀ (i : Nat) (u : Value), cs[i]? = some u → w.cell? (a.add (j * size + i)) = some u) ∧ R w cs L[j]
theorem SlR.below {α : Type} {size : Nat} {R : World → List Value → α → Prop} (hR : ∀ w w' cs m, Below w.heap.size w w' → R w cs m → R w' cs m) {w w' : World} {v : Value} {L : List α} (h : SlR size R w v L) (hb : Below w.heap.size w w') : SlR size R w' v L := by
  obtain ⟨p, cap, hv, hl, hm, hc⟩ := h
  refine ⟨p, cap, hv, hl, hm, fun j hj => ?_⟩
  obtain ⟨a, cs, hp, hs, h1, h2⟩ := hc j hj
  exact ⟨a, cs, hp, hs, fun i u hu => cell_later hb (h1 i u hu), hR _ _ _ _ hb h2⟩
theorem SlR.mono {α : Type} {size : Nat} {R R' : World → List Value → α → Prop} {w : World} {v : Value} {L : List α} (h : SlR size R w v L) (hR : ∀ cs m, m ∈ L → R w cs m → R' w cs m) : SlR size R' w v L := by
  obtain ⟨p, cap, hv, hl, hm, hc⟩ := h
  refine ⟨p, cap, hv, hl, hm, fun j hj => ?_⟩
  obtain ⟨a, cs, hp, hs, h1, h2⟩ := hc j hj
  exact ⟨a, cs, hp, hs, h1, hR _ _ (List.getElem_mem hj) h2⟩

theorem pick_lt {β : Type} [Nonempty β] {n : Nat} {p : Nat → β → Prop} (h : ∀ i, i < n → ∃ b, p i b) : ∃ f : Nat → β, ∀ i, i < n → p i (f i) := by
  refine ⟨fun i => if hi : i < n then Classical.choose (h i hi) else Classical.choice inferInstance, fun i hi => ?_⟩
  simp only [dif_pos hi]
  exact Classical.choose_spec (h i hi)

section
variable {H : Type} {enc : TypeId × Value → H} {P : Program} {w : World} {base : Nat} {spare : Nat → Bool} {held : Bool}
theorem open_slR {α : Type} [Nonempty α] {size : Nat} {R : World → List Value → α → Prop} {t e : TypeId} {fuel : Nat} {cs : List Value} {x : DataW H × List MemPlace} (ht : P.underlying t = some (.slice e)) (hc : P.cellsOf e = size)
    (hR : ∀ n cs y, DataW.trod enc P w base spare held n e cs = some y → ∃ m, R w cs m) (h : DataW.trod enc P w base spare held fuel t cs = some x) : ∃ v L, cs = [v] ∧ SlR size R w v L := by
  rcases Go.Deep.open_slice ht h with ⟨rfl, -⟩ | ⟨a, len, cap, m, n, D, Pl, rfl, -, hl, hm, hmm, -, hi⟩
  · exact ⟨_, [], rfl, none, 0, rfl, Nat.le_refl _, Nat.zero_le _, fun j hj => absurd hj (Nat.not_lt_zero j)⟩
  · have hle : len ≤ m := by rw [hmm]; split <;> omega
    obtain ⟨M, hM⟩ := pick_lt (β := α) (n := len) (p := fun i m => ∃ cs', cs'.length = size ∧ (∀ (i' : Nat) (u : Value), cs'[i']? = some u → w.cell? (a.add (i * size + i')) = some u) ∧ R w cs' m) (fun i hil => by
      obtain ⟨cs', h1, h2⟩ := hi i (by omega)
      rw [hc] at h1
      obtain ⟨_, hlen, hat⟩ := World.cells?_some h1
      obtain ⟨m', hm'⟩ := hR _ _ _ h2
      refine ⟨m', cs', hlen, fun i' u hu => ?_, hm'⟩
      have hi' : i' < size := by
        have := (List.getElem?_eq_some_iff.1 hu).1
        omega
      rw [← Go.Deep.add_add, hat i' hi', hu])
    refine ⟨_, (List.range len).map M, rfl, some a, cap, by simp, by simpa using hl, hm, fun j hj => ?_⟩
    have hj' : j < len := by simpa using hj
    obtain ⟨cs', h1, h2, h3⟩ := hM j hj'
    exact ⟨a, cs', rfl, h1, h2, by simpa using h3⟩
theorem trod_len {fs : Array Field} {t : TypeId} {fuel : Nat} {cs : List Value} {x : DataW H × List MemPlace} (ht : P.underlying t = some (.struct fs)) (h : DataW.trod enc P w base spare held fuel t cs = some x) : cs.length = P.cellsOf t := by
  obtain ⟨xs, n, -, -, hl, -, -⟩ := DataW.trod_struct ht h
  exact hl
/-- A struct's field, by its number, where it begins, its type and its size. -/
theorem trod_at {fs : Array Field} {t : TypeId} {fuel : Nat} {cs : List Value} {x : DataW H × List MemPlace} (i o : Nat) (ty : TypeId) (s : Nat) {f : Field} (ht : P.underlying t = some (.struct fs)) (h : DataW.trod enc P w base spare held fuel t cs = some x) (hi : fs[i]? = some f) (ho : f.offset = o) (hty : f.type = ty) (hs : P.cellsOf ty = s) :
    ∃ n y, DataW.trod enc P w base spare held n ty ((cs.drop o).take s) = some y := by
  obtain ⟨xs, n, -, -, hl, hlen, hf⟩ := DataW.trod_struct ht h
  refine ⟨n, xs[i]'(by rw [hlen]; exact (Array.getElem?_eq_some_iff.1 hi).1), ?_⟩
  have := hf i f hi
  subst ho hty hs
  rw [this]
  simp
end
end Go.Proofs.YtphhgdgamnogpaaDoor

namespace Go.Proofs.YtphhgdgamnogpaaDoor
open Go.ChangeShapes Go.WideShapes Go.ChangeAt Go.RowKit

theorem Tryd.own : ownKnob Tryd.prog.godebug = none := by kernel_rfl
theorem Tryd.laidOut : laidOutB Tryd.prog = true := by kernel_rfl

section
variable {H : Type} {enc : TypeId × Value → H} {P : Program}
/-- Arguments read behind the call as they read before it. -/
theorem trodAll_later {W W' : World} (hl : laidOutB P = true) (hb : Below W.heap.size W W') {sp : Nat → Bool} : ∀ (ts : List TypeId) (vs : List Value) (ds : List (DataW H)) (ps : List MemPlace),
    ts.all (fun t => P.readableRec t && decide (t < P.types.size)) = true → DataW.TrodAll enc P W 0 (fun _ => true) true ts vs ds ps → (∀ x ∈ ps, x.block < W.heap.size) → (∀ x ∈ ps, sp x.block = true) →
    DataW.TrodAll enc P W' 0 sp true ts vs ds ps
  | [], vs, ds, ps, _, h, _, _ => by
    obtain ⟨rfl, rfl, rfl⟩ := trodAll_nil h
    exact trodAll_mk0
  | t :: ts, vs, ds, ps, hts, h, hlt, hsp => by
    obtain ⟨v, vs', d, ds', p, q, rfl, rfl, rfl, h0, h1⟩ := trodAll_cons h
    simp only [List.all_cons, Bool.and_eq_true, decide_eq_true_eq] at hts
    exact trodAll_cons_mk
      (WideElems.Trod_stays hl hts.1.1 hts.1.2 h0 (fun x hx => hb.same (hlt x (List.mem_append_left _ hx))) (fun x hx => hsp x (List.mem_append_left _ hx)))
      (trodAll_later hl hb ts vs' ds' q hts.2 h1 (fun x hx => hlt x (List.mem_append_right _ hx)) (fun x hx => hsp x (List.mem_append_right _ hx)))

theorem post_of_below {f : Func} {s : ChangeSpec} {apart fresh handsOn again : Bool}
    {W W' : World} {args : Array Value} {v : Value} {ds gs : List (DataW H)} {before pa pv : List MemPlace}
    (hW : DataW.Whole enc P f.params.toList s.vars apart W args.toList ds gs before)
    (hres : ∀ (b : Nat) (sp : Nat → Bool) (hd : Bool), DataW.TrodAll enc P W' b sp hd f.resultTypes.toList (v.resultList f.resultTypes.size) (s.fn H (ds ++ gs)).results [])
    (hargs : ∀ sp : Nat → Bool, (∀ p ∈ before, sp p.block = true) → DataW.TrodAll enc P W' 0 sp true f.params.toList args.toList (s.fn H (ds ++ gs)).args pa)
    (hvars : ∀ sp : Nat → Bool, (∀ p ∈ before, sp p.block = true) → DataW.TrodVars enc P W' sp s.vars (s.fn H (ds ++ gs)).vars pv)
    (hps : before = pa ++ pv) (hb : Below W.heap.size W W')
    (hok : ∀ (j : Nat) (t : TypeId) (r : Value), f.resultTypes[j]? = some t → (v.resultList f.resultTypes.size)[j]? = some r → Value.okWide P W' .any 0 t r) :
    s.post enc P f apart fresh handsOn again W args v W' := by
  have hlt : ∀ p ∈ before, p.block < W.heap.size := fun p hp => hW.lt p hp
  have hold : ∀ p ∈ before, (fun b => decide (b < W.heap.size)) p.block = true := fun p hp => by simpa using hlt p hp
  refine ⟨ds, gs, before, [], pa, pv, hW, hres _ _ _, hargs _ hold, hvars _ hold, World.keptBut_mono (fun p hp => ⟨hp, ?_⟩) (hb.frame (· ∈ before)), fun _ => ?_⟩
  · rw [hps, List.mem_append] at hp
    exact Or.inr hp
  · obtain ⟨_, _, _, _, _, hz, hn⟩ := hW
    refine ⟨hok, _, _, ([] ++ pa) ++ pv, ⟨[] ++ pa, pv, trodAll_append (hargs _ (fun _ _ => rfl)) (hres _ _ _), hvars _ (fun _ _ => rfl), rfl, ?_, ?_⟩, ?_⟩
    · intro b off hp
      have hin : MemPlace.cell b off ∈ before := by rw [hps]; simpa using hp
      rw [hb.frozen (hlt _ hin)]
      exact hz b off hin
    · intro ha
      have := hn ha
      rw [hps] at this
      simpa using this
    · intro p hp _
      rw [hps]
      simpa using hp

/-- A law's last step: it returned true and turned nothing that was there. -/
theorem law_post {f : Func} {s : ChangeSpec} {tb : TypeId} (hu : P.underlying tb = some .bool) (hl : laidOutB P = true) (hrt : f.resultTypes = #[tb]) (hro : (Value.bool true).resultList 1 = [.bool true])
    (hts : f.params.toList.all (fun t => P.readableRec t && decide (t < P.types.size)) = true)
    {W W' : World} {args : Array Value} {ds : List (DataW H)} {before : List MemPlace} (hvs : s.vars = [])
    (hW : DataW.Whole enc P f.params.toList s.vars false W args.toList ds [] before)
    (hA : DataW.TrodAll enc P W 0 (fun _ => true) true f.params.toList args.toList ds before)
    (hres : (s.fn H (ds ++ [])).results = [.lit (.bool true)]) (hargs : (s.fn H (ds ++ [])).args = ds) (hvars : (s.fn H (ds ++ [])).vars = []) (hb : Below W.heap.size W W') :
    s.post enc P f false true false false W args (.bool true) W' := by
  have hlt : ∀ p ∈ before, p.block < W.heap.size := fun p hp => hW.lt p hp
  refine post_of_below (pa := before) (pv := []) hW (fun b sp hd => ?_) (fun sp hsp => ?_) (fun sp _ => ?_) (by simp) hb ?_
  · rw [hres, hrt]
    exact trodAll_mk1 (shut_bool hu true)
  · rw [hargs]
    exact trodAll_later hl hb _ _ _ _ hts hA hlt hsp
  · rw [hvars, hvs]; rfl
  · intro j t r hj hr
    rw [hrt] at hj hr
    rw [show (#[tb] : Array TypeId).size = 1 from rfl, hro] at hr
    match j with
    | 0 =>
      simp at hj hr
      subst hj; subst hr
      exact okWide_bool_mk hu _
    | j + 1 => simp at hj
end

/-- What 'open_int' hands over, as the walks want it. -/
theorem wf_wrap64 {x : Int} (h : (Lit.int .i64 x).wf = true) : IntKind.i64.wrap x = x := by
  have hb : -9223372036854775808 ≤ x ∧ x ≤ 9223372036854775807 := by simpa [Lit.wf, IntKind.min, IntKind.max, IntKind.signed, IntKind.bits] using h
  exact IntWalk.i64_in x hb
theorem wf_bounds {x : Int} (h : (Lit.int .i64 x).wf = true) : -9223372036854775808 ≤ x ∧ x ≤ 9223372036854775807 := by
  simpa [Lit.wf, IntKind.min, IntKind.max, IntKind.signed, IntKind.bits] using h
end Go.Proofs.YtphhgdgamnogpaaDoor

namespace Go.Proofs.YtphhgdgamnogpaaDoor
open Go.ChangeShapes Go.WideShapes Go.ChangeAt Go.RowKit Go.Joins Go.Lib

def evCells (x : EventM) : List Value := [.int .i64 x.1, .string (bs x.2.1), .string (bs x.2.2.1), .int .i64 x.2.2.2.1, .int .i64 x.2.2.2.2.1, .int .i64 x.2.2.2.2.2]
/-- An event's cells as an argument's: the texts' lengths and the number are Go's. -/
def EvR (_ : World) (cs : List Value) (x : EventM) : Prop := cs = evCells x ∧ x.2.1.length ≤ 9223372036854775807 ∧ x.2.2.1.length ≤ 9223372036854775807 ∧ -9223372036854775808 ≤ x.2.2.2.2.1 ∧ x.2.2.2.2.1 ≤ 9223372036854775807
section
variable {H : Type} {enc : TypeId × Value → H} {w : World} {base : Nat} {spare : Nat → Bool} {held : Bool}
theorem str_of {s : ByteArray} (hs : s.size ≤ maxLen) : s.data.toList.length ≤ 9223372036854775807 := by
  unfold maxLen at hs
  rw [Lib.size_eq] at hs
  exact hs
set_option maxRecDepth 100000 in
theorem open_event {n : Nat} {cs : List Value} {y : DataW H × List MemPlace} (h : DataW.trod enc Tryd.prog w base spare held n 37 cs = some y) : ∃ x, EvR w cs x := by
  have hl := trod_len Tryd.underlying37 h
  obtain ⟨n0, y0, h0⟩ := trod_at 0 0 3 1 Tryd.underlying37 h rfl rfl rfl (by kernel_rfl)
  obtain ⟨n1, y1, h1⟩ := trod_at 1 1 9 1 Tryd.underlying37 h rfl rfl rfl (by kernel_rfl)
  obtain ⟨n2, y2, h2⟩ := trod_at 2 2 9 1 Tryd.underlying37 h rfl rfl rfl (by kernel_rfl)
  obtain ⟨n3, y3, h3⟩ := trod_at 3 3 35 2 Tryd.underlying37 h rfl rfl rfl (by kernel_rfl)
  obtain ⟨n4, y4, h4⟩ := trod_at 4 5 3 1 Tryd.underlying37 h rfl rfl rfl (by kernel_rfl)
  have hl3 := trod_len Tryd.underlying35 h3
  obtain ⟨m0, z0, g0⟩ := trod_at 0 0 3 1 Tryd.underlying35 h3 rfl rfl rfl (by kernel_rfl)
  obtain ⟨m1, z1, g1⟩ := trod_at 1 1 2 1 Tryd.underlying35 h3 rfl rfl rfl (by kernel_rfl)
  obtain ⟨k, hk, -, -⟩ := DataW.trod_int Tryd.underlying3 h0
  obtain ⟨s, hs, -, ls⟩ := DataW.trod_string Tryd.underlying9 h1
  obtain ⟨key, hkey, -, lk⟩ := DataW.trod_string Tryd.underlying9 h2
  obtain ⟨vk, hvk, -, -⟩ := DataW.trod_int Tryd.underlying3 g0
  obtain ⟨vn, hvn, -, wn⟩ := DataW.trod_int Tryd.underlying2 g1
  obtain ⟨ln, hln, -, -⟩ := DataW.trod_int Tryd.underlying3 h4
  have hb := wf_bounds wn
  rw [show Tryd.prog.cellsOf 37 = 6 by kernel_rfl] at hl
  match cs, hl with
  | [c0, c1, c2, c3, c4, c5], _ =>
    simp at hk hs hkey hvk hvn hln
    refine ⟨(k, s.data.toList, key.data.toList, vk, vn, ln), ?_, str_of ls, str_of lk, hb.1, hb.2⟩
    simp only [evCells, hk, hs, hkey, hvk, hvn, hln, ← bs_data]
set_option maxRecDepth 100000 in
theorem open_ev {r : Reach} {b0 : Nat} {v : Value} {d : DataW H} {ps : List MemPlace} (hval : Value.okWide Tryd.prog w r b0 37 v) (hd : DataW.Trod enc Tryd.prog w base spare held 37 v d ps) :
    ∃ k s key vk n ln, v = .agg #[.int .i64 k, .string (bs s), .string (bs key), .int .i64 vk, .int .i64 n, .int .i64 ln] ∧ s.length ≤ 9223372036854775807 ∧ key.length ≤ 9223372036854775807 ∧ -9223372036854775808 ≤ n ∧ n ≤ 9223372036854775807 := by
  obtain ⟨cs, rfl, -⟩ := okWide_struct Tryd.underlying37 hval
  obtain ⟨fuel, hf⟩ := hd
  obtain ⟨x, hx, h1, h2, h3, h4⟩ := open_event hf
  refine ⟨x.1, x.2.1, x.2.2.1, x.2.2.2.1, x.2.2.2.2.1, x.2.2.2.2.2, ?_, h1, h2, h3, h4⟩
  have e : cs.toList = evCells x := hx
  obtain ⟨l⟩ := cs
  simp only at e
  rw [e]
  rfl
end
/-- A table of texts, out of what it reads as. -/
theorem strs_of_reads {P : Program} {W : World} {name : String} {g : Nat} {t e : TypeId} {L : List (List UInt8)} (hn : P.globalNamed name = some g) (hty : (P.globals[g]?).map (·.type) = some t) (ht : P.underlying t = some (.array L.length e)) (he : P.underlying e = some .string) (hce : P.cellsOf e = 1)
    (h : VarReads P W name (.agg (L.map fun l => .lit (.string l)))) : ∀ i, i < L.length → W.cell? ⟨g, i, none⟩ = some (.string (bs (L.getD i []))) := by
  intro i hi
  obtain ⟨g', t', cs, fuel, p, hg, hty', hvar, hd⟩ := h
  obtain rfl := Option.some.inj (hn.symm.trans hg)
  obtain rfl := Option.some.inj (hty.symm.trans hty')
  obtain ⟨fuel', d, q, hdi, hel⟩ := array_elem ht hd i hi
  rw [hce, Nat.mul_one] at hel
  obtain ⟨s, hs, hx, -⟩ := DataW.trod_string he hel
  rw [World.var?_cell hg hvar i, ← Array.getElem?_toList]
  have h1 := congrArg (fun x : List Value => x[0]?) hs
  simp only [List.getElem?_take, List.getElem?_drop] at h1
  have h2 : (DataW.lit (.string (L.getD i [])) : DataW Unit) = .lit (.string s.data.toList) := by
    have h3 := congrArg Prod.fst hx
    simp only at h3
    rw [← h3]
    rw [List.getElem?_map, List.getElem?_eq_getElem hi] at hdi
    simp only [Option.map_some, Option.some.injEq] at hdi
    rw [← hdi]
    simp [hi]
  injection h2 with h2
  injection h2 with h2
  rw [h2, ← bs_data]
  simpa using h1
end Go.Proofs.YtphhgdgamnogpaaDoor

namespace Go.Proofs.YtphhgdgamnogpaaDoor
open Go.ChangeShapes Go.WideShapes Go.ChangeAt Go.RowKit Go.Joins

def EvsA (w : World) (v : Value) (L : List EventM) : Prop := SlR 6 EvR w v L
theorem EvsA.below {w w' : World} {v : Value} {L : List EventM} (h : EvsA w v L) (hb : Below w.heap.size w w') : EvsA w' v L := SlR.below (fun _ _ _ _ _ h => h) h hb
theorem addr_at' (a : Addr) (m j : Nat) : a.add (m + (j + 1)) = ⟨(a.add m).block, (a.add m).off + (j + 1), none⟩ := by
  unfold Addr.add
  by_cases h : m = 0
  · subst h; simp
  · simp [h]; omega
theorem evsA_at {w : World} {p : Option Addr} {n c : Nat} {L : List EventM} (h : EvsA w (.slice p n c) L) (k : Nat) (hk : k < L.length) : ∃ a, p = some a ∧ w.cell? (a.add (k * 6)) = some (.int .i64 L[k].1) ∧ w.cell? ⟨(a.add (k * 6)).block, (a.add (k * 6)).off + 1, none⟩ = some (.string (bs L[k].2.1)) ∧ w.cell? ⟨(a.add (k * 6)).block, (a.add (k * 6)).off + 2, none⟩ = some (.string (bs L[k].2.2.1)) ∧
    w.cell? ⟨(a.add (k * 6)).block, (a.add (k * 6)).off + 3, none⟩ = some (.int .i64 L[k].2.2.2.1) ∧ w.cell? ⟨(a.add (k * 6)).block, (a.add (k * 6)).off + 4, none⟩ = some (.int .i64 L[k].2.2.2.2.1) ∧ w.cell? ⟨(a.add (k * 6)).block, (a.add (k * 6)).off + 5, none⟩ = some (.int .i64 L[k].2.2.2.2.2) ∧ L[k].2.1.length ≤ 9223372036854775807 ∧ L[k].2.2.1.length ≤ 9223372036854775807 := by
  obtain ⟨p', c', e, -, -, hc⟩ := h
  injection e with e1 _ _
  subst e1
  obtain ⟨a, cs, rfl, -, h1, ⟨rfl, h3, h4, -⟩⟩ := hc k hk
  exact ⟨a, rfl, h1 0 _ rfl, by rw [← addr_at' a (k * 6) 0]; exact h1 1 _ rfl, by rw [← addr_at' a (k * 6) 1]; exact h1 2 _ rfl, by rw [← addr_at' a (k * 6) 2]; exact h1 3 _ rfl, by rw [← addr_at' a (k * 6) 3]; exact h1 4 _ rfl, by rw [← addr_at' a (k * 6) 4]; exact h1 5 _ rfl, h3, h4⟩
theorem evsA_all {w : World} {v : Value} {L : List EventM} (h : EvsA w v L) : ∀ x ∈ L, x.2.1.length ≤ 9223372036854775807 ∧ x.2.2.1.length ≤ 9223372036854775807 ∧ NumE x := by
  obtain ⟨p', c', -, -, -, hc⟩ := h
  intro x hx
  obtain ⟨k, hk, rfl⟩ := List.getElem_of_mem hx
  obtain ⟨a, cs, -, -, -, ⟨-, h3⟩⟩ := hc k hk
  exact h3
section
variable {H : Type} {enc : TypeId × Value → H} {w : World} {base : Nat} {spare : Nat → Bool} {held : Bool}
theorem open_evs {n : Nat} {cs : List Value} {y : DataW H × List MemPlace} (h : DataW.trod enc Tryd.prog w base spare held n 44 cs = some y) : ∃ v L, cs = [v] ∧ EvsA w v L :=
  open_slR Tryd.underlying44 (by kernel_rfl) (fun _ _ _ h => open_event h) h
set_option maxRecDepth 100000 in
theorem open_evsV {r : Reach} {b0 : Nat} {v : Value} {d : DataW H} {ps : List MemPlace} (hval : Value.okWide Tryd.prog w r b0 44 v) (hd : DataW.Trod enc Tryd.prog w base spare held 44 v d ps) : ∃ L, EvsA w v L := by
  obtain ⟨a0, len0, cap0, rfl⟩ := okWide_slice Tryd.underlying44 hval
  obtain ⟨fuel, hf⟩ := hd
  obtain ⟨v, L, e, h⟩ := open_evs hf
  simp [Value.cells] at e
  subst e
  exact ⟨L, h⟩
end
theorem own_evsA {w : World} {B : Nat} {e : TypeId} {v : Value} {L : List EventM} (h : w.ownsRow B e 6 v L.length (evcs L)) (hL : ∀ x ∈ L, x.2.1.length ≤ 9223372036854775807 ∧ x.2.2.1.length ≤ 9223372036854775807 ∧ NumE x) : EvsA w v L := by
  obtain ⟨h1, ⟨rfl, h0⟩ | ⟨g, cap, cur, rfl, -, hw, hc, hm, hs, ht⟩⟩ := h
  · have : L = [] := List.eq_nil_of_length_eq_zero h0
    subst this
    exact ⟨none, 0, rfl, Nat.le_refl _, Nat.zero_le _, fun j hj => absurd hj (Nat.not_lt_zero j)⟩
  · refine ⟨_, cap, rfl, hc, hm, fun j hj => ⟨⟨g, 0, none⟩, evc L[j], rfl, rfl, fun i u hu => ?_, rfl, hL _ (List.getElem_mem hj)⟩⟩
    have hi : i < 6 := (List.getElem?_eq_some_iff.1 hu).1
    have hD : L.getD j noEv = L[j] := by simp [hj]
    have h2 := congrArg (fun x : List Value => x[j * 6 + i]?) ht
    simp only [List.getElem?_take, show j * 6 + i < L.length * 6 by omega, if_true, Array.getElem?_toList] at h2
    rw [Addr.add_lit, Nat.zero_add, cell_of_row w g (j * 6 + i) _ _ (0, 0) hw, h2, evcs_get L j i hj hi, hD]
    exact hu
theorem few_good {L : List EventM} (hL : ∀ x ∈ L, x.2.1.length ≤ 9223372036854775807 ∧ x.2.2.1.length ≤ 9223372036854775807 ∧ NumE x) : ∀ x ∈ fewE L, x.2.1.length ≤ 200 ∧ x.2.2.1.length ≤ 200 ∧ NumE x := by
  intro x hx
  unfold fewE at hx
  obtain ⟨y, hy, rfl⟩ := List.mem_map.1 hx
  have h3 := (hL y (List.mem_of_mem_take hy)).2.2
  refine ⟨?_, ?_, h3⟩
  · simp [cutE]; omega
  · simp [cutE]; omega
end Go.Proofs.YtphhgdgamnogpaaDoor

namespace Go.Proofs.YtphhgdgamnogpaaDoor
open Go.RowKit

section
variable {P : Program} {ops : Array Oper} {Q : Exit → Act → World → Prop} {md : Region.Mode} {S : World → Prop} {late : List Nat}

/-- Whatever order is picked from here on, and S holds behind every operation but the late ones. -/
def wpAnyM (P : Program) (md : Region.Mode) (ops : Array Oper) (Q : Exit → Act → World → Prop) (S : World → Prop) (late : List Nat) : Nat → Array Bool → Act → World → Prop
  | 0, listed, a, w => Region.ready md ops listed = [] ∧ Q .normal a w
  | fuel + 1, listed, a, w =>
    (Region.ready md ops listed = [] → Q .normal a w) ∧
    ∀ i ∈ Region.ready md ops listed, wpOp P ops Q i (fun a' w' => (late.contains i = false → S w → S w') ∧ wpAnyM P md ops Q S late fuel (listed.setIfInBounds i true) a' w') a w
theorem wpAny_of_keep : ∀ (fuel : Nat) (listed : Array Bool) (a : Act) (w : World), wpAnyM P md ops Q S late fuel listed a w → wpAny P md ops Q fuel listed a w
  | 0, _, _, _, h => h
  | fuel + 1, _, _, _, h => ⟨h.1, fun i hi => wpOp_mono (fun a' w' h' => wpAny_of_keep fuel _ a' w' h'.2) (h.2 i hi)⟩
/-- Does one operation wait for another one, in so many steps at most? -/
def waitsN' (md : Region.Mode) (ops : Array Oper) : Nat → Nat → Nat → Bool
  | 0, _, _ => false
  | n + 1, l, i => match ops[l]? with
    | some o => o.after.any fun e => Region.binds md e && (e.on == i || waitsN' md ops n e.on i)
    | none => false
/-- What came up had all that it waits for. -/
def closedB' (md : Region.Mode) (ops : Array Oper) (listed : Array Bool) : Bool := (List.range ops.size).all fun j => !listed.getD j true || match ops[j]? with
  | some o => o.after.all fun e => !Region.binds md e || listed.getD e.on true
  | none => true
def ClosedM (md : Region.Mode) (ops : Array Oper) (listed : Array Bool) : Prop := ∀ j o, ops[j]? = some o → listed.getD j true = true → ∀ e ∈ o.after, Region.binds md e = true → listed.getD e.on true = true
theorem closed_of' {listed : Array Bool} (h : closedB' md ops listed = true) : ClosedM md ops listed := by
  intro j o ho hj e he hb
  have hlt : j < ops.size := (Array.getElem?_eq_some_iff.1 ho).1
  have h1 := List.all_eq_true.1 h j (List.mem_range.2 hlt)
  simp only [hj, Bool.not_true, Bool.false_or, ho] at h1
  have h2 := Array.all_eq_true_iff_forall_mem.1 h1 e he
  simpa [hb] using h2
theorem ready_on' {listed : Array Bool} {j : Nat} {o : Oper} (hj : j ∈ Region.ready md ops listed) (ho : ops[j]? = some o) : ∀ e ∈ o.after, Region.binds md e = true → listed.getD e.on true = true := by
  intro e he hb
  obtain ⟨-, o', ho', hall⟩ := mem_ready.1 hj
  obtain rfl := Option.some.inj (ho.symm.trans ho')
  have h1 := hall e he hb
  rcases Nat.lt_or_ge e.on listed.size with h' | h'
  · simp [h'] at h1 ⊢; exact h1
  · simp [Array.getElem?_eq_none h'] at h1
theorem ClosedM.next {listed : Array Bool} (h : ClosedM md ops listed) {j : Nat} (hj : j ∈ Region.ready md ops listed) : ClosedM md ops (listed.setIfInBounds j true) := by
  have up : ∀ k, listed.getD k true = true → (listed.setIfInBounds j true).getD k true = true := by
    intro k hk
    by_cases hjk : j = k
    · subst hjk
      rcases Nat.lt_or_ge j listed.size with h' | h'
      · simp [h']
      · simp
    · rw [getD_set_ne true hjk]; exact hk
  intro k o ho hk e he hb
  apply up
  by_cases hjk : j = k
  · subst hjk
    exact ready_on' hj ho e he hb
  · rw [getD_set_ne true hjk] at hk
    exact h k o ho hk e he hb
theorem waits_open' {i : Nat} {listed : Array Bool} (hc : ClosedM md ops listed) (hi : listed.getD i true = false) : ∀ n l, waitsN' md ops n l i = true → listed.getD l true = false ∧ l ∉ Region.ready md ops listed
  | 0, _, h => by cases h
  | n + 1, l, h => by
    unfold waitsN' at h
    split at h
    · rename_i o ho
      obtain ⟨e, he, hb⟩ := Array.any_eq_true'.1 h
      simp only [Bool.and_eq_true, Bool.or_eq_true, beq_iff_eq] at hb
      have hne : listed.getD e.on true = false := by
        rcases hb.2 with h1 | h1
        · rw [h1]; exact hi
        · exact (waits_open' hc hi n e.on h1).1
      constructor
      · cases hl : listed.getD l true with
        | false => rfl
        | true => rw [hc l o ho hl e he hb.1] at hne; cases hne
      · intro hr
        rw [ready_on' hr ho e he hb.1] at hne
        cases hne
    · cases h
theorem wpAnyM_first {i n : Nat} {oi : Oper} {v : Value} (hi : ops[i]? = some oi) (hsel : ∀ (j : Nat) (o : Oper) cs b, ops[j]? = some o → o.op ≠ .select cs b)
    (hQ : ∀ c a w, Q (.panic c) (a.put oi.dst v) w → Q (.panic c) a w) (hw : late.all (fun l => waitsN' md ops n l i) = true) :
    ∀ (fuel : Nat) (listed : Array Bool) (a : Act) (w : World), ClosedM md ops listed →
      (∀ j oj, ops[j]? = some oj → j ≠ i → listed.getD j true = false → (∀ e ∈ oj.after, Region.binds md e = true → e.on ≠ i) → oi.apart ops oj = true) →
      i ∈ Region.ready md ops listed → YieldsIf P ops S oi v a → S w →
      wpAnyM P md ops Q S late fuel (listed.setIfInBounds i true) (a.put oi.dst v) w → wpAnyM P md ops Q S late (fuel + 1) listed a w := by
  intro fuel
  induction fuel with
  | zero =>
    intro listed a w _ _ hr hy hS H
    refine ⟨fun h => (by rw [h] at hr; cases hr), fun j hj => ?_⟩
    by_cases hji : j = i
    · subst hji; exact hy.wpOp hi hS ⟨fun _ h => h, H⟩
    · have := ready_mono hj hji
      rw [H.1] at this
      cases this
  | succ fuel ih =>
    intro listed a w hcl hfree hr hy hS H
    refine ⟨fun h => (by rw [h] at hr; cases hr), fun j hj => ?_⟩
    by_cases hji : j = i
    · subst hji; exact hy.wpOp hi hS ⟨fun _ h => h, H⟩
    · have hjl : late.contains j = false := by
        cases hc : late.contains j with
        | false => rfl
        | true =>
          have hm : j ∈ late := by simpa using hc
          exact absurd hj (waits_open' hcl (mem_ready.1 hr).1 n j (List.all_eq_true.1 hw j hm)).2
      have h1 := H.2 j (ready_mono hj hji)
      obtain ⟨hjun, oj, hoj, hall⟩ := mem_ready.1 hj
      have hnot : ∀ e ∈ oj.after, Region.binds md e = true → e.on ≠ i := fun e he hb heq => by
        have h1 := hall e he hb
        have h0 := (mem_ready.1 hr).1
        rw [heq] at h1
        rcases Nat.lt_or_ge i listed.size with h' | h'
        · simp [h'] at h0 h1; rw [h0] at h1; cases h1
        · simp [Array.getElem?_eq_none h'] at h1
      have h2 := wpOp_putIf hoj (hfree j oj hoj hji hjun hnot) (fun cs b => hsel i oi cs b hi) (fun cs b => hsel j oj cs b hoj) hQ hy h1
      have hfree' : ∀ k ok, ops[k]? = some ok → k ≠ i → (listed.setIfInBounds j true).getD k true = false →
          (∀ e ∈ ok.after, Region.binds md e = true → e.on ≠ i) → oi.apart ops ok = true := fun k ok hk hki hun hno => by
        refine hfree k ok hk hki ?_ hno
        by_cases hjk : j = k
        · subst hjk; exact hjun
        · rw [getD_set_ne true hjk] at hun; exact hun
      refine wpOp_mono (fun a' w' h3 => ⟨fun _ => h3.2.1 hjl, ih (listed.setIfInBounds j true) a' w' (hcl.next hj) hfree' (ready_mono hr (Ne.symm hji)) h3.1 (h3.2.1 hjl hS) ?_⟩) h2
      rw [Array.setIfInBounds_comm _ _ hji]
      exact h3.2.2
theorem wpAnyM_loose {i : Nat} {oi : Oper} {v : Value} (hi : ops[i]? = some oi) (hsel : ∀ (j : Nat) (o : Oper) cs b, ops[j]? = some o → o.op ≠ .select cs b)
    (hQ : ∀ c a w, Q (.panic c) (a.put oi.dst v) w → Q (.panic c) a w) :
    ∀ (fuel : Nat) (listed : Array Bool) (a : Act) (w : World),
      (∀ j oj, ops[j]? = some oj → j ≠ i → listed.getD j true = false → (∀ e ∈ oj.after, Region.binds md e = true → e.on ≠ i) → oi.apart ops oj = true) →
      i ∈ Region.ready md ops listed → YieldsIf P ops (fun _ => True) oi v a →
      wpAnyM P md ops Q S late fuel (listed.setIfInBounds i true) (a.put oi.dst v) w → wpAnyM P md ops Q S late (fuel + 1) listed a w := by
  intro fuel
  induction fuel with
  | zero =>
    intro listed a w _ hr hy H
    refine ⟨fun h => (by rw [h] at hr; cases hr), fun j hj => ?_⟩
    by_cases hji : j = i
    · subst hji; exact hy.wpOp hi trivial ⟨fun _ h => h, H⟩
    · have := ready_mono hj hji
      rw [H.1] at this
      cases this
  | succ fuel ih =>
    intro listed a w hfree hr hy H
    refine ⟨fun h => (by rw [h] at hr; cases hr), fun j hj => ?_⟩
    by_cases hji : j = i
    · subst hji; exact hy.wpOp hi trivial ⟨fun _ h => h, H⟩
    · have h1 := H.2 j (ready_mono hj hji)
      obtain ⟨hjun, oj, hoj, hall⟩ := mem_ready.1 hj
      have hnot : ∀ e ∈ oj.after, Region.binds md e = true → e.on ≠ i := fun e he hb heq => by
        have h1 := hall e he hb
        have h0 := (mem_ready.1 hr).1
        rw [heq] at h1
        rcases Nat.lt_or_ge i listed.size with h' | h'
        · simp [h'] at h0 h1; rw [h0] at h1; cases h1
        · simp [Array.getElem?_eq_none h'] at h1
      have h2 := wpOp_putIf hoj (hfree j oj hoj hji hjun hnot) (fun cs b => hsel i oi cs b hi) (fun cs b => hsel j oj cs b hoj) hQ hy h1
      have hfree' : ∀ k ok, ops[k]? = some ok → k ≠ i → (listed.setIfInBounds j true).getD k true = false →
          (∀ e ∈ ok.after, Region.binds md e = true → e.on ≠ i) → oi.apart ops ok = true := fun k ok hk hki hun hno => by
        refine hfree k ok hk hki ?_ hno
        by_cases hjk : j = k
        · subst hjk; exact hjun
        · rw [getD_set_ne true hjk] at hun; exact hun
      refine wpOp_mono (fun a' w' h3 => ⟨h3.2.1, ih (listed.setIfInBounds j true) a' w' hfree' (ready_mono hr (Ne.symm hji)) h3.1 ?_⟩) h2
      rw [Array.setIfInBounds_comm _ _ hji]
      exact h3.2.2
/-- Take number i first: a late one that asks nothing of the world. -/
theorem wpAnyM_free (i : Nat) {d : Tmp} {op : Op} {ty : TypeId} {pos : String} {aft : Array Edge} {gd : Option (Nat × Bool)} {v : Value} {fuel : Nat} {listed : Array Bool} {a : Act} {w : World} (hi : ops[i]? = some ⟨some d, op, ty, pos, aft, gd⟩)
    (hs : Region.noSelect ops = true) (hf : Region.free md ops listed i = true) (hr : (Region.ready md ops listed).contains i = true)
    (hQ : ∀ c a w, Q (.panic c) (a.put (some d) v) w → Q (.panic c) a w) (hy : YieldsIf P ops (fun _ => True) ⟨some d, op, ty, pos, aft, gd⟩ v a)
    (h : wpAnyM P md ops Q S late fuel (listed.setIfInBounds i true) (a.put (some d) v) w) : wpAnyM P md ops Q S late (fuel + 1) listed a w :=
  wpAnyM_loose hi (Region.noSelect_spec hs) hQ fuel listed a w (Region.free_spec hi hf) (by simpa using hr) hy h
/-- Take number i first. -/
theorem wpAnyM_take (i n : Nat) {d : Tmp} {op : Op} {ty : TypeId} {pos : String} {aft : Array Edge} {gd : Option (Nat × Bool)} {v : Value} {fuel : Nat} {listed : Array Bool} {a : Act} {w : World} (hi : ops[i]? = some ⟨some d, op, ty, pos, aft, gd⟩)
    (hs : Region.noSelect ops = true) (hf : Region.free md ops listed i = true) (hr : (Region.ready md ops listed).contains i = true) (hw : late.all (fun l => waitsN' md ops n l i) = true) (hcl : closedB' md ops listed = true)
    (hQ : ∀ c a w, Q (.panic c) (a.put (some d) v) w → Q (.panic c) a w) (hy : YieldsIf P ops S ⟨some d, op, ty, pos, aft, gd⟩ v a) (hS : S w)
    (h : wpAnyM P md ops Q S late fuel (listed.setIfInBounds i true) (a.put (some d) v) w) : wpAnyM P md ops Q S late (fuel + 1) listed a w :=
  wpAnyM_first hi (Region.noSelect_spec hs) hQ hw fuel listed a w (closed_of' hcl) (Region.free_spec hi hf) (by simpa using hr) hy hS h
/-- The one that comes up next. -/
theorem wpAnyM_one (i : Nat) {d : Option Tmp} {op : Op} {ty : TypeId} {pos : String} {aft : Array Edge} {gd : Option (Nat × Bool)} {fuel : Nat} {listed : Array Bool} {a : Act} {w : World} (ho : ops[i]? = some ⟨d, op, ty, pos, aft, gd⟩) (hr : Region.ready md ops listed = [i])
    (h : ∀ K : Act → World → Prop, RowKit.Hid (∀ a' w', (late.contains i = false → S w → S w') → wpAnyM P md ops Q S late fuel (listed.setIfInBounds i true) a' w' → K a' w') → if Region.wanted ⟨d, op, ty, pos, aft, gd⟩ (yielded ops a.tmps) = true then Oper.wp P ⟨d, op, ty, pos, aft, gd⟩ a w K Q else K (a.put d undef) w) : wpAnyM P md ops Q S late (fuel + 1) listed a w := by
  refine ⟨fun h0 => (by rw [hr] at h0; cases h0), fun j hj => ?_⟩
  rw [hr] at hj
  obtain rfl : j = i := by simpa using hj
  exact wpOp_step ho (fun K hK => h K (Lib.hid (fun a' w' h1 h2 => hK a' w' ⟨h1, h2⟩)))
theorem wpAnyM_done {listed : Array Bool} {a : Act} {w : World} (hr : Region.ready md ops listed = []) (h : Q .normal a w) : ∀ fuel, wpAnyM P md ops Q S late fuel listed a w
  | 0 => ⟨hr, h⟩
  | _ + 1 => ⟨fun _ => h, by rw [hr]; simp⟩
theorem wp_region_keep (S : World → Prop) (late : List Nat) {id : Nat} {a : Act} {w : World} (hm : P.follows .mixedOrders = true)
    (h : wpAnyM P .any ops Q S late ops.size (Array.replicate ops.size false) a w.drew) : (Code.region id ops true).wp P Q a w :=
  wp_region_any hm (wpAny_of_keep _ _ _ _ h)
end
end Go.Proofs.YtphhgdgamnogpaaDoor

namespace Go.Proofs.YtphhgdgamnogpaaDoor
open Go.RowKit Go.Lib

theorem min200 (x : List UInt8) : x.take (min (x.length : Int) 200).toNat = x.take 200 := by
  by_cases h : x.length ≤ 200
  · rw [show (min (x.length : Int) 200).toNat = x.length by omega, List.take_length, List.take_of_length_le h]
  · rw [show (min (x.length : Int) 200).toNat = 200 by omega]
theorem cutE_next (L : List EventM) (k : Nat) (hk : k < L.length) : (L.take (k + 1)).map cutE = (L.take k).map cutE ++ [cutE L[k]] := by
  rw [List.take_succ_eq_append_getElem hk, List.map_append]
  rfl
theorem cutE_len (L : List EventM) (k : Nat) (hk : k ≤ L.length) : ((L.take k).map cutE).length = k := by simp [hk]
theorem few_all (L : List EventM) (k : Nat) (hk : k ≤ 200) (h : L.length ≤ k ∨ k = 200) : (L.take k).map cutE = fewE L := by
  unfold fewE
  rcases h with h | h
  · rw [List.take_of_length_le h, List.take_of_length_le (by omega)]
  · rw [h]
set_option maxRecDepth 100000 in
set_option maxHeartbeats 4000000 in
theorem few8_any (v : Value) (L : List EventM) (w : World) (hv : EvsA w v L) :
    Calls Tryd.prog 41 #[v] w fun e w' => ∃ v', e = .returned v' ∧ w'.ownsRow w.heap.size 37 6 v' (fewE L).length (evcs (fewE L)) ∧ Below w.heap.size w w' := by
  have hv0 := hv
  obtain ⟨p, c, rfl, hl, hm, -⟩ := hv0
  have hcs := fun k hk => evsA_at hv k hk
  have HC := Lib.hid hcs
  unfold maxLen at hm
  clear hcs hv
  obtain ⟨i0, hi, hz0, hz1, hz2⟩ := info_parts info_ev
  go_enter Tryd.func41, Tryd.ntmps41
  go_wp2_with fail
  go_loopw [3, 4] (fun v3 i wr => ∃ k : Nat, k ≤ L.length ∧ k ≤ 200 ∧ i = .int .i64 k ∧ wr.ownsRow w.heap.size 37 6 v3 k (evcs ((L.take k).map cutE)) ∧ Below w.heap.size w wr) (fun _ i _ => L.length - (RowKit.intOf i).toNat)
  case atStart => exact ⟨0, Nat.zero_le _, Nat.zero_le _, rfl, World.ownsRow_made w #[] 0 (Nat.le_refl _) (Nat.zero_le _) rfl, (Below.refl _ _).alloc (Nat.le_refl _) _⟩
  case round =>
    obtain ⟨k, hk, hk2, rfl, hown, hbw⟩ := hrel
    have HOw := Lib.hid hown
    obtain ⟨p3, c3, rfl⟩ := owns_form hown
    clear hown
    have hbz := hbw.size
    by_cases hlt : k < L.length ∧ k < 200
    · obtain ⟨h1, h2⟩ := hlt
      obtain ⟨a, rfl, a0, a1, a2, a3, a4, a5, m2, m3⟩ := HC.out k h1
      have HN := Lib.hid (cutE_next L k h1)
      have HL := Lib.hid (cutE_len L k hk)
      obtain ⟨⟨x1, x2, x3, x4, x5, x6⟩, hx⟩ : ∃ x, L[k] = x := ⟨_, rfl⟩
      rw [hx] at a0 a1 a2 a3 a4 a5 m2 m3 HN
      clear hx
      have b0 := cell_later hbw a0
      have b1 := cell_later hbw a1
      have b2 := cell_later hbw a2
      have b3 := cell_later hbw a3
      have b4 := cell_later hbw a4
      have b5 := cell_later hbw a5
      have M2 := min200 x2
      have M3 := min200 x3
      have n2 : 0 ≤ min (x2.length : Int) 200 := by omega
      have n3 : 0 ≤ min (x3.length : Int) 200 := by omega
      have n4 : min (x2.length : Int) 200 ≤ x2.length := by omega
      have n5 : min (x3.length : Int) 200 ≤ x3.length := by omega
      simp only at b0 b1 b2 b3 b4 b5 m2 m3
      have hlA : (a.add (k * 6)).block < wr.heap.size := World.block_lt_of_cell? wr _ b0
      clear a0 a1 a2 a3 a4 a5
      have h2' : decide ((k : Int) < 200) = true := decide_eq_true (by omega)
      have h1' : decide (k < L.length) = true := decide_eq_true h1
      go_wp2_with fail
      have HS : RowKit.Hid (∀ w', Below (wr.alloc (.cells #[.int .i64 x1, .string (bs x2), .string (bs x3), .int .i64 x4, .int .i64 x5, .int .i64 x6] 37)).heap.size (wr.alloc (.cells #[.int .i64 x1, .string (bs x2), .string (bs x3), .int .i64 x4, .int .i64 x5, .int .i64 x6] 37)) w' → (w'.cell? ⟨wr.heap.size, 1, none⟩ = some (.string (bs x2)) ∧ w'.cell? ⟨wr.heap.size, 2, none⟩ = some (.string (bs x3)))) := Lib.hid (fun w' hb => ⟨cell_later hb (by rw [cell_of_row _ wr.heap.size 1 _ _ (0, 0) (heap_alloc_new wr _)]; rfl), cell_later hb (by rw [cell_of_row _ wr.heap.size 2 _ _ (0, 0) (heap_alloc_new wr _)]; rfl)⟩)
      refine wp_region_keep (fun w' => w'.cell? ⟨wr.heap.size, 1, none⟩ = some (.string (bs x2)) ∧ w'.cell? ⟨wr.heap.size, 2, none⟩ = some (.string (bs x3))) [15, 17] (by kernel_rfl) ?_
      have hB0 : Below ((wr.alloc (.cells #[.int .i64 x1, .string (bs x2), .string (bs x3), .int .i64 x4, .int .i64 x5, .int .i64 x6] 37))).heap.size ((wr.alloc (.cells #[.int .i64 x1, .string (bs x2), .string (bs x3), .int .i64 x4, .int .i64 x5, .int .i64 x6] 37))) ((wr.alloc (.cells #[.int .i64 x1, .string (bs x2), .string (bs x3), .int .i64 x4, .int .i64 x5, .int .i64 x6] 37))).drew := Below.drew (Below.refl _ _)
      have hS0 := HS.out _ hB0
      refine wpAnyM_free 0 (v := ?_) rfl (by kernel_rfl) (by kernel_rfl) (by kernel_rfl) (fun _ _ _ h => h) (Or.inl ⟨by rfl, ?_⟩) ?_
      rotate_left
      · intro w' hw'
        go_simp
        try with_reducible rfl
      try simp only [Act.put, List.setIfInBounds_toArray, List.set_cons_zero, List.set_cons_succ]
      refine wpAnyM_take 1 18 (v := ?_) rfl (by kernel_rfl) (by kernel_rfl) (by kernel_rfl) (by kernel_rfl) (by kernel_rfl) (fun _ _ _ h => h) (Or.inl ⟨by rfl, ?_⟩) hS0 ?_
      rotate_left
      · intro w' hw'
        try dsimp only at hw'
        go_simp
        try with_reducible rfl
      try simp only [Act.put, List.setIfInBounds_toArray, List.set_cons_zero, List.set_cons_succ]
      refine wpAnyM_free 2 (v := ?_) rfl (by kernel_rfl) (by kernel_rfl) (by kernel_rfl) (fun _ _ _ h => h) (Or.inl ⟨by rfl, ?_⟩) ?_
      rotate_left
      · intro w' hw'
        go_simp
        try with_reducible rfl
      try simp only [Act.put, List.setIfInBounds_toArray, List.set_cons_zero, List.set_cons_succ]
      refine wpAnyM_take 3 18 (v := ?_) rfl (by kernel_rfl) (by kernel_rfl) (by kernel_rfl) (by kernel_rfl) (by kernel_rfl) (fun _ _ _ h => h) (Or.inl ⟨by rfl, ?_⟩) hS0 ?_
      rotate_left
      · intro w' hw'
        try dsimp only at hw'
        go_simp
        try with_reducible rfl
      try simp only [Act.put, List.setIfInBounds_toArray, List.set_cons_zero, List.set_cons_succ]
      refine wpAnyM_free 4 (v := ?_) rfl (by kernel_rfl) (by kernel_rfl) (by kernel_rfl) (fun _ _ _ h => h) (Or.inl ⟨by rfl, ?_⟩) ?_
      rotate_left
      · intro w' hw'
        go_simp
        try with_reducible rfl
      try simp only [Act.put, List.setIfInBounds_toArray, List.set_cons_zero, List.set_cons_succ]
      refine wpAnyM_free 5 (v := ?_) rfl (by kernel_rfl) (by kernel_rfl) (by kernel_rfl) (fun _ _ _ h => h) (Or.inl ⟨by rfl, ?_⟩) ?_
      rotate_left
      · intro w' hw'
        go_simp
        try with_reducible rfl
      try simp only [Act.put, List.setIfInBounds_toArray, List.set_cons_zero, List.set_cons_succ]
      refine wpAnyM_free 6 (v := ?_) rfl (by kernel_rfl) (by kernel_rfl) (by kernel_rfl) (fun _ _ _ h => h) (Or.inl ⟨by rfl, ?_⟩) ?_
      rotate_left
      · intro w' hw'
        go_simp
        try with_reducible rfl
      try simp only [Act.put, List.setIfInBounds_toArray, List.set_cons_zero, List.set_cons_succ]
      refine wpAnyM_free 7 (v := ?_) rfl (by kernel_rfl) (by kernel_rfl) (by kernel_rfl) (fun _ _ _ h => h) (Or.inl ⟨by rfl, ?_⟩) ?_
      rotate_left
      · intro w' hw'
        go_simp
        try with_reducible rfl
      try simp only [Act.put, List.setIfInBounds_toArray, List.set_cons_zero, List.set_cons_succ]
      refine wpAnyM_take 8 18 (v := ?_) rfl (by kernel_rfl) (by kernel_rfl) (by kernel_rfl) (by kernel_rfl) (by kernel_rfl) (fun _ _ _ h => h) (Or.inl ⟨by rfl, ?_⟩) hS0 ?_
      rotate_left
      · intro w' hw'
        try dsimp only at hw'
        go_simp
        try with_reducible rfl
      try simp only [Act.put, List.setIfInBounds_toArray, List.set_cons_zero, List.set_cons_succ]
      refine wpAnyM_one 9 rfl (by kernel_rfl) (fun K hK => ?_)
      go_simp
      refine hK.out _ _ (fun _ h => h) ?_
      clear hK K
      try simp only [Act.put, List.setIfInBounds_toArray, List.set_cons_zero, List.set_cons_succ]
      refine wpAnyM_one 10 rfl (by kernel_rfl) (fun K hK => ?_)
      go_simp
      refine hK.out _ _ (fun _ h => h) ?_
      clear hK K
      try simp only [Act.put, List.setIfInBounds_toArray, List.set_cons_zero, List.set_cons_succ]
      refine wpAnyM_free 11 (v := ?_) rfl (by kernel_rfl) (by kernel_rfl) (by kernel_rfl) (fun _ _ _ h => h) (Or.inl ⟨by rfl, ?_⟩) ?_
      rotate_left
      · intro w' hw'
        go_simp
        try with_reducible rfl
      try simp only [Act.put, List.setIfInBounds_toArray, List.set_cons_zero, List.set_cons_succ]
      refine wpAnyM_free 12 (v := ?_) rfl (by kernel_rfl) (by kernel_rfl) (by kernel_rfl) (fun _ _ _ h => h) (Or.inl ⟨by rfl, ?_⟩) ?_
      rotate_left
      · intro w' hw'
        go_simp
        try with_reducible rfl
      try simp only [Act.put, List.setIfInBounds_toArray, List.set_cons_zero, List.set_cons_succ]
      refine wpAnyM_free 13 (v := ?_) rfl (by kernel_rfl) (by kernel_rfl) (by kernel_rfl) (fun _ _ _ h => h) (Or.inl ⟨by rfl, ?_⟩) ?_
      rotate_left
      · intro w' hw'
        go_simp
        try with_reducible rfl
      try simp only [Act.put, List.setIfInBounds_toArray, List.set_cons_zero, List.set_cons_succ]
      refine wpAnyM_one 14 rfl (by kernel_rfl) (fun K hK => ?_)
      go_simp
      refine hK.out _ _ (fun _ h => h) ?_
      clear hK K
      try simp only [Act.put, List.setIfInBounds_toArray, List.set_cons_zero, List.set_cons_succ]
      refine wpAnyM_one 15 rfl (by kernel_rfl) (fun K hK => ?_)
      go_simp
      refine hK.out _ _ (fun h => absurd h (by decide)) ?_
      clear hK K
      try simp only [Act.put, List.setIfInBounds_toArray, List.set_cons_zero, List.set_cons_succ]
      refine wpAnyM_one 16 rfl (by kernel_rfl) (fun K hK => ?_)
      go_simp
      refine hK.out _ _ (fun _ h => h) ?_
      clear hK K
      try simp only [Act.put, List.setIfInBounds_toArray, List.set_cons_zero, List.set_cons_succ]
      refine wpAnyM_one 17 rfl (by kernel_rfl) (fun K hK => ?_)
      go_simp
      refine hK.out _ _ (fun h => absurd h (by decide)) ?_
      clear hK K
      try simp only [Act.put, List.setIfInBounds_toArray, List.set_cons_zero, List.set_cons_succ]
      refine wpAnyM_done (by kernel_rfl) ?_ _
      try simp only [Act.put, List.setIfInBounds_toArray, List.set_cons_zero, List.set_cons_succ]
      clear hB0 hS0 HS n2 n3 n4 n5 b0 b1 b2 b3 b4 b5
      go_wp2_with (at_builtin; refine wpList_append_own _ rfl (.tmp 37) (.tmp 39) 44 rfl w.heap.size 37 i0 (.agg #[.int .i64 0, .string ByteArray.empty, .string ByteArray.empty, .int .i64 0, .int .i64 0, .int .i64 0]) 6 64 Tryd.underlying44 hi hz0 hz1 hz2 rfl (by decide) _ _ _ rfl ((HOw.out.alloc _).alloc _) ⟨wr.heap.size + 1, 0, none⟩ 1 1 [.int .i64 x1, .string (bs (x2.take 200)), .string (bs (x3.take 200)), .int .i64 x4, .int .i64 x5, .int .i64 x6] rfl rfl (news_lit _ _ _ _ (by simp)) (ones_ev _ _ _ _ _ _) (by unfold maxLen; omega) (by omega) (by simp; omega) ?_)
      intro v4 w4 hown4 hgrow hnil
      have hb4 : Below w.heap.size w w4 := (((hbw.alloc hbz _).alloc (by simp; omega) _).drew).grown hgrow (by simp; omega) (fun k hk => (HOw.out.lt k hk).1)
      have HO4 : RowKit.Hid (w4.ownsRow w.heap.size 37 6 v4 (k + 1) (evcs ((L.take (k + 1)).map cutE))) := Lib.hid (by rw [HN.out, ← evcs_snoc, List.map_take]; exact hown4)
      clear hown4 hgrow hnil
      go_wp2_with fail
      go_roundw
      case rel => exact ⟨k + 1, by omega, by omega, by go_num, HO4.out, hb4⟩
      case measure => simp [RowKit.intOf]; omega
    · have HE := Lib.hid (few_all L k hk2 (by omega))
      have HL := Lib.hid (cutE_len L k hk)
      have hlt' : (k < L.length ∧ 200 ≤ k) ∨ L.length ≤ k := by omega
      clear hlt
      have HR : RowKit.Hid (wr.ownsRow w.heap.size 37 6 (.slice p3 k c3) (fewE L).length (evcs (fewE L))) := Lib.hid (by rw [← HE.out, HL.out]; exact HOw.out)
      rcases hlt' with ⟨h1, h2⟩ | h1
      all_goals
        go_wp2_with fail
        go_ret
        exact ⟨_, rfl, HR.out, hbw⟩
end Go.Proofs.YtphhgdgamnogpaaDoor
