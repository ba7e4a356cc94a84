/-
  The walk of layer 2's reference (name): what a name is. No conditions.
  The walks of layer 7 (event): whether an event may be, in the program and in the reference. Condition: unicode/utf8's two tables hold what their initialisers lay (the program); texts of at most 1,000,000 bytes.
  The walk of layer 7 (event): an event's line. Conditions: unicode/utf8's two tables, and event.words, hold what their initialisers lay; texts of at most 1,000,000 bytes.
  An event's six cells in memory: the build, the store and the load of a whole event as one rule of the walk each. No conditions.
  The walks of layer 7 (event): an event of four words; whether an event may be, in the program and in the reference. Conditions: unicode/utf8's two tables, and event.words, hold what their initialisers lay; texts of at most 1,000,000 bytes.
  A region that draws its order, some of whose operations wait for all that read: one condition on the world serves till those. No conditions.
-/
import Derived.Test.YtphhgdgamnogpaaDoorG8c
import Derived.Test.YtphhgdgamnogpaaDoorG8a
import Derived.Test.YtphhgdgamnogpaaDoorG8b
import Derived.Deep.MidRow
import Derived.Deep.DeepCutAuto
import Derived.OrdersHeld
namespace Go.Proofs.YtphhgdgamnogpaaDoor
open Go.RowKit Go.Lib

theorem part_iff (c : Nat) : part c = true ↔ 127 < c ∨ c = 95 ∨ (48 ≤ c ∧ c ≤ 57) ∨ (97 ≤ c ∧ c ≤ 122) ∨ (65 ≤ c ∧ c ≤ 90) := by
  simp [part, dig]; omega
theorem part_not (c : Nat) (h : part c = false) : c < 48 ∨ (57 < c ∧ c < 65) ∨ (90 < c ∧ c < 95) ∨ c = 96 ∨ (122 < c ∧ c ≤ 127) := by
  have : ¬ part c = true := by simp [h]
  rw [part_iff] at this
  omega
theorem parts_take (r : List Nat) (k : Nat) (hk : k < r.length) (h : (r.take k).all part = true) (hd : part (r.getD k 0) = true) : (r.take (k + 1)).all part = true := by
  rw [List.take_succ_eq_append_getElem hk, List.all_append, h]
  simpa [hk] using hd
theorem not_parts (r : List Nat) (k : Nat) (hk : k < r.length) (hd : part (r.getD k 0) = false) : r.all part = false := by
  rw [List.all_eq_false]
  exact ⟨r[k], List.getElem_mem hk, by simpa [hk] using hd⟩
theorem name_no (l : List UInt8) (h : (runesU l).length = 0 ∨ 20 < (runesU l).length ∨ resL l = true ∨ validD l = false ∨ (48 ≤ (runesU l).getD 0 0 ∧ (runesU l).getD 0 0 ≤ 57)) : nameL l = false := by
  unfold nameL word dig
  rcases h with h | h | h | h | ⟨h, h'⟩
  · simp [List.eq_nil_of_length_eq_zero h]
  · rw [show decide ((runesU l).length ≤ 20) = false by simp; omega]; simp
  · simp [h]
  · simp [h]
  · rw [decide_eq_true h, decide_eq_true h']; simp
theorem name_all (l : List UInt8) (h1 : 0 < (runesU l).length) (h2 : (runesU l).length ≤ 20) (h3 : resL l = false) (h4 : validD l = true) (h5 : ¬ (48 ≤ (runesU l).getD 0 0 ∧ (runesU l).getD 0 0 ≤ 57)) : nameL l = (runesU l).all part := by
  have h6 : dig ((runesU l).getD 0 0) = false := by
    unfold dig
    by_cases q : 48 ≤ (runesU l).getD 0 0
    · rw [decide_eq_true q, decide_eq_false (fun q' => h5 ⟨q, q'⟩)]; rfl
    · rw [decide_eq_false q]; rfl
  unfold nameL word
  rw [h3, h4, h6, decide_eq_true h1, decide_eq_true h2]
  simp

set_option maxRecDepth 100000 in
set_option maxHeartbeats 2000000 in
theorem ris_any (l : List UInt8) (hs : l.length ≤ 1000000) (w : World) :
    Calls Tryd.prog 64 #[.string (bs l)] w fun e w' => e = .returned (.bool (nameL l)) ∧ Below w.heap.size w w' := by
  have HA := Lib.hid (runes_any l hs)
  have HC := Lib.hid (clean_any l hs)
  have HS := Lib.hid (rreserved_any l)
  have HN := Lib.hid (name_no l)
  have HP := Lib.hid (name_all l)
  have hlr := runesU_length l
  generalize runesU l = r at *
  generalize nameL l = N at *
  generalize validD l = V at *
  generalize resL l = S at *
  have hlx : r.length ≤ 1000000 := by omega
  clear hlr
  go_enter Tryd.func64, Tryd.ntmps64
  go_wp2_with fail
  refine (HA.out _).mono ?_
  rintro e w1 ⟨g, c, rfl, hg, hgs, hgc, hx, hb1⟩
  have HX := Lib.hid hx
  clear hx HA hg hgs
  by_cases h0 : r.length = 0
  · have H := Lib.hid (HN.out (.inl h0))
    have e1 : (r.length : Int) < 1 := by omega
    clear h0 HN HP HX
    go_wp2_with fail
    go_ret
    exact ⟨by rw [H.out]; rfl, hb1⟩
  · have e1 : ¬ (r.length : Int) < 1 := by omega
    by_cases h20 : 20 < r.length
    · have H := Lib.hid (HN.out (.inr (.inl h20)))
      have e2 : (20 : Int) < (r.length : Int) := by omega
      clear HN HP HX
      go_wp2_with fail
      go_ret
      exact ⟨by rw [H.out]; rfl, hb1⟩
    · have e2 : ¬ (20 : Int) < (r.length : Int) := by omega
      cases S with
      | true =>
        have H := Lib.hid (HN.out (.inr (.inr (.inl rfl))))
        clear HN HP HX
        go_wp2_with (go_at_call 115; refine (HS.out _).mono ?_; rintro e w2 ⟨rfl, rfl⟩)
        go_ret
        exact ⟨by rw [H.out]; rfl, hb1⟩
      | false =>
        cases V with
        | false =>
          have H := Lib.hid (HN.out (.inr (.inr (.inr (.inl rfl)))))
          clear HN HP HX
          go_wp2_with (first | (go_at_call 115; refine (HS.out _).mono ?_; rintro e w2 ⟨rfl, rfl⟩) | (go_at_call 116; refine (HC.out _).mono ?_; rintro e w2 ⟨rfl, rfl⟩))
          go_ret
          exact ⟨by rw [H.out]; rfl, hb1⟩
        | true =>
          have c0 := HX.out 0 (by omega)
          obtain ⟨p, hp⟩ : ∃ p, r.getD 0 0 = p := ⟨_, rfl⟩
          rw [hp] at c0
          by_cases hd : 48 ≤ p ∧ p ≤ 57
          · have H := Lib.hid (HN.out (.inr (.inr (.inr (.inr (by rw [hp]; exact hd))))))
            obtain ⟨d1, d2⟩ := hd
            have f1 : (48 : Int) ≤ (p : Int) := by omega
            have f2 : (p : Int) ≤ 57 := by omega
            clear HN HP HX hp
            go_wp2_with (first | (go_at_call 115; refine (HS.out _).mono ?_; rintro e w2 ⟨rfl, rfl⟩) | (go_at_call 116; refine (HC.out _).mono ?_; rintro e w2 ⟨rfl, rfl⟩))
            go_ret
            exact ⟨by rw [H.out]; rfl, hb1⟩
          · have H := Lib.hid (HP.out (by omega) (by omega) rfl rfl (by rw [hp]; exact hd))
            clear HN HP hp
            rcases (show p < 48 ∨ (48 ≤ p ∧ 57 < p) by omega) with hd' | ⟨hd', hd''⟩
            all_goals
              clear hd
              go_wp2_with (first | (go_at_call 115; refine (HS.out _).mono ?_; rintro e w2 ⟨rfl, rfl⟩) | (go_at_call 116; refine (HC.out _).mono ?_; rintro e w2 ⟨rfl, rfl⟩))
              clear c0 hd'
              go_loop [4] (fun i => ∃ k : Nat, k ≤ r.length ∧ i = .int .i64 k ∧ (r.take k).all part = true) (fun i => r.length - (intOf i).toNat)
              case atStart => exact ⟨0, Nat.zero_le _, rfl, rfl⟩
              case round =>
                obtain ⟨k, hk, rfl, hall⟩ := hrel
                have HL := Lib.hid hall
                clear hall
                by_cases hlt : k < r.length
                · have ck := HX.out k hlt
                  have HT := Lib.hid (parts_take r k hlt HL.out)
                  have HF := Lib.hid (not_parts r k hlt)
                  obtain ⟨q, hq⟩ : ∃ q, r.getD k 0 = q := ⟨_, rfl⟩
                  rw [hq] at ck HT HF
                  clear hq
                  by_cases hpq : part q = true
                  · have HT' := Lib.hid (HT.out hpq)
                    clear HT HF
                    rcases (part_iff q).1 hpq with h | h | ⟨h, h'⟩ | ⟨h, h'⟩ | ⟨h, h'⟩
                    all_goals
                      clear hpq
                      go_wp2_with fail
                      all_goals
                        go_round
                        case rel => exact ⟨k + 1, by omega, by go_num, HT'.out⟩
                        case measure => simp [intOf]; omega
                  · have hpf : part q = false := by simpa using hpq
                    have HF' := Lib.hid (HF.out hpf)
                    clear HT HF hpq
                    rcases part_not q hpf with h | ⟨h, h'⟩ | ⟨h, h'⟩ | h | ⟨h, h'⟩
                    all_goals
                      have n95 : ((q : Int) != 95) = true := by simp; omega
                      clear hpf
                      go_wp2_with fail
                      go_ret
                      exact ⟨by rw [H.out, HF'.out]; rfl, hb1⟩
                · have e : r.take k = r := List.take_of_length_le (by omega)
                  have HL' := HL.out
                  rw [e] at HL'
                  have HM := Lib.hid HL'
                  clear HL HL' e
                  go_wp2_with fail
                  go_ret
                  exact ⟨by rw [H.out, HM.out]; rfl, hb1⟩
end Go.Proofs.YtphhgdgamnogpaaDoor

namespace Go.Proofs.YtphhgdgamnogpaaDoor
open Go.RowKit

set_option maxRecDepth 100000 in
set_option maxHeartbeats 4000000 in
theorem emay_any (k : Int) (s key : List UInt8) (vk n ln : Int) (hs : s.length ≤ 1000000) (hk : key.length ≤ 1000000) (w : World) (hT : Lib.Utf8Tabs 4 5 w) :
    Calls Tryd.prog 23 #[.agg #[.int .i64 k, .string (bs s), .string (bs key), .int .i64 vk, .int .i64 n, .int .i64 ln]] w fun e w' => e = .returned (.bool (mayE (k, s, key, vk, n, ln))) ∧ Below w.heap.size w w' := by
  have HS := Lib.hid (fun w' (h : Below w.heap.size w w') => nis_any s hs w' (Utf8Tabs_below hT h))
  have HK := Lib.hid (fun w' (h : Below w.heap.size w w') => nis_any key hk w' (Utf8Tabs_below hT h))
  have HV := Lib.hid (fun w' (_ : Below w.heap.size w w') => may_any vk n w')
  clear hT
  have HM : RowKit.Hid (mayE (k, s, key, vk, n, ln) = (decide (1 ≤ k) && (decide (k ≤ 6) && (nameL s && (if longK k then nameL key && (mayV vk n && (k == 2 || vk == 1)) else decide (key = []) && (vk == 0 && n == 0)))))) := Lib.hid rfl
  generalize mayE (k, s, key, vk, n, ln) = R at *
  generalize nameL s = N1 at *
  generalize nameL key = N2 at *
  generalize mayV vk n = V at *
  clear hs hk
  by_cases h1 : 1 ≤ k
  · have d1 : decide (1 ≤ k) = true := decide_eq_true h1
    rw [d1] at HM
    clear d1
    by_cases h2 : k ≤ 6
    · have d2 : decide (k ≤ 6) = true := decide_eq_true h2
      rw [d2] at HM
      clear d2
      cases N1 with
      | false =>
        have HR : RowKit.Hid (R = false) := Lib.hid (by rw [HM.out]; rfl)
        clear HM
        go_enter Tryd.func23, Tryd.ntmps23
        go_wp2_with (fail)
        refine (HS.out _ (by (repeat' (first | (with_reducible exact Below.refl _ _) | (with_reducible assumption) | (refine below_next ?_ (by with_reducible assumption)) | (with_reducible refine Below.alloc ?_ ?_ _) | (with_reducible refine Below.drew ?_) | (with_reducible refine below_drewN ?_ _) | omega | (simp; done) | (simp; omega))))).mono ?_
        rintro e w1 ⟨rfl, hb1⟩
        obtain ⟨hc1, hf1⟩ := bcell hb1
        have hz1 := hb1.size
        try simp at hz1
        have hl1_0 : w.heap.size < w1.heap.size := by omega
        go_wp2_with fail
        go_ret
        exact ⟨by rw [HR.out]; try rfl, by (repeat' (first | (with_reducible exact Below.refl _ _) | (with_reducible assumption) | (refine below_next ?_ (by with_reducible assumption)) | (with_reducible refine Below.alloc ?_ ?_ _) | (with_reducible refine Below.drew ?_) | (with_reducible refine below_drewN ?_ _) | omega | (simp; done) | (simp; omega)))⟩
      | true =>
        have HL := Lib.hid (fun w' => long_any k w')
        rcases long_cases k with ⟨rfl, hl⟩ | ⟨rfl, hl⟩ | ⟨hk2, hk3, hl⟩
        · rw [hl] at HM HL
          clear hl
          cases N2 with
          | false =>
            have HR : RowKit.Hid (R = false) := Lib.hid (by rw [HM.out]; rfl)
            clear HM
            go_enter Tryd.func23, Tryd.ntmps23
            go_wp2_with (fail)
            refine (HS.out _ (by (repeat' (first | (with_reducible exact Below.refl _ _) | (with_reducible assumption) | (refine below_next ?_ (by with_reducible assumption)) | (with_reducible refine Below.alloc ?_ ?_ _) | (with_reducible refine Below.drew ?_) | (with_reducible refine below_drewN ?_ _) | omega | (simp; done) | (simp; omega))))).mono ?_
            rintro e w1 ⟨rfl, hb1⟩
            obtain ⟨hc1, hf1⟩ := bcell hb1
            have hz1 := hb1.size
            try simp at hz1
            have hl1_0 : w.heap.size < w1.heap.size := by omega
            go_wp2_with fail
            refine (HL.out _).mono ?_
            rintro e wl ⟨rfl, rfl⟩
            go_wp2_with (fail)
            refine (HK.out _ (by (repeat' (first | (with_reducible exact Below.refl _ _) | (with_reducible assumption) | (refine below_next ?_ (by with_reducible assumption)) | (with_reducible refine Below.alloc ?_ ?_ _) | (with_reducible refine Below.drew ?_) | (with_reducible refine below_drewN ?_ _) | omega | (simp; done) | (simp; omega))))).mono ?_
            rintro e w2 ⟨rfl, hb2⟩
            obtain ⟨hc2, hf2⟩ := bcell hb2
            have hz2 := hb2.size
            try simp at hz2
            have hl2_0 : w.heap.size < w2.heap.size := by omega
            go_wp2_with fail
            go_ret
            exact ⟨by rw [HR.out]; try rfl, by (repeat' (first | (with_reducible exact Below.refl _ _) | (with_reducible assumption) | (refine below_next ?_ (by with_reducible assumption)) | (with_reducible refine Below.alloc ?_ ?_ _) | (with_reducible refine Below.drew ?_) | (with_reducible refine below_drewN ?_ _) | omega | (simp; done) | (simp; omega)))⟩
          | true =>
            cases V with
            | false =>
              have HR : RowKit.Hid (R = false) := Lib.hid (by rw [HM.out]; rfl)
              clear HM
              go_enter Tryd.func23, Tryd.ntmps23
              go_wp2_with (fail)
              refine (HS.out _ (by (repeat' (first | (with_reducible exact Below.refl _ _) | (with_reducible assumption) | (refine below_next ?_ (by with_reducible assumption)) | (with_reducible refine Below.alloc ?_ ?_ _) | (with_reducible refine Below.drew ?_) | (with_reducible refine below_drewN ?_ _) | omega | (simp; done) | (simp; omega))))).mono ?_
              rintro e w1 ⟨rfl, hb1⟩
              obtain ⟨hc1, hf1⟩ := bcell hb1
              have hz1 := hb1.size
              try simp at hz1
              have hl1_0 : w.heap.size < w1.heap.size := by omega
              go_wp2_with fail
              refine (HL.out _).mono ?_
              rintro e wl ⟨rfl, rfl⟩
              go_wp2_with (fail)
              refine (HK.out _ (by (repeat' (first | (with_reducible exact Below.refl _ _) | (with_reducible assumption) | (refine below_next ?_ (by with_reducible assumption)) | (with_reducible refine Below.alloc ?_ ?_ _) | (with_reducible refine Below.drew ?_) | (with_reducible refine below_drewN ?_ _) | omega | (simp; done) | (simp; omega))))).mono ?_
              rintro e w2 ⟨rfl, hb2⟩
              obtain ⟨hc2, hf2⟩ := bcell hb2
              have hz2 := hb2.size
              try simp at hz2
              have hl2_0 : w.heap.size < w2.heap.size := by omega
              go_wp2_with (fail)
              refine (HV.out _ (by (repeat' (first | (with_reducible exact Below.refl _ _) | (with_reducible assumption) | (refine below_next ?_ (by with_reducible assumption)) | (with_reducible refine Below.alloc ?_ ?_ _) | (with_reducible refine Below.drew ?_) | (with_reducible refine below_drewN ?_ _) | omega | (simp; done) | (simp; omega))))).mono ?_
              rintro e w3 ⟨rfl, hb3⟩
              obtain ⟨hc3, hf3⟩ := bcell hb3
              have hz3 := hb3.size
              try simp at hz3
              have hl3_0 : w.heap.size < w3.heap.size := by omega
              go_wp2_with fail
              go_ret
              exact ⟨by rw [HR.out]; try rfl, by (repeat' (first | (with_reducible exact Below.refl _ _) | (with_reducible assumption) | (refine below_next ?_ (by with_reducible assumption)) | (with_reducible refine Below.alloc ?_ ?_ _) | (with_reducible refine Below.drew ?_) | (with_reducible refine below_drewN ?_ _) | omega | (simp; done) | (simp; omega)))⟩
            | true =>
              have HR : RowKit.Hid (R = true) := Lib.hid (by rw [HM.out]; rfl)
              clear HM
              go_enter Tryd.func23, Tryd.ntmps23
              go_wp2_with (fail)
              refine (HS.out _ (by (repeat' (first | (with_reducible exact Below.refl _ _) | (with_reducible assumption) | (refine below_next ?_ (by with_reducible assumption)) | (with_reducible refine Below.alloc ?_ ?_ _) | (with_reducible refine Below.drew ?_) | (with_reducible refine below_drewN ?_ _) | omega | (simp; done) | (simp; omega))))).mono ?_
              rintro e w1 ⟨rfl, hb1⟩
              obtain ⟨hc1, hf1⟩ := bcell hb1
              have hz1 := hb1.size
              try simp at hz1
              have hl1_0 : w.heap.size < w1.heap.size := by omega
              go_wp2_with fail
              refine (HL.out _).mono ?_
              rintro e wl ⟨rfl, rfl⟩
              go_wp2_with (fail)
              refine (HK.out _ (by (repeat' (first | (with_reducible exact Below.refl _ _) | (with_reducible assumption) | (refine below_next ?_ (by with_reducible assumption)) | (with_reducible refine Below.alloc ?_ ?_ _) | (with_reducible refine Below.drew ?_) | (with_reducible refine below_drewN ?_ _) | omega | (simp; done) | (simp; omega))))).mono ?_
              rintro e w2 ⟨rfl, hb2⟩
              obtain ⟨hc2, hf2⟩ := bcell hb2
              have hz2 := hb2.size
              try simp at hz2
              have hl2_0 : w.heap.size < w2.heap.size := by omega
              go_wp2_with (fail)
              refine (HV.out _ (by (repeat' (first | (with_reducible exact Below.refl _ _) | (with_reducible assumption) | (refine below_next ?_ (by with_reducible assumption)) | (with_reducible refine Below.alloc ?_ ?_ _) | (with_reducible refine Below.drew ?_) | (with_reducible refine below_drewN ?_ _) | omega | (simp; done) | (simp; omega))))).mono ?_
              rintro e w3 ⟨rfl, hb3⟩
              obtain ⟨hc3, hf3⟩ := bcell hb3
              have hz3 := hb3.size
              try simp at hz3
              have hl3_0 : w.heap.size < w3.heap.size := by omega
              go_wp2_with fail
              go_ret
              exact ⟨by rw [HR.out]; try rfl, by (repeat' (first | (with_reducible exact Below.refl _ _) | (with_reducible assumption) | (refine below_next ?_ (by with_reducible assumption)) | (with_reducible refine Below.alloc ?_ ?_ _) | (with_reducible refine Below.drew ?_) | (with_reducible refine below_drewN ?_ _) | omega | (simp; done) | (simp; omega)))⟩
        · rw [hl] at HM HL
          clear hl
          cases N2 with
          | false =>
            have HR : RowKit.Hid (R = false) := Lib.hid (by rw [HM.out]; rfl)
            clear HM
            go_enter Tryd.func23, Tryd.ntmps23
            go_wp2_with (fail)
            refine (HS.out _ (by (repeat' (first | (with_reducible exact Below.refl _ _) | (with_reducible assumption) | (refine below_next ?_ (by with_reducible assumption)) | (with_reducible refine Below.alloc ?_ ?_ _) | (with_reducible refine Below.drew ?_) | (with_reducible refine below_drewN ?_ _) | omega | (simp; done) | (simp; omega))))).mono ?_
            rintro e w1 ⟨rfl, hb1⟩
            obtain ⟨hc1, hf1⟩ := bcell hb1
            have hz1 := hb1.size
            try simp at hz1
            have hl1_0 : w.heap.size < w1.heap.size := by omega
            go_wp2_with fail
            refine (HL.out _).mono ?_
            rintro e wl ⟨rfl, rfl⟩
            go_wp2_with (fail)
            refine (HK.out _ (by (repeat' (first | (with_reducible exact Below.refl _ _) | (with_reducible assumption) | (refine below_next ?_ (by with_reducible assumption)) | (with_reducible refine Below.alloc ?_ ?_ _) | (with_reducible refine Below.drew ?_) | (with_reducible refine below_drewN ?_ _) | omega | (simp; done) | (simp; omega))))).mono ?_
            rintro e w2 ⟨rfl, hb2⟩
            obtain ⟨hc2, hf2⟩ := bcell hb2
            have hz2 := hb2.size
            try simp at hz2
            have hl2_0 : w.heap.size < w2.heap.size := by omega
            go_wp2_with fail
            go_ret
            exact ⟨by rw [HR.out]; try rfl, by (repeat' (first | (with_reducible exact Below.refl _ _) | (with_reducible assumption) | (refine below_next ?_ (by with_reducible assumption)) | (with_reducible refine Below.alloc ?_ ?_ _) | (with_reducible refine Below.drew ?_) | (with_reducible refine below_drewN ?_ _) | omega | (simp; done) | (simp; omega)))⟩
          | true =>
            cases V with
            | false =>
              have HR : RowKit.Hid (R = false) := Lib.hid (by rw [HM.out]; rfl)
              clear HM
              go_enter Tryd.func23, Tryd.ntmps23
              go_wp2_with (fail)
              refine (HS.out _ (by (repeat' (first | (with_reducible exact Below.refl _ _) | (with_reducible assumption) | (refine below_next ?_ (by with_reducible assumption)) | (with_reducible refine Below.alloc ?_ ?_ _) | (with_reducible refine Below.drew ?_) | (with_reducible refine below_drewN ?_ _) | omega | (simp; done) | (simp; omega))))).mono ?_
              rintro e w1 ⟨rfl, hb1⟩
              obtain ⟨hc1, hf1⟩ := bcell hb1
              have hz1 := hb1.size
              try simp at hz1
              have hl1_0 : w.heap.size < w1.heap.size := by omega
              go_wp2_with fail
              refine (HL.out _).mono ?_
              rintro e wl ⟨rfl, rfl⟩
              go_wp2_with (fail)
              refine (HK.out _ (by (repeat' (first | (with_reducible exact Below.refl _ _) | (with_reducible assumption) | (refine below_next ?_ (by with_reducible assumption)) | (with_reducible refine Below.alloc ?_ ?_ _) | (with_reducible refine Below.drew ?_) | (with_reducible refine below_drewN ?_ _) | omega | (simp; done) | (simp; omega))))).mono ?_
              rintro e w2 ⟨rfl, hb2⟩
              obtain ⟨hc2, hf2⟩ := bcell hb2
              have hz2 := hb2.size
              try simp at hz2
              have hl2_0 : w.heap.size < w2.heap.size := by omega
              go_wp2_with (fail)
              refine (HV.out _ (by (repeat' (first | (with_reducible exact Below.refl _ _) | (with_reducible assumption) | (refine below_next ?_ (by with_reducible assumption)) | (with_reducible refine Below.alloc ?_ ?_ _) | (with_reducible refine Below.drew ?_) | (with_reducible refine below_drewN ?_ _) | omega | (simp; done) | (simp; omega))))).mono ?_
              rintro e w3 ⟨rfl, hb3⟩
              obtain ⟨hc3, hf3⟩ := bcell hb3
              have hz3 := hb3.size
              try simp at hz3
              have hl3_0 : w.heap.size < w3.heap.size := by omega
              go_wp2_with fail
              go_ret
              exact ⟨by rw [HR.out]; try rfl, by (repeat' (first | (with_reducible exact Below.refl _ _) | (with_reducible assumption) | (refine below_next ?_ (by with_reducible assumption)) | (with_reducible refine Below.alloc ?_ ?_ _) | (with_reducible refine Below.drew ?_) | (with_reducible refine below_drewN ?_ _) | omega | (simp; done) | (simp; omega)))⟩
            | true =>
              have HR : RowKit.Hid (R = (vk == 1)) := Lib.hid (by rw [HM.out]; simp)
              clear HM
              go_enter Tryd.func23, Tryd.ntmps23
              go_wp2_with (fail)
              refine (HS.out _ (by (repeat' (first | (with_reducible exact Below.refl _ _) | (with_reducible assumption) | (refine below_next ?_ (by with_reducible assumption)) | (with_reducible refine Below.alloc ?_ ?_ _) | (with_reducible refine Below.drew ?_) | (with_reducible refine below_drewN ?_ _) | omega | (simp; done) | (simp; omega))))).mono ?_
              rintro e w1 ⟨rfl, hb1⟩
              obtain ⟨hc1, hf1⟩ := bcell hb1
              have hz1 := hb1.size
              try simp at hz1
              have hl1_0 : w.heap.size < w1.heap.size := by omega
              go_wp2_with fail
              refine (HL.out _).mono ?_
              rintro e wl ⟨rfl, rfl⟩
              go_wp2_with (fail)
              refine (HK.out _ (by (repeat' (first | (with_reducible exact Below.refl _ _) | (with_reducible assumption) | (refine below_next ?_ (by with_reducible assumption)) | (with_reducible refine Below.alloc ?_ ?_ _) | (with_reducible refine Below.drew ?_) | (with_reducible refine below_drewN ?_ _) | omega | (simp; done) | (simp; omega))))).mono ?_
              rintro e w2 ⟨rfl, hb2⟩
              obtain ⟨hc2, hf2⟩ := bcell hb2
              have hz2 := hb2.size
              try simp at hz2
              have hl2_0 : w.heap.size < w2.heap.size := by omega
              go_wp2_with (fail)
              refine (HV.out _ (by (repeat' (first | (with_reducible exact Below.refl _ _) | (with_reducible assumption) | (refine below_next ?_ (by with_reducible assumption)) | (with_reducible refine Below.alloc ?_ ?_ _) | (with_reducible refine Below.drew ?_) | (with_reducible refine below_drewN ?_ _) | omega | (simp; done) | (simp; omega))))).mono ?_
              rintro e w3 ⟨rfl, hb3⟩
              obtain ⟨hc3, hf3⟩ := bcell hb3
              have hz3 := hb3.size
              try simp at hz3
              have hl3_0 : w.heap.size < w3.heap.size := by omega
              go_wp2_with fail
              go_ret
              exact ⟨by rw [HR.out]; try rfl, by (repeat' (first | (with_reducible exact Below.refl _ _) | (with_reducible assumption) | (refine below_next ?_ (by with_reducible assumption)) | (with_reducible refine Below.alloc ?_ ?_ _) | (with_reducible refine Below.drew ?_) | (with_reducible refine below_drewN ?_ _) | omega | (simp; done) | (simp; omega)))⟩
        · rw [hl] at HM HL
          clear hl
          have hn2 : (k != 2) = true := by simpa using hk2
          have hn3 : (k != 3) = true := by simpa using hk3
          cases key with
          | cons c t =>
            have HR : RowKit.Hid (R = false) := Lib.hid (by rw [HM.out]; rfl)
            clear HM
            go_enter Tryd.func23, Tryd.ntmps23
            go_wp2_with (fail)
            refine (HS.out _ (by (repeat' (first | (with_reducible exact Below.refl _ _) | (with_reducible assumption) | (refine below_next ?_ (by with_reducible assumption)) | (with_reducible refine Below.alloc ?_ ?_ _) | (with_reducible refine Below.drew ?_) | (with_reducible refine below_drewN ?_ _) | omega | (simp; done) | (simp; omega))))).mono ?_
            rintro e w1 ⟨rfl, hb1⟩
            obtain ⟨hc1, hf1⟩ := bcell hb1
            have hz1 := hb1.size
            try simp at hz1
            have hl1_0 : w.heap.size < w1.heap.size := by omega
            go_wp2_with fail
            refine (HL.out _).mono ?_
            rintro e wl ⟨rfl, rfl⟩
            go_wp2_with fail
            go_ret
            exact ⟨by rw [HR.out]; try rfl, by (repeat' (first | (with_reducible exact Below.refl _ _) | (with_reducible assumption) | (refine below_next ?_ (by with_reducible assumption)) | (with_reducible refine Below.alloc ?_ ?_ _) | (with_reducible refine Below.drew ?_) | (with_reducible refine below_drewN ?_ _) | omega | (simp; done) | (simp; omega)))⟩
          | nil =>
            have HR : RowKit.Hid (R = (vk == 0 && n == 0)) := Lib.hid (by rw [HM.out]; rfl)
            clear HM
            by_cases hv0 : vk = 0
            · subst hv0
              by_cases hn0 : n = 0
              · subst hn0
                go_enter Tryd.func23, Tryd.ntmps23
                go_wp2_with (fail)
                refine (HS.out _ (by (repeat' (first | (with_reducible exact Below.refl _ _) | (with_reducible assumption) | (refine below_next ?_ (by with_reducible assumption)) | (with_reducible refine Below.alloc ?_ ?_ _) | (with_reducible refine Below.drew ?_) | (with_reducible refine below_drewN ?_ _) | omega | (simp; done) | (simp; omega))))).mono ?_
                rintro e w1 ⟨rfl, hb1⟩
                obtain ⟨hc1, hf1⟩ := bcell hb1
                have hz1 := hb1.size
                try simp at hz1
                have hl1_0 : w.heap.size < w1.heap.size := by omega
                go_wp2_with fail
                refine (HL.out _).mono ?_
                rintro e wl ⟨rfl, rfl⟩
                go_wp2_with fail
                go_ret
                exact ⟨by rw [HR.out]; try rfl, by (repeat' (first | (with_reducible exact Below.refl _ _) | (with_reducible assumption) | (refine below_next ?_ (by with_reducible assumption)) | (with_reducible refine Below.alloc ?_ ?_ _) | (with_reducible refine Below.drew ?_) | (with_reducible refine below_drewN ?_ _) | omega | (simp; done) | (simp; omega)))⟩
              · have b1 : (n == 0) = false := beq_eq_false_iff_ne.2 hn0
                rw [b1] at HR
                go_enter Tryd.func23, Tryd.ntmps23
                go_wp2_with (fail)
                refine (HS.out _ (by (repeat' (first | (with_reducible exact Below.refl _ _) | (with_reducible assumption) | (refine below_next ?_ (by with_reducible assumption)) | (with_reducible refine Below.alloc ?_ ?_ _) | (with_reducible refine Below.drew ?_) | (with_reducible refine below_drewN ?_ _) | omega | (simp; done) | (simp; omega))))).mono ?_
                rintro e w1 ⟨rfl, hb1⟩
                obtain ⟨hc1, hf1⟩ := bcell hb1
                have hz1 := hb1.size
                try simp at hz1
                have hl1_0 : w.heap.size < w1.heap.size := by omega
                go_wp2_with fail
                refine (HL.out _).mono ?_
                rintro e wl ⟨rfl, rfl⟩
                go_wp2_with fail
                go_ret
                exact ⟨by rw [HR.out]; try rfl, by (repeat' (first | (with_reducible exact Below.refl _ _) | (with_reducible assumption) | (refine below_next ?_ (by with_reducible assumption)) | (with_reducible refine Below.alloc ?_ ?_ _) | (with_reducible refine Below.drew ?_) | (with_reducible refine below_drewN ?_ _) | omega | (simp; done) | (simp; omega)))⟩
            · have b1 : (vk == 0) = false := beq_eq_false_iff_ne.2 hv0
              rw [b1] at HR
              go_enter Tryd.func23, Tryd.ntmps23
              go_wp2_with (fail)
              refine (HS.out _ (by (repeat' (first | (with_reducible exact Below.refl _ _) | (with_reducible assumption) | (refine below_next ?_ (by with_reducible assumption)) | (with_reducible refine Below.alloc ?_ ?_ _) | (with_reducible refine Below.drew ?_) | (with_reducible refine below_drewN ?_ _) | omega | (simp; done) | (simp; omega))))).mono ?_
              rintro e w1 ⟨rfl, hb1⟩
              obtain ⟨hc1, hf1⟩ := bcell hb1
              have hz1 := hb1.size
              try simp at hz1
              have hl1_0 : w.heap.size < w1.heap.size := by omega
              go_wp2_with fail
              refine (HL.out _).mono ?_
              rintro e wl ⟨rfl, rfl⟩
              go_wp2_with fail
              go_ret
              exact ⟨by rw [HR.out]; try rfl, by (repeat' (first | (with_reducible exact Below.refl _ _) | (with_reducible assumption) | (refine below_next ?_ (by with_reducible assumption)) | (with_reducible refine Below.alloc ?_ ?_ _) | (with_reducible refine Below.drew ?_) | (with_reducible refine below_drewN ?_ _) | omega | (simp; done) | (simp; omega)))⟩
    · have d2 : decide (k ≤ 6) = false := decide_eq_false h2
      have HR : RowKit.Hid (R = false) := Lib.hid (by rw [HM.out, d2]; rfl)
      clear HM d2
      go_enter Tryd.func23, Tryd.ntmps23
      go_wp2_with fail
      go_ret
      exact ⟨by rw [HR.out]; try rfl, by (repeat' (first | (with_reducible exact Below.refl _ _) | (with_reducible assumption) | (refine below_next ?_ (by with_reducible assumption)) | (with_reducible refine Below.alloc ?_ ?_ _) | (with_reducible refine Below.drew ?_) | (with_reducible refine below_drewN ?_ _) | omega | (simp; done) | (simp; omega)))⟩
  · have d1 : decide (1 ≤ k) = false := decide_eq_false h1
    have HR : RowKit.Hid (R = false) := Lib.hid (by rw [HM.out, d1]; rfl)
    clear HM d1
    go_enter Tryd.func23, Tryd.ntmps23
    go_wp2_with fail
    go_ret
    exact ⟨by rw [HR.out]; try rfl, by (repeat' (first | (with_reducible exact Below.refl _ _) | (with_reducible assumption) | (refine below_next ?_ (by with_reducible assumption)) | (with_reducible refine Below.alloc ?_ ?_ _) | (with_reducible refine Below.drew ?_) | (with_reducible refine below_drewN ?_ _) | omega | (simp; done) | (simp; omega)))⟩

set_option maxRecDepth 100000 in
set_option maxHeartbeats 4000000 in
theorem remay_any (k : Int) (s key : List UInt8) (vk n ln : Int) (hs : s.length ≤ 1000000) (hk : key.length ≤ 1000000) (w : World) :
    Calls Tryd.prog 24 #[.agg #[.int .i64 k, .string (bs s), .string (bs key), .int .i64 vk, .int .i64 n, .int .i64 ln]] w fun e w' => e = .returned (.bool (mayE (k, s, key, vk, n, ln))) ∧ Below w.heap.size w w' := by
  have HS := Lib.hid (fun w' (h : Below w.heap.size w w') => ris_any s hs w')
  have HK := Lib.hid (fun w' (h : Below w.heap.size w w') => ris_any key hk w')
  have HV := Lib.hid (fun w' (_ : Below w.heap.size w w') => refmay_any vk n w')
  have HM : RowKit.Hid (mayE (k, s, key, vk, n, ln) = (decide (1 ≤ k) && (decide (k ≤ 6) && (nameL s && (if longK k then nameL key && (mayV vk n && (k == 2 || vk == 1)) else decide (key = []) && (vk == 0 && n == 0)))))) := Lib.hid rfl
  generalize mayE (k, s, key, vk, n, ln) = R at *
  generalize nameL s = N1 at *
  generalize nameL key = N2 at *
  generalize mayV vk n = V at *
  clear hs hk
  by_cases h1 : 1 ≤ k
  · have d1 : decide (1 ≤ k) = true := decide_eq_true h1
    rw [d1] at HM
    clear d1
    by_cases h2 : k ≤ 6
    · have d2 : decide (k ≤ 6) = true := decide_eq_true h2
      rw [d2] at HM
      clear d2
      cases N1 with
      | false =>
        have HR : RowKit.Hid (R = false) := Lib.hid (by rw [HM.out]; rfl)
        clear HM
        go_enter Tryd.func24, Tryd.ntmps24
        go_wp2_with (fail)
        refine (HS.out _ (by (repeat' (first | (with_reducible exact Below.refl _ _) | (with_reducible assumption) | (refine below_next ?_ (by with_reducible assumption)) | (with_reducible refine Below.alloc ?_ ?_ _) | (with_reducible refine Below.drew ?_) | (with_reducible refine below_drewN ?_ _) | omega | (simp; done) | (simp; omega))))).mono ?_
        rintro e w1 ⟨rfl, hb1⟩
        obtain ⟨hc1, hf1⟩ := bcell hb1
        have hz1 := hb1.size
        try simp at hz1
        have hl1_0 : w.heap.size < w1.heap.size := by omega
        go_wp2_with fail
        go_ret
        exact ⟨by rw [HR.out]; try rfl, by (repeat' (first | (with_reducible exact Below.refl _ _) | (with_reducible assumption) | (refine below_next ?_ (by with_reducible assumption)) | (with_reducible refine Below.alloc ?_ ?_ _) | (with_reducible refine Below.drew ?_) | (with_reducible refine below_drewN ?_ _) | omega | (simp; done) | (simp; omega)))⟩
      | true =>
        rcases long_cases k with ⟨rfl, hl⟩ | ⟨rfl, hl⟩ | ⟨hk2, hk3, hl⟩
        · rw [hl] at HM
          clear hl
          cases N2 with
          | false =>
            have HR : RowKit.Hid (R = false) := Lib.hid (by rw [HM.out]; rfl)
            clear HM
            go_enter Tryd.func24, Tryd.ntmps24
            go_wp2_with (fail)
            refine (HS.out _ (by (repeat' (first | (with_reducible exact Below.refl _ _) | (with_reducible assumption) | (refine below_next ?_ (by with_reducible assumption)) | (with_reducible refine Below.alloc ?_ ?_ _) | (with_reducible refine Below.drew ?_) | (with_reducible refine below_drewN ?_ _) | omega | (simp; done) | (simp; omega))))).mono ?_
            rintro e w1 ⟨rfl, hb1⟩
            obtain ⟨hc1, hf1⟩ := bcell hb1
            have hz1 := hb1.size
            try simp at hz1
            have hl1_0 : w.heap.size < w1.heap.size := by omega
            go_wp2_with (fail)
            refine (HK.out _ (by (repeat' (first | (with_reducible exact Below.refl _ _) | (with_reducible assumption) | (refine below_next ?_ (by with_reducible assumption)) | (with_reducible refine Below.alloc ?_ ?_ _) | (with_reducible refine Below.drew ?_) | (with_reducible refine below_drewN ?_ _) | omega | (simp; done) | (simp; omega))))).mono ?_
            rintro e w2 ⟨rfl, hb2⟩
            obtain ⟨hc2, hf2⟩ := bcell hb2
            have hz2 := hb2.size
            try simp at hz2
            have hl2_0 : w.heap.size < w2.heap.size := by omega
            go_wp2_with fail
            go_ret
            exact ⟨by rw [HR.out]; try rfl, by (repeat' (first | (with_reducible exact Below.refl _ _) | (with_reducible assumption) | (refine below_next ?_ (by with_reducible assumption)) | (with_reducible refine Below.alloc ?_ ?_ _) | (with_reducible refine Below.drew ?_) | (with_reducible refine below_drewN ?_ _) | omega | (simp; done) | (simp; omega)))⟩
          | true =>
            cases V with
            | false =>
              have HR : RowKit.Hid (R = false) := Lib.hid (by rw [HM.out]; rfl)
              clear HM
              go_enter Tryd.func24, Tryd.ntmps24
              go_wp2_with (fail)
              refine (HS.out _ (by (repeat' (first | (with_reducible exact Below.refl _ _) | (with_reducible assumption) | (refine below_next ?_ (by with_reducible assumption)) | (with_reducible refine Below.alloc ?_ ?_ _) | (with_reducible refine Below.drew ?_) | (with_reducible refine below_drewN ?_ _) | omega | (simp; done) | (simp; omega))))).mono ?_
              rintro e w1 ⟨rfl, hb1⟩
              obtain ⟨hc1, hf1⟩ := bcell hb1
              have hz1 := hb1.size
              try simp at hz1
              have hl1_0 : w.heap.size < w1.heap.size := by omega
              go_wp2_with (fail)
              refine (HK.out _ (by (repeat' (first | (with_reducible exact Below.refl _ _) | (with_reducible assumption) | (refine below_next ?_ (by with_reducible assumption)) | (with_reducible refine Below.alloc ?_ ?_ _) | (with_reducible refine Below.drew ?_) | (with_reducible refine below_drewN ?_ _) | omega | (simp; done) | (simp; omega))))).mono ?_
              rintro e w2 ⟨rfl, hb2⟩
              obtain ⟨hc2, hf2⟩ := bcell hb2
              have hz2 := hb2.size
              try simp at hz2
              have hl2_0 : w.heap.size < w2.heap.size := by omega
              go_wp2_with (fail)
              refine (HV.out _ (by (repeat' (first | (with_reducible exact Below.refl _ _) | (with_reducible assumption) | (refine below_next ?_ (by with_reducible assumption)) | (with_reducible refine Below.alloc ?_ ?_ _) | (with_reducible refine Below.drew ?_) | (with_reducible refine below_drewN ?_ _) | omega | (simp; done) | (simp; omega))))).mono ?_
              rintro e w3 ⟨rfl, hb3⟩
              obtain ⟨hc3, hf3⟩ := bcell hb3
              have hz3 := hb3.size
              try simp at hz3
              have hl3_0 : w.heap.size < w3.heap.size := by omega
              go_wp2_with fail
              go_ret
              exact ⟨by rw [HR.out]; try rfl, by (repeat' (first | (with_reducible exact Below.refl _ _) | (with_reducible assumption) | (refine below_next ?_ (by with_reducible assumption)) | (with_reducible refine Below.alloc ?_ ?_ _) | (with_reducible refine Below.drew ?_) | (with_reducible refine below_drewN ?_ _) | omega | (simp; done) | (simp; omega)))⟩
            | true =>
              have HR : RowKit.Hid (R = true) := Lib.hid (by rw [HM.out]; rfl)
              clear HM
              go_enter Tryd.func24, Tryd.ntmps24
              go_wp2_with (fail)
              refine (HS.out _ (by (repeat' (first | (with_reducible exact Below.refl _ _) | (with_reducible assumption) | (refine below_next ?_ (by with_reducible assumption)) | (with_reducible refine Below.alloc ?_ ?_ _) | (with_reducible refine Below.drew ?_) | (with_reducible refine below_drewN ?_ _) | omega | (simp; done) | (simp; omega))))).mono ?_
              rintro e w1 ⟨rfl, hb1⟩
              obtain ⟨hc1, hf1⟩ := bcell hb1
              have hz1 := hb1.size
              try simp at hz1
              have hl1_0 : w.heap.size < w1.heap.size := by omega
              go_wp2_with (fail)
              refine (HK.out _ (by (repeat' (first | (with_reducible exact Below.refl _ _) | (with_reducible assumption) | (refine below_next ?_ (by with_reducible assumption)) | (with_reducible refine Below.alloc ?_ ?_ _) | (with_reducible refine Below.drew ?_) | (with_reducible refine below_drewN ?_ _) | omega | (simp; done) | (simp; omega))))).mono ?_
              rintro e w2 ⟨rfl, hb2⟩
              obtain ⟨hc2, hf2⟩ := bcell hb2
              have hz2 := hb2.size
              try simp at hz2
              have hl2_0 : w.heap.size < w2.heap.size := by omega
              go_wp2_with (fail)
              refine (HV.out _ (by (repeat' (first | (with_reducible exact Below.refl _ _) | (with_reducible assumption) | (refine below_next ?_ (by with_reducible assumption)) | (with_reducible refine Below.alloc ?_ ?_ _) | (with_reducible refine Below.drew ?_) | (with_reducible refine below_drewN ?_ _) | omega | (simp; done) | (simp; omega))))).mono ?_
              rintro e w3 ⟨rfl, hb3⟩
              obtain ⟨hc3, hf3⟩ := bcell hb3
              have hz3 := hb3.size
              try simp at hz3
              have hl3_0 : w.heap.size < w3.heap.size := by omega
              go_wp2_with fail
              go_ret
              exact ⟨by rw [HR.out]; try rfl, by (repeat' (first | (with_reducible exact Below.refl _ _) | (with_reducible assumption) | (refine below_next ?_ (by with_reducible assumption)) | (with_reducible refine Below.alloc ?_ ?_ _) | (with_reducible refine Below.drew ?_) | (with_reducible refine below_drewN ?_ _) | omega | (simp; done) | (simp; omega)))⟩
        · rw [hl] at HM
          clear hl
          cases N2 with
          | false =>
            have HR : RowKit.Hid (R = false) := Lib.hid (by rw [HM.out]; rfl)
            clear HM
            go_enter Tryd.func24, Tryd.ntmps24
            go_wp2_with (fail)
            refine (HS.out _ (by (repeat' (first | (with_reducible exact Below.refl _ _) | (with_reducible assumption) | (refine below_next ?_ (by with_reducible assumption)) | (with_reducible refine Below.alloc ?_ ?_ _) | (with_reducible refine Below.drew ?_) | (with_reducible refine below_drewN ?_ _) | omega | (simp; done) | (simp; omega))))).mono ?_
            rintro e w1 ⟨rfl, hb1⟩
            obtain ⟨hc1, hf1⟩ := bcell hb1
            have hz1 := hb1.size
            try simp at hz1
            have hl1_0 : w.heap.size < w1.heap.size := by omega
            go_wp2_with (fail)
            refine (HK.out _ (by (repeat' (first | (with_reducible exact Below.refl _ _) | (with_reducible assumption) | (refine below_next ?_ (by with_reducible assumption)) | (with_reducible refine Below.alloc ?_ ?_ _) | (with_reducible refine Below.drew ?_) | (with_reducible refine below_drewN ?_ _) | omega | (simp; done) | (simp; omega))))).mono ?_
            rintro e w2 ⟨rfl, hb2⟩
            obtain ⟨hc2, hf2⟩ := bcell hb2
            have hz2 := hb2.size
            try simp at hz2
            have hl2_0 : w.heap.size < w2.heap.size := by omega
            go_wp2_with fail
            go_ret
            exact ⟨by rw [HR.out]; try rfl, by (repeat' (first | (with_reducible exact Below.refl _ _) | (with_reducible assumption) | (refine below_next ?_ (by with_reducible assumption)) | (with_reducible refine Below.alloc ?_ ?_ _) | (with_reducible refine Below.drew ?_) | (with_reducible refine below_drewN ?_ _) | omega | (simp; done) | (simp; omega)))⟩
          | true =>
            cases V with
            | false =>
              have HR : RowKit.Hid (R = false) := Lib.hid (by rw [HM.out]; rfl)
              clear HM
              go_enter Tryd.func24, Tryd.ntmps24
              go_wp2_with (fail)
              refine (HS.out _ (by (repeat' (first | (with_reducible exact Below.refl _ _) | (with_reducible assumption) | (refine below_next ?_ (by with_reducible assumption)) | (with_reducible refine Below.alloc ?_ ?_ _) | (with_reducible refine Below.drew ?_) | (with_reducible refine below_drewN ?_ _) | omega | (simp; done) | (simp; omega))))).mono ?_
              rintro e w1 ⟨rfl, hb1⟩
              obtain ⟨hc1, hf1⟩ := bcell hb1
              have hz1 := hb1.size
              try simp at hz1
              have hl1_0 : w.heap.size < w1.heap.size := by omega
              go_wp2_with (fail)
              refine (HK.out _ (by (repeat' (first | (with_reducible exact Below.refl _ _) | (with_reducible assumption) | (refine below_next ?_ (by with_reducible assumption)) | (with_reducible refine Below.alloc ?_ ?_ _) | (with_reducible refine Below.drew ?_) | (with_reducible refine below_drewN ?_ _) | omega | (simp; done) | (simp; omega))))).mono ?_
              rintro e w2 ⟨rfl, hb2⟩
              obtain ⟨hc2, hf2⟩ := bcell hb2
              have hz2 := hb2.size
              try simp at hz2
              have hl2_0 : w.heap.size < w2.heap.size := by omega
              go_wp2_with (fail)
              refine (HV.out _ (by (repeat' (first | (with_reducible exact Below.refl _ _) | (with_reducible assumption) | (refine below_next ?_ (by with_reducible assumption)) | (with_reducible refine Below.alloc ?_ ?_ _) | (with_reducible refine Below.drew ?_) | (with_reducible refine below_drewN ?_ _) | omega | (simp; done) | (simp; omega))))).mono ?_
              rintro e w3 ⟨rfl, hb3⟩
              obtain ⟨hc3, hf3⟩ := bcell hb3
              have hz3 := hb3.size
              try simp at hz3
              have hl3_0 : w.heap.size < w3.heap.size := by omega
              go_wp2_with fail
              go_ret
              exact ⟨by rw [HR.out]; try rfl, by (repeat' (first | (with_reducible exact Below.refl _ _) | (with_reducible assumption) | (refine below_next ?_ (by with_reducible assumption)) | (with_reducible refine Below.alloc ?_ ?_ _) | (with_reducible refine Below.drew ?_) | (with_reducible refine below_drewN ?_ _) | omega | (simp; done) | (simp; omega)))⟩
            | true =>
              have HR : RowKit.Hid (R = (vk == 1)) := Lib.hid (by rw [HM.out]; simp)
              clear HM
              go_enter Tryd.func24, Tryd.ntmps24
              go_wp2_with (fail)
              refine (HS.out _ (by (repeat' (first | (with_reducible exact Below.refl _ _) | (with_reducible assumption) | (refine below_next ?_ (by with_reducible assumption)) | (with_reducible refine Below.alloc ?_ ?_ _) | (with_reducible refine Below.drew ?_) | (with_reducible refine below_drewN ?_ _) | omega | (simp; done) | (simp; omega))))).mono ?_
              rintro e w1 ⟨rfl, hb1⟩
              obtain ⟨hc1, hf1⟩ := bcell hb1
              have hz1 := hb1.size
              try simp at hz1
              have hl1_0 : w.heap.size < w1.heap.size := by omega
              go_wp2_with (fail)
              refine (HK.out _ (by (repeat' (first | (with_reducible exact Below.refl _ _) | (with_reducible assumption) | (refine below_next ?_ (by with_reducible assumption)) | (with_reducible refine Below.alloc ?_ ?_ _) | (with_reducible refine Below.drew ?_) | (with_reducible refine below_drewN ?_ _) | omega | (simp; done) | (simp; omega))))).mono ?_
              rintro e w2 ⟨rfl, hb2⟩
              obtain ⟨hc2, hf2⟩ := bcell hb2
              have hz2 := hb2.size
              try simp at hz2
              have hl2_0 : w.heap.size < w2.heap.size := by omega
              go_wp2_with (fail)
              refine (HV.out _ (by (repeat' (first | (with_reducible exact Below.refl _ _) | (with_reducible assumption) | (refine below_next ?_ (by with_reducible assumption)) | (with_reducible refine Below.alloc ?_ ?_ _) | (with_reducible refine Below.drew ?_) | (with_reducible refine below_drewN ?_ _) | omega | (simp; done) | (simp; omega))))).mono ?_
              rintro e w3 ⟨rfl, hb3⟩
              obtain ⟨hc3, hf3⟩ := bcell hb3
              have hz3 := hb3.size
              try simp at hz3
              have hl3_0 : w.heap.size < w3.heap.size := by omega
              go_wp2_with fail
              go_ret
              exact ⟨by rw [HR.out]; try rfl, by (repeat' (first | (with_reducible exact Below.refl _ _) | (with_reducible assumption) | (refine below_next ?_ (by with_reducible assumption)) | (with_reducible refine Below.alloc ?_ ?_ _) | (with_reducible refine Below.drew ?_) | (with_reducible refine below_drewN ?_ _) | omega | (simp; done) | (simp; omega)))⟩
        · rw [hl] at HM
          clear hl
          have hn2 : (k != 2) = true := by simpa using hk2
          have hn3 : (k != 3) = true := by simpa using hk3
          cases key with
          | cons c t =>
            have HR : RowKit.Hid (R = false) := Lib.hid (by rw [HM.out]; rfl)
            clear HM
            go_enter Tryd.func24, Tryd.ntmps24
            go_wp2_with (fail)
            refine (HS.out _ (by (repeat' (first | (with_reducible exact Below.refl _ _) | (with_reducible assumption) | (refine below_next ?_ (by with_reducible assumption)) | (with_reducible refine Below.alloc ?_ ?_ _) | (with_reducible refine Below.drew ?_) | (with_reducible refine below_drewN ?_ _) | omega | (simp; done) | (simp; omega))))).mono ?_
            rintro e w1 ⟨rfl, hb1⟩
            obtain ⟨hc1, hf1⟩ := bcell hb1
            have hz1 := hb1.size
            try simp at hz1
            have hl1_0 : w.heap.size < w1.heap.size := by omega
            go_wp2_with fail
            go_ret
            exact ⟨by rw [HR.out]; try rfl, by (repeat' (first | (with_reducible exact Below.refl _ _) | (with_reducible assumption) | (refine below_next ?_ (by with_reducible assumption)) | (with_reducible refine Below.alloc ?_ ?_ _) | (with_reducible refine Below.drew ?_) | (with_reducible refine below_drewN ?_ _) | omega | (simp; done) | (simp; omega)))⟩
          | nil =>
            have HR : RowKit.Hid (R = (vk == 0 && n == 0)) := Lib.hid (by rw [HM.out]; rfl)
            clear HM
            by_cases hv0 : vk = 0
            · subst hv0
              by_cases hn0 : n = 0
              · subst hn0
                go_enter Tryd.func24, Tryd.ntmps24
                go_wp2_with (fail)
                refine (HS.out _ (by (repeat' (first | (with_reducible exact Below.refl _ _) | (with_reducible assumption) | (refine below_next ?_ (by with_reducible assumption)) | (with_reducible refine Below.alloc ?_ ?_ _) | (with_reducible refine Below.drew ?_) | (with_reducible refine below_drewN ?_ _) | omega | (simp; done) | (simp; omega))))).mono ?_
                rintro e w1 ⟨rfl, hb1⟩
                obtain ⟨hc1, hf1⟩ := bcell hb1
                have hz1 := hb1.size
                try simp at hz1
                have hl1_0 : w.heap.size < w1.heap.size := by omega
                go_wp2_with fail
                go_ret
                exact ⟨by rw [HR.out]; try rfl, by (repeat' (first | (with_reducible exact Below.refl _ _) | (with_reducible assumption) | (refine below_next ?_ (by with_reducible assumption)) | (with_reducible refine Below.alloc ?_ ?_ _) | (with_reducible refine Below.drew ?_) | (with_reducible refine below_drewN ?_ _) | omega | (simp; done) | (simp; omega)))⟩
              · have b1 : (n == 0) = false := beq_eq_false_iff_ne.2 hn0
                rw [b1] at HR
                go_enter Tryd.func24, Tryd.ntmps24
                go_wp2_with (fail)
                refine (HS.out _ (by (repeat' (first | (with_reducible exact Below.refl _ _) | (with_reducible assumption) | (refine below_next ?_ (by with_reducible assumption)) | (with_reducible refine Below.alloc ?_ ?_ _) | (with_reducible refine Below.drew ?_) | (with_reducible refine below_drewN ?_ _) | omega | (simp; done) | (simp; omega))))).mono ?_
                rintro e w1 ⟨rfl, hb1⟩
                obtain ⟨hc1, hf1⟩ := bcell hb1
                have hz1 := hb1.size
                try simp at hz1
                have hl1_0 : w.heap.size < w1.heap.size := by omega
                go_wp2_with fail
                go_ret
                exact ⟨by rw [HR.out]; try rfl, by (repeat' (first | (with_reducible exact Below.refl _ _) | (with_reducible assumption) | (refine below_next ?_ (by with_reducible assumption)) | (with_reducible refine Below.alloc ?_ ?_ _) | (with_reducible refine Below.drew ?_) | (with_reducible refine below_drewN ?_ _) | omega | (simp; done) | (simp; omega)))⟩
            · have b1 : (vk == 0) = false := beq_eq_false_iff_ne.2 hv0
              rw [b1] at HR
              go_enter Tryd.func24, Tryd.ntmps24
              go_wp2_with (fail)
              refine (HS.out _ (by (repeat' (first | (with_reducible exact Below.refl _ _) | (with_reducible assumption) | (refine below_next ?_ (by with_reducible assumption)) | (with_reducible refine Below.alloc ?_ ?_ _) | (with_reducible refine Below.drew ?_) | (with_reducible refine below_drewN ?_ _) | omega | (simp; done) | (simp; omega))))).mono ?_
              rintro e w1 ⟨rfl, hb1⟩
              obtain ⟨hc1, hf1⟩ := bcell hb1
              have hz1 := hb1.size
              try simp at hz1
              have hl1_0 : w.heap.size < w1.heap.size := by omega
              go_wp2_with fail
              go_ret
              exact ⟨by rw [HR.out]; try rfl, by (repeat' (first | (with_reducible exact Below.refl _ _) | (with_reducible assumption) | (refine below_next ?_ (by with_reducible assumption)) | (with_reducible refine Below.alloc ?_ ?_ _) | (with_reducible refine Below.drew ?_) | (with_reducible refine below_drewN ?_ _) | omega | (simp; done) | (simp; omega)))⟩
    · have d2 : decide (k ≤ 6) = false := decide_eq_false h2
      have HR : RowKit.Hid (R = false) := Lib.hid (by rw [HM.out, d2]; rfl)
      clear HM d2
      go_enter Tryd.func24, Tryd.ntmps24
      go_wp2_with fail
      go_ret
      exact ⟨by rw [HR.out]; try rfl, by (repeat' (first | (with_reducible exact Below.refl _ _) | (with_reducible assumption) | (refine below_next ?_ (by with_reducible assumption)) | (with_reducible refine Below.alloc ?_ ?_ _) | (with_reducible refine Below.drew ?_) | (with_reducible refine below_drewN ?_ _) | omega | (simp; done) | (simp; omega)))⟩
  · have d1 : decide (1 ≤ k) = false := decide_eq_false h1
    have HR : RowKit.Hid (R = false) := Lib.hid (by rw [HM.out, d1]; rfl)
    clear HM d1
    go_enter Tryd.func24, Tryd.ntmps24
    go_wp2_with fail
    go_ret
    exact ⟨by rw [HR.out]; try rfl, by (repeat' (first | (with_reducible exact Below.refl _ _) | (with_reducible assumption) | (refine below_next ?_ (by with_reducible assumption)) | (with_reducible refine Below.alloc ?_ ?_ _) | (with_reducible refine Below.drew ?_) | (with_reducible refine below_drewN ?_ _) | omega | (simp; done) | (simp; omega)))⟩

end Go.Proofs.YtphhgdgamnogpaaDoor

namespace Go.Proofs.YtphhgdgamnogpaaDoor
open Go.RowKit Go.Lib

theorem textsC_two (W : World) (a b : List UInt8) (t : TypeId) : TextsC (W.alloc (.cells #[.string (bs a), .string (bs b)] t)) (.slice (some ⟨W.heap.size, 0, none⟩) 2 2) [a, b] := by
  refine ⟨_, 2, rfl, Nat.le_refl _, fun j hj => ⟨_, rfl, ?_⟩⟩
  rw [cell_of_row _ W.heap.size j _ _ (0, 0) (heap_alloc_new W _)]
  match j, hj with
  | 0, _ => rfl
  | 1, _ => rfl
theorem textsC_four (W : World) (a b c d : List UInt8) (t : TypeId) : TextsC (W.alloc (.cells #[.string (bs a), .string (bs b), .string (bs c), .string (bs d)] t)) (.slice (some ⟨W.heap.size, 0, none⟩) 4 4) [a, b, c, d] := by
  refine ⟨_, 4, rfl, Nat.le_refl _, fun j hj => ⟨_, rfl, ?_⟩⟩
  rw [cell_of_row _ W.heap.size j _ _ (0, 0) (heap_alloc_new W _)]
  match j, hj with
  | 0, _ => rfl
  | 1, _ => rfl
  | 2, _ => rfl
  | 3, _ => rfl
theorem kindW_len (k : Int) : (kindW k).length ≤ 5 := by
  unfold kindW
  (repeat' split) <;> simp
theorem may_range (x : EventM) (h : mayE x = true) : 1 ≤ x.1 ∧ x.1 ≤ 6 := by
  unfold mayE at h
  simp only [Bool.and_eq_true, decide_eq_true_eq] at h
  exact ⟨h.1, h.2.1⟩
theorem join2_len (a b : List UInt8) : (join [a, b] [32]).length = a.length + b.length + 1 := by
  rw [join_two, join_one]
  simp
  omega
theorem join4_len (a b c d : List UInt8) : (join [a, b, c, d] [32]).length = a.length + b.length + c.length + d.length + 3 := by
  rw [join_two, join_two, join_two, join_one]
  simp
  omega

set_option maxRecDepth 100000 in
set_option maxHeartbeats 4000000 in
theorem eprint_any (k : Int) (s key : List UInt8) (vk n ln : Int) (hs : s.length ≤ 1000000) (hk : key.length ≤ 1000000) (h0 : -9223372036854775808 ≤ n) (h1 : n ≤ 9223372036854775807) (w : World) (hT : Lib.Utf8Tabs 4 5 w) (hE : EvTab w) :
    Calls Tryd.prog 21 #[.agg #[.int .i64 k, .string (bs s), .string (bs key), .int .i64 vk, .int .i64 n, .int .i64 ln]] w fun e w' => e = .returned (.tuple #[.string (bs (lineE (k, s, key, vk, n, ln))), .int .i64 (errE (k, s, key, vk, n, ln))]) ∧ Below w.heap.size w w' := by
  have HM := Lib.hid (fun w' (h : Below w.heap.size w w') => emay_any k s key vk n ln hs hk w' (Utf8Tabs_below hT h))
  have HV := Lib.hid (fun w' (_ : Below w.heap.size w w') => vprint_any vk n h0 h1 w')
  have HE := Lib.hid (fun w' (h : Below w.heap.size w w') => hE.below h)
  have tl := txt_len vk n h0 h1
  clear hT hE h0 h1
  cases hm : mayE (k, s, key, vk, n, ln) with
  | false =>
    have HLine : RowKit.Hid (lineE (k, s, key, vk, n, ln) = []) := Lib.hid (by unfold lineE; rw [hm]; rfl)
    have HErr : RowKit.Hid (errE (k, s, key, vk, n, ln) = 4) := Lib.hid (by unfold errE; rw [hm]; rfl)
    rw [hm] at HM
    clear hm tl
    go_enter Tryd.func21, Tryd.ntmps21
    go_wp2_with (fail)
    refine (HM.out _ (by (repeat' (first | (with_reducible exact Below.refl _ _) | (with_reducible assumption) | (refine below_next ?_ (by with_reducible assumption)) | (with_reducible refine Below.alloc ?_ ?_ _) | (with_reducible refine Below.drew ?_) | (with_reducible refine below_drewN ?_ _) | omega | (simp; done) | (simp; omega))))).mono ?_
    rintro e w1 ⟨rfl, hb1⟩
    obtain ⟨hc1, hf1⟩ := bcell hb1
    have hz1 := hb1.size
    try simp at hz1
    have hl1_0 : w.heap.size < w1.heap.size := by omega
    go_wp2_with fail
    go_ret2
    exact ⟨by rw [HLine.out, HErr.out]; rfl, by (repeat' (first | (with_reducible exact Below.refl _ _) | (with_reducible assumption) | (refine below_next ?_ (by with_reducible assumption)) | (with_reducible refine Below.alloc ?_ ?_ _) | (with_reducible refine Below.drew ?_) | (with_reducible refine below_drewN ?_ _) | omega | (simp; done) | (simp; omega)))⟩
  | true =>
    have hr := may_range _ hm
    obtain ⟨i, rfl⟩ := Int.eq_ofNat_of_zero_le (show (0 : Int) ≤ k by have := hr.1; simp only at this; omega)
    have hi1 : 1 ≤ i := by have := hr.1; simp only at this; omega
    have hi6 : i ≤ 6 := by have := hr.2; simp only at this; omega
    have HErr : RowKit.Hid (errE ((i : Int), s, key, vk, n, ln) = 0) := Lib.hid (by unfold errE; rw [hm]; rfl)
    have hkl := kindW_len (i : Int)
    cases hl : longK (i : Int) with
    | false =>
      have HLine : RowKit.Hid (lineE ((i : Int), s, key, vk, n, ln) = join [kindW (i : Int), s] [32]) := Lib.hid (by unfold lineE wordsE; rw [hm, if_pos rfl, hl]; rfl)
      have HLen := Lib.hid (show (join [kindW (i : Int), s] [32]).length ≤ 10000000 by rw [join2_len]; omega)
      have HL := Lib.hid (long_any (i : Int))
      rw [hm] at HM
      rw [hl] at HL
      clear hm hl hr tl hkl
      go_enter Tryd.func21, Tryd.ntmps21
      go_wp2_with (fail)
      refine (HM.out _ (by (repeat' (first | (with_reducible exact Below.refl _ _) | (with_reducible assumption) | (refine below_next ?_ (by with_reducible assumption)) | (with_reducible refine Below.alloc ?_ ?_ _) | (with_reducible refine Below.drew ?_) | (with_reducible refine below_drewN ?_ _) | omega | (simp; done) | (simp; omega))))).mono ?_
      rintro e w1 ⟨rfl, hb1⟩
      obtain ⟨hc1, hf1⟩ := bcell hb1
      have hz1 := hb1.size
      try simp at hz1
      have hl1_0 : w.heap.size < w1.heap.size := by omega
      have q0 : w1.cell? ⟨w.heap.size, 0, none⟩ = some (.int .i64 (i : Int)) := by go_simp
      have q1 : w1.cell? ⟨w.heap.size, 1, none⟩ = some (.string (bs s)) := by go_simp
      have hbx : Below w.heap.size w w1 := by (repeat' (first | (with_reducible exact Below.refl _ _) | (with_reducible assumption) | (refine below_next ?_ (by with_reducible assumption)) | (with_reducible refine Below.alloc ?_ ?_ _) | (with_reducible refine Below.drew ?_) | (with_reducible refine below_drewN ?_ _) | omega | (simp; done) | (simp; omega)))
      go_wp2_with fail
      refine (HL.out _).mono ?_
      rintro e wl ⟨rfl, rfl⟩
      go_wp2_with fail
      have HS : RowKit.Hid (∀ w', Below w1.heap.size w1 w' → (w'.cell? ⟨w.heap.size, 0, none⟩ = some (.int .i64 (i : Int)) ∧ w'.cell? ⟨w.heap.size, 1, none⟩ = some (.string (bs s)) ∧ w'.cell? ⟨1, i, none⟩ = some (.string (bs (kindW i))) ∧ Below w1.heap.size w1 w')) := Lib.hid (fun w' hb => ⟨cell_later hb q0, cell_later hb q1, cell_later hb (HE.out _ hbx i (by omega)), hb⟩)
      have hi0 : (0 : Int) ≤ (i : Int) := by omega
      have hi7 : (i : Int) < 7 := by omega
      go_region_held3 (fun w' => w'.cell? ⟨w.heap.size, 0, none⟩ = some (.int .i64 (i : Int)) ∧ w'.cell? ⟨w.heap.size, 1, none⟩ = some (.string (bs s)) ∧ w'.cell? ⟨1, i, none⟩ = some (.string (bs (kindW i))) ∧ Below w1.heap.size w1 w')
        ((go_split_ands; exact HS.out _ (by (repeat' (first | (with_reducible exact Below.refl _ _) | (with_reducible assumption) | (refine below_next ?_ (by with_reducible assumption)) | (with_reducible refine Below.alloc ?_ ?_ _) | (with_reducible refine Below.drew ?_) | omega | (simp; done) | (simp; omega))))))
        ((go_split_ands; first
          | (go_at_call 58; refine (sjoin_any _ _ [kindW (i : Int), s] (by first | exact textsC_two _ _ _ _ | exact textsC_four _ _ _ _ _ _) (by simp) HLen.out).mono ?_; rintro e w9 ⟨rfl, hb9⟩)))
      all_goals
        go_split_ands
        go_wp2_with fail
        go_ret2
        exact ⟨by rw [HLine.out, HErr.out]; rfl, by (repeat' (first | (with_reducible exact Below.refl _ _) | (with_reducible assumption) | (refine below_next ?_ (by with_reducible assumption)) | (with_reducible refine Below.alloc ?_ ?_ _) | (with_reducible refine Below.drew ?_) | (with_reducible refine below_drewN ?_ _) | omega | (simp; done) | (simp; omega)))⟩
    | true =>
      have HLine : RowKit.Hid (lineE ((i : Int), s, key, vk, n, ln) = join [kindW (i : Int), s, key, vTxt vk n] [32]) := Lib.hid (by unfold lineE wordsE; rw [hm, if_pos rfl, hl]; rfl)
      have HLen := Lib.hid (show (join [kindW (i : Int), s, key, vTxt vk n] [32]).length ≤ 10000000 by rw [join4_len]; omega)
      have HL := Lib.hid (long_any (i : Int))
      rw [hm] at HM
      rw [hl] at HL
      clear hm hl hr tl hkl
      go_enter Tryd.func21, Tryd.ntmps21
      go_wp2_with (fail)
      refine (HM.out _ (by (repeat' (first | (with_reducible exact Below.refl _ _) | (with_reducible assumption) | (refine below_next ?_ (by with_reducible assumption)) | (with_reducible refine Below.alloc ?_ ?_ _) | (with_reducible refine Below.drew ?_) | (with_reducible refine below_drewN ?_ _) | omega | (simp; done) | (simp; omega))))).mono ?_
      rintro e w1 ⟨rfl, hb1⟩
      obtain ⟨hc1, hf1⟩ := bcell hb1
      have hz1 := hb1.size
      try simp at hz1
      have hl1_0 : w.heap.size < w1.heap.size := by omega
      have q0' : w1.cell? ⟨w.heap.size, 0, none⟩ = some (.int .i64 (i : Int)) := by go_simp
      have q1' : w1.cell? ⟨w.heap.size, 1, none⟩ = some (.string (bs s)) := by go_simp
      have q2' : w1.cell? ⟨w.heap.size, 2, none⟩ = some (.string (bs key)) := by go_simp
      go_wp2_with fail
      refine (HL.out _).mono ?_
      rintro e wl ⟨rfl, rfl⟩
      go_wp2_with (fail)
      refine (HV.out _ (by (repeat' (first | (with_reducible exact Below.refl _ _) | (with_reducible assumption) | (refine below_next ?_ (by with_reducible assumption)) | (with_reducible refine Below.alloc ?_ ?_ _) | (with_reducible refine Below.drew ?_) | (with_reducible refine below_drewN ?_ _) | omega | (simp; done) | (simp; omega))))).mono ?_
      rintro e w2 ⟨rfl, hb2⟩
      obtain ⟨hc2, hf2⟩ := bcell hb2
      have hz2 := hb2.size
      try simp at hz2
      have hl2_0 : w.heap.size < w2.heap.size := by omega
      have q0 := cell_later hb2 q0'
      have q1 := cell_later hb2 q1'
      have q2 := cell_later hb2 q2'
      have hbx : Below w.heap.size w w2 := by (repeat' (first | (with_reducible exact Below.refl _ _) | (with_reducible assumption) | (refine below_next ?_ (by with_reducible assumption)) | (with_reducible refine Below.alloc ?_ ?_ _) | (with_reducible refine Below.drew ?_) | (with_reducible refine below_drewN ?_ _) | omega | (simp; done) | (simp; omega)))
      clear q0' q1' q2'
      go_wp2_with fail
      have HS : RowKit.Hid (∀ w', Below w2.heap.size w2 w' → (w'.cell? ⟨w.heap.size, 0, none⟩ = some (.int .i64 (i : Int)) ∧ w'.cell? ⟨w.heap.size, 1, none⟩ = some (.string (bs s)) ∧ w'.cell? ⟨1, i, none⟩ = some (.string (bs (kindW i))) ∧ w'.cell? ⟨w.heap.size, 2, none⟩ = some (.string (bs key)) ∧ Below w2.heap.size w2 w')) := Lib.hid (fun w' hb => ⟨cell_later hb q0, cell_later hb q1, cell_later hb (HE.out _ hbx i (by omega)), cell_later hb q2, hb⟩)
      have hi0 : (0 : Int) ≤ (i : Int) := by omega
      have hi7 : (i : Int) < 7 := by omega
      go_region_held3 (fun w' => w'.cell? ⟨w.heap.size, 0, none⟩ = some (.int .i64 (i : Int)) ∧ w'.cell? ⟨w.heap.size, 1, none⟩ = some (.string (bs s)) ∧ w'.cell? ⟨1, i, none⟩ = some (.string (bs (kindW i))) ∧ w'.cell? ⟨w.heap.size, 2, none⟩ = some (.string (bs key)) ∧ Below w2.heap.size w2 w')
        ((go_split_ands; exact HS.out _ (by (repeat' (first | (with_reducible exact Below.refl _ _) | (with_reducible assumption) | (refine below_next ?_ (by with_reducible assumption)) | (with_reducible refine Below.alloc ?_ ?_ _) | (with_reducible refine Below.drew ?_) | omega | (simp; done) | (simp; omega))))))
        ((go_split_ands; first
          | (go_at_call 58; refine (sjoin_any _ _ [kindW (i : Int), s, key, vTxt vk n] (by first | exact textsC_two _ _ _ _ | exact textsC_four _ _ _ _ _ _) (by simp) HLen.out).mono ?_; rintro e w9 ⟨rfl, hb9⟩)))
      all_goals
        go_split_ands
        go_wp2_with fail
        go_ret2
        exact ⟨by rw [HLine.out, HErr.out]; rfl, by (repeat' (first | (with_reducible exact Below.refl _ _) | (with_reducible assumption) | (refine below_next ?_ (by with_reducible assumption)) | (with_reducible refine Below.alloc ?_ ?_ _) | (with_reducible refine Below.drew ?_) | (with_reducible refine below_drewN ?_ _) | omega | (simp; done) | (simp; omega)))⟩
end Go.Proofs.YtphhgdgamnogpaaDoor

namespace Go.Proofs.YtphhgdgamnogpaaDoor
open Go.RowKit

theorem build_ev0 (w : World) : (Instr.build 37 #[]).run Tryd.prog w = .ok (.agg #[.int .i64 0, .string (bs []), .string (bs []), .int .i64 0, .int .i64 0, .int .i64 0]) w := by kernel_rfl
theorem build_ev2 (k : Int) (s : ByteArray) (w : World) : (Instr.build 37 #[(0, .int .i64 k), (1, .string s)]).run Tryd.prog w = .ok (.agg #[.int .i64 k, .string s, .string (bs []), .int .i64 0, .int .i64 0, .int .i64 0]) w := by kernel_rfl
theorem build_ev4 (k a b : Int) (s key : ByteArray) (w : World) : (Instr.build 37 #[(0, .int .i64 k), (1, .string s), (2, .string key), (3, .agg #[.int .i64 a, .int .i64 b])]).run Tryd.prog w = .ok (.agg #[.int .i64 k, .string s, .string key, .int .i64 a, .int .i64 b, .int .i64 0]) w := by kernel_rfl
/-- An event is stored. -/
theorem store_ev (w : World) (b : Nat) (k vk n ln : Int) (s key : ByteArray) (h : w.there b 0 6) : (Instr.storeAt 37 (.pointer (some ⟨b, 0, none⟩)) (.agg #[.int .i64 k, .string s, .string key, .int .i64 vk, .int .i64 n, .int .i64 ln])).run Tryd.prog w = .ok () ((((((w.setCell ⟨b, 0, none⟩ (.int .i64 k)).setCell ⟨b, 1, none⟩ (.string s)).setCell ⟨b, 2, none⟩ (.string key)).setCell ⟨b, 3, none⟩ (.int .i64 vk)).setCell ⟨b, 4, none⟩ (.int .i64 n)).setCell ⟨b, 5, none⟩ (.int .i64 ln)) :=
  run_storeAt_mid (P := Tryd.prog) w b 0 37 #[.int .i64 k, .string s, .string key, .int .i64 vk, .int .i64 n, .int .i64 ln] h (by kernel_rfl) (by simp [Value.oneCell'])
theorem free_blk {w : World} {g : Nat} {t : TypeId} {C : Array Value} (h : w.heap[g]? = some (.cells C t (0, 0))) (i : Nat) : w.frozen? ⟨g, i, none⟩ = false := by simp [World.frozen?, h]
theorem storeVar_ev (w : World) (b : Nat) (k vk n ln : Int) (s key : ByteArray) (h : w.there b 0 6) : (storeVar 37 ⟨b, 0, none⟩ (.agg #[.int .i64 k, .string s, .string key, .int .i64 vk, .int .i64 n, .int .i64 ln])).run Tryd.prog w = .ok () ((((((w.setCell ⟨b, 0, none⟩ (.int .i64 k)).setCell ⟨b, 1, none⟩ (.string s)).setCell ⟨b, 2, none⟩ (.string key)).setCell ⟨b, 3, none⟩ (.int .i64 vk)).setCell ⟨b, 4, none⟩ (.int .i64 n)).setCell ⟨b, 5, none⟩ (.int .i64 ln)) :=
  run_storeVar_mid (P := Tryd.prog) w b 0 37 #[.int .i64 k, .string s, .string key, .int .i64 vk, .int .i64 n, .int .i64 ln] h (by kernel_rfl) (by simp [Value.oneCell'])
/-- Six cells that lie there, in a new block, later on, behind an allocation, behind a store. -/
theorem there_new (w : World) (t : TypeId) (a0 a1 a2 a3 a4 a5 : Value) : (w.alloc (.cells #[a0, a1, a2, a3, a4, a5] t)).there w.heap.size 0 6 := by
  intro j hj
  have hb := heap_alloc_new w (.cells #[a0, a1, a2, a3, a4, a5] t)
  rw [Nat.zero_add]
  refine ⟨?_, free_blk hb j⟩
  rw [cell_of_row _ w.heap.size j _ _ (0, 0) hb]
  match j, hj with
  | 0, _ => rfl
  | 1, _ => rfl
  | 2, _ => rfl
  | 3, _ => rfl
  | 4, _ => rfl
  | 5, _ => rfl
theorem there_later {w w' : World} {b o n : Nat} (h : w.there b o n) (hb : Below w.heap.size w w') : w'.there b o n := by
  intro j hj
  obtain ⟨h1, h2⟩ := h j hj
  obtain ⟨v, hv⟩ := Option.isSome_iff_exists.1 h1
  have hl := World.block_lt_of_cell? w _ hv
  rw [hb.cell hl, hb.frozen hl]
  exact ⟨h1, h2⟩
theorem there_past {w : World} {b o n : Nat} (h : w.there b o n) : ∀ ob, (w.alloc ob).there b o n := fun ob => World.there_alloc h ob
theorem there_set {w : World} {b o n : Nat} (h : w.there b o n) (a : Addr) (v : Value) : (w.setCell a v).there b o n := by
  intro j hj
  obtain ⟨h1, h2⟩ := h j hj
  obtain ⟨u, hu⟩ := Option.isSome_iff_exists.1 h1
  obtain ⟨u', hu'⟩ := cell?_setCell_some (w := w) (p := a) (x := v) (q := ⟨b, o + j, none⟩) (v := u) hu
  exact ⟨by rw [hu']; rfl, by rw [World.frozen?_setCell]; exact h2⟩
theorem range_ev (w : World) (b : Nat) (k vk n ln : Int) (s key : ByteArray) (h : w.there b 0 6) : ((((((w.setCell ⟨b, 0, none⟩ (.int .i64 k)).setCell ⟨b, 1, none⟩ (.string s)).setCell ⟨b, 2, none⟩ (.string key)).setCell ⟨b, 3, none⟩ (.int .i64 vk)).setCell ⟨b, 4, none⟩ (.int .i64 n)).setCell ⟨b, 5, none⟩ (.int .i64 ln)).rangeAt b 0 [.int .i64 k, .string s, .string key, .int .i64 vk, .int .i64 n, .int .i64 ln] :=
  World.rangeAt_setCells_same w b 0 [.int .i64 k, .string s, .string key, .int .i64 vk, .int .i64 n, .int .i64 ln] h
/-- An event that was just stored is loaded. -/
theorem load_ev (w : World) (b : Nat) (k vk n ln : Int) (s key : ByteArray) (h : w.there b 0 6) : (Instr.loadAt 37 (.pointer (some ⟨b, 0, none⟩))).run Tryd.prog ((((((w.setCell ⟨b, 0, none⟩ (.int .i64 k)).setCell ⟨b, 1, none⟩ (.string s)).setCell ⟨b, 2, none⟩ (.string key)).setCell ⟨b, 3, none⟩ (.int .i64 vk)).setCell ⟨b, 4, none⟩ (.int .i64 n)).setCell ⟨b, 5, none⟩ (.int .i64 ln)) = .ok (.agg #[.int .i64 k, .string s, .string key, .int .i64 vk, .int .i64 n, .int .i64 ln]) ((((((w.setCell ⟨b, 0, none⟩ (.int .i64 k)).setCell ⟨b, 1, none⟩ (.string s)).setCell ⟨b, 2, none⟩ (.string key)).setCell ⟨b, 3, none⟩ (.int .i64 vk)).setCell ⟨b, 4, none⟩ (.int .i64 n)).setCell ⟨b, 5, none⟩ (.int .i64 ln)) :=
  run_loadAt_mid _ b 0 37 [.int .i64 k, .string s, .string key, .int .i64 vk, .int .i64 n, .int .i64 ln] _ (range_ev w b k vk n ln s key h) Tryd.underlying37 rfl (by kernel_rfl)
theorem loadVar_ev (w : World) (b : Nat) (k vk n ln : Int) (s key : ByteArray) (h : w.there b 0 6) : (loadVar 37 ⟨b, 0, none⟩).run Tryd.prog ((((((w.setCell ⟨b, 0, none⟩ (.int .i64 k)).setCell ⟨b, 1, none⟩ (.string s)).setCell ⟨b, 2, none⟩ (.string key)).setCell ⟨b, 3, none⟩ (.int .i64 vk)).setCell ⟨b, 4, none⟩ (.int .i64 n)).setCell ⟨b, 5, none⟩ (.int .i64 ln)) = .ok (.agg #[.int .i64 k, .string s, .string key, .int .i64 vk, .int .i64 n, .int .i64 ln]) ((((((w.setCell ⟨b, 0, none⟩ (.int .i64 k)).setCell ⟨b, 1, none⟩ (.string s)).setCell ⟨b, 2, none⟩ (.string key)).setCell ⟨b, 3, none⟩ (.int .i64 vk)).setCell ⟨b, 4, none⟩ (.int .i64 n)).setCell ⟨b, 5, none⟩ (.int .i64 ln)) :=
  run_loadVar_mid _ b 0 37 [.int .i64 k, .string s, .string key, .int .i64 vk, .int .i64 n, .int .i64 ln] _ (range_ev w b k vk n ln s key h) Tryd.underlying37 rfl (by kernel_rfl)
theorem below_setCells {B : Nat} {w w' : World} (h : Below B w w') {b : Nat} (hb : B ≤ b) : ∀ (vs : List Value) (o : Nat), Below B w (w'.setCells b o vs)
  | [], _ => h
  | v :: vs, o => below_setCells (h.setCell (p := ⟨b, o, none⟩) hb v) hb vs (o + 1)
theorem there_set' {w : World} {b n : Nat} {a : Addr} {v : Value} (h : w.there b 0 n) : (w.setCell a v).there b 0 n ↔ True := iff_true_intro (there_set h a v)
end Go.Proofs.YtphhgdgamnogpaaDoor

namespace Go.Proofs.YtphhgdgamnogpaaDoor
open Go.RowKit

set_option maxRecDepth 100000 in
set_option maxHeartbeats 1000000 in
theorem rkinds_any (w : World) :
    Calls Tryd.prog 60 #[] w fun e w' => e = .returned (.slice (some ⟨w.heap.size, 0, none⟩) 7 7) ∧ (∀ i : Nat, i < 7 → w'.cell? ⟨w.heap.size, i, none⟩ = some (.string (bs (kindW i)))) ∧ w.heap.size < w'.heap.size ∧ Below w.heap.size w w' := by
  have K : ∀ i : Nat, i < 7 → (w.alloc (.cells #[.string (bs []), .string (bs [98, 101, 103, 105, 110]), .string (bs [114, 101, 97, 100]), .string (bs [119, 114, 105, 116, 101]), .string (bs [111, 107]), .string (bs [102, 97, 105, 108]), .string (bs [105, 110, 102, 111])] 9)).cell? ⟨w.heap.size, i, none⟩ = some (.string (bs (kindW i))) := by
    intro i hi
    rw [cell_of_row _ w.heap.size i _ _ (0, 0) (heap_alloc_new w _), kindW_at i hi]
    match i, hi with
    | 0, _ => rfl
    | 1, _ => rfl
    | 2, _ => rfl
    | 3, _ => rfl
    | 4, _ => rfl
    | 5, _ => rfl
    | 6, _ => rfl
  have HK := Lib.hid K
  clear K
  go_enter Tryd.func60, Tryd.ntmps60
  go_wp2
  go_ret
  exact ⟨rfl, HK.out, by simp, (Below.refl _ _).alloc (Nat.le_refl _) _⟩

theorem valued_cases (k : Int) (s key t : List UInt8) : (∃ a b c, vParse t = (a, b, c) ∧ (c != 0) = true ∧ valuedE k s key t = (noEv, c)) ∨
    (∃ b, k = 3 ∧ vParse t = (0, b, 0) ∧ valuedE k s key t = (noEv, 11)) ∨ (∃ b, k = 3 ∧ vParse t = (2, b, 0) ∧ valuedE k s key t = (noEv, 5)) ∨
    (∃ a b, vParse t = (a, b, 0) ∧ (k == 3) = false ∧ valuedE k s key t = ((k, s, key, a, b, 0), 0)) ∨
    (∃ a b, k = 3 ∧ vParse t = (a, b, 0) ∧ (a == 0) = false ∧ (a == 2) = false ∧ valuedE k s key t = ((k, s, key, a, b, 0), 0)) := by
  obtain ⟨a, b, c, hp⟩ : ∃ a b c, vParse t = (a, b, c) := ⟨_, _, _, rfl⟩
  unfold valuedE
  rw [hp]
  by_cases hc : c = 0
  · subst hc
    rw [if_neg (by simp)]
    by_cases hk : k = 3
    · by_cases h0 : a = 0
      · subst h0
        exact .inr (.inl ⟨b, hk, rfl, by rw [if_pos ⟨hk, rfl⟩]⟩)
      · by_cases h2 : a = 2
        · subst h2
          exact .inr (.inr (.inl ⟨b, hk, rfl, by rw [if_neg (fun h => h0 h.2), if_pos ⟨hk, rfl⟩]⟩))
        · exact .inr (.inr (.inr (.inr ⟨a, b, hk, rfl, by simpa using h0, by simpa using h2, by rw [if_neg (fun h => h0 h.2), if_neg (fun h => h2 h.2)]⟩)))
    · exact .inr (.inr (.inr (.inl ⟨a, b, rfl, by simpa using hk, by rw [if_neg (fun h => hk h.1), if_neg (fun h => hk h.1)]⟩)))
  · exact .inl ⟨a, b, c, rfl, by simpa using hc, by rw [if_pos hc]⟩

section
attribute [local go_sem ↓] store_ev
set_option maxRecDepth 100000 in
set_option maxHeartbeats 2000000 in
theorem valued_any (k : Int) (s key t : List UInt8) (ht : t.length ≤ 9223372036854775806) (w : World) :
    Calls Tryd.prog 67 #[.int .i64 k, .string (bs s), .string (bs key), .string (bs t)] w fun e w' => e = .returned (.tuple #[evV (valuedE k s key t).1, .int .i64 (valuedE k s key t).2]) ∧ Below w.heap.size w w' := by
  have T0 := Lib.hid (there_new w 37 (.int .i64 0) (.string { data := #[] }) (.string { data := #[] }) (.int .i64 0) (.int .i64 0) (.int .i64 0))
  rcases valued_cases k s key t with ⟨a, b, c, hp, hc, h⟩ | ⟨b, rfl, hp, h⟩ | ⟨b, rfl, hp, h⟩ | ⟨a, b, hp, hk, h⟩ | ⟨a, b, rfl, hp, h0, h2, h⟩
  all_goals
    have HV := Lib.hid (vparse_of t _ _ _ ht hp)
    rw [h]
    clear h hp
    go_enter Tryd.func67, Tryd.ntmps67
    go_wp2_with (fail)
    refine (HV.out _).mono ?_
    rintro e w1 ⟨rfl, hb1⟩
    obtain ⟨hc1, hf1⟩ := bcell hb1
    have hz1 := hb1.size
    try simp at hz1
    have hl1_0 : w.heap.size < w1.heap.size := by omega
    have hl1_0_1 : w.heap.size < w1.heap.size + 1 := by omega
    have th := there_past (there_later T0.out hb1)
    go_wp21
    refine bodyPost_ret ?_ rfl ⟨rfl, ?_⟩
    · simp [results, Tryd.results67, go_sem, hc1, hl1_0, evV, noEv]
      try rfl
    · (repeat' (first | (with_reducible exact Below.refl _ _) | (with_reducible assumption) | (refine below_next ?_ (by with_reducible assumption)) | (with_reducible refine Below.setCell ?_ ?_ _) | (with_reducible refine Below.alloc ?_ ?_ _) | (with_reducible refine Below.drew ?_) | (with_reducible refine below_drewN ?_ _) | omega | (simp; done) | (simp; omega)))
end
end Go.Proofs.YtphhgdgamnogpaaDoor

namespace Go.Proofs.YtphhgdgamnogpaaDoor
open Go.RowKit

section
variable {P : Program} {ops : Array Oper} {Q : Exit → Act → World → Prop} {md : Region.Mode} {S : World → Prop} {late : List Nat}

/-- Whatever order is picked from here on, and S holds behind every operation but the late ones. -/
def wpAnyL (P : Program) (md : Region.Mode) (ops : Array Oper) (Q : Exit → Act → World → Prop) (S : World → Prop) (late : List Nat) : Nat → Array Bool → Act → World → Prop
  | 0, listed, a, w => Region.ready md ops listed = [] ∧ Q .normal a w
  | fuel + 1, listed, a, w =>
    (Region.ready md ops listed = [] → Q .normal a w) ∧
    ∀ i ∈ Region.ready md ops listed, wpOp P ops Q i (fun a' w' => (late.contains i = false → S w') ∧ wpAnyL P md ops Q S late fuel (listed.setIfInBounds i true) a' w') a w
theorem wpAny_of_late : ∀ (fuel : Nat) (listed : Array Bool) (a : Act) (w : World), wpAnyL P md ops Q S late fuel listed a w → wpAny P md ops Q fuel listed a w
  | 0, _, _, _, h => h
  | fuel + 1, _, _, _, h => ⟨h.1, fun i hi => wpOp_mono (fun a' w' h' => wpAny_of_late fuel _ a' w' h'.2) (h.2 i hi)⟩
/-- Does one operation wait for another one, in so many steps at most? -/
def waitsN (md : Region.Mode) (ops : Array Oper) : Nat → Nat → Nat → Bool
  | 0, _, _ => false
  | n + 1, l, i => match ops[l]? with
    | some o => o.after.any fun e => Region.binds md e && (e.on == i || waitsN md ops n e.on i)
    | none => false
/-- What came up had all that it waits for. -/
def closedB (md : Region.Mode) (ops : Array Oper) (listed : Array Bool) : Bool := (List.range ops.size).all fun j => !listed.getD j true || match ops[j]? with
  | some o => o.after.all fun e => !Region.binds md e || listed.getD e.on true
  | none => true
def Closed (md : Region.Mode) (ops : Array Oper) (listed : Array Bool) : Prop := ∀ j o, ops[j]? = some o → listed.getD j true = true → ∀ e ∈ o.after, Region.binds md e = true → listed.getD e.on true = true
theorem closed_of {listed : Array Bool} (h : closedB md ops listed = true) : Closed md ops listed := by
  intro j o ho hj e he hb
  have hlt : j < ops.size := (Array.getElem?_eq_some_iff.1 ho).1
  have h1 := List.all_eq_true.1 h j (List.mem_range.2 hlt)
  simp only [hj, Bool.not_true, Bool.false_or, ho] at h1
  have h2 := Array.all_eq_true_iff_forall_mem.1 h1 e he
  simpa [hb] using h2
theorem ready_on {listed : Array Bool} {j : Nat} {o : Oper} (hj : j ∈ Region.ready md ops listed) (ho : ops[j]? = some o) : ∀ e ∈ o.after, Region.binds md e = true → listed.getD e.on true = true := by
  intro e he hb
  obtain ⟨-, o', ho', hall⟩ := mem_ready.1 hj
  obtain rfl := Option.some.inj (ho.symm.trans ho')
  have h1 := hall e he hb
  rcases Nat.lt_or_ge e.on listed.size with h' | h'
  · simp [h'] at h1 ⊢; exact h1
  · simp [Array.getElem?_eq_none h'] at h1
theorem Closed.next {listed : Array Bool} (h : Closed md ops listed) {j : Nat} (hj : j ∈ Region.ready md ops listed) : Closed md ops (listed.setIfInBounds j true) := by
  have up : ∀ k, listed.getD k true = true → (listed.setIfInBounds j true).getD k true = true := by
    intro k hk
    by_cases hjk : j = k
    · subst hjk
      rcases Nat.lt_or_ge j listed.size with h' | h'
      · simp [h']
      · simp
    · rw [getD_set_ne true hjk]; exact hk
  intro k o ho hk e he hb
  apply up
  by_cases hjk : j = k
  · subst hjk
    exact ready_on hj ho e he hb
  · rw [getD_set_ne true hjk] at hk
    exact h k o ho hk e he hb
theorem waits_open {i : Nat} {listed : Array Bool} (hc : Closed md ops listed) (hi : listed.getD i true = false) : ∀ n l, waitsN md ops n l i = true → listed.getD l true = false ∧ l ∉ Region.ready md ops listed
  | 0, _, h => by cases h
  | n + 1, l, h => by
    unfold waitsN at h
    split at h
    · rename_i o ho
      obtain ⟨e, he, hb⟩ := Array.any_eq_true'.1 h
      simp only [Bool.and_eq_true, Bool.or_eq_true, beq_iff_eq] at hb
      have hne : listed.getD e.on true = false := by
        rcases hb.2 with h1 | h1
        · rw [h1]; exact hi
        · exact (waits_open hc hi n e.on h1).1
      constructor
      · cases hl : listed.getD l true with
        | false => rfl
        | true => rw [hc l o ho hl e he hb.1] at hne; cases hne
      · intro hr
        rw [ready_on hr ho e he hb.1] at hne
        cases hne
    · cases h
theorem wpAnyL_first {i n : Nat} {oi : Oper} {v : Value} (hi : ops[i]? = some oi) (hsel : ∀ (j : Nat) (o : Oper) cs b, ops[j]? = some o → o.op ≠ .select cs b)
    (hQ : ∀ c a w, Q (.panic c) (a.put oi.dst v) w → Q (.panic c) a w) (hw : late.all (fun l => waitsN md ops n l i) = true) :
    ∀ (fuel : Nat) (listed : Array Bool) (a : Act) (w : World), Closed md ops listed →
      (∀ j oj, ops[j]? = some oj → j ≠ i → listed.getD j true = false → (∀ e ∈ oj.after, Region.binds md e = true → e.on ≠ i) → oi.apart ops oj = true) →
      i ∈ Region.ready md ops listed → YieldsIf P ops S oi v a → S w →
      wpAnyL P md ops Q S late fuel (listed.setIfInBounds i true) (a.put oi.dst v) w → wpAnyL P md ops Q S late (fuel + 1) listed a w := by
  intro fuel
  induction fuel with
  | zero =>
    intro listed a w _ _ hr hy hS H
    refine ⟨fun h => (by rw [h] at hr; cases hr), fun j hj => ?_⟩
    by_cases hji : j = i
    · subst hji; exact hy.wpOp hi hS ⟨fun _ => hS, H⟩
    · have := ready_mono hj hji
      rw [H.1] at this
      cases this
  | succ fuel ih =>
    intro listed a w hcl hfree hr hy hS H
    refine ⟨fun h => (by rw [h] at hr; cases hr), fun j hj => ?_⟩
    by_cases hji : j = i
    · subst hji; exact hy.wpOp hi hS ⟨fun _ => hS, H⟩
    · have hjl : late.contains j = false := by
        cases hc : late.contains j with
        | false => rfl
        | true =>
          have hm : j ∈ late := by simpa using hc
          exact absurd hj (waits_open hcl (mem_ready.1 hr).1 n j (List.all_eq_true.1 hw j hm)).2
      have h1 := H.2 j (ready_mono hj hji)
      obtain ⟨hjun, oj, hoj, hall⟩ := mem_ready.1 hj
      have hnot : ∀ e ∈ oj.after, Region.binds md e = true → e.on ≠ i := fun e he hb heq => by
        have h1 := hall e he hb
        have h0 := (mem_ready.1 hr).1
        rw [heq] at h1
        rcases Nat.lt_or_ge i listed.size with h' | h'
        · simp [h'] at h0 h1; rw [h0] at h1; cases h1
        · simp [Array.getElem?_eq_none h'] at h1
      have h2 := wpOp_putIf hoj (hfree j oj hoj hji hjun hnot) (fun cs b => hsel i oi cs b hi) (fun cs b => hsel j oj cs b hoj) hQ hy h1
      have hfree' : ∀ k ok, ops[k]? = some ok → k ≠ i → (listed.setIfInBounds j true).getD k true = false →
          (∀ e ∈ ok.after, Region.binds md e = true → e.on ≠ i) → oi.apart ops ok = true := fun k ok hk hki hun hno => by
        refine hfree k ok hk hki ?_ hno
        by_cases hjk : j = k
        · subst hjk; exact hjun
        · rw [getD_set_ne true hjk] at hun; exact hun
      refine wpOp_mono (fun a' w' h3 => ⟨fun _ => h3.2.1 hjl, ih (listed.setIfInBounds j true) a' w' (hcl.next hj) hfree' (ready_mono hr (Ne.symm hji)) h3.1 (h3.2.1 hjl) ?_⟩) h2
      rw [Array.setIfInBounds_comm _ _ hji]
      exact h3.2.2
theorem wpAnyL_loose {i : Nat} {oi : Oper} {v : Value} (hi : ops[i]? = some oi) (hsel : ∀ (j : Nat) (o : Oper) cs b, ops[j]? = some o → o.op ≠ .select cs b)
    (hQ : ∀ c a w, Q (.panic c) (a.put oi.dst v) w → Q (.panic c) a w) (hl : late.contains i = true) :
    ∀ (fuel : Nat) (listed : Array Bool) (a : Act) (w : World),
      (∀ j oj, ops[j]? = some oj → j ≠ i → listed.getD j true = false → (∀ e ∈ oj.after, Region.binds md e = true → e.on ≠ i) → oi.apart ops oj = true) →
      i ∈ Region.ready md ops listed → YieldsIf P ops (fun _ => True) oi v a →
      wpAnyL P md ops Q S late fuel (listed.setIfInBounds i true) (a.put oi.dst v) w → wpAnyL P md ops Q S late (fuel + 1) listed a w := by
  intro fuel
  induction fuel with
  | zero =>
    intro listed a w _ hr hy H
    refine ⟨fun h => (by rw [h] at hr; cases hr), fun j hj => ?_⟩
    by_cases hji : j = i
    · subst hji; exact hy.wpOp hi trivial ⟨fun h => (by rw [hl] at h; cases h), H⟩
    · have := ready_mono hj hji
      rw [H.1] at this
      cases this
  | succ fuel ih =>
    intro listed a w hfree hr hy H
    refine ⟨fun h => (by rw [h] at hr; cases hr), fun j hj => ?_⟩
    by_cases hji : j = i
    · subst hji; exact hy.wpOp hi trivial ⟨fun h => (by rw [hl] at h; cases h), H⟩
    · have h1 := H.2 j (ready_mono hj hji)
      obtain ⟨hjun, oj, hoj, hall⟩ := mem_ready.1 hj
      have hnot : ∀ e ∈ oj.after, Region.binds md e = true → e.on ≠ i := fun e he hb heq => by
        have h1 := hall e he hb
        have h0 := (mem_ready.1 hr).1
        rw [heq] at h1
        rcases Nat.lt_or_ge i listed.size with h' | h'
        · simp [h'] at h0 h1; rw [h0] at h1; cases h1
        · simp [Array.getElem?_eq_none h'] at h1
      have h2 := wpOp_putIf hoj (hfree j oj hoj hji hjun hnot) (fun cs b => hsel i oi cs b hi) (fun cs b => hsel j oj cs b hoj) hQ hy h1
      have hfree' : ∀ k ok, ops[k]? = some ok → k ≠ i → (listed.setIfInBounds j true).getD k true = false →
          (∀ e ∈ ok.after, Region.binds md e = true → e.on ≠ i) → oi.apart ops ok = true := fun k ok hk hki hun hno => by
        refine hfree k ok hk hki ?_ hno
        by_cases hjk : j = k
        · subst hjk; exact hjun
        · rw [getD_set_ne true hjk] at hun; exact hun
      refine wpOp_mono (fun a' w' h3 => ⟨h3.2.1, ih (listed.setIfInBounds j true) a' w' hfree' (ready_mono hr (Ne.symm hji)) h3.1 ?_⟩) h2
      rw [Array.setIfInBounds_comm _ _ hji]
      exact h3.2.2
/-- Take number i first: a late one that asks nothing of the world. -/
theorem wpAnyL_free (i : Nat) {d : Tmp} {op : Op} {ty : TypeId} {pos : String} {aft : Array Edge} {gd : Option (Nat × Bool)} {v : Value} {fuel : Nat} {listed : Array Bool} {a : Act} {w : World} (hi : ops[i]? = some ⟨some d, op, ty, pos, aft, gd⟩)
    (hs : Region.noSelect ops = true) (hf : Region.free md ops listed i = true) (hr : (Region.ready md ops listed).contains i = true) (hl : late.contains i = true)
    (hQ : ∀ c a w, Q (.panic c) (a.put (some d) v) w → Q (.panic c) a w) (hy : YieldsIf P ops (fun _ => True) ⟨some d, op, ty, pos, aft, gd⟩ v a)
    (h : wpAnyL P md ops Q S late fuel (listed.setIfInBounds i true) (a.put (some d) v) w) : wpAnyL P md ops Q S late (fuel + 1) listed a w :=
  wpAnyL_loose hi (Region.noSelect_spec hs) hQ hl fuel listed a w (Region.free_spec hi hf) (by simpa using hr) hy h
/-- Take number i first. -/
theorem wpAnyL_take (i n : Nat) {d : Tmp} {op : Op} {ty : TypeId} {pos : String} {aft : Array Edge} {gd : Option (Nat × Bool)} {v : Value} {fuel : Nat} {listed : Array Bool} {a : Act} {w : World} (hi : ops[i]? = some ⟨some d, op, ty, pos, aft, gd⟩)
    (hs : Region.noSelect ops = true) (hf : Region.free md ops listed i = true) (hr : (Region.ready md ops listed).contains i = true) (hw : late.all (fun l => waitsN md ops n l i) = true) (hcl : closedB md ops listed = true)
    (hQ : ∀ c a w, Q (.panic c) (a.put (some d) v) w → Q (.panic c) a w) (hy : YieldsIf P ops S ⟨some d, op, ty, pos, aft, gd⟩ v a) (hS : S w)
    (h : wpAnyL P md ops Q S late fuel (listed.setIfInBounds i true) (a.put (some d) v) w) : wpAnyL P md ops Q S late (fuel + 1) listed a w :=
  wpAnyL_first hi (Region.noSelect_spec hs) hQ hw fuel listed a w (closed_of hcl) (Region.free_spec hi hf) (by simpa using hr) hy hS h
/-- The one that comes up next. -/
theorem wpAnyL_one (i : Nat) {d : Option Tmp} {op : Op} {ty : TypeId} {pos : String} {aft : Array Edge} {gd : Option (Nat × Bool)} {fuel : Nat} {listed : Array Bool} {a : Act} {w : World} (ho : ops[i]? = some ⟨d, op, ty, pos, aft, gd⟩) (hr : Region.ready md ops listed = [i])
    (h : ∀ K : Act → World → Prop, RowKit.Hid (∀ a' w', (late.contains i = false → S w') → wpAnyL P md ops Q S late fuel (listed.setIfInBounds i true) a' w' → K a' w') → if Region.wanted ⟨d, op, ty, pos, aft, gd⟩ (yielded ops a.tmps) = true then Oper.wp P ⟨d, op, ty, pos, aft, gd⟩ a w K Q else K (a.put d undef) w) : wpAnyL P md ops Q S late (fuel + 1) listed a w := by
  refine ⟨fun h0 => (by rw [hr] at h0; cases h0), fun j hj => ?_⟩
  rw [hr] at hj
  obtain rfl : j = i := by simpa using hj
  exact wpOp_step ho (fun K hK => h K (Lib.hid (fun a' w' h1 h2 => hK a' w' ⟨h1, h2⟩)))
theorem wpAnyL_done {listed : Array Bool} {a : Act} {w : World} (hr : Region.ready md ops listed = []) (h : Q .normal a w) : ∀ fuel, wpAnyL P md ops Q S late fuel listed a w
  | 0 => ⟨hr, h⟩
  | _ + 1 => ⟨fun _ => h, by rw [hr]; simp⟩
theorem wp_region_late (S : World → Prop) (late : List Nat) {id : Nat} {a : Act} {w : World} (hm : P.follows .mixedOrders = true)
    (h : wpAnyL P .any ops Q S late ops.size (Array.replicate ops.size false) a w.drew) : (Code.region id ops true).wp P Q a w :=
  wp_region_any hm (wpAny_of_late _ _ _ _ h)
end
end Go.Proofs.YtphhgdgamnogpaaDoor
