/-
  The walk of layer 2 (name): what a name is, in the program, where unicode/utf8's two tables are as their initialisers lay them. No conditions.
-/
import Derived.Test.YtphhgdgamnogpaaDoorNameT
import Derived.Test.YtphhgdgamnogpaaDoorLayV
import Derived.Laws.RangeAny
namespace Go.Proofs.YtphhgdgamnogpaaDoor
open Go.RowKit Go.Lib

theorem valid_any (l : List UInt8) (hs : l.length ≤ 1000000) (w : World) (hT : Lib.Utf8Tabs 4 5 w) :
    Calls Tryd.prog 110 #[.string (bs l)] w fun e w' => e = .returned (.bool (validD l)) ∧ Below w.heap.size w w' := by
  have h := Any.utf8_ValidString Tryd.laysValid (bs l) w (by rw [bs_size]; omega) hT
  have e : (bs l).data.toList = l := by simp [bs]
  rw [e] at h
  exact h

theorem next_at (l : List UInt8) (p : Nat) (hp : p < l.length) (w : World) (ty : TypeId) :
    (Instr.next (.pointer (some ⟨w.heap.size, 0, none⟩)) true ty).run Tryd.prog (w.iter (bs l) p) = .ok (.tuple #[.bool true, .int .i64 p, .int .i32 ((oneAt l p).1 : Nat)]) (w.iter (bs l) (p + (oneAt l p).2)) := by
  have h := run_next_any (P := Tryd.prog) w (bs l) p ty (by rw [bs_size]; exact hp)
  rw [← decodeL_drop] at h
  have e : (bs l).data.toList = l := by simp [bs]
  rw [e] at h
  exact h
theorem iter_below (w : World) (s : ByteArray) (p : Nat) : Below w.heap.size w (w.iter s p) := (Below.refl _ _).alloc (Nat.le_refl _) _

theorem word_bad (done rest : List Nat) (c : Nat) (h : part c = false) : word (done ++ c :: rest) = false := by
  simp [word, h]
theorem word_dig (rest : List Nat) (c : Nat) (h : dig c = true) : word (c :: rest) = false := by
  simp [word, h]
theorem word_end (done : List Nat) (h : done.all part = true) (h0 : done ≠ [] → dig (done.getD 0 0) = false) : word done = (decide (0 < done.length) && decide (done.length ≤ 20)) := by
  unfold word
  rw [h]
  cases done with
  | nil => rfl
  | cons a r => rw [h0 (by simp)]; simp

set_option maxRecDepth 100000 in
set_option maxHeartbeats 2000000 in
theorem nis_any (l : List UInt8) (hs : l.length ≤ 1000000) (w : World) (hT : Lib.Utf8Tabs 4 5 w) :
    Calls Tryd.prog 62 #[.string (bs l)] w fun e w' => e = .returned (.bool (nameL l)) ∧ Below w.heap.size w w' := by
  have HS := Lib.hid (reserved_any l)
  have HV := Lib.hid (valid_any l hs w hT)
  clear hT
  have hN : nameL l = (!resL l && validD l && word (runesU l)) := rfl
  rw [hN]
  clear hN
  generalize validD l = V at *
  generalize resL l = S at *
  cases S with
  | true =>
    go_enter Tryd.func62, Tryd.ntmps62
    go_wp2_with (go_at_call 109; refine (HS.out _).mono ?_; rintro e w2 ⟨rfl, rfl⟩)
    go_ret
    exact ⟨rfl, Below.refl _ _⟩
  | false =>
    cases V with
    | false =>
      go_enter Tryd.func62, Tryd.ntmps62
      go_wp2_with (first | (go_at_call 109; refine (HS.out _).mono ?_; rintro e w2 ⟨rfl, rfl⟩) | (go_at_call 110; refine HV.out.mono ?_; rintro e w2 ⟨rfl, hb2⟩))
      go_ret
      exact ⟨rfl, hb2⟩
    | true =>
      obtain ⟨R, hR⟩ : ∃ R, (!false && true && word (runesU l)) = R := ⟨_, rfl⟩
      have HR := Lib.hid hR
      rw [hR]
      clear hR
      go_enter Tryd.func62, Tryd.ntmps62
      go_wp2_with (first | (go_at_call 109; refine (HS.out _).mono ?_; rintro e w2 ⟨rfl, rfl⟩) | (go_at_call 110; refine HV.out.mono ?_; rintro e w2 ⟨rfl, hb2⟩))
      clear HS HV
      go_loopw [3] (fun i wr => ∃ p : Nat, ∃ done : List Nat, p ≤ l.length ∧ i = .int .i64 done.length ∧ wr = w2.iter (bs l) p ∧ done.length ≤ p ∧ runesU l = done ++ runesU (l.drop p) ∧ done.all part = true ∧ (done ≠ [] → dig (done.getD 0 0) = false))
        (fun _ wr => l.length - wr.iterPos w2.heap.size)
      case atStart => exact ⟨0, [], Nat.zero_le _, rfl, rfl, Nat.le_refl _, rfl, rfl, fun h => absurd rfl h⟩
      case round =>
        obtain ⟨p, done, hp, rfl, rfl, hdp, hd, hall, hdig⟩ := hrel
        have HD := Lib.hid hd
        have HL := Lib.hid hall
        have HG := Lib.hid hdig
        clear hd hall hdig
        by_cases hlt : p < l.length
        · obtain ⟨s1, s2, s3⟩ := runes_step l p done hlt HD.out
          have hnx := next_at l p hlt w2
          have hr : (oneAt l p).1 ≤ 1114111 := decodeL_rune _
          obtain ⟨D, hD⟩ : ∃ D, oneAt l p = D := ⟨_, rfl⟩
          rw [hD] at s1 s2 s3 hnx hr
          have HS1 := Lib.hid s1
          have HCP := Lib.hid (part_any D.1 hr)
          have HCD := Lib.hid (digit_any D.1 hr)
          clear s1 hD
          by_cases hpt : part D.1 = true
          · have HL2 : RowKit.Hid ((done ++ [D.1]).all part = true) := Lib.hid (by rw [List.all_append, HL.out]; simp [hpt])
            rw [hpt] at HCP
            by_cases hn : done.length = 0
            · have e0 : ((done.length : Int) == 0) = true := by simp [hn]
              have hnil : done = [] := List.eq_nil_of_length_eq_zero hn
              have HNil := Lib.hid hnil
              clear hnil hpt
              by_cases hdg : dig D.1 = true
              · have H1 : RowKit.Hid (R = false) := Lib.hid (by have h1 := HS1.out; rw [HNil.out] at h1; rw [← HR.out, h1]; simpa using word_dig _ _ hdg)
                rw [hdg] at HCD
                clear hdg hn
                go_wp2_with (first | (go_at_call 111; refine (HCP.out _).mono ?_; rintro e w4 ⟨rfl, rfl⟩) | (go_at_call 112; refine (HCD.out _).mono ?_; rintro e w4 ⟨rfl, rfl⟩))
                go_ret
                refine ⟨by rw [H1.out]; rfl, below_next hb2 (iter_below _ _ _)⟩
              · have hdf : dig D.1 = false := by simpa using hdg
                have HG2 : RowKit.Hid (done ++ [D.1] ≠ [] → dig ((done ++ [D.1]).getD 0 0) = false) := Lib.hid (by rw [HNil.out]; simpa using hdf)
                rw [hdf] at HCD
                clear hdg hdf hn
                go_wp2_with (first | (go_at_call 111; refine (HCP.out _).mono ?_; rintro e w4 ⟨rfl, rfl⟩) | (go_at_call 112; refine (HCD.out _).mono ?_; rintro e w4 ⟨rfl, rfl⟩))
                go_roundw
                case rel => exact ⟨p + D.2, done ++ [D.1], s3, by simp, rfl, by simp; omega, HS1.out, HL2.out, HG2.out⟩
                case measure => simp; omega
            · have e0 : ((done.length : Int) == 0) = false := beq_eq_false_iff_ne.2 (by omega)
              have HG2 : RowKit.Hid (done ++ [D.1] ≠ [] → dig ((done ++ [D.1]).getD 0 0) = false) := Lib.hid (by
                have h1 : done ≠ [] := fun e => hn (by rw [e]; rfl)
                intro _
                rw [← HG.out h1]
                cases done with
                | nil => exact absurd rfl h1
                | cons a t => rfl)
              have hlen : done.length ≤ 1000000 := by omega
              clear hn hpt
              go_wp2_with (first | (go_at_call 111; refine (HCP.out _).mono ?_; rintro e w4 ⟨rfl, rfl⟩) | (go_at_call 112; refine (HCD.out _).mono ?_; rintro e w4 ⟨rfl, rfl⟩))
              go_roundw
              case rel => exact ⟨p + D.2, done ++ [D.1], s3, by simp, rfl, by simp; omega, HS1.out, HL2.out, HG2.out⟩
              case measure => simp; omega
          · have hpf : part D.1 = false := by simpa using hpt
            have H1 : RowKit.Hid (R = false) := Lib.hid (by have h1 := HS1.out; rw [← HR.out, h1, List.append_assoc]; simpa using word_bad done _ _ hpf)
            rw [hpf] at HCP
            clear hpf hpt
            go_wp2_with (first | (go_at_call 111; refine (HCP.out _).mono ?_; rintro e w4 ⟨rfl, rfl⟩) | (go_at_call 112; refine (HCD.out _).mono ?_; rintro e w4 ⟨rfl, rfl⟩))
            go_ret
            exact ⟨by rw [H1.out]; rfl, below_next hb2 (iter_below _ _ _)⟩
        · have hnx := fun ty => run_next_end (P := Tryd.prog) w2 (bs l) p ty (by rw [bs_size]; exact hlt)
          have H1 : RowKit.Hid (R = (decide (0 < done.length) && decide (done.length ≤ 20))) := Lib.hid (by
            have h1 := HD.out
            rw [List.drop_eq_nil_of_le (by omega), runesU_nil, List.append_nil] at h1
            rw [← HR.out, h1]
            simpa using word_end done HL.out HG.out)
          go_wp2_with fail
          all_goals
            go_ret
            refine ⟨?_, below_next hb2 (iter_below _ _ _)⟩
            rw [H1.out]
            refine congrArg (fun b => Ending.returned (Value.bool b)) ?_
            rw [Bool.eq_iff_iff]
            simp
            try omega
end Go.Proofs.YtphhgdgamnogpaaDoor
