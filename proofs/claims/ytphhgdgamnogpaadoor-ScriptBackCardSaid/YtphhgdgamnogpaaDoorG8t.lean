/-
  The walks of layer 43 (script), the program: which commands may be, their words, their script, which set something. Conditions: the tables of words hold what their initialisers lay.
  The walks of layer 43 (script), the program: commands' words, their script, which set something. Conditions: the tables of words hold what their initialisers lay.
  A number's text, in the statements' own helper (deemsterbase.Itoa). No conditions.
  The walks of layer 43 (script), the program: commands' script, which set something. Conditions: the tables of words hold what their initialisers lay.
  The walks of layer 43 (script), the reference: which commands may be, their script, which set something; commands as an argument. No conditions.
  The statement ScriptPrints of layer 43 (script), walked; the reference's Settings; the statements' Give. Conditions: the tables of words hold what their initialisers lay, internal/bytealg.MaxLen holds a number.
  The statement ScriptPrints of layer 43 (script), walked. Conditions: the tables of words hold what their initialisers lay, internal/bytealg.MaxLen holds a number.
  Commands as an argument: what its reading says of its cells. No conditions.
-/
import Derived.Test.YtphhgdgamnogpaaDoorG8s
import Derived.Test.YtphhgdgamnogpaaDoorG8b
import Derived.Test.YtphhgdgamnogpaaDoorG8g
import Derived.Test.YtphhgdgamnogpaaDoorG8c
namespace Go.Proofs.YtphhgdgamnogpaaDoor
open Go.RowKit Go.Lib

theorem levelW_may (n : Int) : (levelW n != []) = (decide (1 ≤ n) && decide (n ≤ 3)) := by
  by_cases h : 1 ≤ n ∧ n ≤ 3
  · have h3 : n = 1 ∨ n = 2 ∨ n = 3 := by omega
    rcases h3 with rfl | rfl | rfl <;> decide
  · rw [levelW_out n (by omega)]
    have : (decide (1 ≤ n) && decide (n ≤ 3)) = false := by simp; omega
    rw [this]
    rfl
theorem policyW_may (n : Int) : (policyW n != []) = (decide (1 ≤ n) && decide (n ≤ 2)) := by
  by_cases h : 1 ≤ n ∧ n ≤ 2
  · have h3 : n = 1 ∨ n = 2 := by omega
    rcases h3 with rfl | rfl <;> decide
  · rw [policyW_out n (by omega)]
    have : (decide (1 ≤ n) && decide (n ≤ 2)) = false := by simp; omega
    rw [this]
    rfl
theorem nonempty_bs (l : List UInt8) (b : Bool) (h : (l != []) = b) : (l == []) = !b ∧ l.isEmpty = !b := by
  subst h
  cases l with
  | nil => exact ⟨rfl, rfl⟩
  | cons a t => exact ⟨by simp, by simp⟩
set_option maxRecDepth 100000 in
set_option maxHeartbeats 4000000 in
theorem smay_any (r k n : Int) (w : World) (hS : ScTab w) :
    Calls Tryd.prog 34 #[cmdV (r, k, n)] w fun e w' => e = .returned (.bool (mayC (r, k, n))) ∧ Below w.heap.size w w' := by
  have hal := (Below.refl w.heap.size w).alloc (Nat.le_refl _) (.cells #[.int .i64 r, .int .i64 k, .int .i64 n] 51)
  have HL := Lib.hid (level_any n _ (hS.below hal))
  have HP := Lib.hid (policy_any n _ (hS.below hal))
  unfold cmdV mayC
  dsimp only
  clear hS
  by_cases h1 : k = 1
  · subst h1
    rw [if_pos rfl, ← levelW_may n]
    generalize levelW n = V at *
    obtain ⟨b, hb⟩ : ∃ b, (V != []) = b := ⟨_, rfl⟩
    obtain ⟨hb2, hb3⟩ := nonempty_bs V b hb
    rw [hb]
    cases b
    all_goals
      clear HP
      go_enter Tryd.func34, Tryd.ntmps34
      go_wp2_with fail
      refine HL.out.mono ?_
      rintro e w' ⟨rfl, rfl⟩
      go_wp2_with fail
      go_ret
      exact ⟨by first | rfl | simp_all, hal⟩
  · rw [if_neg h1]
    by_cases h2 : k = 2
    · subst h2
      rw [if_pos rfl, ← policyW_may n]
      generalize policyW n = V at *
      obtain ⟨b, hb⟩ : ∃ b, (V != []) = b := ⟨_, rfl⟩
      obtain ⟨hb2, hb3⟩ := nonempty_bs V b hb
      rw [hb]
      cases b
      all_goals
        clear HL
        go_enter Tryd.func34, Tryd.ntmps34
        go_wp2_with fail
        refine HP.out.mono ?_
        rintro e w' ⟨rfl, rfl⟩
        go_wp2_with fail
        go_ret
        exact ⟨by first | rfl | simp_all, hal⟩
    · rw [if_neg h2]
      by_cases h3 : k = 3
      · subst h3
        rw [if_pos rfl]
        clear HL HP h1 h2
        go_enter Tryd.func34, Tryd.ntmps34
        go_wp2_with fail
        go_ret
        exact ⟨rfl, hal⟩
      · rw [if_neg h3]
        have e1 : (k == 1) = false := beq_eq_false_iff_ne.2 h1
        have e2 : (k == 2) = false := beq_eq_false_iff_ne.2 h2
        have e3 : (k == 3) = false := beq_eq_false_iff_ne.2 h3
        clear HL HP h1 h2 h3
        by_cases h4 : 3 < k
        · have d4 : decide (3 < k) = true := decide_eq_true h4
          by_cases h5 : k ≤ 10
          · have d5 : decide (k ≤ 10) = true := decide_eq_true h5
            rw [d4, d5]
            go_enter Tryd.func34, Tryd.ntmps34
            go_wp2_with fail
            go_ret
            exact ⟨by simp; rfl, hal⟩
          · have d5 : decide (k ≤ 10) = false := decide_eq_false h5
            rw [d4, d5]
            go_enter Tryd.func34, Tryd.ntmps34
            go_wp2_with fail
            go_ret
            exact ⟨rfl, hal⟩
        · have d4 : decide (3 < k) = false := decide_eq_false h4
          rw [d4]
          go_enter Tryd.func34, Tryd.ntmps34
          go_wp2_with fail
          go_ret
          exact ⟨rfl, hal⟩

end Go.Proofs.YtphhgdgamnogpaaDoor

namespace Go.Proofs.YtphhgdgamnogpaaDoor
open Go.RowKit Go.Lib

set_option maxRecDepth 100000 in
set_option maxHeartbeats 4000000 in
theorem swords43_any (r k n : Int) (hk0 : 1 ≤ k) (hk1 : k ≤ 10) (hn : -9223372036854775808 ≤ n ∧ n ≤ 9223372036854775807) (w : World) (hS : ScTab w) :
    Calls Tryd.prog 70 #[cmdV (r, k, n)] w fun e w' => ∃ v, e = .returned v ∧ TextsC w' v (wordsX (r, k, n)) ∧ Below w.heap.size w w' := by
  obtain ⟨i0, hi, hz0, hz1, hz2⟩ := info_parts info_str
  unfold cmdV
  dsimp only
  by_cases h1 : k = 1
  · subst h1
    clear hk0 hk1
    have hf := hS.f 1 (by decide)
    have hfl : 0 < w.heap.size := World.block_lt_of_cell? w _ hf
    have hal := (Below.refl w.heap.size w).alloc (Nat.le_refl _) (.cells #[.int .i64 r, .int .i64 1, .int .i64 n] 51)
    have hal2 := hal.alloc hal.size (.cells #[.string (bs (firstW 1))] 9)
    have HL := Lib.hid (level_any n _ (hS.below hal2))
    have ho : ((w.alloc (.cells #[.int .i64 r, .int .i64 1, .int .i64 n] 51)).alloc (.cells #[.string (bs (firstW 1))] 9)).ownsRow w.heap.size 9 1 (.slice (some ⟨w.heap.size + 1, 0, none⟩) 1 1) 1 (strs [firstW 1]) := by
      have h9 := World.ownsRow_lit (base := w.heap.size) (e := 9) (size := 1) (w.alloc (.cells #[.int .i64 r, .int .i64 1, .int .i64 n] 51)) #[.string (bs (firstW 1))] 1 (by simp) (by decide) rfl
      simpa [strs] using h9
    have HO := Lib.hid ho
    have HAL := Lib.hid hal2
    have hWx : wordsX (r, 1, n) = [firstW 1, levelW n] := rfl
    rw [hWx]
    clear hWx ho hal hal2 hS
    generalize hFW : firstW 1 = FW at *
    generalize hWD : levelW n = WD at *
    clear hFW hWD
    go_enter Tryd.func70, Tryd.ntmps70
    go_wp2_with fail
    refine HL.out.mono ?_
    rintro e w' ⟨rfl, rfl⟩
    go_wp2_with (at_builtin; go_must (refine wpList_append_own _ rfl (.tmp 13) (.tmp 17) 61 rfl w.heap.size 9 i0 (.string ByteArray.empty) 1 16 Tryd.underlying61 hi hz0 hz1 hz2 rfl (by decide) _ _ _ rfl (HO.out.alloc _) ⟨w.heap.size + 1 + 1, 0, none⟩ 1 1 [.string (bs WD)] rfl rfl (news_lit _ [.string (bs WD)] _ _ (by simp)) (by intro u hu; simp at hu; subst hu; rfl) (by unfold maxLen; omega) (by omega) (by simp; omega) ?_))
    intro v4 w4 hown4 hgrow hnil
    have hb4 : Below w.heap.size w w4 := (HAL.out.alloc HAL.out.size _).grown hgrow (by simp; omega) (fun k hk => by simp [Value.ownBlock] at hk; omega)
    rw [strs_snoc] at hown4
    have hT := own_textsC (L := [FW, WD]) hown4
    have HT := Lib.hid hT
    obtain ⟨p4, c4, rfl⟩ := owns_form hown4
    clear hown4 hgrow hnil hT
    go_wp2_with fail
    go_ret
    exact ⟨_, rfl, HT.out, hb4⟩
  · by_cases h2 : k = 2
    · subst h2
      clear hk0 hk1 h1
      have hf := hS.f 2 (by decide)
      have hfl : 0 < w.heap.size := World.block_lt_of_cell? w _ hf
      have hal := (Below.refl w.heap.size w).alloc (Nat.le_refl _) (.cells #[.int .i64 r, .int .i64 2, .int .i64 n] 51)
      have hal2 := hal.alloc hal.size (.cells #[.string (bs (firstW 2))] 9)
      have HL := Lib.hid (policy_any n _ (hS.below hal2))
      have ho : ((w.alloc (.cells #[.int .i64 r, .int .i64 2, .int .i64 n] 51)).alloc (.cells #[.string (bs (firstW 2))] 9)).ownsRow w.heap.size 9 1 (.slice (some ⟨w.heap.size + 1, 0, none⟩) 1 1) 1 (strs [firstW 2]) := by
        have h9 := World.ownsRow_lit (base := w.heap.size) (e := 9) (size := 1) (w.alloc (.cells #[.int .i64 r, .int .i64 2, .int .i64 n] 51)) #[.string (bs (firstW 2))] 1 (by simp) (by decide) rfl
        simpa [strs] using h9
      have HO := Lib.hid ho
      have HAL := Lib.hid hal2
      have hWx : wordsX (r, 2, n) = [firstW 2, policyW n] := rfl
      rw [hWx]
      clear hWx ho hal hal2 hS
      generalize hFW : firstW 2 = FW at *
      generalize hWD : policyW n = WD at *
      clear hFW hWD
      go_enter Tryd.func70, Tryd.ntmps70
      go_wp2_with fail
      refine HL.out.mono ?_
      rintro e w' ⟨rfl, rfl⟩
      go_wp2_with (at_builtin; go_must (refine wpList_append_own _ rfl (.tmp 21) (.tmp 25) 61 rfl w.heap.size 9 i0 (.string ByteArray.empty) 1 16 Tryd.underlying61 hi hz0 hz1 hz2 rfl (by decide) _ _ _ rfl (HO.out.alloc _) ⟨w.heap.size + 1 + 1, 0, none⟩ 1 1 [.string (bs WD)] rfl rfl (news_lit _ [.string (bs WD)] _ _ (by simp)) (by intro u hu; simp at hu; subst hu; rfl) (by unfold maxLen; omega) (by omega) (by simp; omega) ?_))
      intro v4 w4 hown4 hgrow hnil
      have hb4 : Below w.heap.size w w4 := (HAL.out.alloc HAL.out.size _).grown hgrow (by simp; omega) (fun k hk => by simp [Value.ownBlock] at hk; omega)
      rw [strs_snoc] at hown4
      have hT := own_textsC (L := [FW, WD]) hown4
      have HT := Lib.hid hT
      obtain ⟨p4, c4, rfl⟩ := owns_form hown4
      clear hown4 hgrow hnil hT
      go_wp2_with fail
      go_ret
      exact ⟨_, rfl, HT.out, hb4⟩
    · by_cases h3 : k = 3
      · subst h3
        clear hk0 hk1 h1 h2
        have hf := hS.f 3 (by decide)
        have hfl : 0 < w.heap.size := World.block_lt_of_cell? w _ hf
        have hal := (Below.refl w.heap.size w).alloc (Nat.le_refl _) (.cells #[.int .i64 r, .int .i64 3, .int .i64 n] 51)
        have hal2 := hal.alloc hal.size (.cells #[.string (bs (firstW 3))] 9)
        have HL := Lib.hid (fun w' => print_any n hn.1 hn.2 w')
        have ho : ((w.alloc (.cells #[.int .i64 r, .int .i64 3, .int .i64 n] 51)).alloc (.cells #[.string (bs (firstW 3))] 9)).ownsRow w.heap.size 9 1 (.slice (some ⟨w.heap.size + 1, 0, none⟩) 1 1) 1 (strs [firstW 3]) := by
          have h9 := World.ownsRow_lit (base := w.heap.size) (e := 9) (size := 1) (w.alloc (.cells #[.int .i64 r, .int .i64 3, .int .i64 n] 51)) #[.string (bs (firstW 3))] 1 (by simp) (by decide) rfl
          simpa [strs] using h9
        have HO := Lib.hid ho
        have HAL := Lib.hid hal2
        have hWx : wordsX (r, 3, n) = [firstW 3, printL n] := rfl
        rw [hWx]
        clear hWx ho hal hal2 hS
        generalize hFW : firstW 3 = FW at *
        generalize hWD : printL n = WD at *
        clear hFW hWD
        go_enter Tryd.func70, Tryd.ntmps70
        go_wp2_with fail
        refine (HL.out _).mono ?_
        rintro e w3 ⟨rfl, hb3⟩
        have hb13 := HAL.out.trans (hb3.mono (by simp; omega))
        have HO3 := Lib.hid (owns_later HO.out hb3)
        have hz3 := hb3.size
        simp at hz3
        clear hb3
        go_wp2_with (at_builtin; go_must (refine wpList_append_own _ rfl (.tmp 29) (.tmp 33) 61 rfl w.heap.size 9 i0 (.string ByteArray.empty) 1 16 Tryd.underlying61 hi hz0 hz1 hz2 rfl (by decide) _ _ _ rfl (HO3.out.alloc _) ⟨w3.heap.size, 0, none⟩ 1 1 [.string (bs WD)] rfl rfl (news_lit _ [.string (bs WD)] _ _ (by simp)) (by intro u hu; simp at hu; subst hu; rfl) (by unfold maxLen; omega) (by omega) (by simp; omega) ?_))
        intro v4 w4 hown4 hgrow hnil
        have hb4 : Below w.heap.size w w4 := (hb13.alloc hb13.size _).grown hgrow (by simp; omega) (fun k hk => by simp [Value.ownBlock] at hk; omega)
        rw [strs_snoc] at hown4
        have hT := own_textsC (L := [FW, WD]) hown4
        have HT := Lib.hid hT
        obtain ⟨p4, c4, rfl⟩ := owns_form hown4
        clear hown4 hgrow hnil hT
        go_wp2_with fail
        go_ret
        exact ⟨_, rfl, HT.out, hb4⟩
      · obtain ⟨i, rfl⟩ : ∃ i : Nat, k = i := ⟨k.toNat, by omega⟩
        have e1 : ((i : Int) == 1) = false := beq_eq_false_iff_ne.2 h1
        have e2 : ((i : Int) == 2) = false := beq_eq_false_iff_ne.2 h2
        have e3 : ((i : Int) == 3) = false := beq_eq_false_iff_ne.2 h3
        have hWx : wordsX (r, (i : Int), n) = [firstW i] := by
          unfold wordsX
          simp only
          rw [if_neg h1, if_neg h2, if_neg h3]
        rw [hWx]
        have hf := hS.f i (by omega)
        have hfl : 0 < w.heap.size := World.block_lt_of_cell? w _ hf
        have hal := (Below.refl w.heap.size w).alloc (Nat.le_refl _) (.cells #[.int .i64 r, .int .i64 i, .int .i64 n] 51)
        have HAL := Lib.hid (hal.alloc hal.size (.cells #[.string (bs (firstW i))] 9))
        have HT : RowKit.Hid (TextsC ((w.alloc (.cells #[.int .i64 r, .int .i64 i, .int .i64 n] 51)).alloc (.cells #[.string (bs (firstW i))] 9)) (.slice (some ⟨w.heap.size + 1, 0, none⟩) 1 1) [firstW i]) := Lib.hid (by
          have h9 := World.ownsRow_lit (base := w.heap.size) (e := 9) (size := 1) (w.alloc (.cells #[.int .i64 r, .int .i64 i, .int .i64 n] 51)) #[.string (bs (firstW i))] 1 (by simp) (by decide) rfl
          exact own_textsC (L := [firstW i]) (by simpa [strs] using h9))
        have hi0 : (0 : Int) ≤ (i : Int) := by omega
        have hi11 : (i : Int) < 11 := by omega
        clear hWx h1 h2 h3 hS hal
        generalize hFW : firstW (i : Int) = FW at *
        clear hFW
        go_enter Tryd.func70, Tryd.ntmps70
        go_wp2_with fail
        go_ret
        exact ⟨_, rfl, HT.out, HAL.out⟩
end Go.Proofs.YtphhgdgamnogpaaDoor

namespace Go.Proofs.YtphhgdgamnogpaaDoor
open Go.RowKit

set_option maxRecDepth 20000 in
set_option maxHeartbeats 2000000 in
theorem itoa_pos (m : Nat) (hm : m ≤ 9223372036854775807) (hm0 : 0 < m) (w : World) :
    Calls Tryd.prog 77 #[.int .i64 (m : Int)] w fun e w' => e = .returned (.string (bs (decL m))) ∧ Below w.heap.size w w' := by
  obtain ⟨out, hout⟩ : ∃ out, out = decL m := ⟨_, rfl⟩
  rw [← hout]
  have HO := Lib.hid hout
  have HM := Lib.hid hm0
  clear hout
  have hmz : ((m : Int) == 0) = false := by rw [beq_eq_false_iff_ne]; omega
  have hlt : 0 < (m : Int) := by omega
  clear hm0
  go_enter Tryd.func77, Tryd.ntmps77
  go_wp2_with fail
  clear hmz
  go_loopw [3, 4, 5] (fun s x _ wr => RefRel m w (fun y => (y : Int)) s x wr) (fun _ x _ _ => (intOf x).natAbs)
  case atStart => exact ⟨m, [], rfl, rfl, by simp [Left], by go_grown, by simp⟩
  case round =>
    obtain ⟨y, suf, rfl, rfl, hL, hb, hs⟩ := hrel
    have HL := Lib.hid hL
    clear hL
    by_cases hy : 0 < y
    · have hlen := left_len m y suf (by omega) HL.out (.inr hy)
      have HS := Lib.hid (left_step m y suf HL.out (.inr hy))
      have hy0 : (((y : Int)) != 0) = true := by rw [bne_iff_ne]; omega
      have hy1 : y ≤ 9223372036854775808 := by omega
      have hy2 : y ≤ 9223372036854775807 := by omega
      have hl2 := hlen.1
      clear hlen
      obtain ⟨b, hbe⟩ : ∃ b, b = UInt8.ofNat (48 + y % 10) := ⟨_, rfl⟩
      have HBV : Hid (48 + (y : Int) % 10 = (b.toNat : Int)) := by rw [Hid, hbe, toNat_dig _ (by omega)]; omega
      have hcv := one_byte b (48 + (y : Int) % 10) HBV.out
      rw [← hbe] at HS
      clear hbe
      all_goals
        go_wp2
        go_roundw
        case rel => exact ⟨y / 10, b :: suf, rfl, by go_num, HS.out, hb.alloc hb.size _, by simp; omega⟩
        case measure => simp [intOf]; omega
    · have hy0 : y = 0 := by omega
      subst hy0
      clear hy
      have hsuf : suf ≠ [] := fun h => by
        subst h
        have := HL.out
        unfold Left at this
        rw [if_pos (.inl rfl)] at this
        have := congrArg valL this
        rw [decL_val, List.append_nil, decL_val] at this
        have := HM.out
        omega
      have HE := Lib.hid (left_end m suf HL.out hsuf)
      clear hsuf
      go_wp2
      go_ret
      exact ⟨by rw [HO.out, HE.out]; rfl, hb⟩

set_option maxRecDepth 20000 in
set_option maxHeartbeats 2000000 in
theorem itoa_neg (m : Nat) (hm : m ≤ 9223372036854775808) (hm0 : 0 < m) (w : World) :
    Calls Tryd.prog 77 #[.int .i64 (-(m : Int))] w fun e w' => e = .returned (.string (bs (45 :: decL m))) ∧ Below w.heap.size w w' := by
  obtain ⟨out, hout⟩ : ∃ out, out = decL m := ⟨_, rfl⟩
  rw [← hout]
  have HO := Lib.hid hout
  have HM := Lib.hid hm0
  clear hout
  have hmz : ((-(m : Int)) == 0) = false := by rw [beq_eq_false_iff_ne]; omega
  have hlt : (-(m : Int)) < 0 := by omega
  clear hm0
  go_enter Tryd.func77, Tryd.ntmps77
  go_wp2_with fail
  clear hmz
  go_loopw [3, 4, 5] (fun s x _ wr => RefRel m w (fun y => -(y : Int)) s x wr) (fun _ x _ _ => (intOf x).natAbs)
  case atStart => exact ⟨m, [], rfl, rfl, by simp [Left], by go_grown, by simp⟩
  case round =>
    obtain ⟨y, suf, rfl, rfl, hL, hb, hs⟩ := hrel
    have HL := Lib.hid hL
    clear hL
    by_cases hy : 0 < y
    · have hlen := left_len m y suf (by omega) HL.out (.inr hy)
      have HS := Lib.hid (left_step m y suf HL.out (.inr hy))
      have hy0 : ((-(y : Int)) != 0) = true := by rw [bne_iff_ne]; omega
      have hy1 : y ≤ 9223372036854775808 := by omega
      have hrem : (-(y : Int)).tmod 10 = -((y : Int) % 10) := by rw [Int.neg_tmod, Int.tmod_eq_emod_of_nonneg (by omega)]
      have hquo : (-(y : Int)).tdiv 10 = -((y : Int) / 10) := by rw [Int.neg_tdiv, Int.tdiv_eq_ediv_of_nonneg (by omega)]
      have hd0 : 0 ≤ (y : Int) % 10 := by omega
      have hd1 : (y : Int) % 10 ≤ 9 := by omega
      have hl2 := hlen.1
      clear hlen
      obtain ⟨b, hbe⟩ : ∃ b, b = UInt8.ofNat (48 + y % 10) := ⟨_, rfl⟩
      have HBV : Hid (48 + (y : Int) % 10 = (b.toNat : Int)) := by rw [Hid, hbe, toNat_dig _ (by omega)]; omega
      have hcv := one_byte b (48 + (y : Int) % 10) HBV.out
      rw [← hbe] at HS
      clear hbe
      rcases (show ((y : Int) % 10 = 0) ∨ 0 < (y : Int) % 10 by omega) with hz | hz
      · have hcv2 := one_byte b 48 (by have := HBV.out; omega)
        clear hcv
        go_wp2
        go_roundw
        case rel => exact ⟨y / 10, b :: suf, rfl, by go_num, HS.out, hb.alloc hb.size _, by simp; omega⟩
        case measure => simp [intOf]; omega
      · go_wp2
        go_roundw
        case rel => exact ⟨y / 10, b :: suf, rfl, by go_num, HS.out, hb.alloc hb.size _, by simp; omega⟩
        case measure => simp [intOf]; omega
    · have hy0 : y = 0 := by omega
      subst hy0
      clear hy
      have hsuf : suf ≠ [] := fun h => by
        subst h
        have := HL.out
        unfold Left at this
        rw [if_pos (.inl rfl)] at this
        have := congrArg valL this
        rw [decL_val, List.append_nil, decL_val] at this
        have := HM.out
        omega
      have HE := Lib.hid (left_end m suf HL.out hsuf)
      clear hsuf
      go_wp2
      go_ret
      exact ⟨by rw [HO.out, HE.out]; rfl, hb⟩

set_option maxHeartbeats 400000 in
theorem itoa_zero (w : World) :
    Calls Tryd.prog 77 #[.int .i64 0] w fun e w' => e = .returned (.string (bs [48])) ∧ Below w.heap.size w w' := by
  go_enter Tryd.func77, Tryd.ntmps77
  go_wp2
  go_ret
  exact ⟨rfl, Below.refl _ _⟩
theorem itoa_any (n : Int) (h0 : -9223372036854775808 ≤ n) (h1 : n ≤ 9223372036854775807) (w : World) :
    Calls Tryd.prog 77 #[.int .i64 n] w fun e w' => e = .returned (.string (bs (printL n))) ∧ Below w.heap.size w w' := by
  by_cases h : n < 0
  · obtain ⟨m, rfl⟩ : ∃ m : Nat, n = -(m : Int) := ⟨n.natAbs, by omega⟩
    have e : printL (-(m : Int)) = 45 :: decL m := by unfold printL; rw [if_pos h]; congr 2; omega
    rw [e]
    exact itoa_neg m (by omega) (by omega) w
  · by_cases hz : n = 0
    · subst hz
      have e : printL 0 = [48] := by unfold printL; rw [if_neg (by omega)]; exact decL_zero
      rw [e]
      exact itoa_zero w
    · obtain ⟨m, rfl⟩ : ∃ m : Nat, n = (m : Int) := ⟨n.toNat, by omega⟩
      have e : printL (m : Int) = decL m := by unfold printL; rw [if_neg h]; congr 1
      rw [e]
      exact itoa_pos m (by omega) (by omega) w

end Go.Proofs.YtphhgdgamnogpaaDoor

namespace Go.Proofs.YtphhgdgamnogpaaDoor
open Go.RowKit Go.Lib

/-- Commands whose numbers are Go's. -/
def ModC (L : List CmdM) : Prop := ∀ x ∈ L, NumC x
theorem ModC.at {L : List CmdM} (h : ModC L) (k : Nat) (hk : k < L.length) : NumC (L.getD k noCmd) := by
  have : L.getD k noCmd = L[k] := by simp [hk]
  rw [this]
  exact h _ (List.getElem_mem hk)
theorem put_stop (x : CmdM) (r : List CmdM) (s : List UInt8) (h : mayC x = false) : putGo (x :: r) s = ([], 4) := by
  unfold putGo
  rw [if_neg (by rw [h]; decide)]
theorem put_more (x : CmdM) (r : List CmdM) (s : List UInt8) (h : mayC x = true) : putGo (x :: r) s = putGo r (s ++ (lineX x ++ [10])) := by
  rw [putGo, if_pos h]
theorem drop_consC (L : List CmdM) (k : Nat) (h : k < L.length) : L.drop k = L.getD k noCmd :: L.drop (k + 1) := by
  rw [List.drop_eq_getElem_cons h]
  simp [h]
theorem mayC_kind (r k n : Int) (h : mayC (r, k, n) = true) : 1 ≤ k ∧ k ≤ 10 := by
  unfold mayC at h
  simp only at h
  by_cases h1 : k = 1
  · omega
  · by_cases h2 : k = 2
    · omega
    · by_cases h3 : k = 3
      · omega
      · rw [if_neg h1, if_neg h2, if_neg h3] at h
        simp only [Bool.and_eq_true, decide_eq_true_eq] at h
        omega

set_option maxRecDepth 100000 in
set_option maxHeartbeats 4000000 in
theorem sprint43_any (v : Value) (L : List CmdM) (w : World) (hv : CmdsS w v L) (hL : L.length ≤ 1000000) (hM : ModC L) (hS : ScTab w) :
    Calls Tryd.prog 33 #[v] w fun e w' => e = .returned (.tuple #[.string (bs (writeS L).1), .int .i64 (writeS L).2]) ∧ Below w.heap.size w w' := by
  have HMy := Lib.hid (fun k w' (h : Below w.heap.size w w') => smay_any (L.getD k noCmd).1 (L.getD k noCmd).2.1 (L.getD k noCmd).2.2 w' (hS.below h))
  have HWd := Lib.hid (fun k (hk : k < L.length) (hm : mayC (L.getD k noCmd) = true) w' (h : Below w.heap.size w w') => swords43_any (L.getD k noCmd).1 (L.getD k noCmd).2.1 (L.getD k noCmd).2.2 (mayC_kind _ _ _ hm).1 (mayC_kind _ _ _ hm).2 (hM.at k hk) w' (hS.below h))
  have HLn := Lib.hid (fun k (hk : k < L.length) (hm : mayC (L.getD k noCmd) = true) => lineX_len (L.getD k noCmd) hm (hM.at k hk))
  obtain ⟨p, c, rfl, hp⟩ := hv
  have HX := Lib.hid hp
  clear hp hS hM
  unfold writeS
  by_cases hbig : 200 < L.length
  · rw [if_pos hbig]
    have hd : decide ((200 : Int) < (L.length : Int)) = true := decide_eq_true (by omega)
    clear hbig
    go_enter Tryd.func33, Tryd.ntmps33
    go_wp2_with fail
    go_ret2
    exact ⟨rfl, Below.refl _ _⟩
  · rw [if_neg hbig]
    have hd : decide ((200 : Int) < (L.length : Int)) = false := decide_eq_false (by omega)
    have hLb : L.length ≤ 200 := by omega
    clear hbig
    obtain ⟨R, hR⟩ : ∃ R, putGo L [] = R := ⟨_, rfl⟩
    rw [hR]
    have HR0 := Lib.hid hR
    have HN1 := Lib.hid (isB_new w)
    clear hR
    go_enter Tryd.func33, Tryd.ntmps33
    go_wp2_with fail
    go_loopw [12] (fun i wr => ∃ (k : Nat) (s : List UInt8), k ≤ L.length ∧ i = .int .i64 k ∧ s.length ≤ 28 * k ∧ IsB w.heap.size w.heap.size s wr ∧ RowKit.Hid (putGo (L.drop k) s = R) ∧ Below w.heap.size w wr) (fun i _ => L.length - (RowKit.intOf i).toNat)
    case atStart => exact ⟨0, [], Nat.zero_le _, rfl, Nat.zero_le _, HN1.out, Lib.hid (by rw [List.drop_zero]; exact HR0.out), (Below.refl _ _).alloc (Nat.le_refl _) _⟩
    case round =>
      obtain ⟨k, s, hk, rfl, hs, hB, HR, hbw⟩ := hrel
      have HIB := Lib.hid hB
      have hBz := hbw.size
      clear hB
      by_cases hk1 : k < L.length
      · obtain ⟨g, rfl, hcell⟩ := HX.out k hk1
        have hd2 := drop_consC L k hk1
        have HG := Lib.hid HR.out
        rw [hd2] at HG
        have HMk := Lib.hid (HMy.out k)
        have HWk := Lib.hid (HWd.out k hk1)
        have hln := HLn.out k hk1
        have a0 := cell_later hbw (hcell 0 _ rfl)
        have a1 := cell_later hbw (hcell 1 _ rfl)
        have a2 := cell_later hbw (hcell 2 _ rfl)
        simp only [Nat.add_zero] at a0 a1 a2
        clear hcell hd2 HR
        obtain ⟨t, ht⟩ : ∃ t, L.getD k noCmd = t := ⟨_, rfl⟩
        rw [ht] at HG HMk HWk hln a0 a1 a2
        obtain ⟨x1, x2, x3⟩ := t
        simp only at HMk HWk a0 a1 a2
        have HBW := Lib.hid hbw
        have hba := hbw.alloc hBz (.cells #[.int .i64 x1, .int .i64 x2, .int .i64 x3] 51)
        have HBA := Lib.hid hba
        have HST := Lib.hid (put_stop (x1, x2, x3) (L.drop (k + 1)) s)
        have HMO := Lib.hid (put_more (x1, x2, x3) (L.drop (k + 1)) s)
        clear ht hbw hba
        obtain ⟨b, hb⟩ : ∃ b, mayC (x1, x2, x3) = b := ⟨_, rfl⟩
        rw [hb] at HMk HST HMO HWk hln
        cases b with
        | false =>
          have HE : RowKit.Hid (R = ([], 4)) := Lib.hid (by rw [← HG.out]; exact HST.out rfl)
          unfold cmdV at HMk
          dsimp only at HMk
          clear HST HMO HG HWk hln hb
          go_wp2_with fail
          refine (HMk.out _ HBA.out).mono ?_
          rintro e w2 ⟨rfl, hb2⟩
          go_wp2_with fail
          go_ret2
          exact ⟨by rw [HE.out]; rfl, below_next HBA.out hb2⟩
        | true =>
          have HMO2 := Lib.hid (HMO.out rfl)
          have HWk2 := Lib.hid (HWk.out rfl)
          have hln2 := hln rfl
          have hLX : lineX (x1, x2, x3) = join (wordsX (x1, x2, x3)) [32] := rfl
          rw [hLX] at HMO2 hln2
          have hwn : (wordsX (x1, x2, x3)).length ≤ 1000000 := by
            unfold wordsX
            repeat' split
            all_goals simp
          generalize wordsX (x1, x2, x3) = WX at *
          unfold cmdV at HMk HWk2
          dsimp only at HMk HWk2
          clear HST HMO HWk hln hb hLX
          go_wp2_with fail
          refine (HMk.out _ HBA.out).mono ?_
          rintro e w2 ⟨rfl, hb2⟩
          have hw2 : Below wr.heap.size wr w2 := below_next ((Below.refl _ _).alloc (Nat.le_refl _) _) hb2
          have hc2 := bcell hb2
          have hB2 := HIB.out.later hw2
          have hbA2 := below_next HBA.out hb2
          have d0 : w2.cell? ⟨wr.heap.size, 0, none⟩ = some (.int .i64 x1) := by rw [hc2.1 _ _ (by simp), cell_of_row _ wr.heap.size 0 _ _ (0, 0) (heap_alloc_new wr _)]; rfl
          have d1 : w2.cell? ⟨wr.heap.size, 1, none⟩ = some (.int .i64 x2) := by rw [hc2.1 _ _ (by simp), cell_of_row _ wr.heap.size 1 _ _ (0, 0) (heap_alloc_new wr _)]; rfl
          have d2 : w2.cell? ⟨wr.heap.size, 2, none⟩ = some (.int .i64 x3) := by rw [hc2.1 _ _ (by simp), cell_of_row _ wr.heap.size 2 _ _ (0, 0) (heap_alloc_new wr _)]; rfl
          have hz2 := hw2.size
          have HA2 := Lib.hid hbA2
          have HB2 := Lib.hid hB2
          have HW2 := Lib.hid hw2
          clear hb2 hw2 hc2 hB2 hbA2 a0 a1 a2
          go_wp2_with fail
          refine (HWk2.out _ HA2.out).mono ?_
          rintro e w3 ⟨v3, rfl, hT3, hb3⟩
          have HA3 := Lib.hid (below_next HA2.out hb3)
          have HB3 := Lib.hid (HB2.out.later hb3)
          have HW3 := Lib.hid (below_next HW2.out hb3)
          have HJ := Lib.hid (sjoin_any w3 v3 WX hT3 hwn (by omega))
          clear hb3 hT3 d0 d1 d2
          go_wp2_with fail
          refine HJ.out.mono ?_
          rintro e w4 ⟨rfl, hb4⟩
          have hA4 := below_next HA3.out hb4
          have hB4 := HB3.out.later hb4
          have hz4 := hA4.size
          have HW4 := Lib.hid (below_next HW3.out hb4)
          generalize join WX [32] = tl at *
          go_wp2_with fail
          refine (bwrite_any w.heap.size w.heap.size s (tl ++ [10]) _ hB4 (by simp; omega) (by omega)).mono ?_
          rintro e w5 ⟨rfl, hB5, hb5⟩
          have HE : RowKit.Hid (putGo (L.drop (k + 1)) (s ++ (tl ++ [10])) = R) := Lib.hid (by rw [← HG.out]; exact HMO2.out.symm)
          have HB5 := Lib.hid hB5
          have HBF : RowKit.Hid (Below w.heap.size w w5) := Lib.hid (hA4.trans hb5)
          clear hB5 hb5 hB4 hb4 hA4 HMO2 HG
          go_wp2_with fail
          go_roundw
          case rel => exact ⟨k + 1, s ++ (tl ++ [10]), by omega, by go_num, by simp; omega, HB5.out, HE, HBF.out⟩
          case measure => simp [RowKit.intOf]; omega
      · have hke : k = L.length := by omega
        subst hke
        have HE : RowKit.Hid (R = (s, 0)) := Lib.hid (by rw [← HR.out, List.drop_length]; rfl)
        clear HR
        go_wp2_with fail
        refine (bstring_any w.heap.size w.heap.size s _ HIB.out (by omega)).mono ?_
        rintro e w4 ⟨rfl, hb4⟩
        go_wp2_with fail
        go_ret2
        exact ⟨by rw [HE.out]; rfl, hbw.trans hb4⟩

set_option maxRecDepth 100000 in
set_option maxHeartbeats 4000000 in
theorem ssettings_any (v : Value) (L : List CmdM) (w : World) (hv : CmdsS w v L) (hL : L.length ≤ 1000000) :
    Calls Tryd.prog 37 #[v] w fun e w' => ∃ v', e = .returned v' ∧ CmdsS w' v' (settingsC L) ∧ Below w.heap.size w w' := by
  obtain ⟨p, c, rfl, hp⟩ := hv
  have HX := Lib.hid hp
  clear hp
  obtain ⟨i0, hi, hz0, hz1, hz2⟩ := info_parts info_cmd
  go_enter Tryd.func37, Tryd.ntmps37
  go_wp2_with fail
  go_loopw [3, 8] (fun v3 i wr => ∃ k : Nat, k ≤ L.length ∧ i = .int .i64 k ∧ wr.ownsRow w.heap.size 51 3 v3 (settingsC (L.take k)).length ((settingsC (L.take k)).flatMap cmc) ∧ Below w.heap.size w wr) (fun _ i _ => L.length - (RowKit.intOf i).toNat)
  case atStart => exact ⟨0, Nat.zero_le _, rfl, World.ownsRow_nil _ _ _ _, Below.refl _ _⟩
  case round =>
    obtain ⟨k, hk, rfl, hown, hbw⟩ := hrel
    have HOw := Lib.hid hown
    have hbz := hbw.size
    obtain ⟨p3, c3, rfl⟩ := owns_form hown
    have hsl : (settingsC (L.take k)).length ≤ k := Nat.le_trans (List.length_filter_le _ _) (List.length_take_le _ _)
    clear hown
    by_cases hk1 : k < L.length
    · obtain ⟨g, rfl, hcell⟩ := HX.out k hk1
      have HN := Lib.hid (take_snocC L k hk1)
      have a0 := cell_later hbw (hcell 0 _ rfl)
      have a1 := cell_later hbw (hcell 1 _ rfl)
      have a2 := cell_later hbw (hcell 2 _ rfl)
      simp only [Nat.add_zero] at a0 a1 a2
      generalize L.getD k noCmd = x at *
      obtain ⟨x1, x2, x3⟩ := x
      simp only at a0 a1 a2
      have HSt := Lib.hid (fun w' => sset_any x2 w')
      clear hcell
      have HNo : RowKit.Hid (setsC (x1, x2, x3) = false → wr.ownsRow w.heap.size 51 3 (.slice p3 (settingsC (L.take k)).length c3) (settingsC (L.take (k + 1))).length ((settingsC (L.take (k + 1))).flatMap cmc)) := Lib.hid (fun h => by
        have e : settingsC (L.take (k + 1)) = settingsC (L.take k) := by rw [HN.out]; unfold settingsC; rw [List.filter_append]; simp [h]
        rw [e]; exact HOw.out)
      have HYes : RowKit.Hid (setsC (x1, x2, x3) = true → settingsC (L.take (k + 1)) = settingsC (L.take k) ++ [(x1, x2, x3)]) := Lib.hid (fun h => by
        rw [HN.out]; unfold settingsC; rw [List.filter_append]; simp [h])
      by_cases h1 : 1 ≤ x2
      · have d1 : decide (1 ≤ x2) = true := decide_eq_true h1
        by_cases h2 : x2 ≤ 3
        · have d2 : decide (x2 ≤ 3) = true := decide_eq_true h2
          have HY := Lib.hid (HYes.out (by unfold setsC; simp only; rw [d1, d2]; rfl))
          rw [d2] at HSt
          clear HYes HNo
          go_wp2_with fail
          refine (HSt.out _).mono ?_
          rintro e w' ⟨rfl, rfl⟩
          go_wp2_with (at_builtin; go_must (refine wpList_append_own _ rfl (.tmp 20) (.tmp 22) 23 rfl w.heap.size 51 i0 (.agg #[.int .i64 0, .int .i64 0, .int .i64 0]) 3 24 Tryd.underlying23 hi hz0 hz1 hz2 rfl (by decide) _ _ _ rfl ((HOw.out.alloc _).alloc _) ⟨wr.heap.size + 1, 0, none⟩ 1 1 [.int .i64 x1, .int .i64 x2, .int .i64 x3] rfl rfl (news_lit _ _ _ _ (by simp)) (ones_cmd _ _ _) (by unfold maxLen; omega) (by omega) (by simp; omega) ?_))
          intro v4 w4 hown4 hgrow hnil
          have hb4 : Below w.heap.size w w4 := ((hbw.alloc hbz _).alloc (by simp; omega) _).grown hgrow (by simp; omega) (fun k hk => (HOw.out.lt k hk).1)
          have HO4 : RowKit.Hid (w4.ownsRow w.heap.size 51 3 v4 (settingsC (L.take (k + 1))).length ((settingsC (L.take (k + 1))).flatMap cmc)) := Lib.hid (by rw [HY.out, ← flat_snoc, List.length_append]; exact hown4)
          clear hown4 hgrow hnil
          go_wp2_with fail
          go_roundw
          case rel => exact ⟨k + 1, by omega, by go_num, HO4.out, hb4⟩
          case measure => simp [RowKit.intOf]; omega
        · have d2 : decide (x2 ≤ 3) = false := decide_eq_false h2
          have HO4 := Lib.hid (HNo.out (by unfold setsC; simp only; rw [d1, d2]; rfl))
          rw [d2] at HSt
          clear HYes HNo
          go_wp2_with fail
          refine (HSt.out _).mono ?_
          rintro e w' ⟨rfl, rfl⟩
          go_wp2_with fail
          go_roundw
          case rel => exact ⟨k + 1, by omega, by go_num, HO4.out.alloc _, hbw.alloc hbz _⟩
          case measure => simp [RowKit.intOf]; omega
      · have d1 : decide (1 ≤ x2) = false := decide_eq_false h1
        have HO4 := Lib.hid (HNo.out (by unfold setsC; simp only; rw [d1]; rfl))
        clear HYes HNo HSt
        go_wp2_with fail
        go_roundw
        case rel => exact ⟨k + 1, by omega, by go_num, HO4.out.alloc _, hbw.alloc hbz _⟩
        case measure => simp [RowKit.intOf]; omega
    · have hke : k = L.length := by omega
      subst hke
      have H9 : RowKit.Hid (CmdsS wr (.slice p3 (settingsC (L.take L.length)).length c3) (settingsC L)) := Lib.hid (by
        have h8 := HOw.out
        rw [List.take_length] at h8 ⊢
        exact own_sls noCmd cmc_len h8)
      go_wp2_with fail
      go_ret
      exact ⟨_, rfl, H9.out, hbw⟩
end Go.Proofs.YtphhgdgamnogpaaDoor

namespace Go.Proofs.YtphhgdgamnogpaaDoor
open Go.RowKit Go.Lib

/-- A command's cells as an argument's: its number is Go's. -/
def CmR (_ : World) (cs : List Value) (x : CmdM) : Prop := cs = cmc x ∧ NumC x
def CmdsA (w : World) (v : Value) (L : List CmdM) : Prop := SlR 3 CmR w v L
theorem CmdsA.below {w w' : World} {v : Value} {L : List CmdM} (h : CmdsA w v L) (hb : Below w.heap.size w w') : CmdsA w' v L := SlR.below (fun _ _ _ _ _ h => h) h hb
theorem cmdsA_at {w : World} {p : Option Addr} {n c : Nat} {L : List CmdM} (h : CmdsA w (.slice p n c) L) (k : Nat) (hk : k < L.length) : ∃ a, p = some a ∧ w.cell? (a.add (k * 3)) = some (.int .i64 (L.getD k noCmd).1) ∧ w.cell? ⟨(a.add (k * 3)).block, (a.add (k * 3)).off + 1, none⟩ = some (.int .i64 (L.getD k noCmd).2.1) ∧ w.cell? ⟨(a.add (k * 3)).block, (a.add (k * 3)).off + 2, none⟩ = some (.int .i64 (L.getD k noCmd).2.2) ∧ NumC (L.getD k noCmd) := by
  obtain ⟨p', c', e, -, -, hc⟩ := h
  injection e with e1 _ _
  subst e1
  obtain ⟨a, cs, rfl, -, h1, ⟨rfl, h3⟩⟩ := hc k hk
  have e : L.getD k noCmd = L[k] := by simp [hk]
  rw [e]
  exact ⟨a, rfl, h1 0 _ rfl, by rw [← addr_at' a (k * 3) 0]; exact h1 1 _ rfl, by rw [← addr_at' a (k * 3) 1]; exact h1 2 _ rfl, h3⟩
theorem cmdsA_mod {w : World} {v : Value} {L : List CmdM} (h : CmdsA w v L) : ModC L := by
  obtain ⟨p', c', -, -, -, hc⟩ := h
  intro x hx
  obtain ⟨k, hk, rfl⟩ := List.getElem_of_mem hx
  obtain ⟨a, cs, -, -, -, ⟨-, h3⟩⟩ := hc k hk
  exact h3

set_option maxRecDepth 100000 in
set_option maxHeartbeats 4000000 in
theorem rmay43_any (r k n : Int) (w : World) :
    Calls Tryd.prog 36 #[cmdV (r, k, n)] w fun e w' => e = .returned (.bool (mayC (r, k, n))) ∧ Below w.heap.size w w' := by
  unfold cmdV mayC
  dsimp only
  by_cases hk1 : k < 1
  · rw [if_neg (by omega), if_neg (by omega), if_neg (by omega)]
    have d4 : decide (3 < k) = false := decide_eq_false (by omega)
    rw [d4]
    clear d4
    go_enter Tryd.func36, Tryd.ntmps36
    go_wp2_with fail
    go_ret
    exact ⟨by first | rfl | simp_all, (by (repeat' (first | (with_reducible exact Below.refl _ _) | (with_reducible assumption) | (refine below_next ?_ (by with_reducible assumption)) | (with_reducible refine Below.setCell ?_ ?_ _) | (with_reducible refine Below.alloc ?_ ?_ _) | (with_reducible refine Below.drew ?_) | (with_reducible refine Go.below_drewN ?_ _) | omega | (simp; done) | (simp; omega))))⟩
  · by_cases hk10 : 10 < k
    · rw [if_neg (by omega), if_neg (by omega), if_neg (by omega)]
      have d5 : decide (k ≤ 10) = false := decide_eq_false (by omega)
      rw [d5, Bool.false_and, Bool.and_false]
      clear d5
      have hk1' : 1 ≤ k := by omega
      go_enter Tryd.func36, Tryd.ntmps36
      go_wp2_with fail
      go_ret
      exact ⟨by first | rfl | simp_all, (by (repeat' (first | (with_reducible exact Below.refl _ _) | (with_reducible assumption) | (refine below_next ?_ (by with_reducible assumption)) | (with_reducible refine Below.setCell ?_ ?_ _) | (with_reducible refine Below.alloc ?_ ?_ _) | (with_reducible refine Below.drew ?_) | (with_reducible refine Go.below_drewN ?_ _) | omega | (simp; done) | (simp; omega))))⟩
    · have hk1' : 1 ≤ k := by omega
      have hk10' : k ≤ 10 := by omega
      clear hk1 hk10
      by_cases h3 : k = 3
      · subst h3
        rw [if_neg (by decide), if_neg (by decide), if_pos rfl]
        go_enter Tryd.func36, Tryd.ntmps36
        go_wp2_with fail
        go_ret
        exact ⟨by first | rfl | simp_all, (by (repeat' (first | (with_reducible exact Below.refl _ _) | (with_reducible assumption) | (refine below_next ?_ (by with_reducible assumption)) | (with_reducible refine Below.setCell ?_ ?_ _) | (with_reducible refine Below.alloc ?_ ?_ _) | (with_reducible refine Below.drew ?_) | (with_reducible refine Go.below_drewN ?_ _) | omega | (simp; done) | (simp; omega))))⟩
      · have e3 : (k == 3) = false := beq_eq_false_iff_ne.2 h3
        by_cases h1 : k = 1
        · subst h1
          rw [if_pos rfl]
          by_cases hn : 1 ≤ n
          · have dn : decide (1 ≤ n) = true := decide_eq_true hn
            rw [dn, Bool.true_and]
            clear h3 hk1' hk10'
            go_enter Tryd.func36, Tryd.ntmps36
            go_wp2_with fail
            go_quiet (fail)
            go_wp2_with fail
            go_ret
            exact ⟨by first | rfl | simp_all, (by (repeat' (first | (with_reducible exact Below.refl _ _) | (with_reducible assumption) | (refine below_next ?_ (by with_reducible assumption)) | (with_reducible refine Below.setCell ?_ ?_ _) | (with_reducible refine Below.alloc ?_ ?_ _) | (with_reducible refine Below.drew ?_) | (with_reducible refine Go.below_drewN ?_ _) | omega | (simp; done) | (simp; omega))))⟩
          · have dn : decide (1 ≤ n) = false := decide_eq_false hn
            rw [dn, Bool.false_and]
            clear h3 hk1' hk10'
            go_enter Tryd.func36, Tryd.ntmps36
            go_wp2_with fail
            go_quiet (fail)
            go_wp2_with fail
            go_ret
            exact ⟨by first | rfl | simp_all, (by (repeat' (first | (with_reducible exact Below.refl _ _) | (with_reducible assumption) | (refine below_next ?_ (by with_reducible assumption)) | (with_reducible refine Below.setCell ?_ ?_ _) | (with_reducible refine Below.alloc ?_ ?_ _) | (with_reducible refine Below.drew ?_) | (with_reducible refine Go.below_drewN ?_ _) | omega | (simp; done) | (simp; omega))))⟩
        · by_cases h2 : k = 2
          · subst h2
            rw [if_neg h1, if_pos rfl]
            by_cases hn : 1 ≤ n
            · have dn : decide (1 ≤ n) = true := decide_eq_true hn
              rw [dn, Bool.true_and]
              clear h3 h1 hk1' hk10'
              go_enter Tryd.func36, Tryd.ntmps36
              go_wp2_with fail
              go_quiet (fail)
              go_wp2_with fail
              go_ret
              exact ⟨by first | rfl | simp_all, (by (repeat' (first | (with_reducible exact Below.refl _ _) | (with_reducible assumption) | (refine below_next ?_ (by with_reducible assumption)) | (with_reducible refine Below.setCell ?_ ?_ _) | (with_reducible refine Below.alloc ?_ ?_ _) | (with_reducible refine Below.drew ?_) | (with_reducible refine Go.below_drewN ?_ _) | omega | (simp; done) | (simp; omega))))⟩
            · have dn : decide (1 ≤ n) = false := decide_eq_false hn
              rw [dn, Bool.false_and]
              clear h3 h1 hk1' hk10'
              go_enter Tryd.func36, Tryd.ntmps36
              go_wp2_with fail
              go_quiet (fail)
              go_wp2_with fail
              go_ret
              exact ⟨by first | rfl | simp_all, (by (repeat' (first | (with_reducible exact Below.refl _ _) | (with_reducible assumption) | (refine below_next ?_ (by with_reducible assumption)) | (with_reducible refine Below.setCell ?_ ?_ _) | (with_reducible refine Below.alloc ?_ ?_ _) | (with_reducible refine Below.drew ?_) | (with_reducible refine Go.below_drewN ?_ _) | omega | (simp; done) | (simp; omega))))⟩
          · rw [if_neg h1, if_neg h2, if_neg h3]
            have d4 : decide (3 < k) = true := decide_eq_true (by omega)
            have d5 : decide (k ≤ 10) = true := decide_eq_true (by omega)
            have d6 : decide (k < 3) = false := decide_eq_false (by omega)
            rw [d4, d5, Bool.true_and, Bool.true_and]
            clear h1 h2 h3 d4 d5
            go_enter Tryd.func36, Tryd.ntmps36
            go_wp2_with fail
            go_ret
            exact ⟨by first | rfl | simp_all, (by (repeat' (first | (with_reducible exact Below.refl _ _) | (with_reducible assumption) | (refine below_next ?_ (by with_reducible assumption)) | (with_reducible refine Below.setCell ?_ ?_ _) | (with_reducible refine Below.alloc ?_ ?_ _) | (with_reducible refine Below.drew ?_) | (with_reducible refine Go.below_drewN ?_ _) | omega | (simp; done) | (simp; omega))))⟩

set_option maxRecDepth 100000 in
set_option maxHeartbeats 8000000 in
theorem rprint43_any (v : Value) (L : List CmdM) (w : World) (hv : CmdsA w v L) (hL : L.length ≤ 1000000) :
    Calls Tryd.prog 35 #[v] w fun e w' => e = .returned (.tuple #[.string (bs (writeS L).1), .int .i64 (writeS L).2]) ∧ Below w.heap.size w w' := by
  have hMod := cmdsA_mod hv
  have HMy := Lib.hid (fun k w' => rmay43_any (L.getD k noCmd).1 (L.getD k noCmd).2.1 (L.getD k noCmd).2.2 w')
  have HLn := Lib.hid (fun k (hk : k < L.length) (hm : mayC (L.getD k noCmd) = true) => lineX_len (L.getD k noCmd) hm (hMod.at k hk))
  have hv0 := hv
  obtain ⟨p, c, rfl, hl, hm, -⟩ := hv0
  have HX := Lib.hid (fun k hk => cmdsA_at hv k hk)
  unfold maxLen at hm
  clear hv hMod
  unfold writeS
  by_cases hbig : 200 < L.length
  · rw [if_pos hbig]
    have hd : decide ((200 : Int) < (L.length : Int)) = true := decide_eq_true (by omega)
    clear hbig
    go_enter Tryd.func35, Tryd.ntmps35
    go_wp2_with fail
    go_ret2
    exact ⟨rfl, Below.refl _ _⟩
  · rw [if_neg hbig]
    have hd : decide ((200 : Int) < (L.length : Int)) = false := decide_eq_false (by omega)
    have hLb : L.length ≤ 200 := by omega
    clear hbig
    obtain ⟨R, hR⟩ : ∃ R, putGo L [] = R := ⟨_, rfl⟩
    rw [hR]
    have HR0 := Lib.hid hR
    clear hR
    go_enter Tryd.func35, Tryd.ntmps35
    go_wp2_with fail
    go_loopw [4, 5] (fun v4 i wr => ∃ (k : Nat) (s : List UInt8), k ≤ L.length ∧ v4 = .string (bs s) ∧ i = .int .i64 k ∧ s.length ≤ 28 * k ∧ RowKit.Hid (putGo (L.drop k) s = R) ∧ Below w.heap.size w wr) (fun _ i _ => L.length - (RowKit.intOf i).toNat)
    case atStart => exact ⟨0, [], Nat.zero_le _, rfl, rfl, Nat.zero_le _, Lib.hid (by rw [List.drop_zero]; exact HR0.out), Below.refl _ _⟩
    case round =>
      obtain ⟨k, s, hk, rfl, rfl, hs, HR, hbw⟩ := hrel
      by_cases hk1 : k < L.length
      · obtain ⟨a, rfl, c0, c1, c2, hnum⟩ := HX.out k hk1
        have hd2 := drop_consC L k hk1
        have HG := Lib.hid HR.out
        rw [hd2] at HG
        have HMk := Lib.hid (HMy.out k)
        have hln := HLn.out k hk1
        have a0 := cell_later hbw c0
        have a1 := cell_later hbw c1
        have a2 := cell_later hbw c2
        clear c0 c1 c2 hd2 HR
        obtain ⟨t, ht⟩ : ∃ t, L.getD k noCmd = t := ⟨_, rfl⟩
        rw [ht] at HG HMk hln a0 a1 a2 hnum
        obtain ⟨x1, x2, x3⟩ := t
        simp only at HMk a0 a1 a2
        have HST := Lib.hid (put_stop (x1, x2, x3) (L.drop (k + 1)) s)
        have HMO := Lib.hid (put_more (x1, x2, x3) (L.drop (k + 1)) s)
        clear ht
        obtain ⟨b, hb⟩ : ∃ b, mayC (x1, x2, x3) = b := ⟨_, rfl⟩
        have hkd := mayC_kind x1 x2 x3
        rw [hb] at HMk HST HMO hln hkd
        unfold cmdV at HMk
        dsimp only at HMk
        cases b with
        | false =>
          have HE : RowKit.Hid (R = ([], 4)) := Lib.hid (by rw [← HG.out]; exact HST.out rfl)
          clear HST HMO HG hln hb hkd hnum
          go_wp2_with fail
          refine (HMk.out _).mono ?_
          rintro e w2 ⟨rfl, hb2⟩
          go_wp2_with fail
          go_ret2
          exact ⟨by rw [HE.out]; rfl, below_next hbw hb2⟩
        | true =>
          have HMO2 := Lib.hid (HMO.out rfl)
          have hln2 := hln rfl
          obtain ⟨hkd1, hkd2⟩ := hkd rfl
          clear HST HMO hln hb hkd
          by_cases h1 : x2 = 1
          · subst h1
            clear hkd1 hkd2 hnum
            have HL := Lib.hid (fun w' => rlevel_any x3 w')
            have HF := Lib.hid (fun w' => rfirst_any 1 (by decide) (by decide) w')
            have hLX : lineX (x1, 1, x3) = firstW 1 ++ 32 :: levelW x3 := by
              show join [firstW 1, levelW x3] [32] = _
              rw [join_two]
              congr 2
              simp [join]
            rw [hLX] at HMO2 hln2
            clear hLX
            generalize hFW : firstW 1 = FW at *
            generalize hWD : levelW x3 = WD at *
            clear hFW hWD
            have hlw : FW.length + WD.length ≤ 26 := by simp at hln2; omega
            clear hln2
            go_wp2_with fail
            refine (HMk.out _).mono ?_
            rintro e w2 ⟨rfl, hb2⟩
            have b0 := cell_later hb2 a0
            have b1 := cell_later hb2 a1
            have b2 := cell_later hb2 a2
            have hbw2 := below_next hbw hb2
            clear hb2
            go_wp2_with fail
            refine (HF.out _).mono ?_
            rintro e w3 ⟨rfl, hb3⟩
            have d0 := cell_later hb3 b0
            have d1 := cell_later hb3 b1
            have d2 := cell_later hb3 b2
            have hbw3 := below_next hbw2 hb3
            clear hb3 b0 b1 b2 a0 a1 a2
            go_wp2_with fail
            refine (HL.out _).mono ?_
            rintro e w4 ⟨rfl, hb4⟩
            have hbw4 := below_next hbw3 hb4
            have HE : RowKit.Hid (putGo (L.drop (k + 1)) (s ++ (FW ++ 32 :: WD ++ [10])) = R) := Lib.hid (by rw [← HG.out]; exact HMO2.out.symm)
            have HE2 : RowKit.Hid (s ++ FW ++ 32 :: WD ++ [10] = s ++ (FW ++ 32 :: WD ++ [10])) := Lib.hid (by simp)
            clear hb4 HMO2 HG
            go_wp2_with fail
            go_roundw
            case rel => exact ⟨k + 1, s ++ (FW ++ 32 :: WD ++ [10]), by omega, by (show Value.string (bs (s ++ FW) ++ (bs [32] ++ bs WD) ++ bs [10]) = Value.string (bs (s ++ (FW ++ 32 :: WD ++ [10]))); rw [bs_append, bs_append, bs_append]; first | rfl | (simp; done) | (congr 2; done) | (congr 2; simp)), by go_num, by simp; omega, HE.out, hbw4⟩
            case measure => simp [RowKit.intOf]; omega
          · by_cases h2 : x2 = 2
            · subst h2
              clear hkd1 hkd2 hnum h1
              have HL := Lib.hid (fun w' => rpolicy_any x3 w')
              have HF := Lib.hid (fun w' => rfirst_any 2 (by decide) (by decide) w')
              have hLX : lineX (x1, 2, x3) = firstW 2 ++ 32 :: policyW x3 := by
                show join [firstW 2, policyW x3] [32] = _
                rw [join_two]
                congr 2
                simp [join]
              rw [hLX] at HMO2 hln2
              clear hLX
              generalize hFW : firstW 2 = FW at *
              generalize hWD : policyW x3 = WD at *
              clear hFW hWD
              have hlw : FW.length + WD.length ≤ 26 := by simp at hln2; omega
              clear hln2
              go_wp2_with fail
              refine (HMk.out _).mono ?_
              rintro e w2 ⟨rfl, hb2⟩
              have b0 := cell_later hb2 a0
              have b1 := cell_later hb2 a1
              have b2 := cell_later hb2 a2
              have hbw2 := below_next hbw hb2
              clear hb2
              go_wp2_with fail
              refine (HF.out _).mono ?_
              rintro e w3 ⟨rfl, hb3⟩
              have d0 := cell_later hb3 b0
              have d1 := cell_later hb3 b1
              have d2 := cell_later hb3 b2
              have hbw3 := below_next hbw2 hb3
              clear hb3 b0 b1 b2 a0 a1 a2
              go_wp2_with fail
              refine (HL.out _).mono ?_
              rintro e w4 ⟨rfl, hb4⟩
              have hbw4 := below_next hbw3 hb4
              have HE : RowKit.Hid (putGo (L.drop (k + 1)) (s ++ (FW ++ 32 :: WD ++ [10])) = R) := Lib.hid (by rw [← HG.out]; exact HMO2.out.symm)
              have HE2 : RowKit.Hid (s ++ FW ++ 32 :: WD ++ [10] = s ++ (FW ++ 32 :: WD ++ [10])) := Lib.hid (by simp)
              clear hb4 HMO2 HG
              go_wp2_with fail
              go_roundw
              case rel => exact ⟨k + 1, s ++ (FW ++ 32 :: WD ++ [10]), by omega, by (show Value.string (bs (s ++ FW) ++ (bs [32] ++ bs WD) ++ bs [10]) = Value.string (bs (s ++ (FW ++ 32 :: WD ++ [10]))); rw [bs_append, bs_append, bs_append]; first | rfl | (simp; done) | (congr 2; done) | (congr 2; simp)), by go_num, by simp; omega, HE.out, hbw4⟩
              case measure => simp [RowKit.intOf]; omega
            · by_cases h3 : x2 = 3
              · subst h3
                obtain ⟨hnum1, hnum2⟩ := hnum
                simp only at hnum1 hnum2
                clear hkd1 hkd2 h1 h2
                have HL := Lib.hid (fun w' => itoa_any x3 hnum1 hnum2 w')
                have HF := Lib.hid (fun w' => rfirst_any 3 (by decide) (by decide) w')
                have hLX : lineX (x1, 3, x3) = firstW 3 ++ 32 :: printL x3 := by
                  show join [firstW 3, printL x3] [32] = _
                  rw [join_two]
                  congr 2
                  simp [join]
                rw [hLX] at HMO2 hln2
                clear hLX
                generalize hFW : firstW 3 = FW at *
                generalize hWD : printL x3 = WD at *
                clear hFW hWD
                have hlw : FW.length + WD.length ≤ 26 := by simp at hln2; omega
                clear hln2
                go_wp2_with fail
                refine (HMk.out _).mono ?_
                rintro e w2 ⟨rfl, hb2⟩
                have b0 := cell_later hb2 a0
                have b1 := cell_later hb2 a1
                have b2 := cell_later hb2 a2
                have hbw2 := below_next hbw hb2
                clear hb2
                go_wp2_with fail
                refine (HF.out _).mono ?_
                rintro e w3 ⟨rfl, hb3⟩
                have d0 := cell_later hb3 b0
                have d1 := cell_later hb3 b1
                have d2 := cell_later hb3 b2
                have hbw3 := below_next hbw2 hb3
                clear hb3 b0 b1 b2 a0 a1 a2
                go_wp2_with fail
                refine (HL.out _).mono ?_
                rintro e w4 ⟨rfl, hb4⟩
                have hbw4 := below_next hbw3 hb4
                have HE : RowKit.Hid (putGo (L.drop (k + 1)) (s ++ (FW ++ 32 :: WD ++ [10])) = R) := Lib.hid (by rw [← HG.out]; exact HMO2.out.symm)
                have HE2 : RowKit.Hid (s ++ FW ++ 32 :: WD ++ [10] = s ++ (FW ++ 32 :: WD ++ [10])) := Lib.hid (by simp)
                clear hb4 HMO2 HG
                go_wp2_with fail
                go_roundw
                case rel => exact ⟨k + 1, s ++ (FW ++ 32 :: WD ++ [10]), by omega, by (show Value.string (bs (s ++ FW) ++ (bs [32] ++ bs WD) ++ bs [10]) = Value.string (bs (s ++ (FW ++ 32 :: WD ++ [10]))); rw [bs_append, bs_append, bs_append]; first | rfl | (simp; done) | (congr 2; done) | (congr 2; simp)), by go_num, by simp; omega, HE.out, hbw4⟩
                case measure => simp [RowKit.intOf]; omega
              · have e1 : (x2 == 1) = false := beq_eq_false_iff_ne.2 h1
                have e2 : (x2 == 2) = false := beq_eq_false_iff_ne.2 h2
                have e3 : (x2 == 3) = false := beq_eq_false_iff_ne.2 h3
                have HF := Lib.hid (fun w' => rfirst_any x2 hkd1 hkd2 w')
                have hLX : lineX (x1, x2, x3) = firstW x2 := by
                  unfold lineX wordsX
                  simp only
                  rw [if_neg h1, if_neg h2, if_neg h3]
                  simp [join]
                rw [hLX] at HMO2 hln2
                clear hLX h1 h2 h3 hnum
                generalize hFW : firstW x2 = FW at *
                clear hFW
                go_wp2_with fail
                refine (HMk.out _).mono ?_
                rintro e w2 ⟨rfl, hb2⟩
                have b0 := cell_later hb2 a0
                have b1 := cell_later hb2 a1
                have b2 := cell_later hb2 a2
                have hbw2 := below_next hbw hb2
                clear hb2
                go_wp2_with fail
                refine (HF.out _).mono ?_
                rintro e w3 ⟨rfl, hb3⟩
                have d0 := cell_later hb3 b0
                have d1 := cell_later hb3 b1
                have d2 := cell_later hb3 b2
                have hbw3 := below_next hbw2 hb3
                have HE : RowKit.Hid (putGo (L.drop (k + 1)) (s ++ (FW ++ [10])) = R) := Lib.hid (by rw [← HG.out]; exact HMO2.out.symm)
                clear hb3 b0 b1 b2 a0 a1 a2 HMO2 HG
                go_wp2_with fail
                go_roundw
                case rel => exact ⟨k + 1, s ++ (FW ++ [10]), by omega, by (show Value.string (bs (s ++ FW) ++ bs [10]) = Value.string (bs (s ++ (FW ++ [10]))); rw [bs_append]; congr 2; simp), by go_num, by simp; omega, HE.out, hbw3⟩
                case measure => simp [RowKit.intOf]; omega
      · have hke : k = L.length := by omega
        subst hke
        have HE : RowKit.Hid (R = (s, 0)) := Lib.hid (by rw [← HR.out, List.drop_length]; rfl)
        clear HR
        go_wp2_with fail
        go_ret2
        exact ⟨by rw [HE.out]; rfl, hbw⟩
end Go.Proofs.YtphhgdgamnogpaaDoor

namespace Go.Proofs.YtphhgdgamnogpaaDoor
open Go.RowKit Go.Lib

set_option maxRecDepth 100000 in
set_option maxHeartbeats 4000000 in
theorem rsettings_any (v : Value) (L : List CmdM) (w : World) (hv : CmdsA w v L) (hL : L.length ≤ 1000000) :
    Calls Tryd.prog 38 #[v] w fun e w' => ∃ v', e = .returned v' ∧ CmdsS w' v' (settingsC L) ∧ Below w.heap.size w w' := by
  have hv0 := hv
  obtain ⟨p, c, rfl, hl, hm, -⟩ := hv0
  have HX := Lib.hid (fun k hk => cmdsA_at hv k hk)
  unfold maxLen at hm
  clear hv
  obtain ⟨i0, hi, hz0, hz1, hz2⟩ := info_parts info_rcmd
  go_enter Tryd.func38, Tryd.ntmps38
  go_wp2_with fail
  go_loopw [3, 4] (fun v3 i wr => ∃ k : Nat, k ≤ L.length ∧ i = .int .i64 k ∧ wr.ownsRow w.heap.size 56 3 v3 (settingsC (L.take k)).length ((settingsC (L.take k)).flatMap cmc) ∧ Below w.heap.size w wr) (fun _ i _ => L.length - (RowKit.intOf i).toNat)
  case atStart => exact ⟨0, Nat.zero_le _, rfl, World.ownsRow_made w #[] 0 (Nat.le_refl _) (Nat.zero_le _) rfl, (Below.refl _ _).alloc (Nat.le_refl _) _⟩
  case round =>
    obtain ⟨k, hk, rfl, hown, hbw⟩ := hrel
    have HOw := Lib.hid hown
    have hbz := hbw.size
    obtain ⟨p3, c3, rfl⟩ := owns_form hown
    have hsl : (settingsC (L.take k)).length ≤ k := Nat.le_trans (List.length_filter_le _ _) (List.length_take_le _ _)
    clear hown
    by_cases hk1 : k < L.length
    · obtain ⟨a, rfl, c0, c1, c2, -⟩ := HX.out k hk1
      have HN := Lib.hid (take_snocC L k hk1)
      have a0 := cell_later hbw c0
      have a1 := cell_later hbw c1
      have a2 := cell_later hbw c2
      clear c0 c1 c2
      generalize L.getD k noCmd = x at *
      obtain ⟨x1, x2, x3⟩ := x
      simp only at a0 a1 a2
      have HNo : RowKit.Hid (setsC (x1, x2, x3) = false → wr.ownsRow w.heap.size 56 3 (.slice p3 (settingsC (L.take k)).length c3) (settingsC (L.take (k + 1))).length ((settingsC (L.take (k + 1))).flatMap cmc)) := Lib.hid (fun h => by
        have e : settingsC (L.take (k + 1)) = settingsC (L.take k) := by rw [HN.out]; unfold settingsC; rw [List.filter_append]; simp [h]
        rw [e]; exact HOw.out)
      have HYes : RowKit.Hid (setsC (x1, x2, x3) = true → settingsC (L.take (k + 1)) = settingsC (L.take k) ++ [(x1, x2, x3)]) := Lib.hid (fun h => by
        rw [HN.out]; unfold settingsC; rw [List.filter_append]; simp [h])
      have hlA : (a.add (k * 3)).block < wr.heap.size := World.block_lt_of_cell? wr _ a0
      by_cases h1 : 1 ≤ x2
      · have d1 : decide (1 ≤ x2) = true := decide_eq_true h1
        by_cases h2 : x2 ≤ 3
        · have d2 : decide (x2 ≤ 3) = true := decide_eq_true h2
          have HY := Lib.hid (HYes.out (by unfold setsC; simp only; rw [d1, d2]; rfl))
          clear HYes HNo
          go_wp2_with (at_builtin; go_must (refine wpList_append_own _ rfl (.tmp 26) (.tmp 31) 27 rfl w.heap.size 56 i0 (.agg #[.int .i64 0, .int .i64 0, .int .i64 0]) 3 24 Tryd.underlying27 hi hz0 hz1 hz2 rfl (by decide) _ _ _ rfl (HOw.out.alloc _) ⟨wr.heap.size, 0, none⟩ 1 1 [.int .i64 x1, .int .i64 x2, .int .i64 x3] rfl rfl (news_lit _ _ _ _ (by simp)) (ones_cmd _ _ _) (by unfold maxLen; omega) (by omega) (by simp; omega) ?_))
          intro v4 w4 hown4 hgrow hnil
          have hb4 : Below w.heap.size w w4 := (hbw.alloc hbz _).grown hgrow (by simp; omega) (fun k hk => (HOw.out.lt k hk).1)
          have HO4 : RowKit.Hid (w4.ownsRow w.heap.size 56 3 v4 (settingsC (L.take (k + 1))).length ((settingsC (L.take (k + 1))).flatMap cmc)) := Lib.hid (by rw [HY.out, ← flat_snoc, List.length_append]; exact hown4)
          clear hown4 hgrow hnil
          go_wp2_with fail
          go_roundw
          case rel => exact ⟨k + 1, by omega, by go_num, HO4.out, hb4⟩
          case measure => simp [RowKit.intOf]; omega
        · have d2 : decide (x2 ≤ 3) = false := decide_eq_false h2
          have HO4 := Lib.hid (HNo.out (by unfold setsC; simp only; rw [d1, d2]; rfl))
          clear HYes HNo
          go_wp2_with fail
          go_roundw
          case rel => exact ⟨k + 1, by omega, by go_num, HO4.out, hbw⟩
          case measure => simp [RowKit.intOf]; omega
      · have d1 : decide (1 ≤ x2) = false := decide_eq_false h1
        have HO4 := Lib.hid (HNo.out (by unfold setsC; simp only; rw [d1]; rfl))
        clear HYes HNo
        go_wp2_with fail
        go_roundw
        case rel => exact ⟨k + 1, by omega, by go_num, HO4.out, hbw⟩
        case measure => simp [RowKit.intOf]; omega
    · have hke : k = L.length := by omega
      subst hke
      have H9 : RowKit.Hid (CmdsS wr (.slice p3 (settingsC (L.take L.length)).length c3) (settingsC L)) := Lib.hid (by
        have h8 := HOw.out
        rw [List.take_length] at h8 ⊢
        exact own_sls noCmd cmc_len h8)
      go_wp2_with fail
      go_ret
      exact ⟨_, rfl, H9.out, hbw⟩

set_option maxRecDepth 100000 in
set_option maxHeartbeats 4000000 in
theorem give_any (v : Value) (L : List CmdM) (w : World) (hv : CmdsA w v L) :
    Calls Tryd.prog 32 #[v, .int .i64 210] w fun e w' => ∃ v', e = .returned v' ∧ w'.ownsRow w.heap.size 51 3 v' (L.take 210).length ((L.take 210).flatMap cmc) ∧ Below w.heap.size w w' := by
  have hv0 := hv
  obtain ⟨p, c, rfl, hl, hm, -⟩ := hv0
  have HX := Lib.hid (fun k hk => cmdsA_at hv k hk)
  unfold maxLen at hm
  clear hv
  obtain ⟨i0, hi, hz0, hz1, hz2⟩ := info_parts info_cmd
  go_enter Tryd.func32, Tryd.ntmps32
  go_wp2_with fail
  go_loopw [5, 6] (fun v3 i wr => ∃ k : Nat, k ≤ L.length ∧ k ≤ 210 ∧ i = .int .i64 k ∧ wr.ownsRow w.heap.size 51 3 v3 k ((L.take k).flatMap cmc) ∧ Below w.heap.size w wr) (fun _ i _ => L.length - (RowKit.intOf i).toNat)
  case atStart => exact ⟨0, Nat.zero_le _, Nat.zero_le _, rfl, World.ownsRow_made w #[] 0 (Nat.le_refl _) (Nat.zero_le _) rfl, (Below.refl _ _).alloc (Nat.le_refl _) _⟩
  case round =>
    obtain ⟨k, hk, hk2, rfl, hown, hbw⟩ := hrel
    have HOw := Lib.hid hown
    have hbz := hbw.size
    obtain ⟨p3, c3, rfl⟩ := owns_form hown
    clear hown
    by_cases hk1 : k < L.length ∧ k < 210
    · obtain ⟨h1, h2⟩ := hk1
      obtain ⟨a, rfl, e1, e2, e3, -⟩ := HX.out k h1
      have HN := Lib.hid (take_snocC L k h1)
      have b1 := cell_later hbw e1
      have b2 := cell_later hbw e2
      have b3 := cell_later hbw e3
      clear e1 e2 e3
      generalize L.getD k noCmd = x at *
      obtain ⟨x1, x2, x3⟩ := x
      simp only at b1 b2 b3
      have hgl : (a.add (k * 3)).block < wr.heap.size := World.block_lt_of_cell? wr _ b1
      have h2' : decide ((k : Int) < 210) = true := decide_eq_true (by omega)
      have h1' : decide (k < L.length) = true := decide_eq_true h1
      have HS : RowKit.Hid (∀ w', Below wr.heap.size wr w' → (w'.cell? (a.add (k * 3)) = some (.int .i64 x1) ∧ w'.cell? ⟨(a.add (k * 3)).block, (a.add (k * 3)).off + 1, none⟩ = some (.int .i64 x2) ∧ w'.cell? ⟨(a.add (k * 3)).block, (a.add (k * 3)).off + 2, none⟩ = some (.int .i64 x3))) := Lib.hid (fun w' hb => ⟨cell_later hb b1, cell_later hb b2, cell_later hb b3⟩)
      go_wp2_with fail
      refine wp_region_keep (fun w' => w'.cell? (a.add (k * 3)) = some (.int .i64 x1) ∧ w'.cell? ⟨(a.add (k * 3)).block, (a.add (k * 3)).off + 1, none⟩ = some (.int .i64 x2) ∧ w'.cell? ⟨(a.add (k * 3)).block, (a.add (k * 3)).off + 2, none⟩ = some (.int .i64 x3)) [17, 18, 19] (by kernel_rfl) ?_
      have hB0 : Below (wr).heap.size (wr) (wr).drew := Below.drew (Below.refl _ _)
      have hS0 := HS.out _ hB0
      refine wpAnyM_free 0 (v := ?_) rfl (by kernel_rfl) (by kernel_rfl) (by kernel_rfl) (fun _ _ _ h => h) (Or.inl ⟨by rfl, ?_⟩) ?_
      rotate_left
      · intro w' hw'
        go_simp
        try with_reducible rfl
      try simp only [Act.put, List.setIfInBounds_toArray, List.set_cons_zero, List.set_cons_succ]
      refine wpAnyM_free 1 (v := ?_) rfl (by kernel_rfl) (by kernel_rfl) (by kernel_rfl) (fun _ _ _ h => h) (Or.inl ⟨by rfl, ?_⟩) ?_
      rotate_left
      · intro w' hw'
        go_simp
        try with_reducible rfl
      try simp only [Act.put, List.setIfInBounds_toArray, List.set_cons_zero, List.set_cons_succ]
      refine wpAnyM_free 2 (v := ?_) rfl (by kernel_rfl) (by kernel_rfl) (by kernel_rfl) (fun _ _ _ h => h) (Or.inl ⟨by rfl, ?_⟩) ?_
      rotate_left
      · intro w' hw'
        go_simp
        try with_reducible rfl
      try simp only [Act.put, List.setIfInBounds_toArray, List.set_cons_zero, List.set_cons_succ]
      refine wpAnyM_free 3 (v := ?_) rfl (by kernel_rfl) (by kernel_rfl) (by kernel_rfl) (fun _ _ _ h => h) (Or.inl ⟨by rfl, ?_⟩) ?_
      rotate_left
      · intro w' hw'
        go_simp
        try with_reducible rfl
      try simp only [Act.put, List.setIfInBounds_toArray, List.set_cons_zero, List.set_cons_succ]
      refine wpAnyM_free 4 (v := ?_) rfl (by kernel_rfl) (by kernel_rfl) (by kernel_rfl) (fun _ _ _ h => h) (Or.inl ⟨by rfl, ?_⟩) ?_
      rotate_left
      · intro w' hw'
        go_simp
        try with_reducible rfl
      try simp only [Act.put, List.setIfInBounds_toArray, List.set_cons_zero, List.set_cons_succ]
      refine wpAnyM_take 5 20 (v := ?_) rfl (by kernel_rfl) (by kernel_rfl) (by kernel_rfl) (by kernel_rfl) (by kernel_rfl) (fun _ _ _ h => h) (Or.inl ⟨by rfl, ?_⟩) hS0 ?_
      rotate_left
      · intro w' hw'
        try dsimp only at hw'
        go_simp
        try with_reducible rfl
      try simp only [Act.put, List.setIfInBounds_toArray, List.set_cons_zero, List.set_cons_succ]
      refine wpAnyM_free 6 (v := ?_) rfl (by kernel_rfl) (by kernel_rfl) (by kernel_rfl) (fun _ _ _ h => h) (Or.inl ⟨by rfl, ?_⟩) ?_
      rotate_left
      · intro w' hw'
        go_simp
        try with_reducible rfl
      try simp only [Act.put, List.setIfInBounds_toArray, List.set_cons_zero, List.set_cons_succ]
      refine wpAnyM_free 7 (v := ?_) rfl (by kernel_rfl) (by kernel_rfl) (by kernel_rfl) (fun _ _ _ h => h) (Or.inl ⟨by rfl, ?_⟩) ?_
      rotate_left
      · intro w' hw'
        go_simp
        try with_reducible rfl
      try simp only [Act.put, List.setIfInBounds_toArray, List.set_cons_zero, List.set_cons_succ]
      refine wpAnyM_free 8 (v := ?_) rfl (by kernel_rfl) (by kernel_rfl) (by kernel_rfl) (fun _ _ _ h => h) (Or.inl ⟨by rfl, ?_⟩) ?_
      rotate_left
      · intro w' hw'
        go_simp
        try with_reducible rfl
      try simp only [Act.put, List.setIfInBounds_toArray, List.set_cons_zero, List.set_cons_succ]
      refine wpAnyM_free 9 (v := ?_) rfl (by kernel_rfl) (by kernel_rfl) (by kernel_rfl) (fun _ _ _ h => h) (Or.inl ⟨by rfl, ?_⟩) ?_
      rotate_left
      · intro w' hw'
        go_simp
        try with_reducible rfl
      try simp only [Act.put, List.setIfInBounds_toArray, List.set_cons_zero, List.set_cons_succ]
      refine wpAnyM_take 10 20 (v := ?_) rfl (by kernel_rfl) (by kernel_rfl) (by kernel_rfl) (by kernel_rfl) (by kernel_rfl) (fun _ _ _ h => h) (Or.inl ⟨by rfl, ?_⟩) hS0 ?_
      rotate_left
      · intro w' hw'
        try dsimp only at hw'
        go_simp
        try with_reducible rfl
      try simp only [Act.put, List.setIfInBounds_toArray, List.set_cons_zero, List.set_cons_succ]
      refine wpAnyM_free 11 (v := ?_) rfl (by kernel_rfl) (by kernel_rfl) (by kernel_rfl) (fun _ _ _ h => h) (Or.inl ⟨by rfl, ?_⟩) ?_
      rotate_left
      · intro w' hw'
        go_simp
        try with_reducible rfl
      try simp only [Act.put, List.setIfInBounds_toArray, List.set_cons_zero, List.set_cons_succ]
      refine wpAnyM_one 12 rfl (by kernel_rfl) (fun K hK => ?_)
      go_simp
      refine hK.out _ _ (fun _ h => h) ?_
      clear hK K
      try simp only [Act.put, List.setIfInBounds_toArray, List.set_cons_zero, List.set_cons_succ]
      refine wpAnyM_one 13 rfl (by kernel_rfl) (fun K hK => ?_)
      go_simp
      refine hK.out _ _ (fun _ h => h) ?_
      clear hK K
      try simp only [Act.put, List.setIfInBounds_toArray, List.set_cons_zero, List.set_cons_succ]
      refine wpAnyM_one 14 rfl (by kernel_rfl) (fun K hK => ?_)
      go_simp
      refine hK.out _ _ (fun _ h => h) ?_
      clear hK K
      try simp only [Act.put, List.setIfInBounds_toArray, List.set_cons_zero, List.set_cons_succ]
      refine wpAnyM_one 15 rfl (by kernel_rfl) (fun K hK => ?_)
      go_simp
      refine hK.out _ _ (fun _ h => h) ?_
      clear hK K
      try simp only [Act.put, List.setIfInBounds_toArray, List.set_cons_zero, List.set_cons_succ]
      refine wpAnyM_one 16 rfl (by kernel_rfl) (fun K hK => ?_)
      go_simp
      refine hK.out _ _ (fun _ _ => hS0) ?_
      clear hK K
      try simp only [Act.put, List.setIfInBounds_toArray, List.set_cons_zero, List.set_cons_succ]
      refine wpAnyM_one 17 rfl (by kernel_rfl) (fun K hK => ?_)
      go_simp
      refine hK.out _ _ (fun h => absurd h (by decide)) ?_
      clear hK K
      try simp only [Act.put, List.setIfInBounds_toArray, List.set_cons_zero, List.set_cons_succ]
      refine wpAnyM_one 18 rfl (by kernel_rfl) (fun K hK => ?_)
      refine step_append_lies _ (by rfl) _ _ 23 (by rfl) w.heap.size 51 i0 (.agg #[.int .i64 0, .int .i64 0, .int .i64 0]) 3 24 Tryd.underlying23 hi hz0 hz1 hz2 rfl (by decide) _ k ((L.take k).flatMap cmc) (by rfl) (HOw.out.alloc _) ⟨wr.heap.size, 0, none⟩ 1 1 [.int .i64 x1, .int .i64 x2, .int .i64 x3] (by rfl) rfl (news_lit3 _ _ _ _ _) (ones_cmd _ _ _) (by decide) (by unfold maxLen; omega) (by omega) (by simp; omega) _ rfl (fun g4 cap4 w4 hown4 hgrow hg4 hlt4 => ?_)
      refine hK.out _ _ (fun h => absurd h (by decide)) ?_
      clear hK K
      try simp only [Act.put, List.setIfInBounds_toArray, List.set_cons_zero, List.set_cons_succ]
      refine wpAnyM_one 19 rfl (by kernel_rfl) (fun K hK => ?_)
      go_simp
      refine hK.out _ _ (fun h => absurd h (by decide)) ?_
      clear hK K
      try simp only [Act.put, List.setIfInBounds_toArray, List.set_cons_zero, List.set_cons_succ]
      refine wpAnyM_done (by kernel_rfl) ?_ _
      try simp only [Act.put, List.setIfInBounds_toArray, List.set_cons_zero, List.set_cons_succ]
      have hb4 : Below w.heap.size w w4 := ((hbw.drew).alloc hbz _).grown hgrow (by simp; omega) (fun k hk => (HOw.out.lt k hk).1)
      have HO4 : RowKit.Hid (w4.ownsRow w.heap.size 51 3 (.slice (some ⟨g4, 0, none⟩) (k + 1) cap4) (k + 1) ((L.take (k + 1)).flatMap cmc)) := Lib.hid (by rw [HN.out, ← flat_snoc]; exact hown4)
      clear hown4 hgrow hg4
      go_wp2_with fail
      go_roundw
      case rel => exact ⟨k + 1, by omega, by omega, by go_num, HO4.out, hb4⟩
      case measure => simp [RowKit.intOf]; omega
    · have H9 : RowKit.Hid (wr.ownsRow w.heap.size 51 3 (.slice p3 k c3) (L.take 210).length ((L.take 210).flatMap cmc)) := Lib.hid (by
        have h8 := HOw.out
        have e : L.take k = L.take 210 := by
          by_cases h : k < L.length
          · rw [show k = 210 by omega]
          · rw [List.take_of_length_le (show L.length ≤ k by omega), List.take_of_length_le (show L.length ≤ 210 by omega)]
        rw [e] at h8
        have e2 : (L.take 210).length = k := by rw [← e, List.length_take]; omega
        rw [e2]
        exact h8)
      have hlt' : (k < L.length ∧ 210 ≤ k) ∨ L.length ≤ k := by omega
      clear hk1
      rcases hlt' with ⟨h1, h2⟩ | h1
      all_goals
        go_wp2_with fail
        go_ret
        exact ⟨_, rfl, H9.out, hbw⟩
end Go.Proofs.YtphhgdgamnogpaaDoor

namespace Go.Proofs.YtphhgdgamnogpaaDoor
open Go.RowKit Go.Lib

theorem slR_take {α : Type} {s : Nat} {R : World → List Value → α → Prop} {w : World} {p : Option Addr} {n c : Nat} {L : List α} (h : SlR s R w (.slice p n c) L) (m : Nat) (hm : m ≤ L.length) : SlR s R w (.slice p (L.take m).length c) (L.take m) := by
  obtain ⟨p', c', e, hl, hc, hx⟩ := h
  injection e with e1 e2 e3
  subst e1 e3
  have hlen : (L.take m).length = m := by rw [List.length_take]; omega
  refine ⟨p, c, rfl, by omega, hc, fun j hj => ?_⟩
  rw [hlen] at hj
  obtain ⟨a, cs, h1, h2, h3, h4⟩ := hx j (by omega)
  refine ⟨a, cs, h1, h2, h3, ?_⟩
  rw [List.getElem_take]
  exact h4
set_option maxRecDepth 100000 in
set_option maxHeartbeats 8000000 in
theorem scriptprints_any (v : Value) (L : List CmdM) (w : World) (hv : CmdsA w v L) (hm : HasMax w) (hS : ScTab w) :
    Calls Tryd.prog 8 #[v] w fun e w' => e = .returned (.bool true) ∧ Below w.heap.size w w' := by
  have hMod := cmdsA_mod hv
  have hv0 := hv
  obtain ⟨p, c, rfl, hl, hcm, -⟩ := hv0
  unfold maxLen at hcm
  obtain ⟨M, hMe⟩ : ∃ M, L.take 210 = M := ⟨_, rfl⟩
  have hML : M.length ≤ 210 := by rw [← hMe, List.length_take]; omega
  have hMl : M.length = min L.length 210 := by rw [← hMe, List.length_take, Nat.min_comm]
  have hMM : M.take 210 = M := List.take_of_length_le hML
  have hMod2 : ModC M := fun x hx => hMod x (by rw [← hMe] at hx; exact List.mem_of_mem_take hx)
  have hA0 : CmdsA w (.slice p M.length c) M := by
    by_cases h : L.length ≤ 210
    · have e : L = M := by rw [← hMe, List.take_of_length_le h]
      rw [← e]
      exact hv
    · have h9 := slR_take hv 210 (by omega)
      rw [hMe] at h9
      exact h9
  have eM : (min (L.length : Int) 210).toNat = M.length := by omega
  have n1 : 0 ≤ min (L.length : Int) 210 := by omega
  have n2 : min (L.length : Int) 210 ≤ (c : Int) := by omega
  have HA := Lib.hid hA0
  have HGv0 := Lib.hid (fun w' (h : CmdsA w' (.slice p M.length c) M) => give_any _ M w' h)
  rw [hMM] at HGv0
  have HPr := Lib.hid (fun v' w' (h : CmdsS w' v' M) (hb : Below w.heap.size w w') => sprint43_any v' M w' h (by omega) hMod2 (hS.below hb))
  have HRp := Lib.hid (fun w' (h : CmdsA w' (.slice p M.length c) M) => rprint43_any _ M w' h (by omega))
  have hsl : (settingsC M).length ≤ 1000000 := Nat.le_trans (List.length_filter_le _ _) (by omega)
  have HSt := Lib.hid (fun v' w' (h : CmdsS w' v' M) => ssettings_any v' M w' h (by omega))
  have HRs := Lib.hid (fun w' (h : CmdsA w' (.slice p M.length c) M) => rsettings_any _ M w' h (by omega))
  have HBk := Lib.hid (fun v' w' (h : CmdsS w' v' (settingsC M)) => back43_any v' _ w' h hsl)
  have HSa := Lib.hid (fun v1 v2 w' (h : CmdsS w' v1 (settingsC M)) (h' : CmdsS w' v2 (settingsC M)) => rsame43_any v1 v2 _ _ w' h h' hsl hsl)
  simp only [decide_true] at HSa
  have HW := Lib.hid (fun w' (h : Below w.heap.size w w') => scworks_any w' (hm.below h) (hS.below h))
  have HMa := Lib.hid (fun x1 x2 x3 w' (h : Below w.heap.size w w') => smay_any x1 x2 x3 w' (hS.below h))
  have HAt := Lib.hid (fun k (hk : k < M.length) w' (h : CmdsA w' (.slice p M.length c) M) => cmdsA_at h k hk)
  generalize (writeS M).1 = T1 at *
  generalize (writeS M).2 = E1 at *
  generalize settingsC M = SM at *
  clear hm hS hMod hMod2 hv hMe hMM hA0 hsl hMl
  go_enter Tryd.func8, Tryd.ntmps8
  go_wp2_with fail
  refine (HGv0.out _ HA.out).mono ?_
  rintro e1 w1 ⟨v1, rfl, ho1, hb1⟩
  have HS1 := Lib.hid (own_sls noCmd cmc_len ho1)
  have HA1 := Lib.hid (HA.out.below hb1)
  have HB1 := Lib.hid hb1
  clear ho1 hb1 eM n1 n2
  go_wp2_with fail
  refine (HPr.out _ _ HS1.out HB1.out).mono ?_
  rintro e2 w2 ⟨rfl, hb2⟩
  have HA2 := Lib.hid (HA1.out.below hb2)
  have HB2 := Lib.hid (below_next HB1.out hb2)
  clear hb2
  go_wp2_with fail
  refine (HRp.out _ HA2.out).mono ?_
  rintro e3 w3 ⟨rfl, hb3⟩
  have HA3 := Lib.hid (HA2.out.below hb3)
  have HB3 := Lib.hid (below_next HB2.out hb3)
  clear hb3
  go_wp2_with fail
  go_loopw [7] (fun i wr => ∃ k : Nat, k ≤ M.length ∧ i = .int .i64 k ∧ Below w3.heap.size w3 wr) (fun i _ => M.length - (RowKit.intOf i).toNat)
  case atStart => exact ⟨0, Nat.zero_le _, rfl, Below.refl _ _⟩
  case round =>
    obtain ⟨k, hk, rfl, hbw⟩ := hrel
    have hBr := below_next HB3.out hbw
    have hAr := HA3.out.below hbw
    by_cases hk1 : k < M.length
    · obtain ⟨a, rfl, c0, c1, c2, -⟩ := HAt.out k hk1 wr hAr
      obtain ⟨⟨x1, x2, x3⟩, hMk⟩ : ∃ x, M.getD k noCmd = x := ⟨_, rfl⟩
      rw [hMk] at c0 c1 c2
      simp only at c0 c1 c2
      have HGv := Lib.hid HGv0.out
      have HMp := Lib.hid (HMa.out x1 x2 x3)
      have HMr := Lib.hid (fun w' => rmay43_any x1 x2 x3 w')
      unfold cmdV at HMp HMr
      dsimp only at HMp HMr
      obtain ⟨b, hb⟩ : ∃ b, mayC (x1, x2, x3) = b := ⟨_, rfl⟩
      rw [hb] at HMp HMr
      have HS : RowKit.Hid (∀ w', Below wr.heap.size wr w' → (w'.cell? (a.add (k * 3)) = some (.int .i64 x1) ∧ w'.cell? ⟨(a.add (k * 3)).block, (a.add (k * 3)).off + 1, none⟩ = some (.int .i64 x2) ∧ w'.cell? ⟨(a.add (k * 3)).block, (a.add (k * 3)).off + 2, none⟩ = some (.int .i64 x3) ∧ CmdsA w' (.slice (some a) M.length c) M ∧ Below wr.heap.size wr w')) := Lib.hid (fun w' hb => ⟨cell_later hb c0, cell_later hb c1, cell_later hb c2, hAr.below hb, hb⟩)
      have HBw := Lib.hid hbw
      clear hb
      cases b
      all_goals
        go_wp2_with fail
        refine wp_region_keep (fun w' => w'.cell? (a.add (k * 3)) = some (.int .i64 x1) ∧ w'.cell? ⟨(a.add (k * 3)).block, (a.add (k * 3)).off + 1, none⟩ = some (.int .i64 x2) ∧ w'.cell? ⟨(a.add (k * 3)).block, (a.add (k * 3)).off + 2, none⟩ = some (.int .i64 x3) ∧ CmdsA w' (.slice (some a) M.length c) M ∧ Below wr.heap.size wr w') [] (by kernel_rfl) ?_
        have hB0 : Below (wr).heap.size (wr) (wr).drew := Below.drew (Below.refl _ _)
        have hS0 := HS.out _ hB0
        refine wpAnyM_free 0 (v := ?_) rfl (by kernel_rfl) (by kernel_rfl) (by kernel_rfl) (fun _ _ _ h => h) (Or.inl ⟨by rfl, ?_⟩) ?_
        rotate_left
        · intro w' hw'
          go_simp
          try with_reducible rfl
        try simp only [Act.put, List.setIfInBounds_toArray, List.set_cons_zero, List.set_cons_succ]
        refine wpAnyM_free 2 (v := ?_) rfl (by kernel_rfl) (by kernel_rfl) (by kernel_rfl) (fun _ _ _ h => h) (Or.inl ⟨by rfl, ?_⟩) ?_
        rotate_left
        · intro w' hw'
          go_simp
          try with_reducible rfl
        try simp only [Act.put, List.setIfInBounds_toArray, List.set_cons_zero, List.set_cons_succ]
        refine wpAnyM_free 6 (v := ?_) rfl (by kernel_rfl) (by kernel_rfl) (by kernel_rfl) (fun _ _ _ h => h) (Or.inl ⟨by rfl, ?_⟩) ?_
        rotate_left
        · intro w' hw'
          go_simp
          try with_reducible rfl
        try simp only [Act.put, List.setIfInBounds_toArray, List.set_cons_zero, List.set_cons_succ]
        refine wpAnyM_free 7 (v := ?_) rfl (by kernel_rfl) (by kernel_rfl) (by kernel_rfl) (fun _ _ _ h => h) (Or.inl ⟨by rfl, ?_⟩) ?_
        rotate_left
        · intro w' hw'
          go_simp
          try with_reducible rfl
        try simp only [Act.put, List.setIfInBounds_toArray, List.set_cons_zero, List.set_cons_succ]
        refine wpAnyM_free 8 (v := ?_) rfl (by kernel_rfl) (by kernel_rfl) (by kernel_rfl) (fun _ _ _ h => h) (Or.inl ⟨by rfl, ?_⟩) ?_
        rotate_left
        · intro w' hw'
          go_simp
          try with_reducible rfl
        try simp only [Act.put, List.setIfInBounds_toArray, List.set_cons_zero, List.set_cons_succ]
        refine wpAnyM_take 9 12 (v := ?_) rfl (by kernel_rfl) (by kernel_rfl) (by kernel_rfl) (by kernel_rfl) (by kernel_rfl) (fun _ _ _ h => h) (Or.inl ⟨by rfl, ?_⟩) hS0 ?_
        rotate_left
        · intro w' hw'
          try dsimp only at hw'
          go_simp
          try with_reducible rfl
        try simp only [Act.put, List.setIfInBounds_toArray, List.set_cons_zero, List.set_cons_succ]
        refine wpAnyM_one 1 rfl (by kernel_rfl) (fun K hK => ?_)
        go_simp
        refine (HGv.out _ hS0.2.2.2.1).mono ?_
        rintro e w1 ⟨v1, rfl, ho1, hb1⟩
        have hB1 := below_next hB0 hb1
        have hS1 := HS.out _ hB1
        obtain ⟨pg, cg, rfl⟩ := owns_form ho1
        have hsl := own_sls noCmd cmc_len ho1
        obtain ⟨pg2, cg2, eg, hcg⟩ := hsl
        injection eg with eg1 eg2 eg3
        subst eg1
        obtain ⟨gg, rfl, hgc⟩ := hcg k (by omega)
        rw [hMk] at hgc
        have g0 := hgc 0 _ rfl
        have g1 := hgc 1 _ rfl
        have g2 := hgc 2 _ rfl
        simp only [Nat.add_zero] at g0 g1 g2
        clear hcg hgc ho1
        refine hK.out _ _ (fun _ _ => hS1) ?_
        clear hK K hS0
        try simp only [Act.put, List.setIfInBounds_toArray, List.set_cons_zero, List.set_cons_succ]
        refine wpAnyM_one 3 rfl (by kernel_rfl) (fun K hK => ?_)
        go_simp
        refine hK.out _ _ (fun _ h => h) ?_
        clear hK K
        try simp only [Act.put, List.setIfInBounds_toArray, List.set_cons_zero, List.set_cons_succ]
        refine wpAnyM_one 4 rfl (by kernel_rfl) (fun K hK => ?_)
        go_simp
        refine hK.out _ _ (fun _ h => h) ?_
        clear hK K
        try simp only [Act.put, List.setIfInBounds_toArray, List.set_cons_zero, List.set_cons_succ]
        refine wpAnyM_one 5 rfl (by kernel_rfl) (fun K hK => ?_)
        go_simp
        refine (HMp.out _ (below_next hBr hB1)).mono ?_
        rintro e w2 ⟨rfl, hb2⟩
        have hB2 := below_next hB1 hb2
        have hS2 := HS.out _ hB2
        refine hK.out _ _ (fun _ _ => hS2) ?_
        clear hK K hS1
        try simp only [Act.put, List.setIfInBounds_toArray, List.set_cons_zero, List.set_cons_succ]
        refine wpAnyM_one 10 rfl (by kernel_rfl) (fun K hK => ?_)
        go_simp
        refine (HMr.out _).mono ?_
        rintro e w3 ⟨rfl, hb3⟩
        have hB3 := below_next hB2 hb3
        have hS3 := HS.out _ hB3
        refine hK.out _ _ (fun _ _ => hS3) ?_
        clear hK K hS2
        try simp only [Act.put, List.setIfInBounds_toArray, List.set_cons_zero, List.set_cons_succ]
        refine wpAnyM_one 11 rfl (by kernel_rfl) (fun K hK => ?_)
        go_simp
        refine hK.out _ _ (fun _ h => h) ?_
        clear hK K
        try simp only [Act.put, List.setIfInBounds_toArray, List.set_cons_zero, List.set_cons_succ]
        refine wpAnyM_done (by kernel_rfl) ?_ _
        try simp only [Act.put, List.setIfInBounds_toArray, List.set_cons_zero, List.set_cons_succ]
        have hbf := below_next HBw.out hB3
        clear hS3 hB3 hb1 hb2 hb3 hB1 hB2
        go_wp2_with fail
        go_roundw
        case rel => exact ⟨k + 1, by omega, by go_num, hbf⟩
        case measure => simp [RowKit.intOf]; omega
    · have hke : k = M.length := by omega
      subst hke
      have HAr := Lib.hid hAr
      have HBr := Lib.hid hBr
      clear hAr hBr
      go_wp2_with fail
      refine (HGv0.out _ HAr.out).mono ?_
      rintro e5 w5 ⟨v5, rfl, ho5, hb5⟩
      have HS5 := Lib.hid (own_sls noCmd cmc_len ho5)
      have HA5 := Lib.hid (HAr.out.below hb5)
      have HB5 := Lib.hid (below_next HBr.out hb5)
      clear ho5 hb5
      go_wp2_with fail
      refine (HSt.out _ _ HS5.out).mono ?_
      rintro e6 w6 ⟨v6, rfl, hs6, hb6⟩
      have HS6 := Lib.hid hs6
      have HA6 := Lib.hid (HA5.out.below hb6)
      have HB6 := Lib.hid (below_next HB5.out hb6)
      clear hs6 hb6
      go_wp2_with fail
      refine (HBk.out _ _ HS6.out).mono ?_
      rintro e7 w7 ⟨v7, rfl, hs7, hb7⟩
      have HS7 := Lib.hid hs7
      have HA7 := Lib.hid (HA6.out.below hb7)
      have HB7 := Lib.hid (below_next HB6.out hb7)
      clear hs7 hb7
      go_wp2_with fail
      refine (HRs.out _ HA7.out).mono ?_
      rintro e8 w8 ⟨v8, rfl, hs8, hb8⟩
      have HS8 := Lib.hid hs8
      have HS7b := Lib.hid (HS7.out.below hb8)
      have HB8 := Lib.hid (below_next HB7.out hb8)
      clear hs8 hb8
      go_wp2_with fail
      refine (HSa.out _ _ _ HS7b.out HS8.out).mono ?_
      rintro e9 w9 ⟨rfl, hb9⟩
      have HB9 := Lib.hid (below_next HB8.out hb9)
      clear hb9
      go_wp2_with fail
      refine (HW.out w9 HB9.out).mono ?_
      rintro e10 w10 ⟨rfl, hb10⟩
      go_wp2_with fail
      go_ret
      exact ⟨rfl, below_next HB9.out hb10⟩
end Go.Proofs.YtphhgdgamnogpaaDoor

namespace Go.Proofs.YtphhgdgamnogpaaDoor
open Go.ChangeShapes Go.WideShapes Go.ChangeAt Go.RowKit Go.Joins Go.Lib

section
variable {H : Type} {enc : TypeId × Value → H} {w : World} {base : Nat} {spare : Nat → Bool} {held : Bool}
set_option maxRecDepth 100000 in
theorem open_cmd {n : Nat} {cs : List Value} {y : DataW H × List MemPlace} (h : DataW.trod enc Tryd.prog w base spare held n 56 cs = some y) : ∃ x, CmR w cs x := by
  have hl := trod_len Tryd.underlying56 h
  obtain ⟨n0, y0, h0⟩ := trod_at 0 0 3 1 Tryd.underlying56 h rfl rfl rfl (by kernel_rfl)
  obtain ⟨n1, y1, h1⟩ := trod_at 1 1 3 1 Tryd.underlying56 h rfl rfl rfl (by kernel_rfl)
  obtain ⟨n2, y2, h2⟩ := trod_at 2 2 3 1 Tryd.underlying56 h rfl rfl rfl (by kernel_rfl)
  obtain ⟨k, hk, -, -⟩ := DataW.trod_int Tryd.underlying3 h0
  obtain ⟨m, hm, -, -⟩ := DataW.trod_int Tryd.underlying3 h1
  obtain ⟨j, hj, -, wj⟩ := DataW.trod_int Tryd.underlying3 h2
  have hb := wf_bounds wj
  rw [show Tryd.prog.cellsOf 56 = 3 by kernel_rfl] at hl
  match cs, hl with
  | [c0, c1, c2], _ =>
    simp at hk hm hj
    refine ⟨(k, m, j), ?_, hb.1, hb.2⟩
    simp only [cmc, hk, hm, hj]
theorem open_cmds {n : Nat} {cs : List Value} {y : DataW H × List MemPlace} (h : DataW.trod enc Tryd.prog w base spare held n 27 cs = some y) : ∃ v L, cs = [v] ∧ CmdsA w v L :=
  open_slR Tryd.underlying27 (by kernel_rfl) (fun _ _ _ h => open_cmd h) h
set_option maxRecDepth 100000 in
theorem open_cmdsV {r : Reach} {b0 : Nat} {v : Value} {d : DataW H} {ps : List MemPlace} (hval : Value.okWide Tryd.prog w r b0 27 v) (hd : DataW.Trod enc Tryd.prog w base spare held 27 v d ps) : ∃ L, CmdsA w v L := by
  obtain ⟨a0, len0, cap0, rfl⟩ := okWide_slice Tryd.underlying27 hval
  obtain ⟨fuel, hf⟩ := hd
  obtain ⟨v, L, e, h⟩ := open_cmds hf
  simp [Value.cells] at e
  subst e
  exact ⟨L, h⟩
end
end Go.Proofs.YtphhgdgamnogpaaDoor
