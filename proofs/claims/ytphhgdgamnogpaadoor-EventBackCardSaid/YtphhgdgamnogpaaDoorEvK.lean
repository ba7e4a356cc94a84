/-
  The walks of layer 7 (event): the kind of a first word, whether events of a kind are long; the reference's list of words. Condition: event.words holds what its initialiser lays.
-/
import Derived.Test.YtphhgdgamnogpaaDoorEvD
import Derived.Test.YtphhgdgamnogpaaDoorTexts
namespace Go.Proofs.YtphhgdgamnogpaaDoor
open Go.RowKit

set_option maxHeartbeats 1000000 in
theorem long_any (k : Int) (w : World) :
    Calls Tryd.prog 57 #[.int .i64 k] w fun e w' => e = .returned (.bool (longK k)) ∧ w = w' := by
  rcases long_cases k with ⟨rfl, h⟩ | ⟨rfl, h⟩ | ⟨h1, h2, h⟩ <;> rw [h] <;> clear h
  all_goals
    go_enter Tryd.func57, Tryd.ntmps57
    go_wp2
    go_ret
    exact ⟨rfl, rfl⟩

theorem kindL_hit (i : Nat) (h0 : 0 < i) (h : i < 7) (l : List UInt8) (e : kindW i = l) : kindL l = i := by
  subst e
  match i, h0, h with
  | 1, _, _ => decide
  | 2, _, _ => decide
  | 3, _, _ => decide
  | 4, _, _ => decide
  | 5, _, _ => decide
  | 6, _, _ => decide
theorem kindL_miss (l : List UInt8) (h : ∀ i : Nat, 0 < i → i < 7 → kindW i ≠ l) : kindL l = 0 := by
  have h1 := h 1 (by decide) (by decide)
  have h2 := h 2 (by decide) (by decide)
  have h3 := h 3 (by decide) (by decide)
  have h4 := h 4 (by decide) (by decide)
  have h5 := h 5 (by decide) (by decide)
  have h6 := h 6 (by decide) (by decide)
  simp only [kindW] at h1 h2 h3 h4 h5 h6
  unfold kindL
  rw [if_neg (fun e => h1 (by rw [e]; rfl)), if_neg (fun e => h2 (by rw [e]; rfl)), if_neg (fun e => h3 (by rw [e]; rfl)), if_neg (fun e => h4 (by rw [e]; rfl)), if_neg (fun e => h5 (by rw [e]; rfl)), if_neg (fun e => h6 (by rw [e]; rfl))]

/-- The whole table as a value. -/
def tabE : Value := .agg #[.string (bs []), .string (bs [98, 101, 103, 105, 110]), .string (bs [114, 101, 97, 100]), .string (bs [119, 114, 105, 116, 101]), .string (bs [111, 107]), .string (bs [102, 97, 105, 108]), .string (bs [105, 110, 102, 111])]
theorem tabE_0 (w : World) : (Instr.index 96 tabE (.int .i64 ((0 : Nat) : Int))).run Tryd.prog w = .ok (.string (bs (kindW ((0 : Nat) : Int)))) w := by kernel_rfl
theorem tabE_1 (w : World) : (Instr.index 96 tabE (.int .i64 ((1 : Nat) : Int))).run Tryd.prog w = .ok (.string (bs (kindW ((1 : Nat) : Int)))) w := by kernel_rfl
theorem tabE_2 (w : World) : (Instr.index 96 tabE (.int .i64 ((2 : Nat) : Int))).run Tryd.prog w = .ok (.string (bs (kindW ((2 : Nat) : Int)))) w := by kernel_rfl
theorem tabE_3 (w : World) : (Instr.index 96 tabE (.int .i64 ((3 : Nat) : Int))).run Tryd.prog w = .ok (.string (bs (kindW ((3 : Nat) : Int)))) w := by kernel_rfl
theorem tabE_4 (w : World) : (Instr.index 96 tabE (.int .i64 ((4 : Nat) : Int))).run Tryd.prog w = .ok (.string (bs (kindW ((4 : Nat) : Int)))) w := by kernel_rfl
theorem tabE_5 (w : World) : (Instr.index 96 tabE (.int .i64 ((5 : Nat) : Int))).run Tryd.prog w = .ok (.string (bs (kindW ((5 : Nat) : Int)))) w := by kernel_rfl
theorem tabE_6 (w : World) : (Instr.index 96 tabE (.int .i64 ((6 : Nat) : Int))).run Tryd.prog w = .ok (.string (bs (kindW ((6 : Nat) : Int)))) w := by kernel_rfl
theorem tabE_at (i : Nat) (h : i < 7) (w : World) : (Instr.index 96 tabE (.int .i64 (i : Int))).run Tryd.prog w = .ok (.string (bs (kindW i))) w :=
  match i, h with
  | 0, _ => tabE_0 w
  | 1, _ => tabE_1 w
  | 2, _ => tabE_2 w
  | 3, _ => tabE_3 w
  | 4, _ => tabE_4 w
  | 5, _ => tabE_5 w
  | 6, _ => tabE_6 w

set_option maxRecDepth 100000 in
set_option maxHeartbeats 1000000 in
theorem kind_any (l : List UInt8) (w : World) (hE : EvTab w) :
    Calls Tryd.prog 66 #[.string (bs l)] w fun e w' => e = .returned (.int .i64 (kindL l)) ∧ w = w' := by
  have h0 : w.cell? ⟨1, 0, none⟩ = some (.string (bs [])) := hE 0 (by decide)
  have h1 : w.cell? ⟨1, 1, none⟩ = some (.string (bs [98, 101, 103, 105, 110])) := hE 1 (by decide)
  have h2 : w.cell? ⟨1, 2, none⟩ = some (.string (bs [114, 101, 97, 100])) := hE 2 (by decide)
  have h3 : w.cell? ⟨1, 3, none⟩ = some (.string (bs [119, 114, 105, 116, 101])) := hE 3 (by decide)
  have h4 : w.cell? ⟨1, 4, none⟩ = some (.string (bs [111, 107])) := hE 4 (by decide)
  have h5 : w.cell? ⟨1, 5, none⟩ = some (.string (bs [102, 97, 105, 108])) := hE 5 (by decide)
  have h6 : w.cell? ⟨1, 6, none⟩ = some (.string (bs [105, 110, 102, 111])) := hE 6 (by decide)
  clear hE
  have IX := Lib.hid tabE_at
  go_enter Tryd.func66, Tryd.ntmps66
  go_wp2
  clear h0 h1 h2 h3 h4 h5 h6
  go_loop [6] (fun i => ∃ k : Nat, k ≤ 7 ∧ i = .int .i64 k ∧ ∀ j : Nat, 0 < j → j < k → kindW j ≠ l) (fun i => 7 - (RowKit.intOf i).toNat)
  case atStart => exact ⟨0, by omega, rfl, fun j h0 h1 => absurd h1 (Nat.not_lt_zero j)⟩
  case round =>
    obtain ⟨k, hk, rfl, hno⟩ := hrel
    have HNo := Lib.hid hno
    clear hno
    by_cases hlt : k < 7
    · have ix := IX.out k hlt
      unfold tabE at ix
      by_cases hk0 : 0 < k
      · by_cases he : kindW k = l
        · have HR := Lib.hid (kindL_hit k hk0 hlt l he)
          have hb : (kindW k == l) = true := by rw [he]; simp
          clear he
          go_wp2_with fail
          go_ret
          exact ⟨by rw [HR.out]; rfl, rfl⟩
        · have HN : RowKit.Hid (∀ j : Nat, 0 < j → j < k + 1 → kindW j ≠ l) := Lib.hid (fun j h0 h1 => by
            by_cases h : j = k
            · rw [h]; exact he
            · exact HNo.out j h0 (by omega))
          have hb : (kindW k == l) = false := beq_eq_false_iff_ne.2 he
          clear he
          go_wp2_with fail
          go_round
          case rel => exact ⟨k + 1, by omega, by go_num, HN.out⟩
          case measure => simp [RowKit.intOf]; omega
      · have hk1 : k = 0 := by omega
        subst hk1
        clear ix
        have ix : ∀ w : World, (Instr.index 96 (.agg #[.string (bs []), .string (bs [98, 101, 103, 105, 110]), .string (bs [114, 101, 97, 100]), .string (bs [119, 114, 105, 116, 101]), .string (bs [111, 107]), .string (bs [102, 97, 105, 108]), .string (bs [105, 110, 102, 111])]) (.int .i64 0)).run Tryd.prog w = .ok (.string (bs [])) w := tabE_0
        go_wp2_with fail
        go_round
        case rel => exact ⟨1, by omega, rfl, fun j h0 h1 => by omega⟩
        case measure => simp [RowKit.intOf]
    · have hk7 : k = 7 := by omega
      subst hk7
      have HR := Lib.hid (kindL_miss l HNo.out)
      go_wp2_with fail
      go_ret
      exact ⟨by rw [HR.out]; rfl, rfl⟩
end Go.Proofs.YtphhgdgamnogpaaDoor
