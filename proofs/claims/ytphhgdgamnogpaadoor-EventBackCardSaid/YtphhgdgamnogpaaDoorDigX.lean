/-
  Layer 3 (digit): what reading a text gives, at a known answer; how great it may be. Texts of at most 2^63 - 2 bytes.
-/
import Derived.Test.YtphhgdgamnogpaaDoorDigR
namespace Go.Proofs.YtphhgdgamnogpaaDoor
open Go.RowKit

theorem parse_at (l : List UInt8) (v c : Int) (hs : l.length ≤ 9223372036854775806) (h : parseL l = (v, c)) (w : World) :
    Calls Tryd.prog 135 #[.string (bs l)] w fun e w' => e = .returned (.tuple #[.int .i64 v, .int .i64 c]) ∧ w = w' := by
  have := parse_any l hs w
  rwa [h] at this
theorem parse_range (l : List UInt8) (k c : Int) (h : parseL l = (k, c)) : -9223372036854775808 ≤ k ∧ k ≤ 9223372036854775807 := by
  cases hd : digL l
  · rw [parse_no l hd] at h; injection h with h1 _; omega
  · have ha := foldP_spec _ (digL_all l hd)
    by_cases hv : valL (restL l) ≤ 9223372036854775808
    · rw [if_pos hv] at ha
      cases hn : negL l
      · by_cases hl : (-(valL (restL l) : Int)) = -9223372036854775808
        · rw [parse_least l _ hd ha hn hl] at h; injection h with h1 _; omega
        · rw [parse_pos l _ hd ha hn (by omega)] at h; injection h with h1 _; omega
      · rw [parse_neg l _ hd ha hn] at h; injection h with h1 _; omega
    · rw [if_neg hv] at ha
      rw [parse_over l hd ha] at h; injection h with h1 _; omega

end Go.Proofs.YtphhgdgamnogpaaDoor
