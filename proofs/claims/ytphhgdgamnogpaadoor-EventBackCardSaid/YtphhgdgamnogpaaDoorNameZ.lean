/-
  The decoder of layer 2's reference, at any place. No conditions.
-/
import Derived.Test.YtphhgdgamnogpaaDoorNameX
import Derived.Test.YtphhgdgamnogpaaDoorNameY
namespace Go.Proofs.YtphhgdgamnogpaaDoor
open Go.RowKit Go.Lib

theorem one_any (l : List UInt8) (p : Nat) (hp : p < l.length) (hs : l.length ≤ 4611686018427387904) (w : World) :
    Calls Tryd.prog 140 #[.string (bs l), .int .i64 p] w fun e w' => e = .returned (.tuple #[.int .i64 ((oneAt l p).2 : Nat), .int .i64 ((oneAt l p).1 : Nat)]) ∧ w = w' := by
  by_cases h1 : l[p].toNat < 194
  · exact one_low l p hp (by omega) w
  · by_cases h2 : l[p].toNat ≤ 223
    · exact one_two l p hp hs (by omega) h2 w
    · by_cases h3 : l[p].toNat ≤ 239
      · exact one_three l p hp hs (by omega) h3 w
      · by_cases h4 : l[p].toNat ≤ 244
        · exact one_four l p hp hs (by omega) h4 w
        · exact one_low l p hp (by omega) w
end Go.Proofs.YtphhgdgamnogpaaDoor
