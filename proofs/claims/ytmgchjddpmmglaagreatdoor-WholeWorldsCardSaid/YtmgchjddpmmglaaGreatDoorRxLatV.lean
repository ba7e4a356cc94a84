/-
  A region that draws its order, where what it keeps is told by a fact. No conditions.
-/
import Derived.Test.YtmgchjddpmmglaaGreatDoorRWh
namespace Go.Proofs.YtmgchjddpmmglaaGreatDoor
open Go.RowKit
section
variable {P : Program} {ops : Array Oper} {Q : Exit → Act → World → Prop} {S : World → Prop}
theorem wpk {id : Nat} {a : Act} {w : World} (hs : RowKit.Hid (∀ w', Below w.heap.size w w' → S w')) (late : List Nat) (hm : P.follows .mixedOrders = true)
  (h : Below w.heap.size w w.drew → S w.drew → wpAnyM P .any ops Q S late ops.size (Array.replicate ops.size false) a w.drew) : (Code.region id ops true).wp P Q a w :=
 wp_region_keep S late hm (h (Below.drew (Below.refl _ _)) (hs.out _ (Below.drew (Below.refl _ _))))
end
end Go.Proofs.YtmgchjddpmmglaaGreatDoor
