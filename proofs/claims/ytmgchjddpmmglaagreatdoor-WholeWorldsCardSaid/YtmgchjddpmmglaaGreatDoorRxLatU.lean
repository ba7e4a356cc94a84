/-
  A region that draws its order, where three operations may come up next. No conditions.
-/
import Derived.Test.YtmgchjddpmmglaaGreatDoorRWh
namespace Go.Proofs.YtmgchjddpmmglaaGreatDoor
open Go.RowKit
section
variable {P : Program} {ops : Array Oper} {Q : Exit → Act → World → Prop} {md : Region.Mode} {S : World → Prop} {late : List Nat}
theorem wpAnyM_three (i j k : Nat) {di dj dk : Option Tmp} {opi opj opk : Op} {tyi tyj tyk : TypeId} {posi posj posk : String} {afti aftj aftk : Array Edge} {gdi gdj gdk : Option (Nat × Bool)} {fuel : Nat} {listed : Array Bool} {a : Act} {w : World} (hi : ops[i]? = some ⟨di, opi, tyi, posi, afti, gdi⟩) (hj : ops[j]? = some ⟨dj, opj, tyj, posj, aftj, gdj⟩) (hk : ops[k]? = some ⟨dk, opk, tyk, posk, aftk, gdk⟩) (hr : Region.ready md ops listed = [i, j, k])
  (h1 : ∀ K : Act → World → Prop, RowKit.Hid (∀ a' w', (late.contains i = false → S w → S w') → wpAnyM P md ops Q S late fuel (listed.setIfInBounds i true) a' w' → K a' w') → if Region.wanted ⟨di, opi, tyi, posi, afti, gdi⟩ (yielded ops a.tmps) = true then Oper.wp P ⟨di, opi, tyi, posi, afti, gdi⟩ a w K Q else K (a.put di undef) w)
  (h2 : ∀ K : Act → World → Prop, RowKit.Hid (∀ a' w', (late.contains j = false → S w → S w') → wpAnyM P md ops Q S late fuel (listed.setIfInBounds j true) a' w' → K a' w') → if Region.wanted ⟨dj, opj, tyj, posj, aftj, gdj⟩ (yielded ops a.tmps) = true then Oper.wp P ⟨dj, opj, tyj, posj, aftj, gdj⟩ a w K Q else K (a.put dj undef) w)
  (h3 : ∀ K : Act → World → Prop, RowKit.Hid (∀ a' w', (late.contains k = false → S w → S w') → wpAnyM P md ops Q S late fuel (listed.setIfInBounds k true) a' w' → K a' w') → if Region.wanted ⟨dk, opk, tyk, posk, aftk, gdk⟩ (yielded ops a.tmps) = true then Oper.wp P ⟨dk, opk, tyk, posk, aftk, gdk⟩ a w K Q else K (a.put dk undef) w) : wpAnyM P md ops Q S late (fuel + 1) listed a w := by
 refine ⟨fun h0 => (by rw [hr] at h0; cases h0), fun q hq => ?_⟩
 rw [hr] at hq
 have hq' : q = i ∨ q = j ∨ q = k := by simpa using hq
 rcases hq' with rfl | rfl | rfl
 ·exact wpOp_step hi (fun K hK => h1 K (Lib.hid (fun a' w' g1 g2 => hK a' w' ⟨g1, g2⟩)))
 ·exact wpOp_step hj (fun K hK => h2 K (Lib.hid (fun a' w' g1 g2 => hK a' w' ⟨g1, g2⟩)))
 ·exact wpOp_step hk (fun K hK => h3 K (Lib.hid (fun a' w' g1 g2 => hK a' w' ⟨g1, g2⟩)))
end
end Go.Proofs.YtmgchjddpmmglaaGreatDoor
