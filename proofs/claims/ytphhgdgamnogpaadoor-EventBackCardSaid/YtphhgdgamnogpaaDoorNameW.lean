/-
  The walks of layer 2 (name): what each function of package name, and of its reference, returns; memory that was there stands as it was. No conditions.
-/
import Derived.Test.YtphhgdgamnogpaaDoorBase
import Derived.Test.YtphhgdgamnogpaaDoorNameP
import Derived.Test.YtphhgdgamnogpaaDoorNameD
namespace Go.Proofs.YtphhgdgamnogpaaDoor
open Go.RowKit Go.Lib

/-- What the reference's decoder finds at a place. -/
def oneAt (l : List UInt8) (p : Nat) : Nat × Nat := decodeL (l.drop p)
theorem oneAt_N (l : List UInt8) (p : Nat) : oneAt l p = decodeN (l.length - p) (l.getD p 0).toNat (l.getD (p + 1) 0).toNat (l.getD (p + 2) 0).toNat (l.getD (p + 3) 0).toNat := by
  unfold oneAt
  rw [decodeL_N, List.length_drop, getD_dropU, getD_dropU, getD_dropU, getD_dropU, Nat.add_zero]
theorem getD_at (l : List UInt8) (p : Nat) (h : p < l.length) : l.getD p 0 = l[p] := by simp [h]

set_option maxRecDepth 100000 in
set_option maxHeartbeats 1000000 in
theorem one_low (l : List UInt8) (p : Nat) (hp : p < l.length) (h : l[p].toNat < 128 ∨ (128 ≤ l[p].toNat ∧ l[p].toNat < 194) ∨ 244 < l[p].toNat) (w : World) :
    Calls Tryd.prog 140 #[.string (bs l), .int .i64 p] w fun e w' => e = .returned (.tuple #[.int .i64 ((oneAt l p).2 : Nat), .int .i64 ((oneAt l p).1 : Nat)]) ∧ w = w' := by
  have H := Lib.hid (oneAt_N l p)
  have h0 := getD_at l p hp
  rcases h with h | ⟨h, h'⟩ | h
  · go_enter Tryd.func140, Tryd.ntmps140
    go_wp2
    go_ret2
    rw [H.out, h0]
    simp [decodeN, h]
  · go_enter Tryd.func140, Tryd.ntmps140
    go_wp2
    go_ret2
    rw [H.out, h0, decodeN_bad _ _ _ _ _ (.inl ⟨h, h'⟩)]
    exact ⟨rfl, rfl⟩
  · have hb := l[p].toNat_lt
    go_enter Tryd.func140, Tryd.ntmps140
    go_wp2
    go_ret2
    rw [H.out, h0, decodeN_bad _ _ _ _ _ (.inr ⟨by omega, hb⟩)]
    exact ⟨rfl, rfl⟩

set_option maxRecDepth 100000 in
set_option maxHeartbeats 4000000 in
theorem one_two (l : List UInt8) (p : Nat) (hp : p < l.length) (hs : l.length ≤ 4611686018427387904) (h : 194 ≤ l[p].toNat) (h' : l[p].toNat ≤ 223) (w : World) :
    Calls Tryd.prog 140 #[.string (bs l), .int .i64 p] w fun e w' => e = .returned (.tuple #[.int .i64 ((oneAt l p).2 : Nat), .int .i64 ((oneAt l p).1 : Nat)]) ∧ w = w' := by
  have h0 := getD_at l p hp
  have hN := oneAt_N l p
  rw [h0, dec2 _ _ _ _ _ h h'] at hN
  by_cases hl : p + 1 < l.length
  · have h1 := getD_at l (p + 1) (by omega)
    rw [h1] at hN
    have hb1 := l[p + 1].toNat_lt
    have H := Lib.hid hN
    clear hN h0 h1
    rcases (show (l[p + 1].toNat < 128) ∨ (128 ≤ l[p + 1].toNat ∧ 191 < l[p + 1].toNat) ∨ (128 ≤ l[p + 1].toNat ∧ l[p + 1].toNat ≤ 191) by omega) with ⟨r0⟩ | ⟨r0, r1⟩ | ⟨r0, r1⟩
    · go_enter Tryd.func140, Tryd.ntmps140; go_wp2; go_rounds 2; go_ret2; rw [H.out, if_neg (by omega)]; exact ⟨rfl, rfl⟩
    · go_enter Tryd.func140, Tryd.ntmps140; go_wp2; go_rounds 2; go_ret2; rw [H.out, if_neg (by omega)]; exact ⟨rfl, rfl⟩
    · go_enter Tryd.func140, Tryd.ntmps140; go_wp2; go_rounds 2; go_ret2; rw [H.out, if_pos (by omega)]; refine ⟨?_, rfl⟩; simp; omega
  · have H := Lib.hid hN
    clear hN h0
    go_enter Tryd.func140, Tryd.ntmps140; go_wp2; go_ret2; rw [H.out, if_neg (by omega)]; exact ⟨rfl, rfl⟩
end Go.Proofs.YtphhgdgamnogpaaDoor
