/-
  The walks of layer 7 (event): an event of four words; whether an event may be, in the program and in the reference. Conditions: unicode/utf8's two tables, and event.words, hold what their initialisers lay; texts of at most 1,000,000 bytes.
-/
import Derived.Test.YtphhgdgamnogpaaDoorEvK
import Derived.Test.YtphhgdgamnogpaaDoorEv6
import Derived.Test.YtphhgdgamnogpaaDoorEvP
import Derived.Test.YtphhgdgamnogpaaDoorNameV
import Derived.Deep.DeepCutAuto
namespace Go.Proofs.YtphhgdgamnogpaaDoor
open Go.RowKit

set_option maxRecDepth 100000 in
set_option maxHeartbeats 1000000 in
theorem rkinds_any (w : World) :
    Calls Tryd.prog 60 #[] w fun e w' => e = .returned (.slice (some ⟨w.heap.size, 0, none⟩) 7 7) ∧ (∀ i : Nat, i < 7 → w'.cell? ⟨w.heap.size, i, none⟩ = some (.string (bs (kindW i)))) ∧ w.heap.size < w'.heap.size ∧ Below w.heap.size w w' := by
  have K : ∀ i : Nat, i < 7 → (w.alloc (.cells #[.string (bs []), .string (bs [98, 101, 103, 105, 110]), .string (bs [114, 101, 97, 100]), .string (bs [119, 114, 105, 116, 101]), .string (bs [111, 107]), .string (bs [102, 97, 105, 108]), .string (bs [105, 110, 102, 111])] 9)).cell? ⟨w.heap.size, i, none⟩ = some (.string (bs (kindW i))) := by
    intro i hi
    rw [cell_of_row _ w.heap.size i _ _ (0, 0) (heap_alloc_new w _), kindW_at i hi]
    match i, hi with
    | 0, _ => rfl
    | 1, _ => rfl
    | 2, _ => rfl
    | 3, _ => rfl
    | 4, _ => rfl
    | 5, _ => rfl
    | 6, _ => rfl
  have HK := Lib.hid K
  clear K
  go_enter Tryd.func60, Tryd.ntmps60
  go_wp2
  go_ret
  exact ⟨rfl, HK.out, by simp, (Below.refl _ _).alloc (Nat.le_refl _) _⟩

theorem valued_cases (k : Int) (s key t : List UInt8) : (∃ a b c, vParse t = (a, b, c) ∧ (c != 0) = true ∧ valuedE k s key t = (noEv, c)) ∨
    (∃ b, k = 3 ∧ vParse t = (0, b, 0) ∧ valuedE k s key t = (noEv, 11)) ∨ (∃ b, k = 3 ∧ vParse t = (2, b, 0) ∧ valuedE k s key t = (noEv, 5)) ∨
    (∃ a b, vParse t = (a, b, 0) ∧ (k == 3) = false ∧ valuedE k s key t = ((k, s, key, a, b, 0), 0)) ∨
    (∃ a b, k = 3 ∧ vParse t = (a, b, 0) ∧ (a == 0) = false ∧ (a == 2) = false ∧ valuedE k s key t = ((k, s, key, a, b, 0), 0)) := by
  obtain ⟨a, b, c, hp⟩ : ∃ a b c, vParse t = (a, b, c) := ⟨_, _, _, rfl⟩
  unfold valuedE
  rw [hp]
  by_cases hc : c = 0
  · subst hc
    rw [if_neg (by simp)]
    by_cases hk : k = 3
    · by_cases h0 : a = 0
      · subst h0
        exact .inr (.inl ⟨b, hk, rfl, by rw [if_pos ⟨hk, rfl⟩]⟩)
      · by_cases h2 : a = 2
        · subst h2
          exact .inr (.inr (.inl ⟨b, hk, rfl, by rw [if_neg (fun h => h0 h.2), if_pos ⟨hk, rfl⟩]⟩))
        · exact .inr (.inr (.inr (.inr ⟨a, b, hk, rfl, by simpa using h0, by simpa using h2, by rw [if_neg (fun h => h0 h.2), if_neg (fun h => h2 h.2)]⟩)))
    · exact .inr (.inr (.inr (.inl ⟨a, b, rfl, by simpa using hk, by rw [if_neg (fun h => hk h.1), if_neg (fun h => hk h.1)]⟩)))
  · exact .inl ⟨a, b, c, rfl, by simpa using hc, by rw [if_pos hc]⟩

section
attribute [local go_sem ↓] store_ev
set_option maxRecDepth 100000 in
set_option maxHeartbeats 2000000 in
theorem valued_any (k : Int) (s key t : List UInt8) (ht : t.length ≤ 9223372036854775806) (w : World) :
    Calls Tryd.prog 67 #[.int .i64 k, .string (bs s), .string (bs key), .string (bs t)] w fun e w' => e = .returned (.tuple #[evV (valuedE k s key t).1, .int .i64 (valuedE k s key t).2]) ∧ Below w.heap.size w w' := by
  have T0 := Lib.hid (there_new w 37 (.int .i64 0) (.string { data := #[] }) (.string { data := #[] }) (.int .i64 0) (.int .i64 0) (.int .i64 0))
  rcases valued_cases k s key t with ⟨a, b, c, hp, hc, h⟩ | ⟨b, rfl, hp, h⟩ | ⟨b, rfl, hp, h⟩ | ⟨a, b, hp, hk, h⟩ | ⟨a, b, rfl, hp, h0, h2, h⟩
  all_goals
    have HV := Lib.hid (vparse_of t _ _ _ ht hp)
    rw [h]
    clear h hp
    go_enter Tryd.func67, Tryd.ntmps67
    go_wp2_with (fail)
    refine (HV.out _).mono ?_
    rintro e w1 ⟨rfl, hb1⟩
    obtain ⟨hc1, hf1⟩ := bcell hb1
    have hz1 := hb1.size
    try simp at hz1
    have hl1_0 : w.heap.size < w1.heap.size := by omega
    have hl1_0_1 : w.heap.size < w1.heap.size + 1 := by omega
    have th := there_past (there_later T0.out hb1)
    go_wp21
    refine bodyPost_ret ?_ rfl ⟨rfl, ?_⟩
    · simp [results, Tryd.results67, go_sem, hc1, hl1_0, evV, noEv]
      try rfl
    · (repeat' (first | (with_reducible exact Below.refl _ _) | (with_reducible assumption) | (refine below_next ?_ (by with_reducible assumption)) | (with_reducible refine Below.setCell ?_ ?_ _) | (with_reducible refine Below.alloc ?_ ?_ _) | (with_reducible refine Below.drew ?_) | (with_reducible refine below_drewN ?_ _) | omega | (simp; done) | (simp; omega)))
end
end Go.Proofs.YtphhgdgamnogpaaDoor
