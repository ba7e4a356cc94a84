/-
  The walks of layer 6 (split): remarks, texts joined, and the statement SplitWords. No conditions but that unicode/utf8's two tables are as their initialisers lay them and that internal/bytealg.MaxLen holds a number.
-/
import Derived.Test.YtphhgdgamnogpaaDoorSplitR
import Derived.Lib.Join
namespace Go.Proofs.YtphhgdgamnogpaaDoor
open Go.RowKit Go.Lib

/-! ### remarks -/
def remarkR (s : List UInt8) : List UInt8 × Bool := (strR (strL (s.drop ((aheadL s).length + 1))), decide ((aheadL s).length < s.length))
/-! ### texts joined -/
/-- A slice of texts, of which it is known how far it reaches. -/
def TextsC (w : World) (v : Value) (L : List (List UInt8)) : Prop := ∃ p cap, v = .slice p L.length cap ∧ L.length ≤ cap ∧ HasTexts w p L
theorem own_textsC {w : World} {B : Nat} {e : TypeId} {v : Value} {L : List (List UInt8)} (h : w.ownsRow B e 1 v L.length (strs L)) : TextsC w v L := by
  obtain ⟨p, cap, hv, ht⟩ := own_texts h
  refine ⟨p, cap, hv, ?_, ht⟩
  obtain ⟨-, ⟨h0, hn⟩ | ⟨g, cap', cur, hv', -, -, hc, -⟩⟩ := h
  · rw [hn]; exact Nat.zero_le _
  · rw [hv] at hv'
    injection hv' with h1 h2 h3
    omega
theorem TextsC.below {w w' : World} {v : Value} {L : List (List UInt8)} (h : TextsC w v L) (hb : Below w.heap.size w w') : TextsC w' v L := by
  obtain ⟨p, cap, hv, hc, ht⟩ := h
  exact ⟨p, cap, hv, hc, ht.below hb⟩
theorem libjoin_any (w : World) (v : Value) (L : List (List UInt8)) (h : TextsC w v L) (hL : L.length ≤ 1000000) (hlen : (join L [32]).length ≤ 10000000) :
    Calls Tryd.prog 104 #[v, .string (bs [32])] w fun e w' => e = .returned (.string (bs (join L [32]))) ∧ Below w.heap.size w w' := by
  obtain ⟨p, cap, rfl, hc, ht⟩ := h
  by_cases h0 : L = []
  · subst h0
    exact (Any.strings_Join_none Tryd.laysJoin Tryd.extraJoin p cap (bs [32]) w).mono fun e w' ⟨he, hw⟩ => ⟨he, hw ▸ Below.refl _ _⟩
  · obtain ⟨g, rfl, hg⟩ := ht 0 (List.length_pos_iff.2 h0)
    have hmap : (L.map bs).map (·.data.toList) = L := by
      rw [List.map_map]
      conv => rhs; rw [← List.map_id L]
      apply List.map_congr_left
      intro x _
      exact bs_list x
    have h := Any.strings_Join Tryd.laysJoin Tryd.extraJoin g 0 cap (L.map bs) (bs [32]) w (fun j x hx => by
      simp only [List.getElem?_map, Option.map_eq_some_iff] at hx
      obtain ⟨y, hy, rfl⟩ := hx
      have hj := (List.getElem?_eq_some_iff.1 hy).1
      obtain ⟨g', hg', hc'⟩ := ht j hj
      obtain rfl : g = g' := by simpa using hg'
      rw [Nat.zero_add, hc']
      simp [List.getD, hy]) (World.block_lt_of_cell? _ _ hg) (by rw [List.length_map]; omega) (by rw [List.length_map]; exact hc) (by rw [hmap, bs_list]; omega)
    rw [hmap, bs_list, List.length_map] at h
    exact h
set_option maxRecDepth 100000 in
theorem sjoin_any (w : World) (v : Value) (L : List (List UInt8)) (h : TextsC w v L) (hL : L.length ≤ 1000000) (hlen : (join L [32]).length ≤ 10000000) :
    Calls Tryd.prog 58 #[v] w fun e w' => e = .returned (.string (bs (join L [32]))) ∧ Below w.heap.size w w' := by
  have H := Lib.hid (libjoin_any w v L h hL hlen)
  go_enter Tryd.func58, Tryd.ntmps58
  go_wp2_with fail
  refine H.out.mono ?_
  rintro e w1 ⟨rfl, hb1⟩
  go_wp2_with fail
  go_ret
  exact ⟨rfl, hb1⟩
theorem ex6w : wordsR [114, 101, 97, 100, 32, 97, 32, 32, 98, 32, 35, 120] = ([([114, 101, 97, 100], 1), ([97], 6), ([98], 9)], 0) := by decide +kernel
theorem ex6r : remarkR [114, 101, 97, 100, 32, 97, 32, 32, 98, 32, 35, 120] = ([120], true) := by decide +kernel
theorem ex6j : join [[97], [98]] [32] = [97, 32, 98] := by decide +kernel
theorem words_len (s : List UInt8) : (wordsR s).1.length ≤ s.length + 1 ∧ (wordsR s).2 ≤ 5 := by
  unfold wordsR
  split
  · refine ⟨?_, Nat.zero_le _⟩
    have h := scan_len (aheadL s) (aheadL s).length 0 none
    have h2 := ahead_len s
    show (wordsL (aheadL s)).length ≤ _
    unfold wordsL scanL
    rw [List.length_map]
    omega
  · exact ⟨Nat.zero_le _, Nat.le_refl _⟩
end Go.Proofs.YtphhgdgamnogpaaDoor
