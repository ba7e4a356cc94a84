/-
  The walk of layer 2 (name): a text turned, in the program. No conditions.
-/
import Derived.Test.YtcajbgphpidiiaaDoorNameV
import Derived.Shelf.SlicesE.Reverse
import Derived.Laws.Cover4
import Derived.Stop.FmtQuoteTie
namespace Go.Proofs.YtcajbgphpidiiaaDoor
open Go.RowKit Go.Lib Go.Sort

/-- A rune's cell. -/
def cellR (n : Nat) : Value := .int .i32 (n : Int)
theorem cellR_one : OneCell cellR := fun _ => rfl

theorem enc_rune (r : Nat) : Utf8.encode (r : Int) = bs (encodeRune (r : Int)) := by
  have h := Extern.FmtText.encode_eq r
  have e : encodeRune (r : Int) = (Utf8.encode (r : Int)).data.toList := by
    unfold encodeRune
    rw [← h, Extern.FmtText.nums, List.map_map]
    conv => rhs; rw [← List.map_id (Utf8.encode (r : Int)).data.toList]
    apply List.map_congr_left
    intro x _
    simp
  rw [e]
  exact bs_data _
theorem bytes_runes : ∀ (r : List Nat) (b : List UInt8), (r.map fun (n : Nat) => (n : Int)).foldl (fun s n => s ++ Utf8.encode n) (bs b) = bs (b ++ textU r)
  | [], b => by simp [textU]
  | a :: r, b => by
    simp only [List.map_cons, List.foldl_cons]
    rw [enc_rune, bs_append, bytes_runes r]
    simp [textU, List.append_assoc]

theorem holdsR (w w' : World) (l : List UInt8) : Holds cellR (w'.alloc (.cells (rowR w l) 21)) w'.heap.size 0 (runesU l).toArray := by
  intro j hj
  have hj' : j < (runesU l).length := by simpa using hj
  refine ⟨?_, ?_⟩
  · rw [Nat.zero_add, rowR_cell w w' l j hj']
    simp [cellR, hj']
  · exact World.frozen?_alloc_at _ _ _ _ rfl

theorem back_runes (w : World) (g len cap : Nat) (r : List Nat) (hlen : r.length = len) (hH : Holds cellR w g 0 r.toArray) :
    (convert 56 9 (.slice (some ⟨g, 0, none⟩) len cap)).run Tryd.prog w = .ok (.string (bs (textU r))) w := by
  have h := run_convert_runes (P := Tryd.prog) w 56 9 21 ⟨g, 0, none⟩ len cap (r.map fun (n : Nat) => (n : Int)) (by simp [hlen]) Tryd.underlying56 Tryd.underlying21 Tryd.underlying9 (fun j hj => by
    have hj' : j < r.length := by simpa using hj
    have := (hH j (by simpa using hj')).1
    rw [Addr.add_lit, this]
    simp [cellR, hj'])
  rw [h, List.take_of_length_le (by simp [hlen])]
  have e := bytes_runes r []
  unfold runesBytes
  rw [List.nil_append] at e
  rw [← e]
  rfl

set_option maxRecDepth 100000 in
set_option maxHeartbeats 1000000 in
theorem turned_any (l : List UInt8) (hs : l.length ≤ 1000000) (w : World) :
    Calls Tryd.prog 20 #[.string (bs l)] w fun e w' => e = .returned (.string (bs (textU (runesU l).reverse))) ∧ Below w.heap.size w w' := by
  have hca := conv_runes l hs
  have hl := runesU_length l
  go_enter Tryd.func20, Tryd.ntmps20
  go_wp2_with fail
  refine (AnyE.slices_Reverse Tryd.laysRev cellR cellR_one w.heap.size 0 _ (runesU l) _ (holdsR w w.drew l) (by omega)).mono ?_
  rintro e w1 ⟨rfl, n, hw1⟩
  have hH : Holds cellR w1 w.heap.size 0 (runesU l).reverse.toArray := by
    rw [hw1]
    exact holds_putRow cellR _ _ _ (runesU l).toArray _ (holdsR w w.drew l) (by simp)
  have hB : Below w.heap.size w w1 := by
    rw [hw1]
    refine ⟨rfl, rfl, rfl, by rw [size_putRow]; simp, fun k hk => ?_⟩
    have hne : w.heap.size ≠ k := by omega
    simp only [putRow, mapBlock, Array.getElem?_modify, if_neg hne]
    exact heap_alloc_old w _ hk
  have hb := back_runes w1 w.heap.size (runesU l).length (grownCap w (runesU l).length 0 21) (runesU l).reverse (by simp) hH
  clear hw1 hca hH
  go_wp2_with fail
  go_ret
  exact ⟨rfl, hB⟩
end Go.Proofs.YtcajbgphpidiiaaDoor
