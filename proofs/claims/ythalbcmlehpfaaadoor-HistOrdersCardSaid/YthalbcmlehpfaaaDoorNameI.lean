/-
  The walk of layer 2 (name): texts' names in order, in the program. No conditions but that unicode/utf8's two tables are as their initialisers lay them.
-/
import Derived.Test.YthalbcmlehpfaaaDoorNameG
import Derived.Test.YthalbcmlehpfaaaDoorNameV
import Derived.Test.YthalbcmlehpfaaaDoorTexts
import Derived.Test.YthalbcmlehpfaaaDoorLayO
namespace Go.Proofs.YthalbcmlehpfaaaDoor
open Go.RowKit Go.Lib Go.Sort

theorem two_allocs (w : World) (A B : Obj) : ((w.alloc A).alloc B).drew.drew = grow (w.drewN 2) #[A, B] := by
  have e : (w.heap.push A).push B = w.heap ++ #[A, B] := by
    apply Array.ext'
    simp [Array.toList_push]
  unfold grow World.alloc World.drew World.drewN
  simp only [e]
set_option maxRecDepth 100000 in
set_option maxHeartbeats 1000000 in
theorem ncompare_grows (a b : List UInt8) (ha : a.length ≤ 1000000) (hb : b.length ≤ 1000000) (w : World) :
    Calls Tryd.prog 74 #[.string (bs a), .string (bs b)] w fun e w' => e = .returned (.int .i64 (lexCmp (runesU a) (runesU b))) ∧ ∃ q os, w' = grow (w.drewN q) os := by
  have hca := conv_runes a ha
  have hcb := conv_runes b hb
  go_enter Tryd.func74, Tryd.ntmps74
  go_wp2_with fail
  refine (compare_any (runesU a) (runesU b) _ _ _ _ _ ?_ ?_ (by have := runesU_length a; omega)).mono ?_
  · intro j hj
    exact cell_past _ (cell_drew (rowR_cell w w.drew a j hj))
  · intro j hj
    have h := rowR_cell (w.alloc (.cells (rowR w a) 21)).drew (w.alloc (.cells (rowR w a) 21)) b j hj
    rw [show (w.alloc (.cells (rowR w a) 21)).heap.size = w.heap.size + 1 by simp] at h
    exact cell_drew (cell_drew h)
  · rintro e w1 ⟨rfl, rfl⟩
    go_wp2_with fail
    go_ret
    exact ⟨rfl, 2, _, two_allocs _ _ _⟩

/-- A name. -/
abbrev NameT := { l : List UInt8 // nameL l = true }
instance : Inhabited NameT := ⟨⟨[97], by decide +kernel⟩⟩
def encN (x : NameT) : Value := .string (bs x.1)
theorem encN_one : OneCell encN := fun _ => rfl
def cmpN (x y : NameT) : Int := lexCmp (runesU x.1) (runesU y.1)
theorem lt_cmpN (x y : NameT) : ltOf cmpN x y = ltN x.1 y.1 := (lexCmp_less _ _).symm
theorem swo_cmpN : SWO (ltOf cmpN) where
  irrefl x := by rw [lt_cmpN]; exact ltN_irrefl _
  trans x y z h1 h2 := by rw [lt_cmpN] at *; exact ltN_trans _ _ _ h1 h2
  ntrans x y z h1 h2 := by rw [lt_cmpN] at *; exact lexLess_ntrans _ _ _ h1 h2
theorem name_len (l : List UInt8) (h : nameL l = true) : l.length ≤ 1000000 := by
  have hv := textU_runes _ l (Nat.le_refl _) (name_valid l h)
  unfold nameL word at h
  simp only [Bool.and_eq_true, decide_eq_true_eq] at h
  have := textU_len (runesU l)
  rw [hv] at this
  omega
theorem compare_enters : ∀ args w, (callFunc 74 args).run Tryd.prog w = .ok (.enter 74 args) w := enters_of Tryd.func74 (by kernel_rfl) rfl
theorem sort_names (g cap : Nat) (d : Array NameT) (w : World) (hH : Holds encN w g 0 d) (hg : g < w.heap.size) (hsz : d.size < 4611686018427387904) :
    Calls Tryd.prog 73 #[.slice (some ⟨g, 0, none⟩) d.size cap, .func (.func 74) #[] #[]] w fun e w' =>
      e = .returned (.tuple #[]) ∧ ∃ n os, w' = sortWorld encN w g 0 n (d.toList.mergeSort fun x y => !(ltOf cmpN) y x).toArray os :=
  Any.slices_SortFunc_total Tryd.laysSort encN encN_one cmpN swo_cmpN 74 #[] g 0 cap d w compare_enters
    (fun m os dk _ x y => ncompare_grows x.1 y.1 (name_len _ x.2) (name_len _ y.2) _) hH hg hsz
    (fun x y h1 h2 => by rw [lt_cmpN] at h1 h2; exact Subtype.ext (ltN_total _ _ x.2 y.2 h1 h2))
theorem compact_names (g cap : Nat) (S : List (List UInt8)) (w : World) (hH : Holds Go.Proofs.encStr w g 0 S.toArray) (hsz : S.length ≤ 9223372036854775807) (hcap : S.length ≤ cap) :
    Calls Tryd.prog 75 #[.slice (some ⟨g, 0, none⟩) S.length cap] w fun e w' => e = .returned (.slice (some ⟨g, 0, none⟩) (compact S).length cap) ∧
      ∃ q, w' = putRow Go.Proofs.encStr (Sort.ahead w q) g 0 (compact S ++ List.replicate (S.length - (compact S).length) []).toArray :=
  Any.slices_Compact_string Tryd.laysCompact g 0 cap S w hH hsz hcap

/-- What the sort leaves: the names, each as often as before, none behind a greater one. -/
def leN (x y : NameT) : Bool := !(ltOf cmpN) y x
theorem leN_trans (a b c : NameT) (h1 : leN a b = true) (h2 : leN b c = true) : leN a c = true := by
  unfold leN at *
  simp only [Bool.not_eq_true'] at *
  exact swo_cmpN.ntrans c b a h2 h1
theorem leN_total (a b : NameT) : (leN a b || leN b a) = true := by
  unfold leN
  simp only [lt_cmpN]
  cases h1 : ltN b.1 a.1 with
  | false => rfl
  | true =>
    cases h2 : ltN a.1 b.1 with
    | false => rfl
    | true =>
      have := ltN_trans _ _ _ h1 h2
      rw [ltN_irrefl] at this
      exact absurd this (by decide)
theorem sort_spec (d : List NameT) (L : List (List UInt8)) (h : ∀ y, y ∈ d.map (·.1) ↔ y ∈ L ∧ nameL y = true) : compact ((d.mergeSort leN).map (·.1)) = sortedN L := by
  refine compact_sorted _ L (fun y => ?_) ?_
  · rw [← h, List.mem_map, List.mem_map]
    constructor
    · rintro ⟨x, hx, e⟩
      exact ⟨x, (List.mergeSort_perm d leN).mem_iff.1 hx, e⟩
    · rintro ⟨x, hx, e⟩
      exact ⟨x, (List.mergeSort_perm d leN).mem_iff.2 hx, e⟩
  · rw [List.pairwise_map]
    refine (List.pairwise_mergeSort leN_trans leN_total d).imp fun {a b} hab => ?_
    unfold leN at hab
    rw [lt_cmpN] at hab
    simpa using hab
theorem lift_names : ∀ M : List (List UInt8), (∀ x ∈ M, nameL x = true) → ∃ d : List NameT, d.map (·.1) = M
  | [], _ => ⟨[], rfl⟩
  | x :: M, h => by
    obtain ⟨d, hd⟩ := lift_names M (fun y hy => h y (List.mem_cons_of_mem _ hy))
    exact ⟨⟨x, h x (List.mem_cons_self ..)⟩ :: d, by simp [hd]⟩
theorem filter_next (L : List (List UInt8)) (k : Nat) (hk : k < L.length) : (L.take (k + 1)).filter nameL = (L.take k).filter nameL ++ (if nameL (L.getD k []) then [L.getD k []] else []) := by
  have e : L.take (k + 1) = L.take k ++ [L.getD k []] := by
    rw [List.take_add_one]
    simp [hk]
  rw [e, List.filter_append]
  congr 1
  simp only [List.filter_cons, List.filter_nil]
theorem below_sortWorld {a w : World} {g n : Nat} {dk : Array NameT} {os : Array Obj} (h : Below a.heap.size a w) (hg : a.heap.size ≤ g) : Below a.heap.size a (sortWorld encN w g 0 n dk os) := by
  refine ⟨h.os, h.tape, h.output, ?_, fun k hk => ?_⟩
  · have := h.size
    show a.heap.size ≤ (grow (putRow encN (Sort.ahead w n) g 0 dk) os).heap.size
    unfold grow
    simp only [Array.size_append]
    rw [size_putRow]
    show _ ≤ w.heap.size + _
    omega
  · have hkw : k < w.heap.size := Nat.lt_of_lt_of_le hk h.size
    rw [← h.block k hk]
    have hne : g ≠ k := by omega
    show ((putRow encN (Sort.ahead w n) g 0 dk).heap ++ os)[k]? = _
    rw [Array.getElem?_append_left (by rw [size_putRow]; exact hkw)]
    simp only [putRow, mapBlock, Array.getElem?_modify, if_neg hne]
    rfl
theorem below_putRow {a w : World} {g q : Nat} {dk : Array (List UInt8)} (h : Below a.heap.size a w) (hg : a.heap.size ≤ g) : Below a.heap.size a (putRow Go.Proofs.encStr (Sort.ahead w q) g 0 dk) := by
  refine ⟨h.os, h.tape, h.output, ?_, fun k hk => ?_⟩
  · rw [size_putRow]
    exact h.size
  · have hkw : k < w.heap.size := Nat.lt_of_lt_of_le hk h.size
    rw [← h.block k hk]
    have hne : g ≠ k := by omega
    simp only [putRow, mapBlock, Array.getElem?_modify, if_neg hne]
    rfl
end Go.Proofs.YthalbcmlehpfaaaDoor
