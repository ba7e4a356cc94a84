/-
  Blocks of cells known whole: made, kept, stored into; rows of a call's own against them. No conditions.
  The statement EventBack of layer 7 (event), walked. Conditions: unicode/utf8's two tables, and event.words, hold what their initialisers lay, internal/bytealg.MaxLen holds a number.
-/
import Derived.Test.YtphhgdgamnogpaaDoorBase
import Derived.Test.YtphhgdgamnogpaaDoorEvL
namespace Go.Proofs.YtphhgdgamnogpaaDoor
open Go.RowKit

/-- Block B holds just these cells, of this type; none is frozen. -/
def Blk (w : World) (B : Nat) (t : TypeId) (cs : List Value) : Prop := w.heap[B]? = some (.cells cs.toArray t (0, 0))
theorem Blk.lt {w : World} {B : Nat} {t : TypeId} {cs : List Value} (h : Blk w B t cs) : B < w.heap.size := (Array.getElem?_eq_some_iff.1 h).1
theorem Blk.cell {w : World} {B : Nat} {t : TypeId} {cs : List Value} (h : Blk w B t cs) (i : Nat) {v : Value} (hi : cs[i]? = some v) : w.cell? ⟨B, i, none⟩ = some v := by
  rw [cell_of_row w B i cs.toArray t (0, 0) h]
  simpa using hi
theorem Blk.frozen {w : World} {B : Nat} {t : TypeId} {cs : List Value} (h : Blk w B t cs) (i : Nat) : w.frozen? ⟨B, i, none⟩ = false := by
  have h' : w.heap[B]? = some (.cells cs.toArray t (0, 0)) := h
  simp [World.frozen?, h']
theorem Blk.new (w : World) (t : TypeId) (cs : List Value) : Blk (w.alloc (.cells cs.toArray t)) w.heap.size t cs := heap_alloc_new w _
theorem Blk.kept {w w' : World} {row : Option Nat} {B : Nat} {t : TypeId} {cs : List Value} (h : Blk w B t cs) (hg : w.grownBy w' row) (hne : some B ≠ row) : Blk w' B t cs := (hg.block B h.lt hne).trans h
theorem Blk.alloc {w : World} {B : Nat} {t : TypeId} {cs : List Value} (h : Blk w B t cs) (o : Obj) : Blk (w.alloc o) B t cs := h.kept (World.grownBy_alloc w o none) (by simp)
theorem Blk.drew {w : World} {B : Nat} {t : TypeId} {cs : List Value} (h : Blk w B t cs) : Blk w.drew B t cs := h
theorem Blk.drewN {w : World} {B : Nat} {t : TypeId} {cs : List Value} (h : Blk w B t cs) (n : Nat) : Blk (w.drewN n) B t cs := h
theorem Blk.below {w w' : World} {B n : Nat} {t : TypeId} {cs : List Value} (h : Blk w B t cs) (hb : Below n w w') (hn : B < n) : Blk w' B t cs := (hb.block B hn).trans h
theorem Blk.later {w w' : World} {B : Nat} {t : TypeId} {cs : List Value} (h : Blk w B t cs) (hb : Below w.heap.size w w') : Blk w' B t cs := h.below hb h.lt
theorem Blk.far {w : World} {B : Nat} {t : TypeId} {cs : List Value} (h : Blk w B t cs) {a : Addr} (hne : B ≠ a.block) (v : Value) : Blk (w.setCell a v) B t cs := (Below.heap_setCell w a v B hne).trans h
theorem Blk.set {w : World} {B : Nat} {t : TypeId} {cs : List Value} (h : Blk w B t cs) (i : Nat) (v : Value) : Blk (w.setCell ⟨B, i, none⟩ v) B t (cs.set i v) := by
  have h' : w.heap[B]? = some (.cells cs.toArray t (0, 0)) := h
  simp [Blk, World.setCell, Array.getElem?_modify, h']
/-- A row of the call's own from a base on is kept by a store below that base. -/
theorem owns_far {w : World} {base size n : Nat} {e : TypeId} {v : Value} {xs : List Value} (h : w.ownsRow base e size v n xs) {a : Addr} (ha : a.block < base) (u : Value) : (w.setCell a u).ownsRow base e size v n xs := by
  obtain ⟨h1, h2⟩ := h
  refine ⟨h1, ?_⟩
  rcases h2 with h2 | ⟨g, cap, cur, e1, hb, hw, r⟩
  · exact .inl h2
  · exact .inr ⟨g, cap, cur, e1, hb, (Below.heap_setCell w a u g (by omega)).trans hw, r⟩
/-- A row of the call's own is kept where the row's block is. -/
theorem owns_keep {w w' : World} {base size n m : Nat} {e : TypeId} {v : Value} {xs : List Value} (h : w.ownsRow base e size v n xs) (hb : Below m w w') (hm : ∀ k, v.ownBlock = some k → k < m) : w'.ownsRow base e size v n xs := by
  obtain ⟨h1, h2⟩ := h
  refine ⟨h1, ?_⟩
  rcases h2 with h2 | ⟨g, cap, cur, e1, hg, hw, r⟩
  · exact .inl h2
  · exact .inr ⟨g, cap, cur, e1, hg, (hb.block g (hm g (by subst e1; rfl))).trans hw, r⟩
theorem owns_later {w w' : World} {base size n : Nat} {e : TypeId} {v : Value} {xs : List Value} (h : w.ownsRow base e size v n xs) (hb : Below w.heap.size w w') : w'.ownsRow base e size v n xs := owns_keep h hb (fun k hk => (h.lt k hk).2)
/-- Another row is kept by what grows one row. -/
theorem owns_other {w w' : World} {base base' size size' n n' : Nat} {e e' : TypeId} {v v' : Value} {xs xs' : List Value} (h : w.ownsRow base e size v n xs) (h' : w.ownsRow base' e' size' v' n' xs') (hne : e ≠ e') (hg : w.grownBy w' v'.ownBlock) : w'.ownsRow base e size v n xs := by
  refine h.kept hg ?_
  rcases h.2 with ⟨rfl, -⟩ | ⟨g, cap, cur, rfl, -, hw, -⟩
  · exact .inl rfl
  · refine .inr fun he => ?_
    rcases h'.2 with ⟨rfl, -⟩ | ⟨g', cap', cur', rfl, -, hw', -⟩
    · cases he
    · have e1 : g = g' := by simpa [Value.ownBlock] using he
      subst e1
      rw [hw] at hw'
      injection hw' with hw'
      injection hw' with _ hw'
      exact hne hw'
/-- A block of another type is kept by what grows a row. -/
theorem Blk.grown {w w' : World} {B base size n : Nat} {t e : TypeId} {cs : List Value} {v : Value} {xs : List Value} (h : Blk w B t cs) (ho : w.ownsRow base e size v n xs) (hB : B < base) (hg : w.grownBy w' v.ownBlock) : Blk w' B t cs :=
  h.kept hg (fun he => by have := (ho.lt B he.symm).1; omega)
/-- What an append to a row of one's own leaves below its base. -/
theorem below_own {w w' : World} {a : World} {B base size n : Nat} {e : TypeId} {v : Value} {xs : List Value} (hb : Below B a w) (hB : B ≤ base) (hs : B ≤ w.heap.size) (ho : w.ownsRow base e size v n xs) (hg : w.grownBy w' v.ownBlock) : Below B a w' :=
  hb.grown hg hs (fun k hk => Nat.le_trans hB (ho.lt k hk).1)
theorem below_own2 {w w' : World} {a : World} {B base size n : Nat} {e : TypeId} {v : Value} {xs : List Value} (hb : Below B a w) (hB : B ≤ base) (hs : B ≤ a.heap.size) (ho : w.ownsRow base e size v n xs) (hg : w.grownBy w' v.ownBlock) : Below B a w' :=
  below_own hb hB (Nat.le_trans hs hb.size) ho hg
/-- A row of at least one element is no nil slice. -/
theorem owns_some {w : World} {base size k : Nat} {e : TypeId} {v : Value} {xs : List Value} (h : w.ownsRow base e size v (k + 1) xs) : ∃ g cap, v = .slice (some ⟨g, 0, none⟩) (k + 1) cap := by
  rcases h.2 with ⟨-, h2⟩ | ⟨g, cap, cur, rfl, -⟩
  · cases h2
  · exact ⟨g, cap, rfl⟩
/-- A row is kept by a store into a block of another type. -/
theorem owns_store {w : World} {base size n B : Nat} {e t : TypeId} {v : Value} {xs cs : List Value} (h : w.ownsRow base e size v n xs) (hB : Blk w B t cs) (hne : e ≠ t) (i : Nat) (u : Value) : (w.setCell ⟨B, i, none⟩ u).ownsRow base e size v n xs := by
  obtain ⟨h1, h2⟩ := h
  refine ⟨h1, ?_⟩
  rcases h2 with h2 | ⟨g, cap, cur, e1, hg, hw, r⟩
  · exact .inl h2
  · refine .inr ⟨g, cap, cur, e1, hg, (Below.heap_setCell w _ u g fun he => ?_).trans hw, r⟩
    have he' : g = B := he
    subst he'
    have hB' : w.heap[g]? = some (.cells cs.toArray t (0, 0)) := hB
    rw [hw] at hB'
    injection hB' with hB'
    injection hB' with _ hB'
    exact hne hB'
/-- The cells of a block that was just made, as what is appended. -/
theorem news_lit (w : World) (cs : List Value) (e : TypeId) (n : Nat) (hn : n = w.heap.size) : ∀ (j : Nat) (u : Value), cs[j]? = some u → (w.alloc (.cells cs.toArray e)).cell? ((⟨n, 0, none⟩ : Addr).add j) = some u := by
  intro j u hj
  subst hn
  rw [Addr.add_lit, Nat.zero_add]
  exact (Blk.new w e cs).cell j hj
/-- A row that lies below a base is kept by what grows a row from that base on. -/
theorem owns_apart {w w' : World} {b1 N s1 s2 n1 n2 : Nat} {e1 e2 : TypeId} {v1 v2 : Value} {xs1 xs2 : List Value} (h : w.ownsRow b1 e1 s1 v1 n1 xs1) (hN : ∀ k, v1.ownBlock = some k → k < N) (h2 : w.ownsRow N e2 s2 v2 n2 xs2) (hg : w.grownBy w' v2.ownBlock) : w'.ownsRow b1 e1 s1 v1 n1 xs1 := by
  refine h.kept hg ?_
  cases hb : v1.ownBlock with
  | none => exact .inl rfl
  | some k =>
    refine .inr fun he => ?_
    have := (h2.lt k he.symm).1
    have := hN k hb
    omega
theorem owns_form {w : World} {base size n : Nat} {e : TypeId} {v : Value} {xs : List Value} (h : w.ownsRow base e size v n xs) : ∃ p cap, v = .slice p n cap := by
  rcases h.2 with ⟨rfl, rfl⟩ | ⟨g, cap, cur, rfl, -⟩
  · exact ⟨_, _, rfl⟩
  · exact ⟨_, _, rfl⟩
theorem owns_base {w : World} {base base' size n : Nat} {e : TypeId} {v : Value} {xs : List Value} (h : w.ownsRow base e size v n xs) (hb : base' ≤ base) : w.ownsRow base' e size v n xs := by
  obtain ⟨h1, h2⟩ := h
  refine ⟨h1, ?_⟩
  rcases h2 with h2 | ⟨g, cap, cur, e1, hg, r⟩
  · exact .inl h2
  · exact .inr ⟨g, cap, cur, e1, Nat.le_trans hb hg, r⟩
end Go.Proofs.YtphhgdgamnogpaaDoor

namespace Go.Proofs.YtphhgdgamnogpaaDoor
open Go.RowKit Go.Lib

theorem readF_lens (m : Nat) (l0 l1 l2 l3 : List UInt8) (q : Nat) (h1 : l1.length ≤ q) (h2 : l2.length ≤ q) : (readF m l0 l1 l2 l3).1.2.1.length ≤ q ∧ (readF m l0 l1 l2 l3).1.2.2.1.length ≤ q := by
  unfold readF
  generalize (decide (kindL l0 ≠ 0) && (decide (m = if longK (kindL l0) then 4 else 2) && (nameL l1 && (!longK (kindL l0) || nameL l2)))) = c
  cases c with
  | false => exact ⟨Nat.zero_le _, Nat.zero_le _⟩
  | true =>
    rw [if_neg (by decide)]
    cases longK (kindL l0) with
    | false => exact ⟨h1, Nat.zero_le _⟩
    | true =>
      rw [if_pos rfl]
      unfold valuedE
      simp only
      (repeat' split) <;> first | exact ⟨Nat.zero_le _, Nat.zero_le _⟩ | exact ⟨h1, h2⟩
theorem parse_lens (l : List UInt8) : (parseE l).1.2.1.length ≤ l.length ∧ (parseE l).1.2.2.1.length ≤ l.length := by
  rcases wordsR_cases l with h | h | ⟨W, hW0, h⟩
  · rw [parse_err l h]; exact ⟨Nat.zero_le _, Nat.zero_le _⟩
  · rw [parse_none l h]; exact ⟨Nat.zero_le _, Nat.zero_le _⟩
  · rw [parse_f l W h hW0]
    have e := word_len l
    rw [h] at e
    exact readF_lens _ _ _ _ _ _ (e 1) (e 2)
theorem parse_nil : parseE [] = (noEv, false, 0) := by decide +kernel
theorem lineE_len (k : Int) (s key : List UInt8) (vk n ln : Int) (h0 : -9223372036854775808 ≤ n) (h1 : n ≤ 9223372036854775807) : (lineE (k, s, key, vk, n, ln)).length ≤ s.length + key.length + 28 := by
  unfold lineE wordsE
  have := kindW_len k
  have := txt_len vk n h0 h1
  split
  · split
    · simp only [join4_len]; omega
    · simp only [join2_len]; omega
  · simp

set_option maxRecDepth 100000 in
set_option maxHeartbeats 8000000 in
theorem eventback_any (k vk n ln : Int) (s key : List UInt8) (hs : s.length ≤ 9223372036854775807) (hk : key.length ≤ 9223372036854775807) (h0 : -9223372036854775808 ≤ n) (h1 : n ≤ 9223372036854775807) (l : List UInt8) (hl : l.length ≤ 9223372036854775807) (w : World) (hT : Lib.Utf8Tabs 4 5 w) (hm : HasMax w) (hE : EvTab w) :
    Calls Tryd.prog 5 #[.agg #[.int .i64 k, .string (bs s), .string (bs key), .int .i64 vk, .int .i64 n, .int .i64 ln], .string (bs l)] w fun e w' => e = .returned (.bool true) ∧ Below w.heap.size w w' := by
  have HSh1 := Lib.hid (fun w' => eshort_any s hs w')
  have HSh2 := Lib.hid (fun w' => eshort_any key hk w')
  have HSh3 := Lib.hid (fun w' => eshort_any l hl w')
  have l1 : (s.take 1000).length ≤ 1000 := by simp; omega
  have l2 : (key.take 1000).length ≤ 1000 := by simp; omega
  have l3 : (l.take 1000).length ≤ 1000 := by simp; omega
  clear hs hk hl
  generalize s.take 1000 = s1 at *
  generalize key.take 1000 = key1 at *
  generalize l.take 1000 = t1 at *
  have lx := lineE_len k s1 key1 vk n ln h0 h1
  have HP := Lib.hid (fun w' (h : Below w.heap.size w w') => eprint_any k s1 key1 vk n ln (by omega) (by omega) h0 h1 w' (Utf8Tabs_below hT h) (hE.below h))
  have HQ := Lib.hid (fun w' (h : Below w.heap.size w w') => eparse_any (lineE (k, s1, key1, vk, n, ln)) (by omega) w' (Utf8Tabs_below hT h) (hm.below h) (hE.below h))
  have HWk := Lib.hid (fun w' (h : Below w.heap.size w w') => eworks_any w' (Utf8Tabs_below hT h) (hm.below h) (hE.below h))
  have HZ := Lib.hid (fun w' (h : Below w.heap.size w w') => eparse_any t1 (by omega) w' (Utf8Tabs_below hT h) (hm.below h) (hE.below h))
  have HMz := Lib.hid (parse_may t1)
  obtain ⟨lz1, lz2⟩ := parse_lens t1
  obtain ⟨⟨⟨zk, zs, zkey, zvk, zn, zln⟩, zi, zg⟩, hz⟩ : ∃ x, parseE t1 = x := ⟨_, rfl⟩
  rw [hz] at HZ HMz lz1 lz2
  simp only at lz1 lz2 HMz
  unfold evV at HZ
  dsimp only at HZ
  have HMay := Lib.hid (fun w' (h : Below w.heap.size w w') => emay_any zk zs zkey zvk zn zln (by omega) (by omega) w' (Utf8Tabs_below hT h))
  have K0 := Lib.hid (Blk.new w 37 [.int .i64 k, .string (bs s), .string (bs key), .int .i64 vk, .int .i64 n, .int .i64 ln])
  clear hT hm hE hz
  go_enter Tryd.func5, Tryd.ntmps5
  go_wp2_with fail
  refine (HWk.out _ (by (repeat' (first | (with_reducible exact Below.refl _ _) | (with_reducible assumption) | (refine below_next ?_ (by with_reducible assumption)) | (with_reducible refine Below.setCell ?_ ?_ _) | (with_reducible refine Below.alloc ?_ ?_ _) | (with_reducible refine Below.drew ?_) | (with_reducible refine below_drewN ?_ _) | omega | (simp; done) | (simp; omega))))).mono ?_
  rintro e w1 ⟨rfl, hb1⟩
  have K1 := Lib.hid (K0.out.later hb1)
  have HB1 : RowKit.Hid (Below w.heap.size w w1) := Lib.hid (by (repeat' (first | (with_reducible exact Below.refl _ _) | (with_reducible assumption) | (refine below_next ?_ (by with_reducible assumption)) | (with_reducible refine Below.setCell ?_ ?_ _) | (with_reducible refine Below.alloc ?_ ?_ _) | (with_reducible refine Below.drew ?_) | (with_reducible refine below_drewN ?_ _) | omega | (simp; done) | (simp; omega))))
  have y1 := K1.out.cell 1 rfl
  have y2 := K1.out.cell 2 rfl
  have n1 := K1.out.frozen 1
  have n2 := K1.out.frozen 2
  have HS : RowKit.Hid (∀ w', Below w1.heap.size w1 w' → (w'.cell? ⟨w.heap.size, 1, none⟩ = some (.string (bs s)) ∧ w'.cell? ⟨w.heap.size, 2, none⟩ = some (.string (bs key)) ∧ Below w1.heap.size w1 w')) := Lib.hid (fun w' hb => ⟨cell_later hb y1, cell_later hb y2, hb⟩)
  clear hb1 K0
  go_upto_region 4 with fail
  go_cut [15] (fun _ wx => Blk wx w.heap.size 37 [.int .i64 k, .string (bs s1), .string (bs key1), .int .i64 vk, .int .i64 n, .int .i64 ln] ∧ Below w.heap.size w wx)
  case first =>
    refine wp_region_late (fun w' => w'.cell? ⟨w.heap.size, 1, none⟩ = some (.string (bs s)) ∧ w'.cell? ⟨w.heap.size, 2, none⟩ = some (.string (bs key)) ∧ Below w1.heap.size w1 w') [7, 8, 9] (by kernel_rfl) ?_
    have hB0 : Below (w1).heap.size (w1) (w1).drew := Below.drew (Below.refl _ _)
    have hS0 := HS.out _ hB0
    refine wpAnyL_take 0 10 (v := ?_) rfl (by kernel_rfl) (by kernel_rfl) (by kernel_rfl) (by kernel_rfl) (by kernel_rfl) (fun _ _ _ h => h) (Or.inl ⟨by rfl, ?_⟩) hS0 ?_
    rotate_left
    · intro w' hw'
      try dsimp only at hw'
      go_simp
      try with_reducible rfl
    try simp only [Act.put, List.setIfInBounds_toArray, List.set_cons_zero, List.set_cons_succ]
    refine wpAnyL_take 1 10 (v := ?_) rfl (by kernel_rfl) (by kernel_rfl) (by kernel_rfl) (by kernel_rfl) (by kernel_rfl) (fun _ _ _ h => h) (Or.inl ⟨by rfl, ?_⟩) hS0 ?_
    rotate_left
    · intro w' hw'
      try dsimp only at hw'
      go_simp
      try with_reducible rfl
    try simp only [Act.put, List.setIfInBounds_toArray, List.set_cons_zero, List.set_cons_succ]
    refine wpAnyL_take 3 10 (v := ?_) rfl (by kernel_rfl) (by kernel_rfl) (by kernel_rfl) (by kernel_rfl) (by kernel_rfl) (fun _ _ _ h => h) (Or.inl ⟨by rfl, ?_⟩) hS0 ?_
    rotate_left
    · intro w' hw'
      try dsimp only at hw'
      go_simp
      try with_reducible rfl
    try simp only [Act.put, List.setIfInBounds_toArray, List.set_cons_zero, List.set_cons_succ]
    refine wpAnyL_take 4 10 (v := ?_) rfl (by kernel_rfl) (by kernel_rfl) (by kernel_rfl) (by kernel_rfl) (by kernel_rfl) (fun _ _ _ h => h) (Or.inl ⟨by rfl, ?_⟩) hS0 ?_
    rotate_left
    · intro w' hw'
      try dsimp only at hw'
      go_simp
      try with_reducible rfl
    try simp only [Act.put, List.setIfInBounds_toArray, List.set_cons_zero, List.set_cons_succ]
    refine wpAnyL_one 2 rfl (by kernel_rfl) (fun K hK => ?_)
    go_simp
    refine (HSh1.out _).mono ?_
    rintro e wz ⟨rfl, rfl⟩
    refine hK.out _ _ (fun _ => hS0) ?_
    clear hK K
    try simp only [Act.put, List.setIfInBounds_toArray, List.set_cons_zero, List.set_cons_succ]
    refine wpAnyL_take 6 10 (v := ?_) rfl (by kernel_rfl) (by kernel_rfl) (by kernel_rfl) (by kernel_rfl) (by kernel_rfl) (fun _ _ _ h => h) (Or.inl ⟨by rfl, ?_⟩) hS0 ?_
    rotate_left
    · intro w' hw'
      try dsimp only at hw'
      go_simp
      try with_reducible rfl
    try simp only [Act.put, List.setIfInBounds_toArray, List.set_cons_zero, List.set_cons_succ]
    refine wpAnyL_one 5 rfl (by kernel_rfl) (fun K hK => ?_)
    go_simp
    refine (HSh2.out _).mono ?_
    rintro e wz ⟨rfl, rfl⟩
    refine hK.out _ _ (fun _ => hS0) ?_
    clear hK K
    try simp only [Act.put, List.setIfInBounds_toArray, List.set_cons_zero, List.set_cons_succ]
    refine wpAnyL_one 7 rfl (by kernel_rfl) (fun K hK => ?_)
    go_simp
    refine hK.out _ _ (fun h => absurd h (by decide)) ?_
    clear hK K
    try simp only [Act.put, List.setIfInBounds_toArray, List.set_cons_zero, List.set_cons_succ]
    refine wpAnyL_free 8 (v := ?_) rfl (by kernel_rfl) (by kernel_rfl) (by kernel_rfl) (by kernel_rfl) (fun _ _ _ h => h) (Or.inl ⟨by rfl, ?_⟩) ?_
    rotate_left
    · intro w' hw'
      go_simp
      try with_reducible rfl
    try simp only [Act.put, List.setIfInBounds_toArray, List.set_cons_zero, List.set_cons_succ]
    refine wpAnyL_one 9 rfl (by kernel_rfl) (fun K hK => ?_)
    go_simp
    refine hK.out _ _ (fun h => absurd h (by decide)) ?_
    clear hK K
    try simp only [Act.put, List.setIfInBounds_toArray, List.set_cons_zero, List.set_cons_succ]
    refine wpAnyL_done (by kernel_rfl) ?_ _
    try simp only [Act.put, List.setIfInBounds_toArray, List.set_cons_zero, List.set_cons_succ]
    have hbw := HB1.out
    go_wp2_with fail
    go_meet
    exact ⟨((Blk.drew K1.out).set 1 (.string (bs s1))).set 2 (.string (bs key1)), (by (repeat' (first | (with_reducible exact Below.refl _ _) | (with_reducible assumption) | (refine below_next ?_ (by with_reducible assumption)) | (with_reducible refine Below.setCell ?_ ?_ _) | (with_reducible refine Below.alloc ?_ ?_ _) | (with_reducible refine Below.drew ?_) | (with_reducible refine below_drewN ?_ _) | omega | (simp; done) | (simp; omega))))⟩
  case rest =>
    obtain ⟨KX, hbX⟩ := hcut
    have x0 := KX.cell 0 rfl
    have x1 := KX.cell 1 rfl
    have x2 := KX.cell 2 rfl
    have x3 := KX.cell 3 rfl
    have x4 := KX.cell 4 rfl
    have x5 := KX.cell 5 rfl
    clear y1 y2 n1 n2 HS K1
    cases hm : mayE (k, s1, key1, vk, n, ln) with
    | true =>
      have hpl := parse_line (k, s1, key1, vk, n, ln) hm h0 h1
      rw [hpl] at HQ
      have hee : errE (k, s1, key1, vk, n, ln) = 0 := by unfold errE; rw [hm]; rfl
      rw [hee] at HP
      generalize lineE (k, s1, key1, vk, n, ln) = tx at *
      unfold evV at HQ
      dsimp only at HQ
      clear hpl hee hm h0 h1
      go_wp2_with fail
      refine (HP.out _ hbX).mono ?_
      rintro e w2 ⟨rfl, hb2⟩
      have hbX2 : Below w.heap.size w w2 := below_next hbX hb2
      go_wp2_with fail
      refine (HQ.out _ hbX2).mono ?_
      rintro e w3 ⟨rfl, hb3⟩
      have hbX3 : Below w.heap.size w w3 := below_next hbX2 hb3
      have K3 := ((KX.later hb2).later hb3)
      have u0 := K3.cell 0 rfl
      have u1 := K3.cell 1 rfl
      have u2 := K3.cell 2 rfl
      have u3 := K3.cell 3 rfl
      have u4 := K3.cell 4 rfl
      have u5 := K3.cell 5 rfl
      have n5 := K3.frozen 5
      have hl3 : w.heap.size < w3.heap.size := K3.lt
      clear x0 x1 x2 x3 x4 x5
      go_upto_region 9 with fail
      generalize hW : World.setCell _ _ _ = W at *
      have hb34 : Below w.heap.size w W := by
        rw [← hW]
        (repeat' (first | (with_reducible exact Below.refl _ _) | (with_reducible assumption) | (refine below_next ?_ (by with_reducible assumption)) | (with_reducible refine Below.setCell ?_ ?_ _) | (with_reducible refine Below.alloc ?_ ?_ _) | (with_reducible refine Below.drew ?_) | (with_reducible refine below_drewN ?_ _) | omega | (simp; done) | (simp; omega)))
      clear hW
      go_wp2_with fail
      refine (HSh3.out _).mono ?_
      rintro e wz ⟨rfl, rfl⟩
      go_wp2_with fail
      refine (HZ.out _ (hb34.alloc hb34.size _)).mono ?_
      rintro e w4 ⟨rfl, hb4⟩
      have hb04 : Below w.heap.size w w4 := below_next (hb34.alloc hb34.size _) hb4
      cases zi with
      | false =>
        go_wp2_with fail
        go_ret
        exact ⟨rfl, hb04.alloc hb04.size _⟩
      | true =>
        obtain ⟨rfl, hzm⟩ := HMz.out rfl
        rw [hzm] at HMay
        go_wp2_with fail
        refine (HMay.out _ (hb04.alloc hb04.size _)).mono ?_
        rintro e w5 ⟨rfl, hb5⟩
        go_wp2_with fail
        go_ret
        exact ⟨rfl, below_next (hb04.alloc hb04.size _) hb5⟩
    | false =>
      have hee : errE (k, s1, key1, vk, n, ln) = 4 := by unfold errE; rw [hm]; rfl
      have hle : lineE (k, s1, key1, vk, n, ln) = [] := by unfold lineE; rw [hm]; rfl
      rw [hle] at HQ HP
      rw [hee] at HP
      rw [parse_nil] at HQ
      unfold evV noEv at HQ
      dsimp only at HQ
      clear hee hle hm h0 h1
      go_wp2_with fail
      refine (HP.out _ hbX).mono ?_
      rintro e w2 ⟨rfl, hb2⟩
      have hbX2 : Below w.heap.size w w2 := below_next hbX hb2
      go_wp2_with fail
      refine (HQ.out _ hbX2).mono ?_
      rintro e w3 ⟨rfl, hb3⟩
      have hbX3 : Below w.heap.size w w3 := below_next hbX2 hb3
      have K3 := ((KX.later hb2).later hb3)
      have u0 := K3.cell 0 rfl
      have u1 := K3.cell 1 rfl
      have u2 := K3.cell 2 rfl
      have u3 := K3.cell 3 rfl
      have u4 := K3.cell 4 rfl
      have u5 := K3.cell 5 rfl
      have n5 := K3.frozen 5
      have hl3 : w.heap.size < w3.heap.size := K3.lt
      clear x0 x1 x2 x3 x4 x5
      go_upto_region 9 with fail
      generalize hW : World.setCell _ _ _ = W at *
      have hb34 : Below w.heap.size w W := by
        rw [← hW]
        (repeat' (first | (with_reducible exact Below.refl _ _) | (with_reducible assumption) | (refine below_next ?_ (by with_reducible assumption)) | (with_reducible refine Below.setCell ?_ ?_ _) | (with_reducible refine Below.alloc ?_ ?_ _) | (with_reducible refine Below.drew ?_) | (with_reducible refine below_drewN ?_ _) | omega | (simp; done) | (simp; omega)))
      clear hW
      go_wp2_with fail
      refine (HSh3.out _).mono ?_
      rintro e wz ⟨rfl, rfl⟩
      go_wp2_with fail
      refine (HZ.out _ (hb34.alloc hb34.size _)).mono ?_
      rintro e w4 ⟨rfl, hb4⟩
      have hb04 : Below w.heap.size w w4 := below_next (hb34.alloc hb34.size _) hb4
      cases zi with
      | false =>
        go_wp2_with fail
        go_ret
        exact ⟨rfl, hb04.alloc hb04.size _⟩
      | true =>
        obtain ⟨rfl, hzm⟩ := HMz.out rfl
        rw [hzm] at HMay
        go_wp2_with fail
        refine (HMay.out _ (hb04.alloc hb04.size _)).mono ?_
        rintro e w5 ⟨rfl, hb5⟩
        go_wp2_with fail
        go_ret
        exact ⟨rfl, below_next (hb04.alloc hb04.size _) hb5⟩
end Go.Proofs.YtphhgdgamnogpaaDoor
