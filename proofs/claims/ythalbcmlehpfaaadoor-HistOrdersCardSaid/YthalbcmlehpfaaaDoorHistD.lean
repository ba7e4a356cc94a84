/-
  The walk of layer 11 (hist), the program: whether each session has a transaction, and each key an operation. No conditions.
-/
import Derived.Test.YthalbcmlehpfaaaDoorHistC
import Derived.Maps.OwnIn
import Derived.Maps.OwnSet
import Derived.Maps.Views
import Derived.RangeFuncBox
import Derived.Maps.AppendAt
import Derived.WalkArith
import Derived.Outline
namespace Go.Proofs.YthalbcmlehpfaaaDoor
open Go.RowKit Go.Shelf Go.Lib

attribute [local go_sem] Oper.semAt_some

/-- The map's keys are these numbers. -/
def KeysAre (D : DataW Unit) (l : List Int) : Prop := Maps.Tidy D ∧ Maps.size D = (unlike l).length ∧ ∀ x : Int, (Lit.int .i64 x).wf = true → Maps.has D (.int .i64 x) = l.contains x
theorem unlike_snoc (l : List Int) (x : Int) : (unlike (l ++ [x])).length = if l.contains x then (unlike l).length else (unlike l).length + 1 := by
  by_cases h : l.contains x = true
  · rw [if_pos h]
    have hx : x ∈ l := by simpa using h
    apply Nat.le_antisymm
    · refine nodup_sub _ _ (unlike_nodup _) fun y hy => ?_
      rw [unlike_mem] at hy ⊢
      rcases List.mem_append.1 hy with h | h
      · exact h
      · obtain rfl : y = x := by simpa using h
        exact hx
    · refine nodup_sub _ _ (unlike_nodup _) fun y hy => ?_
      rw [unlike_mem] at hy ⊢
      exact List.mem_append_left _ hy
  · rw [if_neg h]
    have hx : x ∉ l := by simpa using h
    have hn : (x :: unlike l).Nodup := List.nodup_cons.2 ⟨fun h => hx ((unlike_mem _ _).1 h), unlike_nodup l⟩
    apply Nat.le_antisymm
    · have := nodup_sub _ (x :: unlike l) (unlike_nodup (l ++ [x])) fun y hy => by
        rw [unlike_mem] at hy
        rcases List.mem_append.1 hy with h | h
        · exact List.mem_cons_of_mem _ ((unlike_mem _ _).2 h)
        · obtain rfl : y = x := by simpa using h
          exact List.mem_cons_self ..
      simpa using this
    · have := nodup_sub (x :: unlike l) (unlike (l ++ [x])) hn fun y hy => by
        rw [unlike_mem]
        rcases List.mem_cons.1 hy with h | h
        · subst h; simp
        · exact List.mem_append_left _ ((unlike_mem _ _).1 h)
      simpa using this
theorem keys_nil : KeysAre (.map []) [] := ⟨⟨[], rfl, by simp⟩, rfl, fun _ _ => rfl⟩
theorem keys_put {D : DataW Unit} {l : List Int} (h : KeysAre D l) (x : Int) (hx : (Lit.int .i64 x).wf = true) (d : DataW Unit) : KeysAre (D.put (.int .i64 x) d) (l ++ [x]) := by
  obtain ⟨h1, h2, h3⟩ := h
  have hk : WideAt.IsKeyLit (.int .i64 x) := by trivial
  refine ⟨h1.put hk d, ?_, ?_⟩
  · rw [Maps.size_put h1, h3 x hx, h2, unlike_snoc]
  · intro y hy
    by_cases e : y = x
    · subst e
      rw [Maps.has_put_same h1.isMap hk]
      simp
    · rw [Maps.has_put_other (by intro e2; cases e2; exact e rfl), h3 y hy]
      simp [e]
/-- The first so many transactions' sessions. -/
def sessK (L : List TxnM) (k : Nat) : List Int := (L.take k).map (·.1)
theorem sessK_next (L : List TxnM) (k : Nat) (hk : k < L.length) : sessK L (k + 1) = sessK L k ++ [(L.getD k noTxn).1] := by
  unfold sessK
  rw [List.take_add_one, List.map_append]
  congr 1
  simp [hk]
/-- The items' keys. -/
def keysI (l : List Item) : List Int := l.map (·.2.2.1)
theorem items_ops (L : List TxnM) : (itH L L.length).map (·.2) = L.flatMap (·.2.2) := by
  have h1 : ∀ (i : Nat) (l : List OpM), (itT i l l.length).map (·.2) = l := by
    intro i l
    apply List.ext_getElem
    · simp [itT]
    · intro n h1 h2
      simp [itT, h2]
  have h2 : ∀ n, n ≤ L.length → (itH L n).map (·.2) = (L.take n).flatMap (·.2.2) := by
    intro n
    induction n with
    | zero => intro _; simp [itH]
    | succ n ih =>
      intro hn
      rw [itH_succ, List.map_append, ih (by omega), h1, List.take_add_one, List.flatMap_append]
      congr 1
      simp [show n < L.length by omega]
  have := h2 L.length (Nat.le_refl _)
  rwa [List.take_length] at this
theorem itH_len (L : List TxnM) (hL : ∀ t ∈ L, t.2.2.length ≤ 1000) : ∀ n, n ≤ L.length → (itH L n).length ≤ n * 1000
  | 0, _ => by simp [itH]
  | n + 1, h => by
    have ih := itH_len L hL n (by omega)
    have hm := hL (L.getD n noTxn) (by
      have : L.getD n noTxn = L[n] := by simp [show n < L.length by omega]
      rw [this]
      exact List.getElem_mem (by omega))
    rw [itH_succ, List.length_append]
    have : (itT n (L.getD n noTxn).2.2 (L.getD n noTxn).2.2.length).length = (L.getD n noTxn).2.2.length := by simp [itT]
    omega
theorem zero_i64 (w : World) : (zeroValue 3).run Tryd.prog w = .ok (.int .i64 0) w := by kernel_rfl
theorem three_grown {w w' : World} {B : Nat} {row : Option Nat} {v0 v1 v2 : Value} (h : Three w B v0 v1 v2) (hg : w.grownBy w' row) (hne : some B ≠ row) : Three w' B v0 v1 v2 :=
  ⟨hg.cell h.1 hne, hg.cell h.2.1 hne, hg.cell h.2.2 hne⟩
theorem three_alloc {w : World} {B : Nat} {v0 v1 v2 : Value} (h : Three w B v0 v1 v2) (o : Obj) : Three (w.alloc o) B v0 v1 v2 := three_grown h (World.grownBy_alloc w o none) (by simp)

set_option maxRecDepth 100000 in
set_option maxHeartbeats 4000000 in
theorem used_in (F : Fence) (n : Nat) (hF : F.fn 50) (hF2 : F.fn 43) (hF3 : F.fn 67) (hro : F.round = none) (hn : 3 ≤ n) (v0 v1 v2 : Value) (h : HistM) (w : World) (h0 : Texts w v0 h.1) (h1 : Texts w v1 h.2.1) (h2 : TxnsS w v2 h.2.2) (hm : Modst h)
    (hs : ∀ t ∈ h.2.2, 0 ≤ t.1 ∧ t.1 < h.1.length) (hk : ∀ o ∈ allOps h, 0 ≤ o.2.1 ∧ o.2.1 < h.2.1.length) :
    CallsIn F n Tryd.prog 50 #[.agg #[v0, v1, v2]] w fun e w' => e = .returned (.bool (usedH h)) ∧ Below w.heap.size w w' := by
  have h1n : 1 ≤ n := by omega
  obtain ⟨m1, m2, m3, -, -, m4⟩ := hm
  have T0 := Lib.hid h0
  have T1 := Lib.hid h1
  have T2 := Lib.hid h2
  obtain ⟨p2, c2, rfl, hp⟩ := h2
  obtain ⟨p0, c0, rfl, -⟩ := h0
  obtain ⟨p1, c1, rfl, -⟩ := h1
  have HX := Lib.hid hp
  have HM4 := Lib.hid m4
  have HS := Lib.hid hs
  have HK := Lib.hid hk
  clear hp m4 hs hk
  have hmm := @run_makeMap Tryd.prog
  have hm1 := World.ownsMap_made (w.alloc (.cells #[.slice p0 h.1.length c0, .slice p1 h.2.1.length c1, .slice p2 h.2.2.length c2] 25)) Tryd.prog 3 (plainElem (H := Unit) Tryd.prog 3)
  have hm2 := World.ownsMap_made ((w.alloc (.cells #[.slice p0 h.1.length c0, .slice p1 h.2.1.length c1, .slice p2 h.2.2.length c2] 25)).alloc (.map #[] 0)) Tryd.prog 3 (plainElem (H := Unit) Tryd.prog 3)
  refine callsIn_of_wp_marks Tryd.func50 rfl hF ?_ hro
  simp only [Tryd.ntmps50, List.size_toArray, List.length_cons, List.length_nil, Nat.reduceAdd, Nat.reduceSub, Array.replicate_succ, Array.replicate_zero, List.push_toArray, List.append_toArray, List.nil_append, List.cons_append]
  gi_wp2
  have t0 := three_alloc (three_alloc (three_alloc (three_new w (.slice p0 h.1.length c0) (.slice p1 h.2.1.length c1) (.slice p2 h.2.2.length c2) 25) (.map #[] 0)) (.map #[] 0)) (.cells #[.map (some (w.heap.size + 1 + 1))] 84)
  have b0 := Boxed.new (((w.alloc (.cells #[.slice p0 h.1.length c0, .slice p1 h.2.1.length c1, .slice p2 h.2.2.length c2] 25)).alloc (.map #[] 0)).alloc (.map #[] 0)) 84 (.map (some (w.heap.size + 1 + 1)))
  have hB0 : Below w.heap.size w ((((w.alloc (.cells #[.slice p0 h.1.length c0, .slice p1 h.2.1.length c1, .slice p2 h.2.2.length c2] 25)).alloc (.map #[] 0)).alloc (.map #[] 0)).alloc (.cells #[.map (some (w.heap.size + 1 + 1))] 84)) :=
    ((((Below.refl _ w).alloc (Nat.le_refl _) _).alloc (by simp) _).alloc (by simp; omega) _).alloc (by simp; omega) _
  simp only [World.size_alloc] at hm1 hm2 b0
  replace hm1 := (hm1.alloc (.map #[] 0)).alloc (.cells #[.map (some (w.heap.size + 1 + 1))] 84)
  replace hm2 := hm2.alloc (.cells #[.map (some (w.heap.size + 1 + 1))] 84)
  obtain ⟨W0, hW0⟩ : ∃ W0, (((w.alloc (.cells #[.slice p0 h.1.length c0, .slice p1 h.2.1.length c1, .slice p2 h.2.2.length c2] 25)).alloc (.map #[] 0)).alloc (.map #[] 0)).alloc (.cells #[.map (some (w.heap.size + 1 + 1))] 84) = W0 := ⟨_, rfl⟩
  rw [hW0] at t0 b0 hB0 hm1 hm2 ⊢
  clear hW0 hmm
  gi_loopw [14] (fun i wr => ∃ (k : Nat) (D : DataW Unit), k ≤ h.2.2.length ∧ i = .int .i64 k ∧ wr.ownsMap Tryd.prog 3 (plainElem (H := Unit) Tryd.prog 3) (w.heap.size + 1) k D ∧ KeysAre D (sessK h.2.2 k) ∧
      wr.ownsMap Tryd.prog 3 (plainElem (H := Unit) Tryd.prog 3) (w.heap.size + 1 + 1) 0 (.map []) ∧ Boxed wr (w.heap.size + 1 + 1 + 1) 84 (.map (some (w.heap.size + 1 + 1))) ∧ Three wr w.heap.size (.slice p0 h.1.length c0) (.slice p1 h.2.1.length c1) (.slice p2 h.2.2.length c2) ∧ Below w.heap.size w wr)
    (fun i _ => h.2.2.length - (intOf i).toNat)
  case atStart => exact ⟨0, _, Nat.zero_le _, rfl, hm1, keys_nil, hm2, b0, t0, hB0⟩
  case round =>
    obtain ⟨k, D, hk, rfl, o1, k1, o2, bx, th, hbw⟩ := hrel
    by_cases hlt : k < h.2.2.length
    · obtain ⟨g, sv, rfl, a1, a2, a3, ⟨p3, c3, rfl, -⟩⟩ := HX.out k hlt
      have a1' := cell_later hbw a1
      have a2' := cell_later hbw a2
      have a3' := cell_later hbw a3
      have hrange := HS.out (h.2.2.getD k noTxn) (by
        have : h.2.2.getD k noTxn = h.2.2[k] := by simp [hlt]
        rw [this]
        exact List.getElem_mem hlt)
      have HN := Lib.hid (sessK_next h.2.2 k hlt)
      obtain ⟨t, ht⟩ : ∃ t, h.2.2.getD k noTxn = t := ⟨_, rfl⟩
      rw [ht] at a1' a2' a3' hrange HN
      obtain ⟨ts, tf, tl⟩ := t
      simp only at a1' a2' a3' hrange HN
      have hwf : (Lit.int .i64 ts).wf = true := WalkArith.wf_i64 (by omega)
      have hkey := Maps.keyOf_int_mk Tryd.underlying3 hwf
      have HK1 := Lib.hid (fun d => keys_put k1 ts hwf d)
      clear a1 a2 a3 ht k1
      have o1' := o1.alloc (.cells #[.int .i64 ts, .int .i64 tf, .slice p3 tl.length c3] 56)
      gi_wp2_with (first
        | (gi_at_lookup; refine wpListIn_lookup_own_int _ rfl _ _ 84 rfl 3 3 .i64 (Maps.int_keyed Tryd.underlying3) Tryd.underlying84 Tryd.underlying3 (zero_i64 _) (w.heap.size + 1) k _ rfl o1' _ _ rfl hkey ?_; intro c hat hwc)
        | (gi_at_mapUpdate; refine wpListIn_mapUpdate_own _ rfl _ _ _ 84 rfl 3 3 (Maps.int_keyed Tryd.underlying3) Tryd.underlying84 _ (w.heap.size + 1) k _ rfl o1' (by unfold maxLen; omega) _ _ _ rfl rfl hkey _ [] (plainElem_int Tryd.underlying3 (wrap64_wf _)) ?_; intro w1 hown1 hgrow1))
      go_roundw
      case rel =>
        have g2 : ∀ {b : Nat}, b ≠ w.heap.size + 1 → some b ≠ some (w.heap.size + 1) := fun h e => h (Option.some.inj e)
        exact ⟨k + 1, _, by omega, by go_num, hown1, by rw [HN.out]; exact HK1.out _, (o2.alloc _).kept hgrow1 (g2 (by omega)), (bx.alloc _).kept hgrow1 (g2 (by omega)), three_grown (three_alloc th _) hgrow1 (g2 (by omega)),
          (hbw.alloc hbw.size _).grown hgrow1 (by have := hbw.size; simp; omega) (fun j e => by cases e; omega)⟩
      case measure => simp [intOf]; omega
    · have hke : k = h.2.2.length := by omega
      have e1 : sessK h.2.2 k = h.2.2.map (·.1) := by rw [hke, sessK, List.take_length]
      rw [e1] at k1
      have HK1 := Lib.hid k1
      obtain ⟨th0, th1, th2⟩ := id th
      clear e1 k1
      gi_wp2_with (gi_at_call 43; refine (ops_in F (n - 1) hF2 hro _ _ _ _).mono ?_; rintro e w' ⟨rfl, rfl⟩)
      have hp : ∀ x ∈ itH h.2.2 h.2.2.length, (Lit.int .i64 x.2.2.1).wf = true := fun x hx => by
        have h5 : x.2 ∈ allOps h := by
          show x.2 ∈ h.2.2.flatMap (·.2.2)
          rw [← items_ops]
          exact List.mem_map_of_mem hx
        have := HK.out _ h5
        exact WalkArith.wf_i64 (by omega)
      have t1 := three_new wr (.slice p0 h.1.length c0) (.slice p1 h.2.1.length c1) (.slice p2 h.2.2.length c2) 25
      have o1' := o1.alloc (.cells #[.slice p0 h.1.length c0, .slice p1 h.2.1.length c1, .slice p2 h.2.2.length c2] 25)
      have o2' := o2.alloc (.cells #[.slice p0 h.1.length c0, .slice p1 h.2.1.length c1, .slice p2 h.2.2.length c2] 25)
      have bx' := bx.alloc (.cells #[.slice p0 h.1.length c0, .slice p1 h.2.1.length c1, .slice p2 h.2.2.length c2] 25)
      have th' := three_alloc th (.cells #[.slice p0 h.1.length c0, .slice p1 h.2.1.length c1, .slice p2 h.2.2.length c2] 25)
      have hb' := hbw.alloc hbw.size (.cells #[.slice p0 h.1.length c0, .slice p1 h.2.1.length c1, .slice p2 h.2.2.length c2] 25)
      have hsz : w.heap.size + 1 + 1 + 1 < wr.heap.size := bx.lt
      have hsz1 : (wr.alloc (.cells #[.slice p0 h.1.length c0, .slice p1 h.2.1.length c1, .slice p2 h.2.2.length c2] 25)).heap.size = wr.heap.size + 1 := by simp
      obtain ⟨W1, hW1⟩ : ∃ W1, wr.alloc (.cells #[.slice p0 h.1.length c0, .slice p1 h.2.1.length c1, .slice p2 h.2.2.length c2] 25) = W1 := ⟨_, rfl⟩
      rw [hW1] at t1 o1' o2' bx' th' hb' hsz1 ⊢
      clear hW1 o1 o2 bx th th0 th1 th2 hm1 hm2 b0 t0 hB0
      refine wpIn_rangeFunc_ownH hro h1n (gf := 67) (lb := #[.pointer (some ⟨wr.heap.size, 0, none⟩)]) rfl hF3 (enters_of Tryd.func67 (by kernel_rfl) rfl)
        (ops_stops (fun x => (Lit.int .i64 x.2.2.1).wf = true) F (n - 1) hF3 hro (by omega) wr.heap.size w _ _ _ h.2.2 m3 T2.out HM4.out hp W1 hb' t1) belowK_t (belowK_b (by omega)) (Below.refl _ _) (fun _ => rfl)
        (fun pre W => ((∃ D2 : DataW Unit, W.ownsMap Tryd.prog 3 (plainElem (H := Unit) Tryd.prog 3) (w.heap.size + 1 + 1) pre.length D2 ∧ KeysAre D2 (pre.map fun x => x.1.2.2.1)) ∧ W.ownsMap Tryd.prog 3 (plainElem (H := Unit) Tryd.prog 3) (w.heap.size + 1) k D ∧
          Boxed W (w.heap.size + 1 + 1 + 1) 84 (.map (some (w.heap.size + 1 + 1))) ∧ Three W w.heap.size (.slice p0 h.1.length c0) (.slice p1 h.2.1.length c1) (.slice p2 h.2.2.length c2)) ∧ Below w.heap.size w W)
        (fun _ _ _ => False)
        (OwnFrom.and (fun s A B row hs hg hr => by
            obtain ⟨⟨D2, q1, q2⟩, q3, q4, q5⟩ := hs
            have hne : ∀ b, b < W1.heap.size → some b ≠ row := fun b hb e => by have := (hr b e.symm).1; omega
            exact ⟨⟨D2, q1.kept hg (hne _ (by omega)), q2⟩, q3.kept hg (hne _ (by omega)), q4.kept hg (hne _ (by omega)), three_grown q5 hg (hne _ (by omega))⟩) (ownFrom_below (Nat.le_refl _) (by omega)))
        (fun _ _ _ _ _ hs _ _ => hs)
        ⟨⟨⟨_, o2', keys_nil⟩, o1', bx', th'⟩, hb'⟩
        (fun x a' W => ∃ Bx, w.heap.size + 1 + 1 + 1 < Bx ∧ W.heap[Bx]? = some (.cells #[.bool x.1.2.1, .int .i64 x.1.2.2.1, .int .i64 x.1.2.2.2.1, .int .i64 x.1.2.2.2.2] 62 (0, 0)) ∧ a' = { tmps := #[.agg #[.slice p0 h.1.length c0, .slice p1 h.2.1.length c1, .slice p2 h.2.2.length c2], .pointer (some ⟨w.heap.size, 0, none⟩), .bool false, .map (some (w.heap.size + 1)), .pointer (some ⟨w.heap.size + 1 + 1 + 1, 0, none⟩), undef, u6, undef, .pointer (some ⟨Bx, 0, none⟩), .map (some (w.heap.size + 1)), .map (some (w.heap.size + 1 + 1)), .pointer (some ⟨w.heap.size, 2, none⟩), .slice p2 h.2.2.length c2, .int .i64 (h.2.2.length : Nat), .int .i64 (h.2.2.length : Nat), .bool false, u16, u17, u18, u19, u20, u21, u22, u23, .agg #[.slice p0 h.1.length c0, .slice p1 h.2.1.length c1, .slice p2 h.2.2.length c2], .func (.func 67) #[] #[.pointer (some ⟨wr.heap.size, 0, none⟩)], .agg #[.int .i64 (x.1.1.1 : Nat), .int .i64 (x.1.1.2 : Nat)], .agg #[.bool x.1.2.1, .int .i64 x.1.2.2.1, .int .i64 x.1.2.2.2.1, .int .i64 x.1.2.2.2.2], undef, undef, undef, undef, undef, undef, undef, undef, undef, undef, undef, undef, undef, undef, undef, undef, undef, undef, undef], defers := [] })
        (fun x a' _ X Y row hs hg hr => by
          obtain ⟨Bx, r1, r2, r3⟩ := hs
          exact ⟨Bx, r1, (hg.block Bx (Array.getElem?_eq_some_iff.1 r2).1 (fun e => by obtain ⟨-, o, ho, hc⟩ := hr Bx e.symm; rw [r2] at ho; cases ho; cases hc)).trans r2, r3⟩)
        ?assign ?body ?done ?stop
      case assign =>
        rintro l pre x W K ⟨⟨⟨D2, q1, q2⟩, q3, q4, q5⟩, hB⟩ hK
        simp only [encI]
        gi_wp2
        exact hK _ _ ((KeepsOthers.alloc _ _).from _) ((Below.refl _ W).alloc hB.size _) ⟨⟨⟨D2, q1.alloc _, q2⟩, q3.alloc _, q4.alloc _, three_alloc q5 _⟩, hB.alloc hB.size _⟩ ⟨W.heap.size, q4.lt, heap_alloc_new W _, rfl⟩
      case body =>
        rintro l pre x a' W hl - ⟨⟨⟨D2, q1, q2⟩, q3, q4, q5⟩, hB⟩ ⟨Bx, hBx, bX, rfl⟩ hlt2
        have cB := q4.cell
        have cX : W.cell? ⟨Bx, 1, none⟩ = some (.int .i64 x.1.2.2.1) := by rw [cell_of_row W Bx 1 _ _ (0, 0) bX]; rfl
        have hkey := Maps.keyOf_int_mk Tryd.underlying3 x.2
        have hN := itH_len h.2.2 HM4.out h.2.2.length (Nat.le_refl _)
        have hK2 := Lib.hid (fun d => keys_put q2 _ x.2 d)
        clear q2
        gi_wp2_with (first
          | (gi_at_lookup; refine wpListIn_lookup_own_int _ rfl _ _ 84 rfl 3 3 .i64 (Maps.int_keyed Tryd.underlying3) Tryd.underlying84 Tryd.underlying3 (zero_i64 _) (w.heap.size + 1 + 1) pre.length _ rfl q1 _ _ rfl hkey ?_; intro c hat hwc)
          | (gi_at_mapUpdate; refine wpListIn_mapUpdate_own _ rfl _ _ _ 84 rfl 3 3 (Maps.int_keyed Tryd.underlying3) Tryd.underlying84 _ (w.heap.size + 1 + 1) pre.length _ rfl q1 (by unfold maxLen; omega) _ _ _ rfl rfl hkey _ [] (plainElem_int Tryd.underlying3 (wrap64_wf _)) ?_; intro w1 hown1 hgrow1))
        have g2 : ∀ {b : Nat}, b ≠ w.heap.size + 1 + 1 → some b ≠ some (w.heap.size + 1 + 1) := fun h e => h (Option.some.inj e)
        have hgb : ∀ {A : World}, Below w.heap.size A W → Below w.heap.size A w1 := fun hA => hA.grown hgrow1 hB.size (fun j e => by cases e; omega)
        exact ⟨KeepsFrom.of_grownBy hgrow1 (fun j e => by cases e; omega), hgb (Below.refl _ _), ⟨⟨_, by rw [List.length_append]; exact hown1, by rw [List.map_append]; exact hK2.out _⟩, q3.kept hgrow1 (g2 (by omega)), q4.kept hgrow1 (g2 (by omega)), three_grown q5 hgrow1 (g2 (by omega))⟩, hgb hB⟩
      case done =>
        rintro Dd xs W hD hS ⟨⟨⟨D2, q1, q2⟩, q3, q4, q5⟩, hB⟩ hd
        have l1 := q3.len Tryd.underlying84 3
        have l2 := q1.len Tryd.underlying84 3
        have e1 : Maps.size D = (unlike (h.2.2.map (·.1))).length := HK1.out.2.1
        have e2 : Maps.size D2 = (unlike ((allOps h).map (·.2.1))).length := by
          rw [q2.2.1]
          congr 2
          have h5 := congrArg (List.map (fun x : Item => x.2.2.1)) hS
          rw [List.map_map] at h5
          rw [show allOps h = h.2.2.flatMap (·.2.2) from rfl, ← items_ops, List.map_map]
          exact h5
        have u1 := unlike_all h.1.length (h.2.2.map (·.1)) (fun x hx => by
          obtain ⟨t, ht, rfl⟩ := List.mem_map.1 hx
          exact HS.out t ht)
        have u2 := unlike_all h.2.1.length ((allOps h).map (·.2.1)) (fun x hx => by
          obtain ⟨o, ho, rfl⟩ := List.mem_map.1 hx
          exact HK.out o ho)
        rw [← e1] at u1
        rw [← e2] at u2
        obtain ⟨N1, hN1⟩ : ∃ N1, Maps.size D = N1 := ⟨_, rfl⟩
        obtain ⟨N2, hN2⟩ : ∃ N2, Maps.size D2 = N2 := ⟨_, rfl⟩
        rw [hN1] at l1 u1
        rw [hN2] at l2 u2
        have hfin : usedH h = (decide (N1 = h.1.length) && decide (N2 = h.2.1.length)) := by rw [u1, u2]; rfl
        have HU := Lib.hid hfin
        have HD := Lib.hid hd
        have HDB : RowKit.Hid (Below w.heap.size w (W.putObj Dd (.deferred none))) := Lib.hid (hB.trans (belowK_b (w := W1) (by omega) W Dd _ _ hD hd rfl rfl))
        obtain ⟨q50, q51, q52⟩ := q5
        have cB := q4.cell
        clear e1 e2 u1 u2 hN1 hN2 hfin hd hS q1 q2 q3 q4 hB
        by_cases g1 : N1 = h.1.length
        · have f1 : ((N1 : Int) == (h.1.length : Int)) = true := by rw [g1]; exact beq_self_eq_true _
          have t1' : decide (N1 = h.1.length) = true := by simpa using g1
          rw [t1', Bool.true_and] at HU
          clear g1 t1'
          by_cases g2 : N2 = h.2.1.length
          · have f2 : ((N2 : Int) == (h.2.1.length : Int)) = true := by rw [g2]; exact beq_self_eq_true _
            have t2' : decide (N2 = h.2.1.length) = true := by simpa using g2
            rw [t2'] at HU
            clear g2 t2'
            gi_wp2
            refine ⟨by simp, .inl ⟨_, _, rfl, run_takeDeferred HD.out, ?_⟩⟩
            exact ⟨_, results_tmp rfl _ _ _, by rw [HU.out]; rfl, HDB.out⟩
          · have f2 : ((N2 : Int) == (h.2.1.length : Int)) = false := by rw [beq_eq_false_iff_ne]; omega
            have t2' : decide (N2 = h.2.1.length) = false := by simpa using g2
            rw [t2'] at HU
            clear g2 t2'
            gi_wp2
            refine ⟨by simp, .inl ⟨_, _, rfl, run_takeDeferred HD.out, ?_⟩⟩
            exact ⟨_, results_tmp rfl _ _ _, by rw [HU.out]; rfl, HDB.out⟩
        · have f1 : ((N1 : Int) == (h.1.length : Int)) = false := by rw [beq_eq_false_iff_ne]; omega
          have t1' : decide (N1 = h.1.length) = false := by simpa using g1
          rw [t1', Bool.false_and] at HU
          clear g1 t1'
          gi_wp2
          refine ⟨by simp, .inl ⟨_, _, rfl, run_takeDeferred HD.out, ?_⟩⟩
          exact ⟨_, results_tmp rfl _ _ _, by rw [HU.out]; rfl, HDB.out⟩
      case stop =>
        rintro D' c pre W _ _ h' _
        exact h'.elim
end Go.Proofs.YthalbcmlehpfaaaDoor
