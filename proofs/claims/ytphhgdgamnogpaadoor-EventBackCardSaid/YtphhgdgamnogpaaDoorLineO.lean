/-
  The walks of layer 1 (line): a text's lines, in the program and in its reference. No conditions but that internal/bytealg.MaxLen holds a number.
-/
import Derived.Test.YtphhgdgamnogpaaDoorLineW
import Derived.Test.YtphhgdgamnogpaaDoorTexts
namespace Go.Proofs.YtphhgdgamnogpaaDoor
open Go.RowKit Go.Lib

/-- internal/bytealg.MaxLen holds a number. -/
def HasMax (w : World) : Prop := ∃ m, w.cell? ⟨Tryd.laysSplit_ren.g 1, 0, none⟩ = some (.int .i64 m)
theorem HasMax.below {w w' : World} (h : HasMax w) (hb : Below w.heap.size w w') : HasMax w' := by
  obtain ⟨m, hm⟩ := h
  exact ⟨m, cell_later hb hm⟩
theorem HasMax.shaped {w : World} (h : w.ShapedOpen Tryd.prog) : HasMax w := Tryd.laysSplit.s1_3 w h

theorem trimsuffix_any (l p : List UInt8) (hs : l.length ≤ 9223372036854775807) (w : World) :
    Calls Tryd.prog 94 #[.string (bs l), .string (bs p)] w fun e w' => e = .returned (.string (bs (trimSuffix l p))) ∧ w = w' := by
  have h := Any.strings_TrimSuffix Tryd.laysTrimSuffix (bs l) (bs p) w (by rw [bs_size]; exact hs)
  have e : ∀ l, (bs l).data.toList = l := fun l => by simp [bs]
  rw [e, e] at h
  exact h.mono fun _ _ ⟨a, b⟩ => ⟨a, b.symm⟩
theorem split_any (s : List UInt8) (hs : s.length ≤ 1000000) (w : World) (hm : HasMax w) :
    Calls Tryd.prog 93 #[.string (bs s), .string (bs [10])] w fun e w' => e = .returned (.slice (some ⟨w.heap.size, 0, none⟩) (partAux [] s).length (partAux [] s).length) ∧ HasTexts w' (some ⟨w.heap.size, 0, none⟩) (partAux [] s) ∧ Below w.heap.size w w' := by
  obtain ⟨m, hm⟩ := hm
  have h := Any.strings_Split { Tryd.laysSplit with } Tryd.laysSplit.i9 (bs s) (bs [10]) m w (by rw [bs_size]; omega) hm (by rw [bs_size]; exact Nat.le_refl _)
  have e : ∀ l, (bs l).data.toList = l := fun l => by simp [bs]
  have hd := splitB_data (bs [10]) 0 (countB (bs s) (bs [10])) (bs s)
  rw [e, e] at hd
  have hc : countB (bs s) (bs [10]) = count s [10] := by unfold countB; rw [e, e]
  rw [hc, split_eq] at hd
  rw [hc] at h
  obtain ⟨L, hL⟩ : ∃ L, splitB (bs [10]) 0 (count s [10]) (bs s) = L := ⟨_, rfl⟩
  have hlen := splitB_all (bs [10]) (by rw [bs_size]; exact Nat.le_refl _) 0 _ (bs s) hc
  rw [hL] at hd h hlen
  have hl : (partAux [] s).length = count s [10] + 1 := by rw [← hd, List.length_map, hlen]
  rw [hl]
  refine h.mono fun e' w' ⟨h1, h2⟩ => ⟨h1, ?_, ?_⟩
  · intro j hj
    refine ⟨_, rfl, ?_⟩
    rw [h2, cell_of_row _ _ j _ _ (0, 0) (heap_alloc_new w _)]
    rw [← hd] at hj ⊢
    rw [List.length_map] at hj
    simp [hj, ← bs_data]
  · rw [h2]
    exact (Below.refl _ _).alloc (Nat.le_refl _) _
theorem runesN_snd (l : List UInt8) : (runesN l).2 = validD l := by
  unfold runesN
  split <;> simp [*]
theorem drop_at (L : List (List UInt8)) (k : Nat) (h : k < L.length) : L.drop k = L.getD k [] :: L.drop (k + 1) := by
  rw [List.drop_eq_getElem_cons h]
  simp [h]
theorem part_len : ∀ (t cur : List UInt8), (partAux cur t).length ≤ t.length + 1
  | [], cur => by simp [partAux]
  | b :: t, cur => by
    unfold partAux
    split
    · have := part_len t []
      simp only [List.length_cons]; omega
    · have := part_len t (cur ++ [b])
      simp only [List.length_cons]; omega
theorem part_mem : ∀ (t cur : List UInt8), ∀ x ∈ partAux cur t, x.length ≤ cur.length + t.length
  | [], cur => by simp [partAux]
  | b :: t, cur => by
    unfold partAux
    split
    · intro x hx
      rcases List.mem_cons.1 hx with rfl | hx
      · simp
      · have := part_mem t [] x hx
        simp only [List.length_cons, List.length_nil] at this ⊢
        omega
    · intro x hx
      have := part_mem t _ x hx
      simp only [List.length_append, List.length_cons, List.length_nil] at this ⊢
      omega

set_option maxRecDepth 100000 in
set_option maxHeartbeats 1000000 in
theorem lof_any (l : List UInt8) (hs : l.length ≤ 1000000) (w : World) (hm : HasMax w) :
    Calls Tryd.prog 51 #[.string (bs l)] w fun e w' => ∃ v, e = .returned (.tuple #[v, .int .i64 ((ofL l).2.1 : Nat), .int .i64 ((ofL l).2.2 : Nat)]) ∧ Texts w' v (ofL l).1 ∧ Below w.heap.size w w' := by
  by_cases hlong : 65536 < l.length
  · have e : ofL l = ([], 0, 6) := if_pos hlong
    rw [e]
    clear e
    go_enter Tryd.func51, Tryd.ntmps51
    go_wp2_with fail
    go_ret3
    exact ⟨_, rfl, texts_none _, Below.refl _ _⟩
  · by_cases hnil : l = []
    · subst hnil
      have e : ofL [] = ([], 0, 0) := rfl
      rw [e]
      clear e hlong
      go_enter Tryd.func51, Tryd.ntmps51
      go_wp2_with fail
      go_ret3
      exact ⟨_, rfl, texts_none _, Below.refl _ _⟩
    · have e0 : (l == []) = false := beq_eq_false_iff_ne.2 hnil
      have hll := split_lines l hnil
      have hle := trimSuffix_le l [10]
      have HT := Lib.hid (trimsuffix_any l [10] (by omega))
      have HS := Lib.hid (split_any (trimSuffix l [10]) (by omega))
      have hmem := part_mem (trimSuffix l [10]) []
      have hcnt := part_len (trimSuffix l [10]) []
      rw [hll] at HS hmem hcnt
      obtain ⟨M, hM⟩ : ∃ M, linesL l = M := ⟨_, rfl⟩
      have e : ofL l = resGo (linesL l) 0 (linesL l) := if_neg hlong
      rw [e]
      rw [hM] at HS hmem hcnt ⊢
      obtain ⟨R, hR⟩ : ∃ R, resGo M 0 M = R := ⟨_, rfl⟩
      rw [hR]
      have HR := Lib.hid hR
      have HE := Lib.hid (fun x hx => Nat.le_trans (hmem x hx) (show ([] : List UInt8).length + (trimSuffix l [10]).length ≤ 1000000 by simp only [List.length_nil]; omega))
      generalize trimSuffix l [10] = t at *
      have HM := Lib.hid hm
      have hM2 : M.length ≤ 1000001 := by omega
      clear hR hll e hM hmem hcnt hle hm hnil
      go_enter Tryd.func51, Tryd.ntmps51
      go_wp2_with fail
      refine (HT.out _).mono ?_
      rintro e w' ⟨rfl, rfl⟩
      go_wp2_with fail
      refine (HS.out _ HM.out).mono ?_
      rintro e w1 ⟨rfl, ht, hb1⟩
      have HX := Lib.hid ht
      clear ht
      go_wp2_with fail
      go_loopw [20] (fun i wr => ∃ k : Nat, k ≤ M.length ∧ i = .int .i64 k ∧ Below w1.heap.size w1 wr ∧ resGo M k (M.drop k) = R) (fun i _ => M.length - (RowKit.intOf i).toNat)
      case atStart => exact ⟨0, Nat.zero_le _, rfl, Below.refl _ _, HR.out⟩
      case round =>
        obtain ⟨k, hk, rfl, hbr, hr⟩ := hrel
        by_cases hlt : k < M.length
        · obtain ⟨g, hg, hc⟩ := HX.out k hlt
          obtain rfl : w.heap.size = g := by simpa using hg
          have hc' := cell_later hbr hc
          rw [drop_at M k hlt] at hr
          simp only [resGo] at hr
          have hx := HE.out (M.getD k []) (by
            have : M.getD k [] = M[k] := by simp [hlt]
            rw [this]
            exact List.getElem_mem hlt)
          obtain ⟨x, hx'⟩ : ∃ x, M.getD k [] = x := ⟨_, rfl⟩
          rw [hx'] at hr hc' hx
          have HC := Lib.hid (lrunes_any x hx)
          have hv := runesN_snd x
          generalize runesN x = N at *
          obtain ⟨N1, N2⟩ := N
          simp only at HC hv
          subst hv
          clear hc hg hx' hx
          by_cases hval : validD x = true
          · rw [if_pos hval] at hr
            rw [hval] at HC
            have H2 := Lib.hid hr
            clear hr hval
            go_wp2_with fail
            refine (HC.out _).mono ?_
            rintro e w2 ⟨rfl, hb2⟩
            go_wp2_with fail
            go_roundw
            case rel => exact ⟨k + 1, by omega, by go_num, below_next hbr hb2, H2.out⟩
            case measure => simp [RowKit.intOf]; omega
          · rw [if_neg hval] at hr
            have hval' : validD x = false := by simpa using hval
            rw [hval'] at HC
            have H2 := Lib.hid hr
            clear hr hval hval'
            go_wp2_with fail
            refine (HC.out _).mono ?_
            rintro e w2 ⟨rfl, hb2⟩
            go_wp2_with fail
            go_ret3
            rw [← H2.out]
            exact ⟨_, rfl, texts_none _, below_next hb1 (below_next hbr hb2)⟩
        · have ek : k = M.length := by omega
          subst ek
          rw [List.drop_eq_nil_of_le (Nat.le_refl _)] at hr
          have H2 := Lib.hid hr
          clear hr
          go_wp2_with fail
          go_ret3
          rw [← H2.out]
          exact ⟨_, rfl, ⟨_, _, rfl, HX.out.below hbr⟩, below_next hb1 hbr⟩

/-! ### the reference -/
/-- The line that is being read. -/
def curL (l : List UInt8) (f i : Nat) : List UInt8 := (l.drop f).take (i - f)
def refAt (l : List UInt8) (done : List (List UInt8)) (f i : Nat) : List (List UInt8) × Nat × Nat := if i ≤ l.length then refGo done (curL l f i) (l.drop i) else (done, 0, 0)
theorem curL_nil (l : List UInt8) (i : Nat) : curL l i i = [] := by simp [curL]
theorem curL_ne (l : List UInt8) (f i : Nat) (h : f < i) (hi : i ≤ l.length) : curL l f i ≠ [] := fun e => by
  have := congrArg List.length e
  unfold curL at this
  rw [List.length_take, List.length_drop, List.length_nil] at this
  omega
theorem curL_len (l : List UInt8) (f i : Nat) : (curL l f i).length ≤ l.length := by
  unfold curL
  rw [List.length_take, List.length_drop]
  omega
theorem curL_snoc (l : List UInt8) (f i : Nat) (h : f ≤ i) (hi : i < l.length) : curL l f (i + 1) = curL l f i ++ [l[i]] := by
  unfold curL
  rw [show i + 1 - f = (i - f) + 1 by omega, List.take_add_one, List.getElem?_drop, show f + (i - f) = i by omega]
  simp [hi]
theorem refAt_start (l : List UInt8) : refAt l [] 0 0 = resGo (linesL l) 0 (linesL l) := by
  unfold refAt
  rw [if_pos (Nat.zero_le _), curL_nil, List.drop_zero, ref_of]
theorem refAt_go (l : List UInt8) (done : List (List UInt8)) (f i : Nat) (h : f ≤ i) (hi : i < l.length) (hb : l[i] ≠ 10) : refAt l done f i = refAt l done f (i + 1) := by
  unfold refAt
  rw [if_pos (by omega), if_pos (by omega), curL_snoc l f i h hi, List.drop_eq_getElem_cons hi]
  simp only [refGo, if_neg hb]
theorem refAt_feed (l : List UInt8) (done : List (List UInt8)) (f i : Nat) (hi : i < l.length) (hb : l[i] = 10) :
    refAt l done f i = if validD (curL l f i) then refAt l (done ++ [curL l f i]) (i + 1) (i + 1) else ([], done.length + 1, 5) := by
  unfold refAt
  rw [if_pos (by omega), if_pos (show i + 1 ≤ l.length by omega), curL_nil, List.drop_eq_getElem_cons hi]
  simp only [refGo, if_pos hb]
theorem refAt_bare (l : List UInt8) (done : List (List UInt8)) (i : Nat) (hi : i = l.length) : refAt l done i i = refAt l done i (i + 1) := by
  unfold refAt
  rw [if_pos (by omega), if_neg (by omega), curL_nil, List.drop_eq_nil_of_le (by omega)]
  simp only [refGo, if_pos]
theorem refAt_last (l : List UInt8) (done : List (List UInt8)) (f i : Nat) (h : f < i) (hi : i = l.length) :
    refAt l done f i = if validD (curL l f i) then refAt l (done ++ [curL l f i]) (i + 1) (i + 1) else ([], done.length + 1, 5) := by
  unfold refAt
  rw [if_pos (by omega), if_neg (show ¬ i + 1 ≤ l.length by omega), List.drop_eq_nil_of_le (by omega)]
  simp only [refGo, if_neg (curL_ne l f i h (by omega))]
theorem refAt_end (l : List UInt8) (done : List (List UInt8)) (f i : Nat) (hi : l.length < i) : refAt l done f i = (done, 0, 0) := if_neg (by omega)

set_option maxRecDepth 100000 in
set_option maxHeartbeats 2000000 in
theorem rof_any (l : List UInt8) (hs : l.length ≤ 1000000) (w : World) :
    Calls Tryd.prog 54 #[.string (bs l)] w fun e w' => ∃ v, e = .returned (.tuple #[v, .int .i64 ((ofL l).2.1 : Nat), .int .i64 ((ofL l).2.2 : Nat)]) ∧ Texts w' v (ofL l).1 ∧ Below w.heap.size w w' := by
  by_cases hlong : 65536 < l.length
  · have e : ofL l = ([], 0, 6) := if_pos hlong
    rw [e]
    clear e
    go_enter Tryd.func54, Tryd.ntmps54
    go_wp2_with fail
    go_ret3
    exact ⟨_, rfl, texts_none _, Below.refl _ _⟩
  · have e : ofL l = resGo (linesL l) 0 (linesL l) := if_neg hlong
    rw [e, ← refAt_start]
    obtain ⟨R, hR⟩ : ∃ R, refAt l [] 0 0 = R := ⟨_, rfl⟩
    rw [hR]
    have HR := Lib.hid hR
    clear hR e
    obtain ⟨i0, hi, hz0, hz1, hz2⟩ := info_parts info_str
    go_enter Tryd.func54, Tryd.ntmps54
    go_wp2
    go_loopw [5, 6, 7] (fun v x y wr => ∃ f i : Nat, ∃ done : List (List UInt8), f ≤ i ∧ i ≤ l.length + 1 ∧ x = .int .i64 f ∧ y = .int .i64 i ∧ wr.ownsRow w.heap.size 9 1 v done.length (strs done) ∧ Below w.heap.size w wr ∧ done.length ≤ i ∧ refAt l done f i = R)
      (fun _ _ y _ => l.length + 1 - (RowKit.intOf y).toNat)
    case atStart =>
      exact ⟨0, 0, [], Nat.le_refl _, Nat.zero_le _, rfl, rfl, World.ownsRow_made w #[] 0 (Nat.le_refl _) (Nat.zero_le _) rfl, (Below.refl _ _).alloc (Nat.le_refl _) _, Nat.le_refl _, HR.out⟩
    case round =>
      obtain ⟨f, i, done, hf, hi', rfl, rfl, hown, hbw, hdl, hr⟩ := hrel
      by_cases hlt : i < l.length
      · have e2 : ((i : Int) == (l.length : Int)) = false := beq_eq_false_iff_ne.2 (by omega)
        by_cases hb : l[i] = 10
        · rw [refAt_feed l done f i hlt hb] at hr
          have e1 : ((l[i].toNat : Int) != 10) = false := by rw [hb]; rfl
          clear hb hi'
          have HC := Lib.hid (rrunes_any (curL l f i) (by have := curL_len l f i; omega))
          have hv := runesN_snd (curL l f i)
          have ec : (l.drop f).take (i - f) = curL l f i := rfl
          generalize curL l f i = x at *
          generalize runesN x = N at *
          obtain ⟨N1, N2⟩ := N
          simp only at HC hv
          subst hv
          by_cases hval : validD x = true
          · rw [if_pos hval] at hr
            rw [hval] at HC
            have H2 := Lib.hid hr
            have HE := Lib.hid ec
            clear hr hval ec
            go_wp2_with fail
            rw [HE.out]
            refine (HC.out _).mono ?_
            rintro e w2 ⟨rfl, rfl⟩
            go_wp2_with (at_builtin; refine wpList_append_own _ rfl _ _ 61 rfl w.heap.size 9 i0 (.string ByteArray.empty) 1 16 Tryd.underlying61 hi hz0 hz1 hz2 rfl (by decide) _ _ _ rfl (hown.alloc _) ⟨wr.heap.size, 0, none⟩ 1 1 [.string (bs x)] rfl rfl ?c1 ?c2 ?c3 ?c4 ?c5 ?_)
            case c1 =>
              intro j u hj
              match j, hj with
              | 0, hj => simp at hj; subst hj; simp [Addr.add]
            case c2 => intro u hu; simp at hu; subst hu; rfl
            case c3 => unfold maxLen; omega
            case c4 => omega
            case c5 => have := hbw.size; simp; omega
            · intro v' w1 hown' hgrow hnil
              have HO := Lib.hid hown'
              clear hown' hnil
              have hb1 : Below w.heap.size w w1 := (hbw.alloc (by have := hbw.size; omega) _).grown hgrow (by have := hbw.size; simp; omega) (fun k hk => (hown.lt k hk).1)
              go_wp2_with fail
              go_roundw
              case rel =>
                refine ⟨i + 1, i + 1, done ++ [x], Nat.le_refl _, by omega, by go_num, by go_num, ?_, hb1, by simp; omega, H2.out⟩
                have := HO.out
                rw [strs_snoc] at this
                simpa using this
              case measure => simp [RowKit.intOf]; omega
          · rw [if_neg hval] at hr
            have hval' : validD x = false := by simpa using hval
            rw [hval'] at HC
            have H2 := Lib.hid hr
            have HE := Lib.hid ec
            clear hr hval hval' ec
            go_wp2_with fail
            rw [HE.out]
            refine (HC.out _).mono ?_
            rintro e w2 ⟨rfl, rfl⟩
            obtain ⟨q, cap, rfl, -⟩ := own_texts hown
            go_wp2_with fail
            go_ret3
            rw [← H2.out]
            exact ⟨_, rfl, texts_none _, hbw⟩
        · rw [refAt_go l done f i hf hlt hb] at hr
          have e1 : ((l[i].toNat : Int) != 10) = true := by
            simp only [bne_iff_ne, ne_eq]
            intro h
            exact hb (UInt8.toNat_inj.1 (by simpa using (by omega : l[i].toNat = 10)))
          have H2 := Lib.hid hr
          clear hr hb hi'
          go_wp2_with fail
          go_roundw
          case rel => exact ⟨f, i + 1, done, by omega, by omega, rfl, by go_num, hown, hbw, by omega, H2.out⟩
          case measure => simp [RowKit.intOf]; omega
      · by_cases hend : i = l.length
        · have e2 : ((i : Int) == (l.length : Int)) = true := beq_iff_eq.2 (by omega)
          by_cases hfi : f = i
          · subst hfi
            rw [refAt_bare l done f hend] at hr
            have H2 := Lib.hid hr
            clear hr
            go_wp2_with fail
            go_roundw
            case rel => exact ⟨f, f + 1, done, by omega, by omega, rfl, by go_num, hown, hbw, by omega, H2.out⟩
            case measure => simp [RowKit.intOf]; omega
          · rw [refAt_last l done f i (by omega) hend] at hr
            have e3 : ((f : Int) == (l.length : Int)) = false := beq_eq_false_iff_ne.2 (by omega)
            clear hfi
            have HC := Lib.hid (rrunes_any (curL l f i) (by have := curL_len l f i; omega))
            have hv := runesN_snd (curL l f i)
            have ec : (l.drop f).take (l.length - f) = curL l f i := by rw [← hend]; rfl
            generalize curL l f i = x at *
            generalize runesN x = N at *
            obtain ⟨N1, N2⟩ := N
            simp only at HC hv
            subst hv
            by_cases hval : validD x = true
            · rw [if_pos hval] at hr
              rw [hval] at HC
              have H2 := Lib.hid hr
              have HE := Lib.hid ec
              clear hr hval ec
              go_wp2_with fail
              rw [HE.out]
              refine (HC.out _).mono ?_
              rintro e w2 ⟨rfl, rfl⟩
              go_wp2_with (at_builtin; refine wpList_append_own _ rfl _ _ 61 rfl w.heap.size 9 i0 (.string ByteArray.empty) 1 16 Tryd.underlying61 hi hz0 hz1 hz2 rfl (by decide) _ _ _ rfl (hown.alloc _) ⟨wr.heap.size, 0, none⟩ 1 1 [.string (bs x)] rfl rfl ?c1 ?c2 ?c3 ?c4 ?c5 ?_)
              case c1 =>
                intro j u hj
                match j, hj with
                | 0, hj => simp at hj; subst hj; simp [Addr.add]
              case c2 => intro u hu; simp at hu; subst hu; rfl
              case c3 => unfold maxLen; omega
              case c4 => omega
              case c5 => have := hbw.size; simp; omega
              · intro v' w1 hown' hgrow hnil
                have HO := Lib.hid hown'
                clear hown' hnil
                have hb1 : Below w.heap.size w w1 := (hbw.alloc (by have := hbw.size; omega) _).grown hgrow (by have := hbw.size; simp; omega) (fun k hk => (hown.lt k hk).1)
                go_wp2_with fail
                go_roundw
                case rel =>
                  refine ⟨i + 1, i + 1, done ++ [x], Nat.le_refl _, by omega, by go_num, by go_num, ?_, hb1, by simp; omega, H2.out⟩
                  have := HO.out
                  rw [strs_snoc] at this
                  simpa using this
                case measure => simp [RowKit.intOf]; omega
            · rw [if_neg hval] at hr
              have hval' : validD x = false := by simpa using hval
              rw [hval'] at HC
              have H2 := Lib.hid hr
              have HE := Lib.hid ec
              clear hr hval hval' ec
              go_wp2_with fail
              rw [HE.out]
              refine (HC.out _).mono ?_
              rintro e w2 ⟨rfl, rfl⟩
              obtain ⟨q, cap, rfl, -⟩ := own_texts hown
              go_wp2_with fail
              go_ret3
              rw [← H2.out]
              exact ⟨_, rfl, texts_none _, hbw⟩
        · rw [refAt_end l done f i (by omega)] at hr
          have H2 := Lib.hid hr
          clear hr
          go_wp2_with fail
          go_ret3
          rw [← H2.out]
          exact ⟨_, rfl, own_texts hown, hbw⟩
end Go.Proofs.YtphhgdgamnogpaaDoor
