/-
  The walks of layer 6's reference (split): a line's words. No conditions.
-/
import Derived.Test.YtphhgdgamnogpaaDoorSplitW
import Derived.Deep.RegionHeld3
import Derived.Deep.AppendLies
import Derived.IntWalk
namespace Go.Proofs.YtphhgdgamnogpaaDoor
open Go.RowKit Go.Lib

theorem news_word (w : World) (x : ByteArray) (n : Int) (e : TypeId) : ∀ (j : Nat) (u : Value), ([.string x, .int .i64 n] : List Value)[j]? = some u → (w.alloc (.cells #[.string x, .int .i64 n] e)).cell? ((⟨w.heap.size, 0, none⟩ : Addr).add j) = some u := by
  intro j u hj
  match j, hj with
  | 0, hj => simp at hj; subst hj; simp [Addr.add]
  | 1, hj => simp at hj; subst hj; simp [Addr.add]
theorem ones_word (x : ByteArray) (n : Int) : ∀ u ∈ ([.string x, .int .i64 n] : List Value), u.oneCell' = true := by
  intro u hu
  simp at hu
  rcases hu with rfl | rfl <;> rfl
theorem wrap_one (n : Nat) (h : n ≤ 1000000) : IntKind.i64.wrap ((n : Int) + 1) = (n : Int) + 1 := IntWalk.i64_in _ (by omega)
theorem ahead_none (s : List UInt8) : ∀ i, i ≤ s.length → (∀ j, j < i → s.getD j 0 ≠ 35) → (i = s.length → aheadL s = s) ∧ (∀ h : i < s.length, s[i] = 35 → aheadL s = s.take i) := by
  induction s with
  | nil => intro i _ _; exact ⟨fun _ => rfl, fun h => absurd h (Nat.not_lt_zero i)⟩
  | cons b t ih =>
    intro i hi hn
    cases i with
    | zero =>
      refine ⟨fun h => by simp at h, fun h hb => ?_⟩
      have hb' : b = 35 := hb
      simp [aheadL, hb']
    | succ i =>
      have h0 := hn 0 (Nat.succ_pos i)
      have hb : b ≠ 35 := h0
      have e : aheadL (b :: t) = b :: aheadL t := by simp [aheadL, hb]
      obtain ⟨h1, h2⟩ := ih i (by simpa using hi) (fun j hj => by have := hn (j + 1) (by omega); simpa using this)
      refine ⟨fun h => by rw [e, h1 (by simpa using h)], fun h hx => ?_⟩
      rw [e, h2 (by simpa using h) (by simpa using hx)]
      rfl

set_option maxRecDepth 100000 in
set_option maxHeartbeats 1000000 in
theorem rahead_any (s : List UInt8) (hs : s.length ≤ 1000000) (w : World) :
    Calls Tryd.prog 101 #[.string (bs s)] w fun e w' => e = .returned (.string (bs (aheadL s))) ∧ w = w' := by
  have HA := Lib.hid (ahead_none s)
  generalize aheadL s = t at *
  go_enter Tryd.func101, Tryd.ntmps101
  go_wp2_with fail
  go_loop [3] (fun v => ∃ i : Nat, i ≤ s.length ∧ v = .int .i64 i ∧ ∀ j, j < i → s.getD j 0 ≠ 35) (fun v => s.length - (RowKit.intOf v).toNat)
  case atStart => exact ⟨0, Nat.zero_le _, rfl, fun j hj => absurd hj (Nat.not_lt_zero j)⟩
  case round =>
    obtain ⟨i, hi, rfl, hn⟩ := hrel
    have HN := Lib.hid hn
    clear hn
    by_cases hlt : i < s.length
    · by_cases hb : s[i] = 35
      · have e1 : ((s[i].toNat : Int) == 35) = true := by rw [hb]; rfl
        have H2 := Lib.hid ((HA.out i hi HN.out).2 hlt hb)
        clear hb
        go_wp2_with fail
        go_ret
        exact ⟨by rw [H2.out]; rfl, rfl⟩
      · have e1 : ((s[i].toNat : Int) == 35) = false := by
          rw [beq_eq_false_iff_ne]
          intro h
          exact hb (UInt8.toNat_inj.1 (by simpa using (by omega : s[i].toNat = 35)))
        have H2 : RowKit.Hid (∀ j, j < i + 1 → s.getD j 0 ≠ 35) := Lib.hid (by
          intro j hj
          by_cases hji : j < i
          · exact HN.out j hji
          · obtain rfl : j = i := by omega
            rw [getD_at s j hlt]
            exact hb)
        clear hb
        go_wp2_with fail
        go_round
        case rel => exact ⟨i + 1, by omega, by go_num, H2.out⟩
        case measure => simp [RowKit.intOf]; omega
    · have hie : i = s.length := by omega
      have H2 := Lib.hid ((HA.out i hi HN.out).1 hie)
      subst hie
      clear hlt
      go_wp2_with fail
      go_ret
      exact ⟨by rw [H2.out]; rfl, rfl⟩

/-- The reference's way over a line's bytes, the line's end counted. -/
def refW (t : List UInt8) (done : List (Nat × Nat)) (i : Nat) (st : Option Nat) : List (Nat × Nat) := if i ≤ t.length then done ++ scanGo t (t.length - i) i st else done
theorem refW_blank (t : List UInt8) (done : List (Nat × Nat)) (i : Nat) (st : Option Nat) (h : i = t.length ∨ ∃ h : i < t.length, blankB t[i] = true) : refW t done i st = refW t (done ++ pushed st i) (i + 1) none := by
  unfold refW
  rcases h with h | ⟨h, hb⟩
  · rw [if_pos (by omega), if_neg (by omega), scan_end t i st (by omega)]
  · rw [if_pos (by omega), if_pos (by omega), scan_blank t i st h hb, List.append_assoc]
theorem refW_go (t : List UInt8) (done : List (Nat × Nat)) (i : Nat) (st : Option Nat) (h : i < t.length) (hb : blankB t[i] = false) : refW t done i st = refW t done (i + 1) (some (st.getD i)) := by
  unfold refW
  rw [if_pos (by omega), if_pos (by omega), scan_go t i st h hb]
theorem any_drop (s : List UInt8) (i : Nat) (h : i < s.length) : (s.drop i).any (fun b => decide (b = 10)) = (decide (s[i] = 10) || (s.drop (i + 1)).any (fun b => decide (b = 10))) := by
  rw [List.drop_eq_getElem_cons h, List.any_cons]
theorem colT_ahead (s : List UInt8) (f : Nat) (hv : validD s = true) (hf : f ≤ (aheadL s).length) : colT s f = colN (aheadL s) 0 f := by
  unfold colT
  rw [if_pos hv]
  exact (col_ahead s f hf (ahead_len s) _ 0 (Nat.le_refl _) (Nat.zero_le _)).symm

set_option maxRecDepth 100000 in
set_option maxHeartbeats 2000000 in
theorem rwords_any (s : List UInt8) (hs : s.length ≤ 1000000) (w : World) :
    Calls Tryd.prog 55 #[.string (bs s)] w fun e w' => ∃ v, e = .returned (.tuple #[v, .int .i64 ((wordsR s).2 : Nat)]) ∧ Words w' v (wordsR s).1 ∧ Below w.heap.size w w' := by
  have HC := Lib.hid (rrunes_any s hs)
  have hv := runesN_snd s
  generalize runesN s = N at *
  obtain ⟨N1, N2⟩ := N
  simp only at HC hv
  subst hv
  have HA := Lib.hid (rahead_any s hs)
  have HZ := Lib.hid (rcolumn_any s hs)
  have HCol := Lib.hid (colT_ahead s)
  have eR : wordsR s = if validD s && !hasFeed s then (wordsL (aheadL s), 0) else ([], 5) := rfl
  rw [eR]
  clear eR
  have hlen := ahead_len s
  have hF := feed_at s
  generalize hasFeed s = F at *
  generalize validD s = V at *
  cases V with
  | false =>
    go_enter Tryd.func55, Tryd.ntmps55
    go_wp2_with fail
    refine (HC.out _).mono ?_
    rintro e w1 ⟨rfl, rfl⟩
    go_wp2_with fail
    go_ret2
    exact ⟨_, rfl, words_none _, Below.refl _ _⟩
  | true =>
    have HCol2 := Lib.hid (fun f hf => HCol.out f rfl hf)
    clear HCol
    have HF := Lib.hid hF.symm
    have hlt0 : (aheadL s).length ≤ 1000000 := by omega
    clear hF hlen
    generalize aheadL s = t at *
    obtain ⟨R, hR⟩ : ∃ R, scanL t = R := ⟨_, rfl⟩
    have eW : wordsL t = R.map (wordAt t) := by rw [← hR]; rfl
    rw [eW]
    have HR : RowKit.Hid (refW t [] 0 none = R) := Lib.hid (by rw [← hR]; rfl)
    clear hR eW
    obtain ⟨i0, hi, hz0, hz1, hz2⟩ := info_parts info_rword
    go_enter Tryd.func55, Tryd.ntmps55
    go_wp2_with fail
    refine (HC.out _).mono ?_
    rintro e w1 ⟨rfl, rfl⟩
    go_wp2_with fail
    go_loop [6] (fun v => ∃ i : Nat, i ≤ s.length ∧ v = .int .i64 i ∧ (s.drop i).any (fun b => decide (b = 10)) = F) (fun v => s.length - (RowKit.intOf v).toNat)
    case atStart => exact ⟨0, Nat.zero_le _, rfl, HF.out⟩
    case round =>
      obtain ⟨i, hi', rfl, hn⟩ := hrel
      by_cases hlt : i < s.length
      · rw [any_drop s i hlt] at hn
        by_cases hb : s[i] = 10
        · have e1 : ((s[i].toNat : Int) == 10) = true := by rw [hb]; rfl
          have hFt : F = true := by rw [← hn]; simp [hb]
          subst hFt
          clear hb hn
          go_wp2_with fail
          go_ret2
          exact ⟨_, rfl, words_none _, Below.refl _ _⟩
        · have e1 : ((s[i].toNat : Int) == 10) = false := by
            rw [beq_eq_false_iff_ne]
            intro h
            exact hb (UInt8.toNat_inj.1 (by simpa using (by omega : s[i].toNat = 10)))
          have H2 : RowKit.Hid ((s.drop (i + 1)).any (fun b => decide (b = 10)) = F) := Lib.hid (by rw [← hn]; simp [hb])
          clear hb hn
          go_wp2_with fail
          go_round
          case rel => exact ⟨i + 1, by omega, by go_num, H2.out⟩
          case measure => simp [RowKit.intOf]; omega
      · rw [List.drop_eq_nil_of_le (by omega)] at hn
        have hFf : F = false := hn.symm
        subst hFf
        clear hn
        go_wp2_with fail
        refine (HA.out _).mono ?_
        rintro e w1 ⟨rfl, rfl⟩
        go_wp2_with fail
        go_loopw [8, 9, 10] (fun v fr n wr => ∃ i : Nat, ∃ st : Option Nat, ∃ done : List (Nat × Nat), i ≤ t.length + 1 ∧ n = .int .i64 i ∧ fr = frV st ∧ (∀ f, st = some f → f < i ∧ f < t.length) ∧ wr.ownsRow w.heap.size 153 2 v done.length (wcells (done.map (wordAt t))) ∧ Below w.heap.size w wr ∧ refW t done i st = R ∧ done.length ≤ i ∧ (t.length < i → st = none))
          (fun _ _ n _ => t.length + 1 - (RowKit.intOf n).toNat)
        case atStart =>
          exact ⟨0, none, [], Nat.zero_le _, rfl, rfl, (fun f hf => by cases hf), World.ownsRow_made w #[] 0 (Nat.le_refl _) (Nat.zero_le _) rfl, (Below.refl _ _).alloc (Nat.le_refl _) _, HR.out, Nat.le_refl _, fun _ => rfl⟩
        case round =>
          obtain ⟨i, st, done, hi', rfl, rfl, hst, hown, hbw, hr, hdl, hend⟩ := hrel
          by_cases hle : i ≤ t.length
          · by_cases hte : i = t.length
            · have e1 : ((i : Int) == (t.length : Int)) = true := beq_iff_eq.2 (by omega)
              rw [refW_blank t done i st (.inl hte)] at hr
              cases st with
              | none =>
                simp only [frV, pushed, List.append_nil] at hr ⊢
                have H2 := Lib.hid hr
                clear hr hst hend
                go_wp2_with fail
                go_roundw
                case rel => exact ⟨i + 1, none, done, by omega, by go_num, rfl, (fun f hf => by cases hf), hown, hbw, H2.out, by omega, fun _ => rfl⟩
                case measure => simp [RowKit.intOf]; omega
              | some f =>
                obtain ⟨hf1, hf2⟩ := hst f rfl
                have hf3 : f ≤ t.length := by omega
                have hf4 : f ≤ i := by omega
                simp only [frV, pushed] at hr ⊢
                have H2 := Lib.hid hr
                have hcol := HCol2.out f (by omega)
                have HZ2 := Lib.hid (HZ.out f)
                rw [hcol] at HZ2
                have hc1 : colN t 0 f ≤ 1000000 := Nat.le_trans (col_le t f _ 0 (Nat.le_refl _)) (by omega)
                clear hr hst hend hcol
                go_wp2_with fail
                have hown2 : wr.drew.ownsRow w.heap.size 153 2 _ done.length (wcells (done.map (wordAt t))) := hown
                go_region_held3 (fun _ => True) (trivial)
                  (first
                    | (go_at_call 102; refine (HZ2.out _).mono ?_; rintro e w' ⟨rfl, rfl⟩)
                    | ((refine step_append_lies _ (by rfl) _ _ 89 (by rfl) w.heap.size 153 i0 (.agg #[.string ByteArray.empty, .int .i64 0]) 2 24 Tryd.underlying89 hi hz0 hz1 hz2 rfl (by decide) _ done.length (wcells (done.map (wordAt t))) (by rfl) (hown2.alloc _) ⟨wr.drew.heap.size, 0, none⟩ 1 1 [_, _] (by rfl) rfl (news_word _ _ _ _) (ones_word _ _) (by decide) (by unfold maxLen; omega) (by omega) (by have := hbw.size; simp; omega) _ rfl ?_); intro g cap w1 hown4 hgrow hat hlt))
                rw [wrap_one _ hc1, wcells_next] at hown4
                have hb4 : Below w.heap.size w w1 := (hbw.drew.alloc (by have := hbw.size; simpa using this) _).grown hgrow (by have := hbw.size; simp; omega) (fun k hk => (hown.lt k hk).1)
                have HO : RowKit.Hid (w1.ownsRow w.heap.size 153 2 (.slice (some ⟨g, 0, none⟩) (done.length + 1) cap) (done.length + 1) (wcells ((done ++ [(f, i)]).map (wordAt t)))) := Lib.hid (by
                  rw [List.map_append]
                  simpa [wordAt, curL, hte] using hown4)
                clear hown4 hgrow hat hown2 hown HZ2 hbw
                go_wp2_with fail
                go_roundw
                case rel => exact ⟨i + 1, none, done ++ [(f, i)], by omega, by go_num, rfl, (fun f hf => by cases hf), by simpa using HO.out, hb4, H2.out, by simp; omega, fun _ => rfl⟩
                case measure => simp [RowKit.intOf]; omega
            · have hlt : i < t.length := by omega
              have e1 : ((i : Int) == (t.length : Int)) = false := beq_eq_false_iff_ne.2 (by omega)
              by_cases hb : blankB t[i] = true
              · rw [refW_blank t done i st (.inr ⟨hlt, hb⟩)] at hr
                have hor : t[i].toNat = 32 ∨ (t[i].toNat ≠ 32 ∧ t[i].toNat = 9) ∨ (t[i].toNat ≠ 32 ∧ t[i].toNat ≠ 9 ∧ t[i].toNat = 13) := by
                  unfold blankB blankR at hb
                  simp only [Bool.or_eq_true, decide_eq_true_eq] at hb
                  omega
                have hchain : (((t[i].toNat : Int) == 32) = true) ∨ (((t[i].toNat : Int) == 32) = false ∧ ((t[i].toNat : Int) == 9) = true) ∨ (((t[i].toNat : Int) == 32) = false ∧ ((t[i].toNat : Int) == 9) = false ∧ ((t[i].toNat : Int) == 13) = true) := by
                  simp only [beq_iff_eq, beq_eq_false_iff_ne, ne_eq]
                  omega
                clear hor hb
                cases st with
                | none =>
                  rcases hchain with c1 | ⟨c1, c2⟩ | ⟨c1, c2, c3⟩
                  all_goals
                    simp only [frV, pushed, List.append_nil] at hr ⊢
                    have H2 := Lib.hid hr
                    clear hr hst hend
                    go_wp2_with fail
                    go_roundw
                    case rel => exact ⟨i + 1, none, done, by omega, by go_num, rfl, (fun f hf => by cases hf), hown, hbw, H2.out, by omega, fun _ => rfl⟩
                    case measure => simp [RowKit.intOf]; omega
                | some f =>
                  rcases hchain with c1 | ⟨c1, c2⟩ | ⟨c1, c2, c3⟩
                  all_goals
                    obtain ⟨hf1, hf2⟩ := hst f rfl
                    have hf3 : f ≤ t.length := by omega
                    have hf4 : f ≤ i := by omega
                    simp only [frV, pushed] at hr ⊢
                    have H2 := Lib.hid hr
                    have hcol := HCol2.out f (by omega)
                    have HZ2 := Lib.hid (HZ.out f)
                    rw [hcol] at HZ2
                    have hc1 : colN t 0 f ≤ 1000000 := Nat.le_trans (col_le t f _ 0 (Nat.le_refl _)) (by omega)
                    clear hr hst hend hcol
                    go_wp2_with fail
                    have hown2 : wr.drew.ownsRow w.heap.size 153 2 _ done.length (wcells (done.map (wordAt t))) := hown
                    go_region_held3 (fun _ => True) (trivial)
                      (first
                        | (go_at_call 102; refine (HZ2.out _).mono ?_; rintro e w' ⟨rfl, rfl⟩)
                        | ((refine step_append_lies _ (by rfl) _ _ 89 (by rfl) w.heap.size 153 i0 (.agg #[.string ByteArray.empty, .int .i64 0]) 2 24 Tryd.underlying89 hi hz0 hz1 hz2 rfl (by decide) _ done.length (wcells (done.map (wordAt t))) (by rfl) (hown2.alloc _) ⟨wr.drew.heap.size, 0, none⟩ 1 1 [_, _] (by rfl) rfl (news_word _ _ _ _) (ones_word _ _) (by decide) (by unfold maxLen; omega) (by omega) (by have := hbw.size; simp; omega) _ rfl ?_); intro g cap w1 hown4 hgrow hat hlt))
                    rw [wrap_one _ hc1, wcells_next] at hown4
                    have hb4 : Below w.heap.size w w1 := (hbw.drew.alloc (by have := hbw.size; simpa using this) _).grown hgrow (by have := hbw.size; simp; omega) (fun k hk => (hown.lt k hk).1)
                    have HO : RowKit.Hid (w1.ownsRow w.heap.size 153 2 (.slice (some ⟨g, 0, none⟩) (done.length + 1) cap) (done.length + 1) (wcells ((done ++ [(f, i)]).map (wordAt t)))) := Lib.hid (by
                      rw [List.map_append]
                      simpa [wordAt, curL] using hown4)
                    clear hown4 hgrow hat hown2 hown HZ2 hbw
                    go_wp2_with fail
                    go_roundw
                    case rel => exact ⟨i + 1, none, done ++ [(f, i)], by omega, by go_num, rfl, (fun f hf => by cases hf), by simpa using HO.out, hb4, H2.out, by simp; omega, fun _ => rfl⟩
                    case measure => simp [RowKit.intOf]; omega
              · have hb' : blankB t[i] = false := by simpa using hb
                rw [refW_go t done i st hlt hb'] at hr
                have c0 : ((t[i].toNat : Int) == 32) = false ∧ ((t[i].toNat : Int) == 9) = false ∧ ((t[i].toNat : Int) == 13) = false := by
                  unfold blankB blankR at hb'
                  simp only [Bool.or_eq_false_iff, decide_eq_false_iff_not] at hb'
                  simp only [beq_eq_false_iff_ne, ne_eq]
                  omega
                obtain ⟨c1, c2, c3⟩ := c0
                clear hb hb'
                cases st with
                | none =>
                  simp only [frV, Option.getD_none] at hr ⊢
                  have H2 := Lib.hid hr
                  clear hr hst hend
                  go_wp2_with fail
                  go_roundw
                  case rel => exact ⟨i + 1, some i, done, by omega, by go_num, rfl, (fun f hf => by obtain rfl := Option.some.inj hf; exact ⟨by omega, hlt⟩), hown, hbw, H2.out, by omega, fun h => by omega⟩
                  case measure => simp [RowKit.intOf]; omega
                | some f =>
                  obtain ⟨hf1, hf2⟩ := hst f rfl
                  simp only [frV, Option.getD_some] at hr ⊢
                  have H2 := Lib.hid hr
                  clear hr hst hend
                  go_wp2_with fail
                  go_roundw
                  case rel => exact ⟨i + 1, some f, done, by omega, by go_num, rfl, (fun g hg => by obtain rfl := Option.some.inj hg; exact ⟨by omega, hf2⟩), hown, hbw, H2.out, by omega, fun h => by omega⟩
                  case measure => simp [RowKit.intOf]; omega
          · have eR : refW t done i st = done := if_neg hle
            rw [eR] at hr
            have H2 := Lib.hid hr
            clear hr eR
            go_wp2_with fail
            go_ret2
            refine ⟨_, rfl, ?_, hbw⟩
            rw [← H2.out]
            exact own_words (by rw [List.length_map]; exact hown)
end Go.Proofs.YtphhgdgamnogpaaDoor
