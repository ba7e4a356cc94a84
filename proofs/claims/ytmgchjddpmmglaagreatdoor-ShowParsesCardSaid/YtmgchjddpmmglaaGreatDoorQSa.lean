/-
  The walks of layer 6's reference (split): a line's words. No conditions.
  The walks of layer 6 (split): remarks, texts joined, and the statement SplitWords. No conditions but that unicode/utf8's two tables are as their initialisers lay them and that internal/bytealg.MaxLen holds a number.
  Layer 5 (value), in plain words: reading undoes printing. No conditions.
  The walks of layer 8 (log): whether all events may be, in the program's way. Conditions: unicode/utf8's two tables hold what their initialisers lay; names of at most 1,000,000 bytes.
  The walk of layer 7 (event): an event's line. Conditions: unicode/utf8's two tables, and event.words, hold what their initialisers lay; texts of at most 1,000,000 bytes.
-/
import Derived.Test.YtmgchjddpmmglaaGreatDoorQxEvM
namespace Go.Proofs.YtmgchjddpmmglaaGreatDoor
section
open Go.RowKit Go.Lib
theorem news_word (w : World) (x : ByteArray) (n : Int) (e : TypeId) : ∀ (j : Nat) (u : Value), ([.string x, .int .i64 n] : List Value)[j]? = some u → (w.alloc (.cells #[.string x, .int .i64 n] e)).cell? ((⟨w.heap.size, 0, none⟩ : Addr).add j) = some u := by
 intro j u hj
 match j, hj with
 | 0, hj => simp at hj; subst hj; simp [Addr.add]
 | 1, hj => simp at hj; subst hj; simp [Addr.add]
theorem ones_word (x : ByteArray) (n : Int) : ∀ u ∈ ([.string x, .int .i64 n] : List Value), u.oneCell' = true := by
 intro u hu
 simp at hu
 rcases hu with rfl | rfl <;> rfl
theorem wrap_one (n : Nat) (h : n ≤ 1000000) : IntKind.i64.wrap ((n : Int) + 1) = (n : Int) + 1 := IntWalk.i64_in _ (by omega)
theorem ahead_none (s : List UInt8) : ∀ i, i ≤ s.length → (∀ j, j < i → s.getD j 0 ≠ 35) → (i = s.length → aheadL s = s) ∧ (∀ h : i < s.length, s[i] = 35 → aheadL s = s.take i) := by
 induction s with
 | nil => intro i _ _; exact ⟨fun _ => rfl, fun h => absurd h (Nat.not_lt_zero i)⟩
 | cons b t ih =>
  intro i hi hn
  cases i with
  | zero =>
   refine ⟨fun h => by simp at h, fun h hb => ?_⟩
   have hb' : b = 35 := hb
   simp [aheadL, hb']
  | succ i =>
   have h0 := hn 0 (Nat.succ_pos i)
   have hb : b ≠ 35 := h0
   have e : aheadL (b :: t) = b :: aheadL t := by simp [aheadL, hb]
   obtain ⟨h1, h2⟩ := ih i (by simpa using hi) (fun j hj => by have := hn (j + 1) (by omega); simpa using this)
   refine ⟨fun h => by rw [e, h1 (by simpa using h)], fun h hx => ?_⟩
   rw [e, h2 (by simpa using h) (by simpa using hx)]
   rfl
set_option maxRecDepth 100000 in
set_option maxHeartbeats 1000000 in
theorem rahead_any (s : List UInt8) (hs : s.length ≤ 1000000) (w : World) :
  Calls Tryz.prog 206 #[.string (bs s)] w fun e w' => e = .returned (.string (bs (aheadL s))) ∧ w = w' := by
 have HA := Lib.hid (ahead_none s)
 generalize aheadL s = t at *
 go_enter Tryz.func206, Tryz.ntmps206
 go_wp2_with fail
 go_loop [3] (fun v => ∃ i : Nat, i ≤ s.length ∧ v = .int .i64 i ∧ ∀ j, j < i → s.getD j 0 ≠ 35) (fun v => s.length - (RowKit.intOf v).toNat)
 case atStart => exact ⟨0, Nat.zero_le _, rfl, fun j hj => absurd hj (Nat.not_lt_zero j)⟩
 case round =>
  obtain ⟨i, hi, rfl, hn⟩ := hrel
  have HN := Lib.hid hn
  clear hn
  by_cases hlt : i < s.length
  ·by_cases hb : s[i] = 35
   ·have e1 : ((s[i].toNat : Int) == 35) = true := by rw [hb]; rfl
    have H2 := Lib.hid ((HA.out i hi HN.out).2 hlt hb)
    clear hb
    go_wp2_with fail
    go_ret
    exact ⟨by rw [H2.out]; rfl, rfl⟩
   ·have e1 : ((s[i].toNat : Int) == 35) = false := by
     rw [beq_eq_false_iff_ne]
     intro h
     exact hb (UInt8.toNat_inj.1 (by simpa using (by omega : s[i].toNat = 35)))
    have H2 : RowKit.Hid (∀ j, j < i + 1 → s.getD j 0 ≠ 35) := Lib.hid (by
     intro j hj
     by_cases hji : j < i
     ·exact HN.out j hji
     ·obtain rfl : j = i := by omega
      rw [getD_at s j hlt]
      exact hb)
    clear hb
    go_wp2_with fail
    go_round
    case rel => exact ⟨i + 1, by omega, by go_num, H2.out⟩
    case measure => simp [RowKit.intOf]; omega
  ·have hie : i = s.length := by omega
   have H2 := Lib.hid ((HA.out i hi HN.out).1 hie)
   subst hie
   clear hlt
   go_wp2_with fail
   go_ret
   exact ⟨by rw [H2.out]; rfl, rfl⟩
def refW (t : List UInt8) (done : List (Nat × Nat)) (i : Nat) (st : Option Nat) : List (Nat × Nat) := if i ≤ t.length then done ++ scanGo t (t.length - i) i st else done
theorem refW_blank (t : List UInt8) (done : List (Nat × Nat)) (i : Nat) (st : Option Nat) (h : i = t.length ∨ ∃ h : i < t.length, blankB t[i] = true) : refW t done i st = refW t (done ++ pushed st i) (i + 1) none := by
 unfold refW
 rcases h with h | ⟨h, hb⟩
 ·rw [if_pos (by omega), if_neg (by omega), scan_end t i st (by omega)]
 ·rw [if_pos (by omega), if_pos (by omega), scan_blank t i st h hb, List.append_assoc]
theorem refW_go (t : List UInt8) (done : List (Nat × Nat)) (i : Nat) (st : Option Nat) (h : i < t.length) (hb : blankB t[i] = false) : refW t done i st = refW t done (i + 1) (some (st.getD i)) := by
 unfold refW
 rw [if_pos (by omega), if_pos (by omega), scan_go t i st h hb]
theorem any_drop (s : List UInt8) (i : Nat) (h : i < s.length) : (s.drop i).any (fun b => decide (b = 10)) = (decide (s[i] = 10) || (s.drop (i + 1)).any (fun b => decide (b = 10))) := by
 rw [List.drop_eq_getElem_cons h, List.any_cons]
theorem colT_ahead (s : List UInt8) (f : Nat) (hv : validD s = true) (hf : f ≤ (aheadL s).length) : colT s f = colN (aheadL s) 0 f := by
 unfold colT
 rw [if_pos hv]
 exact (col_ahead s f hf (ahead_len s) _ 0 (Nat.le_refl _) (Nat.zero_le _)).symm
set_option maxRecDepth 100000 in
set_option maxHeartbeats 2000000 in
theorem rwords_any (s : List UInt8) (hs : s.length ≤ 1000000) (w : World) :
  Calls Tryz.prog 164 #[.string (bs s)] w fun e w' => ∃ v, e = .returned (.tuple #[v, .int .i64 ((wordsR s).2 : Nat)]) ∧ Words w' v (wordsR s).1 ∧ Below w.heap.size w w' := by
 have HC := Lib.hid (rrunes_any s hs)
 have hv := runesN_snd s
 generalize runesN s = N at *
 obtain ⟨N1, N2⟩ := N
 simp only at HC hv
 subst hv
 have HA := Lib.hid (rahead_any s hs)
 have HZ := Lib.hid (rcolumn_any s hs)
 have HCol := Lib.hid (colT_ahead s)
 have eR : wordsR s = if validD s && !hasFeed s then (wordsL (aheadL s), 0) else ([], 5) := rfl
 rw [eR]
 clear eR
 have hlen := ahead_len s
 have hF := feed_at s
 generalize hasFeed s = F at *
 generalize validD s = V at *
 cases V with
 | false =>
  go_enter Tryz.func164, Tryz.ntmps164
  go_wp2_with fail
  refine (HC.out _).mono ?_
  rintro e w1 ⟨rfl, rfl⟩
  go_wp2_with fail
  go_ret2
  exact ⟨_, rfl, words_none _, Below.refl _ _⟩
 | true =>
  have HCol2 := Lib.hid (fun f hf => HCol.out f rfl hf)
  clear HCol
  have HF := Lib.hid hF.symm
  have hlt0 : (aheadL s).length ≤ 1000000 := by omega
  clear hF hlen
  generalize aheadL s = t at *
  obtain ⟨R, hR⟩ : ∃ R, scanL t = R := ⟨_, rfl⟩
  have eW : wordsL t = R.map (wordAt t) := by rw [← hR]; rfl
  rw [eW]
  have HR : RowKit.Hid (refW t [] 0 none = R) := Lib.hid (by rw [← hR]; rfl)
  clear hR eW
  obtain ⟨i0, hi, hz0, hz1, hz2⟩ := info_parts info_rword
  go_enter Tryz.func164, Tryz.ntmps164
  go_wp2_with fail
  refine (HC.out _).mono ?_
  rintro e w1 ⟨rfl, rfl⟩
  go_wp2_with fail
  go_loop [6] (fun v => ∃ i : Nat, i ≤ s.length ∧ v = .int .i64 i ∧ (s.drop i).any (fun b => decide (b = 10)) = F) (fun v => s.length - (RowKit.intOf v).toNat)
  case atStart => exact ⟨0, Nat.zero_le _, rfl, HF.out⟩
  case round =>
   obtain ⟨i, hi', rfl, hn⟩ := hrel
   by_cases hlt : i < s.length
   ·rw [any_drop s i hlt] at hn
    by_cases hb : s[i] = 10
    ·have e1 : ((s[i].toNat : Int) == 10) = true := by rw [hb]; rfl
     have hFt : F = true := by rw [← hn]; simp [hb]
     subst hFt
     clear hb hn
     go_wp2_with fail
     go_ret2
     exact ⟨_, rfl, words_none _, Below.refl _ _⟩
    ·have e1 : ((s[i].toNat : Int) == 10) = false := by
      rw [beq_eq_false_iff_ne]
      intro h
      exact hb (UInt8.toNat_inj.1 (by simpa using (by omega : s[i].toNat = 10)))
     have H2 : RowKit.Hid ((s.drop (i + 1)).any (fun b => decide (b = 10)) = F) := Lib.hid (by rw [← hn]; simp [hb])
     clear hb hn
     go_wp2_with fail
     go_round
     case rel => exact ⟨i + 1, by omega, by go_num, H2.out⟩
     case measure => simp [RowKit.intOf]; omega
   ·rw [List.drop_eq_nil_of_le (by omega)] at hn
    have hFf : F = false := hn.symm
    subst hFf
    clear hn
    go_wp2_with fail
    refine (HA.out _).mono ?_
    rintro e w1 ⟨rfl, rfl⟩
    go_wp2_with fail
    go_loopw [8, 9, 10] (fun v fr n wr => ∃ i : Nat, ∃ st : Option Nat, ∃ done : List (Nat × Nat), i ≤ t.length + 1 ∧ n = .int .i64 i ∧ fr = frV st ∧ (∀ f, st = some f → f < i ∧ f < t.length) ∧ wr.ownsRow w.heap.size 184 2 v done.length (wcells (done.map (wordAt t))) ∧ Below w.heap.size w wr ∧ refW t done i st = R ∧ done.length ≤ i ∧ (t.length < i → st = none))
     (fun _ _ n _ => t.length + 1 - (RowKit.intOf n).toNat)
    case atStart =>
     exact ⟨0, none, [], Nat.zero_le _, rfl, rfl, (fun f hf => by cases hf), World.ownsRow_made w #[] 0 (Nat.le_refl _) (Nat.zero_le _) rfl, (Below.refl _ _).alloc (Nat.le_refl _) _, HR.out, Nat.le_refl _, fun _ => rfl⟩
    case round =>
     obtain ⟨i, st, done, hi', rfl, rfl, hst, hown, hbw, hr, hdl, hend⟩ := hrel
     by_cases hle : i ≤ t.length
     ·by_cases hte : i = t.length
      ·have e1 : ((i : Int) == (t.length : Int)) = true := beq_iff_eq.2 (by omega)
       rw [refW_blank t done i st (.inl hte)] at hr
       cases st with
       | none =>
        simp only [frV, pushed, List.append_nil] at hr ⊢
        have H2 := Lib.hid hr
        clear hr hst hend
        go_wp2_with fail
        go_roundw
        case rel => exact ⟨i + 1, none, done, by omega, by go_num, rfl, (fun f hf => by cases hf), hown, hbw, H2.out, by omega, fun _ => rfl⟩
        case measure => simp [RowKit.intOf]; omega
       | some f =>
        obtain ⟨hf1, hf2⟩ := hst f rfl
        have hf3 : f ≤ t.length := by omega
        have hf4 : f ≤ i := by omega
        simp only [frV, pushed] at hr ⊢
        have H2 := Lib.hid hr
        have hcol := HCol2.out f (by omega)
        have HZ2 := Lib.hid (HZ.out f)
        rw [hcol] at HZ2
        have hc1 : colN t 0 f ≤ 1000000 := Nat.le_trans (col_le t f _ 0 (Nat.le_refl _)) (by omega)
        clear hr hst hend hcol
        go_wp2_with fail
        have hown2 : wr.drew.ownsRow w.heap.size 184 2 _ done.length (wcells (done.map (wordAt t))) := hown
        go_region_held3 (fun _ => True) (trivial)
         (first
          | (go_at_call 207; refine (HZ2.out _).mono ?_; rintro e w' ⟨rfl, rfl⟩)
          | ((refine step_append_lies _ (by rfl) _ _ 181 (by rfl) w.heap.size 184 i0 (.agg #[.string ByteArray.empty, .int .i64 0]) 2 24 Tryz.underlying181 hi hz0 hz1 hz2 rfl (by decide) _ done.length (wcells (done.map (wordAt t))) (by rfl) (hown2.alloc _) ⟨wr.drew.heap.size, 0, none⟩ 1 1 [_, _] (by rfl) rfl (news_word _ _ _ _) (ones_word _ _) (by decide) (by unfold maxLen; omega) (by omega) (by have := hbw.size; simp; omega) _ rfl ?_); intro g cap w1 hown4 hgrow hat hlt))
        rw [wrap_one _ hc1, wcells_next] at hown4
        have hb4 : Below w.heap.size w w1 := (hbw.drew.alloc (by have := hbw.size; simpa using this) _).grown hgrow (by have := hbw.size; simp; omega) (fun k hk => (hown.lt k hk).1)
        have HO : RowKit.Hid (w1.ownsRow w.heap.size 184 2 (.slice (some ⟨g, 0, none⟩) (done.length + 1) cap) (done.length + 1) (wcells ((done ++ [(f, i)]).map (wordAt t)))) := Lib.hid (by
         rw [List.map_append]
         simpa [wordAt, curL, hte] using hown4)
        clear hown4 hgrow hat hown2 hown HZ2 hbw
        go_wp2_with fail
        go_roundw
        case rel => exact ⟨i + 1, none, done ++ [(f, i)], by omega, by go_num, rfl, (fun f hf => by cases hf), by simpa using HO.out, hb4, H2.out, by simp; omega, fun _ => rfl⟩
        case measure => simp [RowKit.intOf]; omega
      ·have hlt : i < t.length := by omega
       have e1 : ((i : Int) == (t.length : Int)) = false := beq_eq_false_iff_ne.2 (by omega)
       by_cases hb : blankB t[i] = true
       ·rw [refW_blank t done i st (.inr ⟨hlt, hb⟩)] at hr
        have hor : t[i].toNat = 32 ∨ (t[i].toNat ≠ 32 ∧ t[i].toNat = 9) ∨ (t[i].toNat ≠ 32 ∧ t[i].toNat ≠ 9 ∧ t[i].toNat = 13) := by
         unfold blankB blankR at hb
         simp only [Bool.or_eq_true, decide_eq_true_eq] at hb
         omega
        have hchain : (((t[i].toNat : Int) == 32) = true) ∨ (((t[i].toNat : Int) == 32) = false ∧ ((t[i].toNat : Int) == 9) = true) ∨ (((t[i].toNat : Int) == 32) = false ∧ ((t[i].toNat : Int) == 9) = false ∧ ((t[i].toNat : Int) == 13) = true) := by
         simp only [beq_iff_eq, beq_eq_false_iff_ne, ne_eq]
         omega
        clear hor hb
        cases st with
        | none =>
         rcases hchain with c1 | ⟨c1, c2⟩ | ⟨c1, c2, c3⟩
         all_goals
          simp only [frV, pushed, List.append_nil] at hr ⊢
          have H2 := Lib.hid hr
          clear hr hst hend
          go_wp2_with fail
          go_roundw
          case rel => exact ⟨i + 1, none, done, by omega, by go_num, rfl, (fun f hf => by cases hf), hown, hbw, H2.out, by omega, fun _ => rfl⟩
          case measure => simp [RowKit.intOf]; omega
        | some f =>
         rcases hchain with c1 | ⟨c1, c2⟩ | ⟨c1, c2, c3⟩
         all_goals
          obtain ⟨hf1, hf2⟩ := hst f rfl
          have hf3 : f ≤ t.length := by omega
          have hf4 : f ≤ i := by omega
          simp only [frV, pushed] at hr ⊢
          have H2 := Lib.hid hr
          have hcol := HCol2.out f (by omega)
          have HZ2 := Lib.hid (HZ.out f)
          rw [hcol] at HZ2
          have hc1 : colN t 0 f ≤ 1000000 := Nat.le_trans (col_le t f _ 0 (Nat.le_refl _)) (by omega)
          clear hr hst hend hcol
          go_wp2_with fail
          have hown2 : wr.drew.ownsRow w.heap.size 184 2 _ done.length (wcells (done.map (wordAt t))) := hown
          go_region_held3 (fun _ => True) (trivial)
           (first
            | (go_at_call 207; refine (HZ2.out _).mono ?_; rintro e w' ⟨rfl, rfl⟩)
            | ((refine step_append_lies _ (by rfl) _ _ 181 (by rfl) w.heap.size 184 i0 (.agg #[.string ByteArray.empty, .int .i64 0]) 2 24 Tryz.underlying181 hi hz0 hz1 hz2 rfl (by decide) _ done.length (wcells (done.map (wordAt t))) (by rfl) (hown2.alloc _) ⟨wr.drew.heap.size, 0, none⟩ 1 1 [_, _] (by rfl) rfl (news_word _ _ _ _) (ones_word _ _) (by decide) (by unfold maxLen; omega) (by omega) (by have := hbw.size; simp; omega) _ rfl ?_); intro g cap w1 hown4 hgrow hat hlt))
          rw [wrap_one _ hc1, wcells_next] at hown4
          have hb4 : Below w.heap.size w w1 := (hbw.drew.alloc (by have := hbw.size; simpa using this) _).grown hgrow (by have := hbw.size; simp; omega) (fun k hk => (hown.lt k hk).1)
          have HO : RowKit.Hid (w1.ownsRow w.heap.size 184 2 (.slice (some ⟨g, 0, none⟩) (done.length + 1) cap) (done.length + 1) (wcells ((done ++ [(f, i)]).map (wordAt t)))) := Lib.hid (by
           rw [List.map_append]
           simpa [wordAt, curL] using hown4)
          clear hown4 hgrow hat hown2 hown HZ2 hbw
          go_wp2_with fail
          go_roundw
          case rel => exact ⟨i + 1, none, done ++ [(f, i)], by omega, by go_num, rfl, (fun f hf => by cases hf), by simpa using HO.out, hb4, H2.out, by simp; omega, fun _ => rfl⟩
          case measure => simp [RowKit.intOf]; omega
       ·have hb' : blankB t[i] = false := by simpa using hb
        rw [refW_go t done i st hlt hb'] at hr
        have c0 : ((t[i].toNat : Int) == 32) = false ∧ ((t[i].toNat : Int) == 9) = false ∧ ((t[i].toNat : Int) == 13) = false := by
         unfold blankB blankR at hb'
         simp only [Bool.or_eq_false_iff, decide_eq_false_iff_not] at hb'
         simp only [beq_eq_false_iff_ne, ne_eq]
         omega
        obtain ⟨c1, c2, c3⟩ := c0
        clear hb hb'
        cases st with
        | none =>
         simp only [frV, Option.getD_none] at hr ⊢
         have H2 := Lib.hid hr
         clear hr hst hend
         go_wp2_with fail
         go_roundw
         case rel => exact ⟨i + 1, some i, done, by omega, by go_num, rfl, (fun f hf => by obtain rfl := Option.some.inj hf; exact ⟨by omega, hlt⟩), hown, hbw, H2.out, by omega, fun h => by omega⟩
         case measure => simp [RowKit.intOf]; omega
        | some f =>
         obtain ⟨hf1, hf2⟩ := hst f rfl
         simp only [frV, Option.getD_some] at hr ⊢
         have H2 := Lib.hid hr
         clear hr hst hend
         go_wp2_with fail
         go_roundw
         case rel => exact ⟨i + 1, some f, done, by omega, by go_num, rfl, (fun g hg => by obtain rfl := Option.some.inj hg; exact ⟨by omega, hf2⟩), hown, hbw, H2.out, by omega, fun h => by omega⟩
         case measure => simp [RowKit.intOf]; omega
     ·have eR : refW t done i st = done := if_neg hle
      rw [eR] at hr
      have H2 := Lib.hid hr
      clear hr eR
      go_wp2_with fail
      go_ret2
      refine ⟨_, rfl, ?_, hbw⟩
      rw [← H2.out]
      exact own_words (by rw [List.length_map]; exact hown)
end
section
open Go.RowKit Go.Lib
def TextsC (w : World) (v : Value) (L : List (List UInt8)) : Prop := ∃ p cap, v = .slice p L.length cap ∧ L.length ≤ cap ∧ HasTexts w p L
theorem TextsC.below {w w' : World} {v : Value} {L : List (List UInt8)} (h : TextsC w v L) (hb : Below w.heap.size w w') : TextsC w' v L := by
 obtain ⟨p, cap, hv, hc, ht⟩ := h
 exact ⟨p, cap, hv, hc, ht.below hb⟩
theorem libjoin_any (w : World) (v : Value) (L : List (List UInt8)) (h : TextsC w v L) (hL : L.length ≤ 1000000) (hlen : (join L [32]).length ≤ 10000000) :
  Calls Tryz.prog 234 #[v, .string (bs [32])] w fun e w' => e = .returned (.string (bs (join L [32]))) ∧ Below w.heap.size w w' := by
 obtain ⟨p, cap, rfl, hc, ht⟩ := h
 by_cases h0 : L = []
 ·subst h0
  exact (Any.strings_Join_none Tryz.laysJoin Tryz.extraJoin p cap (bs [32]) w).mono fun e w' ⟨he, hw⟩ => ⟨he, hw ▸ Below.refl _ _⟩
 ·obtain ⟨g, rfl, hg⟩ := ht 0 (List.length_pos_iff.2 h0)
  have hmap : (L.map bs).map (·.data.toList) = L := by
   rw [List.map_map]
   conv => rhs; rw [← List.map_id L]
   apply List.map_congr_left
   intro x _
   exact bs_list x
  have h := Any.strings_Join Tryz.laysJoin Tryz.extraJoin g 0 cap (L.map bs) (bs [32]) w (fun j x hx => by
   simp only [List.getElem?_map, Option.map_eq_some_iff] at hx
   obtain ⟨y, hy, rfl⟩ := hx
   have hj := (List.getElem?_eq_some_iff.1 hy).1
   obtain ⟨g', hg', hc'⟩ := ht j hj
   obtain rfl : g = g' := by simpa using hg'
   rw [Nat.zero_add, hc']
   simp [List.getD, hy]) (World.block_lt_of_cell? _ _ hg) (by rw [List.length_map]; omega) (by rw [List.length_map]; exact hc) (by rw [hmap, bs_list]; omega)
  rw [hmap, bs_list, List.length_map] at h
  exact h
set_option maxRecDepth 100000 in
theorem sjoin_any (w : World) (v : Value) (L : List (List UInt8)) (h : TextsC w v L) (hL : L.length ≤ 1000000) (hlen : (join L [32]).length ≤ 10000000) :
  Calls Tryz.prog 212 #[v] w fun e w' => e = .returned (.string (bs (join L [32]))) ∧ Below w.heap.size w w' := by
 have H := Lib.hid (libjoin_any w v L h hL hlen)
 go_enter Tryz.func212, Tryz.ntmps212
 go_wp2_with fail
 refine H.out.mono ?_
 rintro e w1 ⟨rfl, hb1⟩
 go_wp2_with fail
 go_ret
 exact ⟨rfl, hb1⟩
end
section
open Go.RowKit
theorem txt_len (k n : Int) (h0 : -9223372036854775808 ≤ n) (h1 : n ≤ 9223372036854775807) : (vTxt k n).length ≤ 20 := by
 unfold vTxt
 split
 ·split
  ·exact print_len n h0 h1
  ·split <;> simp
 ·simp
end
section
open Go.RowKit Go.Lib
def ModE (L : List EventM) : Prop := ∀ x ∈ L, x.2.1.length ≤ 1000000 ∧ x.2.2.1.length ≤ 1000000 ∧ NumE x
theorem ModE.at {L : List EventM} (h : ModE L) (k : Nat) (hk : k < L.length) : (L.getD k noEv).2.1.length ≤ 1000000 ∧ (L.getD k noEv).2.2.1.length ≤ 1000000 ∧ NumE (L.getD k noEv) := by
 have : L.getD k noEv = L[k] := by simp [hk]
 rw [this]
 exact h _ (List.getElem_mem hk)
set_option maxRecDepth 100000 in
set_option maxHeartbeats 1000000 in
theorem logmay1_any (x : EventM) (h1 : x.2.1.length ≤ 1000000) (h2 : x.2.2.1.length ≤ 1000000) (w : World) (hT : Lib.Utf8Tabs 1 2 w) :
  Calls Tryz.prog 172 #[evV x] w fun e w' => e = .returned (.bool (!mayE x)) ∧ Below w.heap.size w w' := by
 obtain ⟨k, s, key, vk, n, ln⟩ := x
 have H1 := Lib.hid (fun w' (h : Below w.heap.size w w') => emay_any k s key vk n ln h1 h2 w' (Utf8Tabs_below hT h))
 have hal := (Below.refl w.heap.size w).alloc (Nat.le_refl _) (.cells #[.int .i64 k, .string (bs s), .string (bs key), .int .i64 vk, .int .i64 n, .int .i64 ln] 123)
 have HA := Lib.hid hal
 unfold evV
 dsimp only
 clear hT hal h1 h2
 go_enter Tryz.func172, Tryz.ntmps172
 go_wp2_with fail
 refine (H1.out _ HA.out).mono ?_
 rintro e w1 ⟨rfl, hb1⟩
 go_wp2_with fail
 go_ret
 exact ⟨rfl, below_next HA.out hb1⟩
set_option maxRecDepth 100000 in
set_option maxHeartbeats 2000000 in
theorem evindex_any (v : Value) (L : List EventM) (w : World) (hv : EvsS w v L) (hL : L.length ≤ 1000000) (hM : ModE L) (hT : Lib.Utf8Tabs 1 2 w) :
  Calls Tryz.prog 211 #[v, .func (.func 172) #[] #[]] w fun e w' => ∃ i : Int, e = .returned (.int .i64 i) ∧ decide (0 ≤ i) = !(L.all mayE) ∧ Below w.heap.size w w' := by
 obtain ⟨p, c, rfl, hp⟩ := hv
 have HX := Lib.hid hp
 have en := enters_of Tryz.func172 (by kernel_rfl) rfl
 have HYes : RowKit.Hid (∀ k : Nat, k < L.length → mayE (L.getD k noEv) = false → decide ((0 : Int) ≤ (k : Int)) = !(L.all mayE)) := Lib.hid (fun k hk hf => by
  have : L.all mayE = false := by
   rw [List.all_eq_false]
   refine ⟨L.getD k noEv, ?_, by rw [hf]; exact Bool.false_ne_true⟩
   have : L.getD k noEv = L[k] := by simp [hk]
   rw [this]
   exact List.getElem_mem hk
  rw [this]
  simp)
 have HNo : RowKit.Hid ((∀ k : Nat, k < L.length → mayE (L.getD k noEv) = true) → decide ((0 : Int) ≤ -1) = !(L.all mayE)) := Lib.hid (fun h => by
  have : L.all mayE = true := by
   rw [List.all_eq_true]
   intro x hx
   obtain ⟨k, hk, e⟩ := List.getElem_of_mem hx
   have := h k hk
   simpa [hk, e] using this
  rw [this]
  rfl)
 have HO := Lib.hid (fun k (hk : k < L.length) w' (h : Below w.heap.size w w') => logmay1_any (L.getD k noEv) (hM.at k hk).1 (hM.at k hk).2.1 w' (Utf8Tabs_below hT h))
 generalize (!(L.all mayE)) = R at *
 clear hp hT hM
 go_enter Tryz.func211, Tryz.ntmps211
 go_wp2_with fail
 go_loopw [8] (fun i wr => ∃ k : Nat, k ≤ L.length ∧ i = .int .i64 k ∧ (∀ j, j < k → mayE (L.getD j noEv) = true) ∧ Below w.heap.size w wr) (fun i _ => L.length - (RowKit.intOf i).toNat)
 case atStart => exact ⟨0, Nat.zero_le _, rfl, fun j hj => absurd hj (Nat.not_lt_zero j), Below.refl _ _⟩
 case round =>
  obtain ⟨k, hk, rfl, hn, hbw⟩ := hrel
  have HN := Lib.hid hn
  clear hn
  by_cases hk1 : k < L.length
  ·obtain ⟨g, rfl, hcell⟩ := HX.out k hk1
   have HM := Lib.hid (HO.out k hk1 wr hbw)
   have HY := Lib.hid (HYes.out k hk1)
   have HK : RowKit.Hid (mayE (L.getD k noEv) = true → ∀ j, j < k + 1 → mayE (L.getD j noEv) = true) := Lib.hid (fun h j hj => by
    by_cases hjk : j < k
    ·exact HN.out j hjk
    ·obtain rfl : j = k := by omega
     exact h)
   obtain ⟨b, hb⟩ : ∃ b, mayE (L.getD k noEv) = b := ⟨_, rfl⟩
   rw [hb] at HM HY HK
   obtain ⟨t, ht⟩ : ∃ t, L.getD k noEv = t := ⟨_, rfl⟩
   rw [ht] at HM hcell
   obtain ⟨x1, x2, x3, x4, x5, x6⟩ := t
   have a0 := cell_later hbw (hcell 0 _ rfl)
   have a1 := cell_later hbw (hcell 1 _ rfl)
   have a2 := cell_later hbw (hcell 2 _ rfl)
   have a3 := cell_later hbw (hcell 3 _ rfl)
   have a4 := cell_later hbw (hcell 4 _ rfl)
   have a5 := cell_later hbw (hcell 5 _ rfl)
   simp only [Nat.add_zero] at a0 a1 a2 a3 a4 a5
   unfold evV at HM
   dsimp only at HM
   clear hcell hb ht
   cases b with
   | false =>
    go_wp2_with (first | (go_at_call 172; refine HM.out.mono ?_; rintro e w1 ⟨rfl, hb1⟩))
    go_ret
    exact ⟨_, rfl, HY.out trivial, below_next hbw hb1⟩
   | true =>
    go_wp2_with (first | (go_at_call 172; refine HM.out.mono ?_; rintro e w1 ⟨rfl, hb1⟩))
    go_roundw
    case rel => exact ⟨k + 1, by omega, by go_num, HK.out trivial, below_next hbw hb1⟩
    case measure => simp [RowKit.intOf]; omega
  ·have hke : k = L.length := by omega
   subst hke
   have H1 := Lib.hid (HNo.out HN.out)
   go_wp2_with fail
   go_ret
   exact ⟨_, rfl, H1.out, hbw⟩
set_option maxRecDepth 100000 in
set_option maxHeartbeats 1000000 in
theorem evcontains_any (v : Value) (L : List EventM) (w : World) (hv : EvsS w v L) (hL : L.length ≤ 1000000) (hM : ModE L) (hT : Lib.Utf8Tabs 1 2 w) :
  Calls Tryz.prog 171 #[v, .func (.func 172) #[] #[]] w fun e w' => e = .returned (.bool (!(L.all mayE))) ∧ Below w.heap.size w w' := by
 have H1 := Lib.hid (evindex_any v L w hv hL hM hT)
 generalize (!(L.all mayE)) = R at *
 clear hv hL hM hT
 go_enter Tryz.func171, Tryz.ntmps171
 go_wp2_with fail
 refine H1.out.mono ?_
 rintro e w1 ⟨i, rfl, hi, hb1⟩
 have HI := Lib.hid hi
 clear hi
 go_wp2_with fail
 go_ret
 refine ⟨?_, hb1⟩
 rw [← HI.out]
 rfl
end
section
open Go.RowKit Go.Lib
theorem textsC_two (W : World) (a b : List UInt8) (t : TypeId) : TextsC (W.alloc (.cells #[.string (bs a), .string (bs b)] t)) (.slice (some ⟨W.heap.size, 0, none⟩) 2 2) [a, b] := by
 refine ⟨_, 2, rfl, Nat.le_refl _, fun j hj => ⟨_, rfl, ?_⟩⟩
 rw [cell_of_row _ W.heap.size j _ _ (0, 0) (heap_alloc_new W _)]
 match j, hj with
 | 0, _ => rfl
 | 1, _ => rfl
theorem textsC_four (W : World) (a b c d : List UInt8) (t : TypeId) : TextsC (W.alloc (.cells #[.string (bs a), .string (bs b), .string (bs c), .string (bs d)] t)) (.slice (some ⟨W.heap.size, 0, none⟩) 4 4) [a, b, c, d] := by
 refine ⟨_, 4, rfl, Nat.le_refl _, fun j hj => ⟨_, rfl, ?_⟩⟩
 rw [cell_of_row _ W.heap.size j _ _ (0, 0) (heap_alloc_new W _)]
 match j, hj with
 | 0, _ => rfl
 | 1, _ => rfl
 | 2, _ => rfl
 | 3, _ => rfl
theorem kindW_len (k : Int) : (kindW k).length ≤ 5 := by
 unfold kindW
 (repeat' split) <;> simp
theorem may_range (x : EventM) (h : mayE x = true) : 1 ≤ x.1 ∧ x.1 ≤ 6 := by
 unfold mayE at h
 simp only [Bool.and_eq_true, decide_eq_true_eq] at h
 exact ⟨h.1, h.2.1⟩
theorem join2_len (a b : List UInt8) : (join [a, b] [32]).length = a.length + b.length + 1 := by
 rw [join_two, join_one]
 simp
 omega
theorem join4_len (a b c d : List UInt8) : (join [a, b, c, d] [32]).length = a.length + b.length + c.length + d.length + 3 := by
 rw [join_two, join_two, join_two, join_one]
 simp
 omega
set_option maxRecDepth 100000 in
set_option maxHeartbeats 4000000 in
theorem eprint_any (k : Int) (s key : List UInt8) (vk n ln : Int) (hs : s.length ≤ 1000000) (hk : key.length ≤ 1000000) (h0 : -9223372036854775808 ≤ n) (h1 : n ≤ 9223372036854775807) (w : World) (hT : Lib.Utf8Tabs 1 2 w) (hE : EvTab w) :
  Calls Tryz.prog 174 #[.agg #[.int .i64 k, .string (bs s), .string (bs key), .int .i64 vk, .int .i64 n, .int .i64 ln]] w fun e w' => e = .returned (.tuple #[.string (bs (lineE (k, s, key, vk, n, ln))), .int .i64 (errE (k, s, key, vk, n, ln))]) ∧ Below w.heap.size w w' := by
 have HM := Lib.hid (fun w' (h : Below w.heap.size w w') => emay_any k s key vk n ln hs hk w' (Utf8Tabs_below hT h))
 have HV := Lib.hid (fun w' (_ : Below w.heap.size w w') => vprint_any vk n h0 h1 w')
 have HE := Lib.hid (fun w' (h : Below w.heap.size w w') => hE.below h)
 have tl := txt_len vk n h0 h1
 clear hT hE h0 h1
 cases hm : mayE (k, s, key, vk, n, ln) with
 | false =>
  have HLine : RowKit.Hid (lineE (k, s, key, vk, n, ln) = []) := Lib.hid (by unfold lineE; rw [hm]; rfl)
  have HErr : RowKit.Hid (errE (k, s, key, vk, n, ln) = 4) := Lib.hid (by unfold errE; rw [hm]; rfl)
  rw [hm] at HM
  clear hm tl
  go_enter Tryz.func174, Tryz.ntmps174
  go_wp2_with (fail)
  refine (HM.out _ bel).mono ?_
  rintro e w1 ⟨rfl, hb1⟩
  obtain ⟨hc1, hf1⟩ := bcell hb1
  have hz1 := hb1.size
  try simp at hz1
  have hl1_0 : w.heap.size < w1.heap.size := by omega
  go_wp2_with fail
  go_ret2
  exact ⟨by rw [HLine.out, HErr.out]; rfl, bel⟩
 | true =>
  have hr := may_range _ hm
  obtain ⟨i, rfl⟩ := Int.eq_ofNat_of_zero_le (show (0 : Int) ≤ k by have := hr.1; simp only at this; omega)
  have hi1 : 1 ≤ i := by have := hr.1; simp only at this; omega
  have hi6 : i ≤ 6 := by have := hr.2; simp only at this; omega
  have HErr : RowKit.Hid (errE ((i : Int), s, key, vk, n, ln) = 0) := Lib.hid (by unfold errE; rw [hm]; rfl)
  have hkl := kindW_len (i : Int)
  cases hl : longK (i : Int) with
  | false =>
   have HLine : RowKit.Hid (lineE ((i : Int), s, key, vk, n, ln) = join [kindW (i : Int), s] [32]) := Lib.hid (by unfold lineE wordsE; rw [hm, if_pos rfl, hl]; rfl)
   have HLen := Lib.hid (show (join [kindW (i : Int), s] [32]).length ≤ 10000000 by rw [join2_len]; omega)
   have HL := Lib.hid (long_any (i : Int))
   rw [hm] at HM
   rw [hl] at HL
   clear hm hl hr tl hkl
   go_enter Tryz.func174, Tryz.ntmps174
   go_wp2_with (fail)
   refine (HM.out _ bel).mono ?_
   rintro e w1 ⟨rfl, hb1⟩
   obtain ⟨hc1, hf1⟩ := bcell hb1
   have hz1 := hb1.size
   try simp at hz1
   have hl1_0 : w.heap.size < w1.heap.size := by omega
   have q0 : w1.cell? ⟨w.heap.size, 0, none⟩ = some (.int .i64 (i : Int)) := by go_simp
   have q1 : w1.cell? ⟨w.heap.size, 1, none⟩ = some (.string (bs s)) := by go_simp
   have hbx : Below w.heap.size w w1 := bel
   go_wp2_with fail
   refine (HL.out _).mono ?_
   rintro e wl ⟨rfl, rfl⟩
   go_wp2_with fail
   have HS : RowKit.Hid (∀ w', Below w1.heap.size w1 w' → (w'.cell? ⟨w.heap.size, 0, none⟩ = some (.int .i64 (i : Int)) ∧ w'.cell? ⟨w.heap.size, 1, none⟩ = some (.string (bs s)) ∧ w'.cell? ⟨0, i, none⟩ = some (.string (bs (kindW i))) ∧ Below w1.heap.size w1 w')) := Lib.hid (fun w' hb => ⟨cell_later hb q0, cell_later hb q1, cell_later hb (HE.out _ hbx i (by omega)), hb⟩)
   have hi0 : (0 : Int) ≤ (i : Int) := by omega
   have hi7 : (i : Int) < 7 := by omega
   go_region_held3 (fun w' => w'.cell? ⟨w.heap.size, 0, none⟩ = some (.int .i64 (i : Int)) ∧ w'.cell? ⟨w.heap.size, 1, none⟩ = some (.string (bs s)) ∧ w'.cell? ⟨0, i, none⟩ = some (.string (bs (kindW i))) ∧ Below w1.heap.size w1 w')
    ((go_split_ands; exact HS.out _ bel))
    ((go_split_ands; first
     | (go_at_call 212; refine (sjoin_any _ _ [kindW (i : Int), s] (by first | exact textsC_two _ _ _ _ | exact textsC_four _ _ _ _ _ _) (by simp) HLen.out).mono ?_; rintro e w9 ⟨rfl, hb9⟩)))
   all_goals
    go_split_ands
    go_wp2_with fail
    go_ret2
    exact ⟨by rw [HLine.out, HErr.out]; rfl, bel⟩
  | true =>
   have HLine : RowKit.Hid (lineE ((i : Int), s, key, vk, n, ln) = join [kindW (i : Int), s, key, vTxt vk n] [32]) := Lib.hid (by unfold lineE wordsE; rw [hm, if_pos rfl, hl]; rfl)
   have HLen := Lib.hid (show (join [kindW (i : Int), s, key, vTxt vk n] [32]).length ≤ 10000000 by rw [join4_len]; omega)
   have HL := Lib.hid (long_any (i : Int))
   rw [hm] at HM
   rw [hl] at HL
   clear hm hl hr tl hkl
   go_enter Tryz.func174, Tryz.ntmps174
   go_wp2_with (fail)
   refine (HM.out _ bel).mono ?_
   rintro e w1 ⟨rfl, hb1⟩
   obtain ⟨hc1, hf1⟩ := bcell hb1
   have hz1 := hb1.size
   try simp at hz1
   have hl1_0 : w.heap.size < w1.heap.size := by omega
   have q0' : w1.cell? ⟨w.heap.size, 0, none⟩ = some (.int .i64 (i : Int)) := by go_simp
   have q1' : w1.cell? ⟨w.heap.size, 1, none⟩ = some (.string (bs s)) := by go_simp
   have q2' : w1.cell? ⟨w.heap.size, 2, none⟩ = some (.string (bs key)) := by go_simp
   go_wp2_with fail
   refine (HL.out _).mono ?_
   rintro e wl ⟨rfl, rfl⟩
   go_wp2_with (fail)
   refine (HV.out _ bel).mono ?_
   rintro e w2 ⟨rfl, hb2⟩
   obtain ⟨hc2, hf2⟩ := bcell hb2
   have hz2 := hb2.size
   try simp at hz2
   have hl2_0 : w.heap.size < w2.heap.size := by omega
   have q0 := cell_later hb2 q0'
   have q1 := cell_later hb2 q1'
   have q2 := cell_later hb2 q2'
   have hbx : Below w.heap.size w w2 := bel
   clear q0' q1' q2'
   go_wp2_with fail
   have HS : RowKit.Hid (∀ w', Below w2.heap.size w2 w' → (w'.cell? ⟨w.heap.size, 0, none⟩ = some (.int .i64 (i : Int)) ∧ w'.cell? ⟨w.heap.size, 1, none⟩ = some (.string (bs s)) ∧ w'.cell? ⟨0, i, none⟩ = some (.string (bs (kindW i))) ∧ w'.cell? ⟨w.heap.size, 2, none⟩ = some (.string (bs key)) ∧ Below w2.heap.size w2 w')) := Lib.hid (fun w' hb => ⟨cell_later hb q0, cell_later hb q1, cell_later hb (HE.out _ hbx i (by omega)), cell_later hb q2, hb⟩)
   have hi0 : (0 : Int) ≤ (i : Int) := by omega
   have hi7 : (i : Int) < 7 := by omega
   go_region_held3 (fun w' => w'.cell? ⟨w.heap.size, 0, none⟩ = some (.int .i64 (i : Int)) ∧ w'.cell? ⟨w.heap.size, 1, none⟩ = some (.string (bs s)) ∧ w'.cell? ⟨0, i, none⟩ = some (.string (bs (kindW i))) ∧ w'.cell? ⟨w.heap.size, 2, none⟩ = some (.string (bs key)) ∧ Below w2.heap.size w2 w')
    ((go_split_ands; exact HS.out _ bel))
    ((go_split_ands; first
     | (go_at_call 212; refine (sjoin_any _ _ [kindW (i : Int), s, key, vTxt vk n] (by first | exact textsC_two _ _ _ _ | exact textsC_four _ _ _ _ _ _) (by simp) HLen.out).mono ?_; rintro e w9 ⟨rfl, hb9⟩)))
   all_goals
    go_split_ands
    go_wp2_with fail
    go_ret2
    exact ⟨by rw [HLine.out, HErr.out]; rfl, bel⟩
end
end Go.Proofs.YtmgchjddpmmglaaGreatDoor
