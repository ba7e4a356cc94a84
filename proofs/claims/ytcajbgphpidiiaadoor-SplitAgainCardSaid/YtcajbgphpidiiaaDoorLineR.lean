/-
  The walks of layer 1 (line): the runes ahead of a byte, and a text without blanks, in the program and in its reference; the statement LineRunes. No conditions but that unicode/utf8's two tables are as their initialisers lay them and that internal/bytealg.MaxLen holds a number.
-/
import Derived.Test.YtcajbgphpidiiaaDoorLineL
import Derived.Test.YtcajbgphpidiiaaDoorLineQ
import Derived.Test.YtcajbgphpidiiaaDoorLayT
namespace Go.Proofs.YtcajbgphpidiiaaDoor
open Go.RowKit Go.Lib

/-! ### the runes that begin ahead of a byte -/
def colGo : Nat → List UInt8 → Nat → Int → Nat
  | 0, _, _, _ => 0
  | f + 1, l, p, at' => if p < l.length ∧ (p : Int) < at' then 1 + colGo f l (p + (oneAt l p).2) at' else 0
def colN (l : List UInt8) (p : Nat) (at' : Int) : Nat := colGo (l.length - p) l p at'
theorem colGo_fuel (l : List UInt8) (at' : Int) : ∀ (f g p : Nat), l.length - p ≤ f → l.length - p ≤ g → colGo f l p at' = colGo g l p at'
  | 0, 0, _, _, _ => rfl
  | 0, g + 1, p, hf, _ => by
    unfold colGo
    rw [if_neg (by omega)]
  | f + 1, 0, p, _, hg => by
    unfold colGo
    rw [if_neg (by omega)]
  | f + 1, g + 1, p, hf, hg => by
    unfold colGo
    by_cases h : p < l.length ∧ (p : Int) < at'
    · have hb := one_bounds l p h.1
      rw [if_pos h, if_pos h, colGo_fuel l at' f g (p + (oneAt l p).2) (by omega) (by omega)]
    · rw [if_neg h, if_neg h]
theorem col_step (l : List UInt8) (p : Nat) (at' : Int) (hp : p < l.length) : colN l p at' = if (p : Int) < at' then 1 + colN l (p + (oneAt l p).2) at' else 0 := by
  have hb := one_bounds l p hp
  unfold colN
  obtain ⟨f, hf⟩ : ∃ f, l.length - p = f + 1 := ⟨l.length - p - 1, by omega⟩
  rw [hf]
  by_cases h : (p : Int) < at'
  · rw [if_pos h]
    show (if p < l.length ∧ (p : Int) < at' then _ else _) = _
    rw [if_pos ⟨hp, h⟩, colGo_fuel l at' f _ (p + (oneAt l p).2) (by omega) (Nat.le_refl _)]
  · rw [if_neg h]
    show (if p < l.length ∧ (p : Int) < at' then _ else _) = _
    rw [if_neg (fun x => h x.2)]
theorem col_end (l : List UInt8) (p : Nat) (at' : Int) (hp : l.length ≤ p) : colN l p at' = 0 := by
  unfold colN
  rw [show l.length - p = 0 by omega]
  rfl
theorem col_past (l : List UInt8) (p : Nat) (at' : Int) (h : at' ≤ (p : Int)) : colN l p at' = 0 := by
  by_cases hp : p < l.length
  · rw [col_step l p at' hp, if_neg (by omega)]
  · exact col_end l p at' (by omega)
/-- How many runes of a text begin ahead of a byte; 0 for a text that is no UTF-8. -/
def colT (l : List UInt8) (at' : Int) : Nat := if validD l then colN l 0 at' else 0
theorem valid_at (l : List UInt8) (p : Nat) (hp : p < l.length) (h : validD (l.drop p) = true) : sizeAt l p = (oneAt l p).2 ∧ validD (l.drop (p + (oneAt l p).2)) = true := by
  have hne : l.drop p ≠ [] := by
    intro e
    have := congrArg List.length e
    simp at this
    omega
  have hw := one_bounds l p hp
  rw [validD_step _ hne] at h
  split at h
  · simp at h
  · rename_i hc
    have hs : sizeAt l p = (oneAt l p).2 := by
      unfold sizeAt szD
      exact if_neg hc
    refine ⟨hs, ?_⟩
    rw [List.drop_drop] at h
    exact h

set_option maxRecDepth 100000 in
set_option maxHeartbeats 1000000 in
theorem lcolumn_any (l : List UInt8) (hs : l.length ≤ 1000000) (at' : Int) (w : World) :
    Calls Tryd.prog 36 #[.string (bs l), .int .i64 at'] w fun e w' => e = .returned (.int .i64 (colT l at' : Nat)) ∧ Below w.heap.size w w' := by
  have HC := Lib.hid (lrunes_any l hs)
  have hv := runesN_snd l
  generalize runesN l = N at *
  obtain ⟨N1, N2⟩ := N
  simp only at HC hv
  subst hv
  by_cases hval : validD l = true
  · have e : colT l at' = colN l 0 at' := if_pos hval
    rw [e]
    obtain ⟨R, hR⟩ : ∃ R, colN l 0 at' = R := ⟨_, rfl⟩
    rw [hR]
    have HR := Lib.hid hR
    rw [hval] at HC
    clear hR e hval
    go_enter Tryd.func36, Tryd.ntmps36
    go_wp2_with fail
    refine (HC.out _).mono ?_
    rintro e w1 ⟨rfl, hb1⟩
    go_wp2_with fail
    go_loopw [7] (fun i wr => ∃ p k : Nat, p ≤ l.length ∧ k ≤ p ∧ i = .int .i64 k ∧ wr = w1.iter (bs l) p ∧ k + colN l p at' = R)
      (fun _ wr => l.length - wr.iterPos w1.heap.size)
    case atStart => exact ⟨0, 0, Nat.zero_le _, Nat.le_refl _, rfl, rfl, by rw [HR.out]; omega⟩
    case round =>
      obtain ⟨p, k, hp, hk, rfl, rfl, hr⟩ := hrel
      by_cases hlt : p < l.length
      · have hb := one_bounds l p hlt
        have hnx := lnext_at l p hlt w1
        rw [col_step l p at' hlt] at hr
        have hle : (oneAt l p).1 ≤ 1114111 := decodeL_rune _
        have hpast := col_past l (p + (oneAt l p).2) at'
        obtain ⟨D, hD⟩ : ∃ D, oneAt l p = D := ⟨_, rfl⟩
        rw [hD] at hr hb hnx hle hpast
        clear hD
        by_cases hat : (p : Int) < at'
        · rw [if_pos hat] at hr
          have H2 := Lib.hid hr
          clear hr hpast
          go_wp2_with fail
          go_roundw
          case rel => exact ⟨p + D.2, k + 1, hb.2, by omega, by go_num, rfl, by have := H2.out; omega⟩
          case measure => simp; omega
        · rw [if_neg hat] at hr
          have H2 := Lib.hid (hpast (by omega))
          have hat' : at' ≤ (p : Int) := by omega
          clear hpast hat
          go_wp2_with fail
          go_roundw
          case rel => exact ⟨p + D.2, k, hb.2, by omega, rfl, rfl, by rw [H2.out]; exact hr⟩
          case measure => simp; omega
      · have hnx := fun ty => run_next_end (P := Tryd.prog) w1 (bs l) p ty (by rw [bs_size]; exact hlt)
        rw [col_end l p at' (by omega)] at hr
        have HS := Lib.hid hr
        clear hr
        go_wp2_with fail
        go_ret
        rw [← HS.out]
        exact ⟨rfl, below_next hb1 (liter_below _ _ _)⟩
  · have e : colT l at' = 0 := if_neg hval
    have hval' : validD l = false := by simpa using hval
    rw [e]
    rw [hval'] at HC
    clear e hval hval'
    go_enter Tryd.func36, Tryd.ntmps36
    go_wp2_with fail
    refine (HC.out _).mono ?_
    rintro e w1 ⟨rfl, hb1⟩
    go_wp2_with fail
    go_ret
    exact ⟨rfl, hb1⟩

set_option maxRecDepth 100000 in
set_option maxHeartbeats 1000000 in
theorem rcolumn_any (l : List UInt8) (hs : l.length ≤ 1000000) (at' : Int) (w : World) :
    Calls Tryd.prog 37 #[.string (bs l), .int .i64 at'] w fun e w' => e = .returned (.int .i64 (colT l at' : Nat)) ∧ w = w' := by
  have HC := Lib.hid (rrunes_any l hs)
  have hv := runesN_snd l
  generalize runesN l = N at *
  obtain ⟨N1, N2⟩ := N
  simp only at HC hv
  subst hv
  by_cases hval : validD l = true
  · have e : colT l at' = colN l 0 at' := if_pos hval
    rw [e]
    obtain ⟨R, hR⟩ : ∃ R, colN l 0 at' = R := ⟨_, rfl⟩
    rw [hR]
    have HR := Lib.hid hR
    have HV := Lib.hid hval
    rw [hval] at HC
    clear e hval
    by_cases hneg : at' < 0
    · rw [col_past l 0 at' (by omega)] at hR
      have H2 := Lib.hid hR
      clear hR
      go_enter Tryd.func37, Tryd.ntmps37
      go_wp2_with fail
      refine (HC.out _).mono ?_
      rintro e w1 ⟨rfl, rfl⟩
      go_wp2_with fail
      go_ret
      rw [← H2.out]
      exact ⟨rfl, rfl⟩
    · have hneg' : 0 ≤ at' := by omega
      clear hR hneg
      go_enter Tryd.func37, Tryd.ntmps37
      go_wp2_with fail
      refine (HC.out _).mono ?_
      rintro e w1 ⟨rfl, rfl⟩
      go_wp2_with fail
      go_loop [7, 8] (fun n i => ∃ p k : Nat, p ≤ l.length ∧ k ≤ p ∧ i = .int .i64 p ∧ n = .int .i64 k ∧ validD (l.drop p) = true ∧ k + colN l p at' = R) (fun _ i => l.length - (RowKit.intOf i).toNat)
      case atStart => exact ⟨0, 0, Nat.zero_le _, Nat.le_refl _, rfl, rfl, HV.out, by rw [HR.out]; omega⟩
      case round =>
        obtain ⟨p, k, hp, hk, rfl, rfl, hv, hr⟩ := hrel
        by_cases hlt : p < l.length
        · have hb := one_bounds l p hlt
          obtain ⟨v1, v2⟩ := valid_at l p hlt hv
          have HZ := Lib.hid (size_any l p hlt (by omega))
          rw [col_step l p at' hlt] at hr
          rw [v1] at HZ
          obtain ⟨D, hD⟩ : ∃ D, (oneAt l p).2 = D := ⟨_, rfl⟩
          rw [hD] at hr hb HZ v2
          have HV2 := Lib.hid v2
          clear hD v1 v2 hv
          by_cases hat : (p : Int) < at'
          · rw [if_pos hat] at hr
            have H2 := Lib.hid hr
            clear hr
            go_wp2_with fail
            refine (HZ.out _).mono ?_
            rintro e w1 ⟨rfl, rfl⟩
            go_wp2_with fail
            go_round
            case rel => exact ⟨p + D, k + 1, hb.2, by omega, by go_num, by go_num, HV2.out, by have := H2.out; omega⟩
            case measure => simp [RowKit.intOf]; omega
          · rw [if_neg hat] at hr
            have H2 := Lib.hid hr
            have hat' : at' ≤ (p : Int) := by omega
            clear hr hat
            go_wp2_with fail
            go_ret
            rw [← H2.out]
            exact ⟨rfl, rfl⟩
        · rw [col_end l p at' (by omega)] at hr
          have HS := Lib.hid hr
          clear hr
          go_wp2_with fail
          go_ret
          rw [← HS.out]
          exact ⟨rfl, rfl⟩
  · have e : colT l at' = 0 := if_neg hval
    have hval' : validD l = false := by simpa using hval
    rw [e]
    rw [hval'] at HC
    clear e hval hval'
    go_enter Tryd.func37, Tryd.ntmps37
    go_wp2_with fail
    refine (HC.out _).mono ?_
    rintro e w1 ⟨rfl, rfl⟩
    go_wp2_with fail
    go_ret
    exact ⟨rfl, rfl⟩

/-! ### blanks -/
set_option maxRecDepth 100000 in
theorem lblank_any (c : Nat) (w : World) :
    Calls Tryd.prog 60 #[.int .i32 c] w fun e w' => e = .returned (.bool (blankR c)) ∧ w = w' := by
  go_enter Tryd.func60, Tryd.ntmps60
  go_wp2
  all_goals
    go_ret
    refine ⟨?_, rfl⟩
    unfold blankR
    refine congrArg (fun b => Ending.returned (Value.bool b)) ?_
    rw [Bool.eq_iff_iff]
    simp
    try omega
set_option maxRecDepth 100000 in
theorem rblank_any (b : UInt8) (w : World) :
    Calls Tryd.prog 61 #[.int .u8 b.toNat] w fun e w' => e = .returned (.bool (blankB b)) ∧ w = w' := by
  go_enter Tryd.func61, Tryd.ntmps61
  go_wp2
  all_goals
    go_ret
    refine ⟨?_, rfl⟩
    unfold blankB blankR
    refine congrArg (fun b => Ending.returned (Value.bool b)) ?_
    rw [Bool.eq_iff_iff]
    simp
    try omega
theorem blank_enters : ∀ args w, (callFunc 60 args).run Tryd.prog w = .ok (.enter 60 args) w := enters_of Tryd.func60 (by kernel_rfl) rfl
theorem trimfunc_any (l : List UInt8) (hs : l.length ≤ 1000000) (w : World) (hT : Lib.Utf8Tabs 0 1 w) :
    Calls Tryd.prog 59 #[.string (bs l), .func (.func 60) #[] #[]] w fun e w' => e = .returned (.string (bs (strR (strL l)))) ∧ Below w.heap.size w w' := by
  have h := Any.strings_TrimFunc Tryd.laysTrimFunc 60 #[] blank_enters blankR (bs l) w (by rw [bs_size]; omega) hT (fun W x _ => (lblank_any x W).mono fun e w' ⟨he, hw⟩ => ⟨he, 0, hw.symm⟩)
  rw [trim_eq] at h
  exact h
set_option maxRecDepth 100000 in
theorem ltrim_any (l : List UInt8) (hs : l.length ≤ 1000000) (w : World) (hT : Lib.Utf8Tabs 0 1 w) :
    Calls Tryd.prog 38 #[.string (bs l)] w fun e w' => e = .returned (.string (bs (strR (strL l)))) ∧ Below w.heap.size w w' := by
  have H := Lib.hid (trimfunc_any l hs w hT)
  go_enter Tryd.func38, Tryd.ntmps38
  go_wp2_with fail
  refine H.out.mono ?_
  rintro e w1 ⟨rfl, hb1⟩
  go_wp2_with fail
  go_ret
  exact ⟨rfl, hb1⟩
theorem strL_at (x : List UInt8) (h : 0 < x.length) : strL x = if blankB x[0] then strL (x.drop 1) else x := by
  cases x with
  | nil => simp at h
  | cons b t => exact strL_cons b t
theorem strR_at (x : List UInt8) (h : 0 < x.length) : strR x = if blankB x[x.length - 1] then strR (x.take (x.length - 1)) else x := by
  rcases snoc_cases x with h0 | ⟨t, b, rfl⟩
  · rw [h0] at h; simp at h
  · rw [strR_snoc]
    simp

set_option maxRecDepth 100000 in
set_option maxHeartbeats 1000000 in
theorem rtrim_any (l : List UInt8) (hs : l.length ≤ 1000000) (w : World) :
    Calls Tryd.prog 39 #[.string (bs l)] w fun e w' => e = .returned (.string (bs (strR (strL l)))) ∧ w = w' := by
  obtain ⟨R, hR⟩ : ∃ R, strL l = R := ⟨_, rfl⟩
  rw [hR]
  have HR := Lib.hid hR
  clear hR
  obtain ⟨S, hS⟩ : ∃ S, strR R = S := ⟨_, rfl⟩
  rw [hS]
  have HS := Lib.hid hS
  clear hS
  go_enter Tryd.func39, Tryd.ntmps39
  go_wp2_with fail
  go_loop [0] (fun v => ∃ x : List UInt8, v = .string (bs x) ∧ x.length ≤ 1000000 ∧ strL x = R) (fun v => (match v with | .string s => s.size | _ => 0))
  case atStart => exact ⟨l, rfl, hs, HR.out⟩
  case round =>
    obtain ⟨x, rfl, hx, hr⟩ := hrel
    by_cases h0 : 0 < x.length
    · rw [strL_at x h0] at hr
      have HB := Lib.hid (rblank_any x[0])
      by_cases hb : blankB x[0] = true
      · rw [if_pos hb] at hr
        rw [hb] at HB
        have H2 := Lib.hid hr
        clear hr hb
        go_wp2_with fail
        refine (HB.out _).mono ?_
        rintro e w1 ⟨rfl, rfl⟩
        go_wp2_with fail
        refine ⟨⟨x.drop 1, ?_, by rw [List.length_drop]; omega, H2.out⟩, ?_⟩
        · rw [List.take_of_length_le (by rw [List.length_tail]; omega), List.drop_one]
        · simp only [bs_size, List.length_take, List.length_tail]
          omega
      · rw [if_neg hb] at hr
        have hb' : blankB x[0] = false := by simpa using hb
        rw [hb'] at HB
        subst hr
        clear hb hb'
        go_wp2_with fail
        refine (HB.out _).mono ?_
        rintro e w1 ⟨rfl, rfl⟩
        go_wp2_with fail
        go_loop [0] (fun v => ∃ y : List UInt8, v = .string (bs y) ∧ y.length ≤ 1000000 ∧ strR y = S) (fun v => (match v with | .string s => s.size | _ => 0))
        case atStart => exact ⟨x, rfl, hx, HS.out⟩
        case round =>
          obtain ⟨y, rfl, hy, hr2⟩ := hrel
          by_cases k0 : 0 < y.length
          · rw [strR_at y k0] at hr2
            have HB2 := Lib.hid (rblank_any y[y.length - 1])
            by_cases hb2 : blankB y[y.length - 1] = true
            · rw [if_pos hb2] at hr2
              rw [hb2] at HB2
              have H3 := Lib.hid hr2
              clear hr2 hb2
              go_wp2_with fail
              refine (HB2.out _).mono ?_
              rintro e w1 ⟨rfl, rfl⟩
              go_wp2_with fail
              refine ⟨⟨y.take (y.length - 1), rfl, by rw [List.length_take]; omega, H3.out⟩, ?_⟩
              simp only [bs_size, List.length_take]
              omega
            · rw [if_neg hb2] at hr2
              have hb3 : blankB y[y.length - 1] = false := by simpa using hb2
              rw [hb3] at HB2
              have H3 := Lib.hid hr2
              clear hr2 hb2 hb3
              go_wp2_with fail
              refine (HB2.out _).mono ?_
              rintro e w1 ⟨rfl, rfl⟩
              go_wp2_with fail
              go_ret
              exact ⟨by rw [← H3.out]; rfl, rfl⟩
          · have hy0 : y = [] := List.eq_nil_of_length_eq_zero (by omega)
            subst hy0
            have H3 := Lib.hid hr2
            clear hr2
            go_wp2_with fail
            go_ret
            rw [← H3.out]
            exact ⟨rfl, rfl⟩
    · have hx0 : x = [] := List.eq_nil_of_length_eq_zero (by omega)
      subst hx0
      have hr2 : R = [] := hr.symm
      subst hr2
      have H0 := HS
      go_wp2_with fail
      go_loop [0] (fun v => ∃ y : List UInt8, v = .string (bs y) ∧ y.length ≤ 1000000 ∧ strR y = S) (fun v => (match v with | .string s => s.size | _ => 0))
      case atStart => exact ⟨[], rfl, by simp, H0.out⟩
      case round =>
        obtain ⟨y, rfl, hy, hr2⟩ := hrel
        by_cases k0 : 0 < y.length
        · rw [strR_at y k0] at hr2
          have HB2 := Lib.hid (rblank_any y[y.length - 1])
          by_cases hb2 : blankB y[y.length - 1] = true
          · rw [if_pos hb2] at hr2
            rw [hb2] at HB2
            have H3 := Lib.hid hr2
            clear hr2 hb2
            go_wp2_with fail
            refine (HB2.out _).mono ?_
            rintro e w1 ⟨rfl, rfl⟩
            go_wp2_with fail
            refine ⟨⟨y.take (y.length - 1), rfl, by rw [List.length_take]; omega, H3.out⟩, ?_⟩
            simp only [bs_size, List.length_take]
            omega
          · rw [if_neg hb2] at hr2
            have hb3 : blankB y[y.length - 1] = false := by simpa using hb2
            rw [hb3] at HB2
            have H3 := Lib.hid hr2
            clear hr2 hb2 hb3
            go_wp2_with fail
            refine (HB2.out _).mono ?_
            rintro e w1 ⟨rfl, rfl⟩
            go_wp2_with fail
            go_ret
            exact ⟨by rw [← H3.out]; rfl, rfl⟩
        · have hy0 : y = [] := List.eq_nil_of_length_eq_zero (by omega)
          subst hy0
          have H3 := Lib.hid hr2
          clear hr2
          go_wp2_with fail
          go_ret
          rw [← H3.out]
          exact ⟨rfl, rfl⟩

set_option maxRecDepth 100000 in
set_option maxHeartbeats 1000000 in
theorem linerunes_any (l : List UInt8) (hs : l.length ≤ 9223372036854775807) (at' : Int) (w : World) (hT : Lib.Utf8Tabs 0 1 w) (hm : HasMax w) :
    Calls Tryd.prog 10 #[.string (bs l), .int .i64 at'] w fun e w' => e = .returned (.bool true) ∧ Below w.heap.size w w' := by
  have HS := Lib.hid (lshort_any l hs)
  have HM := Lib.hid hm
  have HT := Lib.hid hT
  clear hs hm hT
  go_enter Tryd.func10, Tryd.ntmps10
  go_wp2_with fail
  refine (HS.out _).mono ?_
  rintro e w' ⟨x, rfl, hx, rfl⟩
  have H1 := Lib.hid (lrunes_any x (by omega))
  have H2 := Lib.hid (rrunes_any x (by omega))
  have H3 := Lib.hid (lcolumn_any x (by omega) at')
  have H4 := Lib.hid (rcolumn_any x (by omega) at')
  have H5 := Lib.hid (ltrim_any x (by omega))
  have H6 := Lib.hid (rtrim_any x (by omega))
  generalize runesN x = R at *
  generalize colT x at' = C at *
  generalize strR (strL x) = T at *
  obtain ⟨R1, R2⟩ := R
  clear hx
  go_wp2_with fail
  refine (H1.out _).mono ?_
  rintro e w1 ⟨rfl, hb1⟩
  go_wp2_with fail
  refine (H2.out _).mono ?_
  rintro e w' ⟨rfl, rfl⟩
  go_wp2_with fail
  refine (H3.out _).mono ?_
  rintro e w2 ⟨rfl, hb2⟩
  have hb12 := below_next hb1 hb2
  go_wp2_with fail
  refine (H4.out _).mono ?_
  rintro e w' ⟨rfl, rfl⟩
  have HT2 := Lib.hid (Utf8Tabs_below HT.out hb12)
  clear hb1 hb2
  go_wp2_with fail
  refine (H5.out _ HT2.out).mono ?_
  rintro e w3 ⟨rfl, hb3⟩
  have hb13 := below_next hb12 hb3
  go_wp2_with fail
  refine (H6.out _).mono ?_
  rintro e w' ⟨rfl, rfl⟩
  have HM3 := Lib.hid (HM.out.below hb13)
  clear hb12 hb3
  go_wp2_with fail
  refine (lworks_any _ HM3.out).mono ?_
  rintro e w4 ⟨rfl, hb4⟩
  go_wp2_with fail
  go_ret
  exact ⟨rfl, below_next hb13 hb4⟩
end Go.Proofs.YtcajbgphpidiiaaDoor
