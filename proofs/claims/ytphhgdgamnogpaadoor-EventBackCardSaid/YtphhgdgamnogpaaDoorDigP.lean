/-
  Plain law of layer 3 (digit): a number's decimal text, the number of a text; they undo one another. No program in sight.
-/
namespace Go.Proofs.YtphhgdgamnogpaaDoor

/-- Is a byte a digit? -/
def isDig (c : UInt8) : Bool := 48 ≤ c.toNat && c.toNat ≤ 57
/-- The decimal digits of a natural number. -/
def decL (m : Nat) : List UInt8 := if m < 10 then [UInt8.ofNat (48 + m)] else decL (m / 10) ++ [UInt8.ofNat (48 + m % 10)]
termination_by m
/-- A number's text. -/
def printL (n : Int) : List UInt8 := if n < 0 then 45 :: decL n.natAbs else decL n.natAbs
/-- The number that digits spell. -/
def valL (t : List UInt8) : Nat := t.foldl (fun a c => a * 10 + (c.toNat - 48)) 0
/-- Is a text, behind its sign, as a number's is? -/
def digT (t : List UInt8) (neg : Bool) : Bool := !t.isEmpty && !(t.head? == some 48 && (neg || decide (1 < t.length))) && t.all isDig
/-- Does a text begin with a minus sign? -/
def negL (s : List UInt8) : Bool := s.head? == some 45
/-- What stands behind the sign. -/
def restL (s : List UInt8) : List UInt8 := if negL s then s.tail else s
def digL (s : List UInt8) : Bool := digT (restL s) (negL s)
/-- One digit more, below zero; nothing where that is too much. -/
def stepP (acc : Option Int) (c : UInt8) : Option Int := acc.bind fun n =>
  if n < -922337203685477580 ∨ (n = -922337203685477580 ∧ (8 : Int) < (c.toNat - 48 : Nat)) then none else some (n * 10 - (c.toNat - 48 : Nat))
def foldP (t : List UInt8) : Option Int := t.foldl stepP (some 0)
/-- A text's number, and the error. -/
def parseL (s : List UInt8) : Int × Int :=
  if digL s then
    match foldP (restL s) with
    | none => (0, 8)
    | some n => if negL s then (n, 0) else if n = -9223372036854775808 then (0, 8) else (-n, 0)
  else (0, 5)

theorem foldP_snoc (t : List UInt8) (c : UInt8) : foldP (t ++ [c]) = stepP (foldP t) c := by simp [foldP]
theorem valL_snoc (t : List UInt8) (c : UInt8) : valL (t ++ [c]) = valL t * 10 + (c.toNat - 48) := by simp [valL]

theorem snoc_ind {P : List UInt8 → Prop} (h0 : P []) (h1 : ∀ t c, P t → P (t ++ [c])) (t : List UInt8) : P t := by
  have : ∀ l : List UInt8, P l.reverse := by
    intro l
    induction l with
    | nil => exact h0
    | cons c l ih => rw [List.reverse_cons]; exact h1 _ _ ih
  simpa using this t.reverse

theorem isDig_iff (c : UInt8) : isDig c = true ↔ 48 ≤ c.toNat ∧ c.toNat ≤ 57 := by simp [isDig]

theorem foldP_spec (t : List UInt8) (h : t.all isDig = true) : foldP t = if valL t ≤ 9223372036854775808 then some (-(valL t : Int)) else none := by
  induction t using snoc_ind with
  | h0 => simp [foldP, valL]
  | h1 t c ih =>
    simp only [List.all_append, List.all_cons, List.all_nil, Bool.and_true, Bool.and_eq_true] at h
    obtain ⟨h1, h2⟩ := h
    have hc := (isDig_iff c).1 h2
    rw [foldP_snoc, ih h1, valL_snoc]
    by_cases hv : valL t ≤ 9223372036854775808
    · rw [if_pos hv]
      simp only [stepP, Option.bind_some]
      by_cases hs : valL t * 10 + (c.toNat - 48) ≤ 9223372036854775808
      · rw [if_pos hs, if_neg (by omega)]; congr 1; omega
      · rw [if_neg hs, if_pos (by omega)]
    · rw [if_neg hv, if_neg (by omega)]; rfl

theorem toNat_dig (m : Nat) (h : m < 10) : (UInt8.ofNat (48 + m)).toNat = 48 + m := by
  simp [UInt8.toNat_ofNat]; omega

theorem decL_all (m : Nat) : (decL m).all isDig = true := by
  induction m using Nat.strongRecOn with
  | _ m ih =>
    rw [decL]
    split
    · rename_i h; simp [isDig_iff]; omega
    · rename_i h
      simp only [List.all_append, ih (m / 10) (by omega), List.all_cons, List.all_nil, Bool.and_true, Bool.true_and]
      rw [isDig_iff, toNat_dig _ (by omega)]; omega
theorem decL_val (m : Nat) : valL (decL m) = m := by
  induction m using Nat.strongRecOn with
  | _ m ih =>
    rw [decL]
    split
    · rename_i h; simp only [valL, List.foldl_cons, List.foldl_nil, toNat_dig m h]; omega
    · rename_i h
      rw [valL_snoc, ih (m / 10) (by omega), toNat_dig _ (by omega)]; omega
theorem decL_ne (m : Nat) : decL m ≠ [] := by
  rw [decL]; split <;> simp
theorem decL_head (m : Nat) (hm : 0 < m) : (decL m).head? ≠ some 48 := by
  induction m using Nat.strongRecOn with
  | _ m ih =>
    rw [decL]
    split
    · rename_i h
      simp only [List.head?_cons, ne_eq, Option.some.injEq]
      intro e
      have := congrArg UInt8.toNat e
      rw [toNat_dig m h] at this
      simp at this; omega
    · rename_i h
      have h1 := ih (m / 10) (by omega) (by omega)
      have h2 := decL_ne (m / 10)
      cases hd : decL (m / 10) with
      | nil => exact absurd hd h2
      | cons a l => rw [hd] at h1; simpa using h1
theorem decL_zero : decL 0 = [48] := by rw [decL]; simp

theorem digT_dec (m : Nat) (neg : Bool) (h : neg = true → 0 < m) : digT (decL m) neg = true := by
  unfold digT
  rw [decL_all]
  have hne : (decL m).isEmpty = false := by simpa using decL_ne m
  rw [hne]
  by_cases hm : m = 0
  · subst hm
    have : neg = false := by
      cases neg
      · rfl
      · exact absurd (h rfl) (by omega)
    rw [decL_zero, this]; rfl
  · have := decL_head m (by omega)
    have e : ((decL m).head? == some 48) = false := by simpa using this
    rw [e]; rfl

theorem dig_ne45 {c : UInt8} (h : isDig c = true) : c ≠ 45 := by
  intro e; subst e; simp [isDig] at h
theorem negL_print (n : Int) : negL (printL n) = decide (n < 0) := by
  unfold printL
  split
  · rename_i h; simp [negL, h]
  · rename_i h
    have h2 := decL_all n.natAbs
    cases hd : decL n.natAbs with
    | nil => exact absurd hd (decL_ne _)
    | cons a l =>
      rw [hd] at h2
      simp only [List.all_cons, Bool.and_eq_true] at h2
      have := dig_ne45 h2.1
      have e2 : decide (n < 0) = false := by simpa using h
      rw [e2]; simp [negL, this]
theorem restL_print (n : Int) : restL (printL n) = decL n.natAbs := by
  unfold restL
  rw [negL_print]
  by_cases h : n < 0
  · simp [h, printL]
  · simp [h, printL]
theorem digL_print (n : Int) : digL (printL n) = true := by
  unfold digL
  rw [restL_print, negL_print]
  exact digT_dec _ _ (fun h => by have : n < 0 := by simpa using h
                                  omega)
/-- Parse undoes Print. -/
theorem parse_print (n : Int) (h0 : -9223372036854775808 ≤ n) (h1 : n ≤ 9223372036854775807) : parseL (printL n) = (n, 0) := by
  unfold parseL
  rw [if_pos (digL_print n), restL_print, foldP_spec _ (decL_all _), decL_val, if_pos (by omega), negL_print]
  by_cases h : n < 0
  · simp only [h, decide_true, if_true]; congr 1; omega
  · simp only [h, decide_false, Bool.false_eq_true, if_false]
    rw [if_neg (by omega)]; congr 1; omega

theorem val_pos (t : List UInt8) (hne : t ≠ []) (hall : t.all isDig = true) (hh : t.head? ≠ some 48) : 0 < valL t := by
  induction t using snoc_ind with
  | h0 => exact absurd rfl hne
  | h1 t c ih =>
    simp only [List.all_append, List.all_cons, List.all_nil, Bool.and_true, Bool.and_eq_true] at hall
    rw [valL_snoc]
    cases t with
    | nil =>
      have hc := (isDig_iff c).1 hall.2
      simp at hh
      have : c.toNat ≠ 48 := fun e => hh (by apply UInt8.toNat_inj.1; simpa using e)
      omega
    | cons a l =>
      have := ih (by simp) hall.1 (by simpa using hh)
      omega
theorem dec_val (t : List UInt8) (hne : t ≠ []) (hall : t.all isDig = true) (hh : t.head? = some 48 → t.length = 1) : decL (valL t) = t := by
  induction t using snoc_ind with
  | h0 => exact absurd rfl hne
  | h1 t c ih =>
    simp only [List.all_append, List.all_cons, List.all_nil, Bool.and_true, Bool.and_eq_true] at hall
    have hc := (isDig_iff c).1 hall.2
    have ec : UInt8.ofNat (48 + (c.toNat - 48)) = c := by
      apply UInt8.toNat_inj.1; rw [toNat_dig _ (by omega)]; omega
    rw [valL_snoc]
    cases t with
    | nil =>
      rw [decL, if_pos (by simp [valL]; omega)]
      simp only [valL, List.foldl_nil, Nat.zero_mul, Nat.zero_add, ec, List.nil_append]
    | cons a l =>
      have hh' : (a :: l).head? ≠ some 48 := by
        intro e
        have := hh (by simpa using e)
        simp at this
      have hp := val_pos (a :: l) (by simp) hall.1 hh'
      rw [decL, if_neg (by omega)]
      rw [show (valL (a :: l) * 10 + (c.toNat - 48)) / 10 = valL (a :: l) by omega, show (valL (a :: l) * 10 + (c.toNat - 48)) % 10 = c.toNat - 48 by omega]
      rw [ih (by simp) hall.1 (fun e => absurd e hh'), ec]
/-- What is parsed is printed as it stood. -/
theorem print_parse (s : List UInt8) (k : Int) (h : parseL s = (k, 0)) : printL k = s := by
  unfold parseL at h
  split at h
  · rename_i hd
    unfold digL digT at hd
    simp only [Bool.and_eq_true, Bool.not_eq_true', List.isEmpty_eq_false_iff] at hd
    obtain ⟨⟨h1, h2⟩, h3⟩ := hd
    have hdec : decL (valL (restL s)) = restL s := dec_val _ h1 h3 (fun e => by
      rw [e] at h2
      simp at h2
      have := h2.2
      cases hr : restL s with
      | nil => exact absurd hr h1
      | cons a l => rw [hr] at this; simp at this; subst this; rfl)
    rw [foldP_spec _ h3] at h
    by_cases hv : valL (restL s) ≤ 9223372036854775808
    · rw [if_pos hv] at h
      simp only at h
      by_cases hn : negL s = true
      · rw [if_pos hn] at h
        have hk : k = -(valL (restL s) : Int) := by injection h with h _; exact h.symm
        subst hk
        have hp : 0 < valL (restL s) := by
          refine val_pos _ h1 h3 ?_
          intro e
          rw [e, hn] at h2
          simp at h2
        unfold printL
        rw [if_pos (by omega), show (-(valL (restL s) : Int)).natAbs = valL (restL s) by omega, hdec]
        unfold restL
        rw [if_pos hn]
        unfold negL at hn
        cases s with
        | nil => simp at hn
        | cons a l => simp at hn; subst hn; rfl
      · rw [if_neg hn] at h
        split at h
        · injection h with _ h; exact absurd h (by decide)
        · have hk : k = (valL (restL s) : Int) := by injection h with h _; omega
          subst hk
          unfold printL
          rw [if_neg (by omega), show ((valL (restL s) : Int)).natAbs = valL (restL s) by omega, hdec]
          unfold restL
          rw [if_neg hn]
    · rw [if_neg hv] at h
      simp only at h
      injection h with _ h; exact absurd h (by decide)
  · injection h with _ h; exact absurd h (by decide)
end Go.Proofs.YtphhgdgamnogpaaDoor
