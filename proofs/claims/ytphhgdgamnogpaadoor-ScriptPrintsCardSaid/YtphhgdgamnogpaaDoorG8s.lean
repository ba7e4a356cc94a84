/-
  Layer 43 (script) in plain words: what a text is read as, commands' text, which may be, which set something; that reading undoes printing, and that what is read may be; no program in sight. No conditions.
  Slices of structs, whatever the struct: what one holds; a row of the call's own as one, and as an argument. No conditions.
  The walks of layer 43 (script), the small functions of the program and of the reference: levels' and policies' words, what a second word tells, the command of words. Conditions: the tables of words hold what their initialisers lay.
  The walks of layer 43 (script): what a second word tells, the command of words, in the program and in the reference. Conditions: the tables of words hold what their initialisers lay; texts of at most 1,000,000 bytes.
  The walk of layer 43 (script): what a text is read as, in the program. Conditions: unicode/utf8's tables need not be known; the tables of words hold what their initialisers lay, internal/bytealg.MaxLen holds a number; texts of at most 1,000,000 bytes.
  The walks of layer 43 (script), the reference: what a second word tells, the command of words, what a text is read as. Texts of at most 1,000,000 bytes.
  The walks of layer 43 (script), the reference: what a text is read as. Texts of at most 1,000,000 bytes.
  Layer 43 (script): are two lists of commands the same; a program's commands as the document's; the chapter's examples; the statement ScriptParses. Conditions: the tables of words hold what their initialisers lay, internal/bytealg.MaxLen holds a number.
  The statement ScriptParses of layer 43 (script), walked; the chapter's examples. Conditions: the tables of words hold what their initialisers lay, internal/bytealg.MaxLen holds a number.
-/
import Derived.Test.YtphhgdgamnogpaaDoorG8f
import Derived.Test.YtphhgdgamnogpaaDoorG8a
import Derived.Test.YtphhgdgamnogpaaDoorG8g
import Derived.Laws.AppendOwn
import Derived.WalkKit
import Derived.Test.YtphhgdgamnogpaaDoorG8c
import Derived.Test.YtphhgdgamnogpaaDoorG8b
import Derived.Deep.LoopGhost
import Derived.Deep.MidRow
import Derived.Test.YtphhgdgamnogpaaDoorG8d
import Derived.Deep.AppendLies
import Derived.BigQuiet
namespace Go.Proofs.YtphhgdgamnogpaaDoor
open Go.RowKit Go.Lib

/-- A command: its row, its kind, its number. -/
abbrev CmdM := Int × Int × Int
def noCmd : CmdM := (0, 0, 0)
/-- A kind's first word. -/
def firstW (k : Int) : List UInt8 :=
  if k = 1 then [108, 101, 118, 101, 108] else if k = 2 then [112, 111, 108, 105, 99, 121] else if k = 3 then [98, 117, 100, 103, 101, 116] else if k = 4 then [99, 104, 101, 99, 107] else if k = 5 then [114, 101, 112, 111, 114, 116]
  else if k = 6 then [102, 111, 114, 99, 101, 100] else if k = 7 then [119, 111, 114, 108, 100, 115] else if k = 8 then [101, 110, 111, 117, 103, 104] else if k = 9 then [115, 104, 111, 119] else if k = 10 then [119, 114, 111, 110, 103] else []
/-- The kind of a first word; 0: it is none. -/
def cmdK (l : List UInt8) : Int :=
  if l = [108, 101, 118, 101, 108] then 1 else if l = [112, 111, 108, 105, 99, 121] then 2 else if l = [98, 117, 100, 103, 101, 116] then 3 else if l = [99, 104, 101, 99, 107] then 4 else if l = [114, 101, 112, 111, 114, 116] then 5
  else if l = [102, 111, 114, 99, 101, 100] then 6 else if l = [119, 111, 114, 108, 100, 115] then 7 else if l = [101, 110, 111, 117, 103, 104] then 8 else if l = [115, 104, 111, 119] then 9 else if l = [119, 114, 111, 110, 103] then 10 else 0
/-- A level's word, a policy's. -/
def levelW (n : Int) : List UInt8 := if n = 1 then [82, 67] else if n = 2 then [67, 67] else if n = 3 then [83, 69, 82] else []
def policyW (n : Int) : List UInt8 := if n = 1 then [107, 101, 101, 112] else if n = 2 then [101, 114, 97, 115, 101] else []
/-- Which level, which policy a word is; 0: none. -/
def levelN (l : List UInt8) : Int := if l = [82, 67] then 1 else if l = [67, 67] then 2 else if l = [83, 69, 82] then 3 else 0
def policyN (l : List UInt8) : Int := if l = [107, 101, 101, 112] then 1 else if l = [101, 114, 97, 115, 101] then 2 else 0
/-- What a second word tells. -/
def budgetC (s : List UInt8) : Int × Int := if (parseL s).2 ≠ 0 then (0, (parseL s).2) else if (parseL s).1 < 0 then (0, 2) else ((parseL s).1, 0)
def secondC (k : Int) (s : List UInt8) : Int × Int :=
  if k = 1 then (levelN s, if levelN s = 0 then 5 else 0) else if k = 2 then (policyN s, if policyN s = 0 then 5 else 0) else budgetC s
/-- A command of a kind, of so many words, the second of which is told. -/
def oneC (k : Int) (m : Nat) (l1 : List UInt8) : CmdM × Int :=
  if 3 < k then (if m = 1 then ((0, k, 0), 0) else (noCmd, 5)) else if m = 2 then ((0, k, (secondC k l1).1), (secondC k l1).2) else (noCmd, 5)
/-- The command of so many words, the first two of which are told. -/
def readC (m : Nat) (l0 l1 : List UInt8) : CmdM × Int := if cmdK l0 = 0 then (noCmd, 5) else oneC (cmdK l0) m l1
def wordsC (t : List UInt8) : List (List UInt8) := (wordsR t).1.map (·.1)
def lineC (t : List UInt8) : CmdM × Int := readC (wordsC t).length ((wordsC t).getD 0 []) ((wordsC t).getD 1 [])
def onRow (x : CmdM) (n : Int) : CmdM := (n, x.2.1, x.2.2)
/-- The commands of the lines from the i-th on, behind those that were read. -/
def cmdGo : List (List UInt8) → Nat → List CmdM → List CmdM × Int × Int
  | [], _, out => (out, 0, 0)
  | t :: r, i, out =>
    if wordsC t = [] then cmdGo r (i + 1) out
    else if (lineC t).2 ≠ 0 then ([], ((i + 1 : Nat) : Int), (lineC t).2)
    else if out.length = 200 then ([], ((i + 1 : Nat) : Int), 7)
    else cmdGo r (i + 1) (out ++ [onRow (lineC t).1 ((i + 1 : Nat) : Int)])
/-- What a text is read as: commands, the line of the first error, the error. -/
def readS (s : List UInt8) : List CmdM × Int × Int :=
  if (ofL s).2.2 ≠ 0 then ([], ((ofL s).2.1 : Int), ((ofL s).2.2 : Int)) else cmdGo (ofL s).1 0 []
/-- May a command be? -/
def mayC (x : CmdM) : Bool :=
  if x.2.1 = 1 then decide (1 ≤ x.2.2) && decide (x.2.2 ≤ 3) else if x.2.1 = 2 then decide (1 ≤ x.2.2) && decide (x.2.2 ≤ 2) else if x.2.1 = 3 then decide (0 ≤ x.2.2)
  else decide (3 < x.2.1) && (decide (x.2.1 ≤ 10) && decide (x.2.2 = 0))
/-- A command's words, its line. -/
def wordsX (x : CmdM) : List (List UInt8) :=
  if x.2.1 = 1 then [firstW 1, levelW x.2.2] else if x.2.1 = 2 then [firstW 2, policyW x.2.2] else if x.2.1 = 3 then [firstW 3, printL x.2.2] else [firstW x.2.1]
def lineX (x : CmdM) : List UInt8 := join (wordsX x) [32]
/-- Commands' text behind a text; the error. -/
def putGo : List CmdM → List UInt8 → List UInt8 × Int
  | [], s => (s, 0)
  | x :: r, s => if mayC x then putGo r (s ++ (lineX x ++ [10])) else ([], 4)
def writeS (L : List CmdM) : List UInt8 × Int := if 200 < L.length then ([], 7) else putGo L []
/-- Those that set something. -/
def setsC (x : CmdM) : Bool := decide (1 ≤ x.2.1) && decide (x.2.1 ≤ 3)
def settingsC (L : List CmdM) : List CmdM := L.filter setsC
/-- Is a command's number one of Go's? -/
def NumC (x : CmdM) : Prop := -9223372036854775808 ≤ x.2.2 ∧ x.2.2 ≤ 9223372036854775807
/-- Commands with their rows, from the i-th on. -/
def rowed : List CmdM → Nat → List CmdM
  | [], _ => []
  | x :: r, i => onRow x ((i + 1 : Nat) : Int) :: rowed r (i + 1)
/-- A text that is not too long; one that is too long stays so. -/
def shortS (s : List UInt8) : List UInt8 := if 65536 < s.length then s.take 65537 else s.take 4000

/-! ### words -/
theorem cmdK_range (l : List UInt8) : 0 ≤ cmdK l ∧ cmdK l ≤ 10 := by
  unfold cmdK
  (repeat' split) <;> decide
theorem first_word (k : Int) (h0 : 1 ≤ k) (h1 : k ≤ 10) : WordT (firstW k) ∧ cmdK (firstW k) = k ∧ (firstW k).length ≤ 6 := by
  have : k = 1 ∨ k = 2 ∨ k = 3 ∨ k = 4 ∨ k = 5 ∨ k = 6 ∨ k = 7 ∨ k = 8 ∨ k = 9 ∨ k = 10 := by omega
  rcases this with rfl | rfl | rfl | rfl | rfl | rfl | rfl | rfl | rfl | rfl <;> exact ⟨dig_word _ (by decide) (by decide), by decide, by decide⟩
theorem cmdK_eq (l : List UInt8) (i : Nat) (h1 : 1 ≤ i) (h7 : i < 11) : cmdK l = i ↔ firstW i = l := by
  constructor
  · intro h
    unfold cmdK at h
    repeat' split at h
    all_goals
      first
        | (rename_i he; subst he; have : i = 1 ∨ i = 2 ∨ i = 3 ∨ i = 4 ∨ i = 5 ∨ i = 6 ∨ i = 7 ∨ i = 8 ∨ i = 9 ∨ i = 10 := by omega
           rcases this with rfl | rfl | rfl | rfl | rfl | rfl | rfl | rfl | rfl | rfl <;> first | rfl | (exfalso; revert h; decide))
        | (exfalso; omega)
  · intro h
    have := (first_word i (by omega) (by omega)).2.1
    rw [← h]
    exact this
theorem level_word (n : Int) (h0 : 1 ≤ n) (h1 : n ≤ 3) : WordT (levelW n) ∧ levelN (levelW n) = n ∧ (levelW n).length ≤ 20 := by
  have : n = 1 ∨ n = 2 ∨ n = 3 := by omega
  rcases this with rfl | rfl | rfl <;> exact ⟨dig_word _ (by decide) (by decide), by decide, by decide⟩
theorem policy_word (n : Int) (h0 : 1 ≤ n) (h1 : n ≤ 2) : WordT (policyW n) ∧ policyN (policyW n) = n ∧ (policyW n).length ≤ 20 := by
  have : n = 1 ∨ n = 2 := by omega
  rcases this with rfl | rfl <;> exact ⟨dig_word _ (by decide) (by decide), by decide, by decide⟩
theorem levelN_range (l : List UInt8) : 0 ≤ levelN l ∧ levelN l ≤ 3 := by
  unfold levelN
  (repeat' split) <;> decide
theorem policyN_range (l : List UInt8) : 0 ≤ policyN l ∧ policyN l ≤ 2 := by
  unfold policyN
  (repeat' split) <;> decide
theorem num_word (n : Int) : WordT (printL n) := by
  have := val_word 1 n (by simp [mayV])
  unfold vTxt at this
  rw [if_pos (by simp [mayV]), if_pos (by simp)] at this
  exact this
theorem may_wordsC (x : CmdM) (h : mayC x = true) : ∀ t ∈ wordsX x, WordT t := by
  unfold mayC at h
  unfold wordsX
  intro t ht
  by_cases h1 : x.2.1 = 1
  · rw [if_pos h1] at h ht
    simp only [Bool.and_eq_true, decide_eq_true_eq] at h
    simp only [List.mem_cons, List.not_mem_nil, or_false] at ht
    rcases ht with rfl | rfl
    · exact (first_word 1 (by decide) (by decide)).1
    · exact (level_word _ h.1 h.2).1
  · rw [if_neg h1] at h ht
    by_cases h2 : x.2.1 = 2
    · rw [if_pos h2] at h ht
      simp only [Bool.and_eq_true, decide_eq_true_eq] at h
      simp only [List.mem_cons, List.not_mem_nil, or_false] at ht
      rcases ht with rfl | rfl
      · exact (first_word 2 (by decide) (by decide)).1
      · exact (policy_word _ h.1 h.2).1
    · rw [if_neg h2] at h ht
      by_cases h3 : x.2.1 = 3
      · rw [if_pos h3] at h ht
        simp only [List.mem_cons, List.not_mem_nil, or_false] at ht
        rcases ht with rfl | rfl
        · exact (first_word 3 (by decide) (by decide)).1
        · exact num_word _
      · rw [if_neg h3] at h ht
        simp only [Bool.and_eq_true, decide_eq_true_eq] at h
        simp only [List.mem_cons, List.not_mem_nil, or_false] at ht
        subst ht
        exact (first_word _ (by omega) h.2.1).1
/-- What is printed is read as the same command, but for its row. -/
theorem line_back (x : CmdM) (h : mayC x = true) (hn : NumC x) : wordsC (lineX x) ≠ [] ∧ lineC (lineX x) = ((0, x.2.1, x.2.2), 0) := by
  obtain ⟨-, e2⟩ := words_join (wordsX x) (may_wordsC x h)
  have e3 : wordsC (lineX x) = wordsX x := e2
  unfold lineC
  rw [e3]
  obtain ⟨r, k, n⟩ := x
  unfold mayC at h
  unfold wordsX
  simp only at h hn ⊢
  by_cases h1 : k = 1
  · subst h1
    simp only [if_true, Bool.and_eq_true, decide_eq_true_eq] at h ⊢
    have hl := (level_word n h.1 h.2).2.1
    have hk := (first_word 1 (by decide) (by decide)).2.1
    refine ⟨by simp, ?_⟩
    simp only [List.length_cons, List.length_nil, List.getD_cons_zero, List.getD_cons_succ]
    unfold readC oneC secondC
    rw [hk, hl]
    simp
    omega
  · by_cases h2 : k = 2
    · subst h2
      rw [if_neg (by decide), if_pos rfl] at h
      simp only [Bool.and_eq_true, decide_eq_true_eq] at h
      rw [if_neg (by decide), if_pos rfl]
      have hl := (policy_word n h.1 h.2).2.1
      have hk := (first_word 2 (by decide) (by decide)).2.1
      refine ⟨by simp, ?_⟩
      simp only [List.length_cons, List.length_nil, List.getD_cons_zero, List.getD_cons_succ]
      unfold readC oneC secondC
      rw [hk, hl]
      simp
      omega
    · by_cases h3 : k = 3
      · subst h3
        rw [if_neg (by decide), if_neg (by decide), if_pos rfl] at h
        rw [if_neg (by decide), if_neg (by decide), if_pos rfl]
        simp only [decide_eq_true_eq] at h
        have hk := (first_word 3 (by decide) (by decide)).2.1
        have hp := parse_print n hn.1 hn.2
        refine ⟨by simp, ?_⟩
        simp only [List.length_cons, List.length_nil, List.getD_cons_zero, List.getD_cons_succ]
        unfold readC oneC secondC budgetC
        rw [hk, hp, if_neg (by decide), if_neg (by decide), if_pos rfl, if_neg (by decide), if_neg (by decide), if_neg (by simp), if_neg (by simp only; omega)]
      · rw [if_neg h1, if_neg h2, if_neg h3] at h ⊢
        simp only [Bool.and_eq_true, decide_eq_true_eq] at h
        obtain ⟨h4, h5, rfl⟩ := h
        have hk := (first_word k (by omega) h5).2.1
        refine ⟨by simp, ?_⟩
        simp only [List.length_cons, List.length_nil, List.getD_cons_zero]
        unfold readC oneC
        rw [hk, if_neg (by omega), if_pos h4, if_pos rfl]

/-! ### reading undoes printing -/
theorem put_text : ∀ (L : List CmdM) (s : List UInt8), (putGo L s).2 = 0 → (putGo L s).1 = s ++ feedL (L.map lineX) ∧ ∀ x ∈ L, mayC x = true
  | [], s, h => by simp [putGo, feedL]
  | x :: r, s, h => by
    unfold putGo at h ⊢
    split at h
    · rename_i hc
      rw [if_pos hc]
      obtain ⟨h1, h2⟩ := put_text r _ h
      refine ⟨?_, fun y hy => ?_⟩
      · rw [h1]; simp [feedL]
      · rcases List.mem_cons.1 hy with rfl | hy
        · exact hc
        · exact h2 y hy
    · simp at h
theorem put_err : ∀ (L : List CmdM) (s : List UInt8), (putGo L s).2 ≠ 0 → putGo L s = ([], 4)
  | [], s, h => absurd rfl h
  | x :: r, s, h => by
    unfold putGo at h ⊢
    split at h
    · rename_i hc
      rw [if_pos hc]
      exact put_err r _ h
    · rename_i hc
      rw [if_neg hc]
theorem lineX_len (x : CmdM) (h : mayC x = true) (hn : NumC x) : (lineX x).length ≤ 27 := by
  obtain ⟨r, k, n⟩ := x
  unfold mayC at h
  unfold lineX wordsX
  simp only at h hn ⊢
  by_cases h1 : k = 1
  · subst h1
    simp only [if_true, Bool.and_eq_true, decide_eq_true_eq] at h ⊢
    have hl := (level_word n h.1 h.2).2.2
    have hf := (first_word 1 (by decide) (by decide)).2.2
    rw [join_two]
    have : join [levelW n] [32] = levelW n := by simp [join]
    rw [this]
    simp only [List.length_append, List.length_cons]
    omega
  · by_cases h2 : k = 2
    · subst h2
      rw [if_neg (by decide), if_pos rfl] at h
      simp only [Bool.and_eq_true, decide_eq_true_eq] at h
      rw [if_neg (by decide), if_pos rfl]
      have hl := (policy_word n h.1 h.2).2.2
      have hf := (first_word 2 (by decide) (by decide)).2.2
      rw [join_two]
      have : join [policyW n] [32] = policyW n := by simp [join]
      rw [this]
      simp only [List.length_append, List.length_cons]
      omega
    · by_cases h3 : k = 3
      · subst h3
        rw [if_neg (by decide), if_neg (by decide), if_pos rfl]
        have hl := print_len n hn.1 hn.2
        have hf := (first_word 3 (by decide) (by decide)).2.2
        rw [join_two]
        have : join [printL n] [32] = printL n := by simp [join]
        rw [this]
        simp only [List.length_append, List.length_cons]
        omega
      · rw [if_neg h1, if_neg h2, if_neg h3] at h ⊢
        simp only [Bool.and_eq_true, decide_eq_true_eq] at h
        have hf := (first_word k (by omega) h.2.1).2.2
        have : join [firstW k] [32] = firstW k := by simp [join]
        rw [this]
        omega
theorem feed_len : ∀ (L : List CmdM), (∀ x ∈ L, mayC x = true ∧ NumC x) → (feedL (L.map lineX)).length ≤ 28 * L.length
  | [], _ => by simp [feedL]
  | x :: r, h => by
    obtain ⟨hm, hn⟩ := h x (List.mem_cons_self ..)
    have h1 := lineX_len x hm hn
    have h2 := feed_len r (fun y hy => h y (List.mem_cons_of_mem _ hy))
    have e : feedL ((x :: r).map lineX) = lineX x ++ 10 :: feedL (r.map lineX) := by simp [feedL]
    rw [e]
    simp only [List.length_append, List.length_cons]
    omega
theorem cmd_lines : ∀ (L : List CmdM) (i : Nat) (out : List CmdM), (∀ x ∈ L, mayC x = true ∧ NumC x) → out.length + L.length ≤ 200 → cmdGo (L.map lineX) i out = (out ++ rowed L i, 0, 0)
  | [], i, out, _, _ => by simp [cmdGo, rowed]
  | x :: r, i, out, h, hl => by
    obtain ⟨hm, hn⟩ := h x (List.mem_cons_self ..)
    obtain ⟨h1, h2⟩ := line_back x hm hn
    rw [List.map_cons]
    unfold cmdGo
    simp only [List.length_cons] at hl
    rw [if_neg h1, h2, if_neg (by simp), if_neg (by omega), cmd_lines r (i + 1) _ (fun y hy => h y (List.mem_cons_of_mem _ hy)) (by simp; omega)]
    simp [rowed, onRow]
theorem lineX_good (x : CmdM) (h : mayC x = true) : validD (lineX x) = true ∧ ∀ b ∈ lineX x, b ≠ 10 := by
  obtain ⟨h1, h2⟩ := join_valid (wordsX x) (may_wordsC x h)
  exact ⟨h1, fun b hb => (h2 b hb).2⟩
/-- What is printed is read as the same commands, with rows from 1 on. -/
theorem writeS_read (L : List CmdM) (h : (writeS L).2 = 0) (hn : ∀ x ∈ L, NumC x) : readS (writeS L).1 = (rowed L 0, 0, 0) := by
  unfold writeS at h ⊢
  split at h
  · simp at h
  · rename_i hc
    rw [if_neg hc]
    obtain ⟨h1, hm⟩ := put_text L [] h
    have hlen := feed_len L (fun x hx => ⟨hm x hx, hn x hx⟩)
    rw [h1, List.nil_append]
    have hof : ofL (feedL (L.map lineX)) = (L.map lineX, 0, 0) := by
      refine of_feed _ ?_ ?_ (by omega)
      · intro x hx
        obtain ⟨y, hy, rfl⟩ := List.mem_map.1 hx
        exact (lineX_good y (hm y hy)).2
      · intro x hx
        obtain ⟨y, hy, rfl⟩ := List.mem_map.1 hx
        exact (lineX_good y (hm y hy)).1
    unfold readS
    rw [hof, if_neg (by simp)]
    have := cmd_lines L 0 [] (fun x hx => ⟨hm x hx, hn x hx⟩) (by simp; omega)
    simpa using this
theorem writeS_err (L : List CmdM) (h : (writeS L).2 ≠ 0) : (writeS L).1 = [] := by
  unfold writeS at h ⊢
  split at h
  · rename_i hc
    rw [if_pos hc]
  · rename_i hc
    rw [if_neg hc, put_err L [] h]

/-! ### what is read may be -/
theorem parseL_bad (s : List UInt8) (h : (parseL s).2 ≠ 0) : (parseL s).1 = 0 := by
  unfold parseL at h ⊢
  by_cases hd : digL s = true
  · rw [if_pos hd] at h ⊢
    revert h
    cases foldP (restL s) with
    | none => intro _; rfl
    | some n =>
      intro h
      simp only at h ⊢
      by_cases hg : negL s = true
      · rw [if_pos hg] at h; simp at h
      · rw [if_neg hg] at h ⊢
        by_cases hi : n = -9223372036854775808
        · rw [if_pos hi]
        · rw [if_neg hi] at h; simp at h
  · rw [if_neg hd]
theorem readC_may (m : Nat) (l0 l1 : List UInt8) (h : (readC m l0 l1).2 = 0) : mayC (readC m l0 l1).1 = true := by
  have hr := cmdK_range l0
  unfold readC at h ⊢
  by_cases h0 : cmdK l0 = 0
  · rw [if_pos h0] at h; simp at h
  · rw [if_neg h0] at h ⊢
    generalize cmdK l0 = k at *
    unfold oneC at h ⊢
    by_cases h3 : 3 < k
    · rw [if_pos h3] at h ⊢
      by_cases hm : m = 1
      · rw [if_pos hm]
        unfold mayC
        simp only
        rw [if_neg (by omega), if_neg (by omega), if_neg (by omega)]
        simp
        omega
      · rw [if_neg hm] at h; simp at h
    · rw [if_neg h3] at h ⊢
      by_cases hm : m = 2
      · rw [if_pos hm] at h ⊢
        have : k = 1 ∨ k = 2 ∨ k = 3 := by omega
        unfold mayC
        simp only at h ⊢
        rcases this with rfl | rfl | rfl
        · have hv := levelN_range l1
          unfold secondC at h ⊢
          simp only [if_true] at h ⊢
          by_cases hz : levelN l1 = 0
          · rw [if_pos hz] at h; simp at h
          · simp; omega
        · have hv := policyN_range l1
          unfold secondC at h ⊢
          simp only [show ((2 : Int) = 1) = False by simp, if_false, if_true] at h ⊢
          by_cases hz : policyN l1 = 0
          · rw [if_pos hz] at h; simp at h
          · simp; omega
        · unfold secondC budgetC at h ⊢
          simp only [show ((3 : Int) = 1) = False by simp, show ((3 : Int) = 2) = False by simp, if_false, if_true] at h ⊢
          by_cases hz : (parseL l1).2 ≠ 0
          · rw [if_pos hz] at h; exact absurd h hz
          · rw [if_neg hz] at h ⊢
            by_cases hy : (parseL l1).1 < 0
            · rw [if_pos hy] at h; simp at h
            · rw [if_neg hy]; simp; omega
      · rw [if_neg hm] at h; simp at h
/-- Commands that may be, whose rows rise from behind a number. -/
def Rising : List CmdM → Prop := fun L => (∀ x ∈ L, mayC x = true ∧ 1 ≤ x.1) ∧ L.Pairwise (fun a b => a.1 < b.1)
theorem cmdGo_rising : ∀ (r : List (List UInt8)) (i : Nat) (out : List CmdM), Rising out → (∀ x ∈ out, x.1 ≤ i) → Rising (cmdGo r i out).1
  | [], _, out, h, _ => h
  | t :: r, i, out, h, hi => by
    unfold cmdGo
    by_cases h1 : wordsC t = []
    · rw [if_pos h1]
      exact cmdGo_rising r (i + 1) out h (fun x hx => by have := hi x hx; omega)
    · rw [if_neg h1]
      by_cases h2 : (lineC t).2 ≠ 0
      · rw [if_pos h2]; exact ⟨by simp, by simp⟩
      · rw [if_neg h2]
        by_cases h3 : out.length = 200
        · rw [if_pos h3]; exact ⟨by simp, by simp⟩
        · rw [if_neg h3]
          have hm := readC_may _ _ _ (by simpa using h2 : (lineC t).2 = 0)
          refine cmdGo_rising r (i + 1) _ ⟨?_, ?_⟩ ?_
          · intro x hx
            rcases List.mem_append.1 hx with hx | hx
            · exact h.1 x hx
            · obtain rfl : x = _ := by simpa using hx
              exact ⟨hm, by simp only [onRow]; omega⟩
          · rw [List.pairwise_append]
            refine ⟨h.2, by simp, fun a ha b hb => ?_⟩
            obtain rfl : b = _ := by simpa using hb
            have := hi a ha
            simp only [onRow]
            omega
          · intro x hx
            rcases List.mem_append.1 hx with hx | hx
            · have := hi x hx; omega
            · obtain rfl : x = _ := by simpa using hx
              simp only [onRow]
              omega
theorem readS_rising (s : List UInt8) : Rising (readS s).1 := by
  unfold readS
  split
  · exact ⟨by simp, by simp⟩
  · exact cmdGo_rising _ 0 [] ⟨by simp, by simp⟩ (by simp)
theorem cmdGo_err : ∀ (r : List (List UInt8)) (i : Nat) (out : List CmdM), (cmdGo r i out).2.2 ≠ 0 → (cmdGo r i out).1 = []
  | [], _, out, h => absurd rfl h
  | t :: r, i, out, h => by
    unfold cmdGo at h ⊢
    by_cases h1 : wordsC t = []
    · rw [if_pos h1] at h ⊢
      exact cmdGo_err r _ _ h
    · rw [if_neg h1] at h ⊢
      by_cases h2 : (lineC t).2 ≠ 0
      · rw [if_pos h2]
      · rw [if_neg h2] at h ⊢
        by_cases h3 : out.length = 200
        · rw [if_pos h3]
        · rw [if_neg h3] at h ⊢
          exact cmdGo_err r _ _ h
theorem readS_err (s : List UInt8) (h : (readS s).2.2 ≠ 0) : (readS s).1 = [] := by
  unfold readS at h ⊢
  split
  · rfl
  · rename_i hc
    rw [if_neg hc] at h
    exact cmdGo_err _ _ _ h
theorem rowed_len : ∀ (L : List CmdM) (i : Nat), (rowed L i).length = L.length
  | [], _ => rfl
  | x :: r, i => by simp [rowed, rowed_len r]
theorem rowed_get : ∀ (L : List CmdM) (i j : Nat), j < L.length → (rowed L i).getD j noCmd = onRow (L.getD j noCmd) ((i + j + 1 : Nat) : Int)
  | [], _, _, h => absurd h (Nat.not_lt_zero _)
  | x :: r, i, 0, _ => rfl
  | x :: r, i, j + 1, h => by
    show (rowed r (i + 1)).getD j noCmd = _
    rw [rowed_get r (i + 1) j (by simpa using h)]
    show onRow (r.getD j noCmd) _ = onRow (r.getD j noCmd) _
    congr 1
    omega
end Go.Proofs.YtphhgdgamnogpaaDoor

namespace Go.Proofs.YtphhgdgamnogpaaDoor
open Go.RowKit

theorem flat_at {α : Type} (f : α → List Value) (s : Nat) (hf : ∀ x, (f x).length = s) (d : α) : ∀ (L : List α) (j i : Nat), j < L.length → i < s → (L.flatMap f)[j * s + i]? = (f (L.getD j d))[i]?
  | [], j, _, hj, _ => absurd hj (Nat.not_lt_zero j)
  | x :: L, 0, i, _, hi => by
    rw [List.flatMap_cons, Nat.zero_mul, Nat.zero_add, List.getElem?_append_left (by rw [hf]; exact hi)]
    rfl
  | x :: L, j + 1, i, hj, hi => by
    rw [List.flatMap_cons, List.getElem?_append_right (by rw [hf, Nat.add_mul]; omega), hf, show (j + 1) * s + i - s = j * s + i by rw [Nat.add_mul]; omega]
    rw [flat_at f s hf d L j i (by simpa using hj) hi]
    rfl
theorem flat_len {α : Type} (f : α → List Value) (s : Nat) (hf : ∀ x, (f x).length = s) (L : List α) : (L.flatMap f).length = L.length * s := by
  induction L with
  | nil => simp
  | cons x L ih => rw [List.flatMap_cons, List.length_append, ih, hf, List.length_cons, Nat.add_mul]; omega
theorem flat_set {α : Type} (f : α → List Value) (s : Nat) (hf : ∀ x, (f x).length = s) (A B : List α) (x y : α) (i : Nat) (u : Value) (hi : i < s) (hy : f y = (f x).set i u) : ((A ++ x :: B).flatMap f).set (A.length * s + i) u = (A ++ y :: B).flatMap f := by
  rw [List.flatMap_append, List.flatMap_append, List.flatMap_cons, List.flatMap_cons, List.set_append_right _ _ (by rw [flat_len f s hf]; omega), flat_len f s hf, show A.length * s + i - A.length * s = i by omega, List.set_append_left _ _ (by rw [hf]; exact hi), hy]
theorem flat_snoc {α : Type} (f : α → List Value) (L : List α) (x : α) : L.flatMap f ++ f x = (L ++ [x]).flatMap f := by simp
/-- A slice of these structs. -/
def SlS {α : Type} (f : α → List Value) (s : Nat) (d : α) (w : World) (v : Value) (L : List α) : Prop := ∃ p cap, v = .slice p L.length cap ∧ ∀ j, j < L.length → ∃ g, p = some ⟨g, 0, none⟩ ∧ ∀ i u, (f (L.getD j d))[i]? = some u → w.cell? ⟨g, j * s + i, none⟩ = some u
theorem SlS.below {α : Type} {f : α → List Value} {s : Nat} {d : α} {w w' : World} {v : Value} {L : List α} (h : SlS f s d w v L) (hb : Below w.heap.size w w') : SlS f s d w' v L := by
  obtain ⟨p, cap, hv, hc⟩ := h
  refine ⟨p, cap, hv, fun j hj => ?_⟩
  obtain ⟨g, hp, h1⟩ := hc j hj
  exact ⟨g, hp, fun i u hu => cell_later hb (h1 i u hu)⟩
theorem sls_none {α : Type} (f : α → List Value) (s : Nat) (d : α) (w : World) : SlS f s d w (.slice none 0 0) [] := ⟨none, 0, rfl, fun j hj => absurd hj (Nat.not_lt_zero j)⟩
theorem own_sls {α : Type} {f : α → List Value} {s : Nat} (d : α) (hf : ∀ x, (f x).length = s) {w : World} {B : Nat} {e : TypeId} {v : Value} {L : List α} (h : w.ownsRow B e s v L.length (L.flatMap f)) : SlS f s d w v L := by
  obtain ⟨-, ⟨h0, hn⟩ | ⟨g, cap, cur, hv, -, hw, -, -, -, ht⟩⟩ := h
  · have : L = [] := List.eq_nil_of_length_eq_zero hn
    subst this h0
    exact sls_none f s d w
  · refine ⟨_, cap, hv, fun j hj => ⟨g, rfl, fun i u hu => ?_⟩⟩
    have hi : i < s := by
      have := (List.getElem?_eq_some_iff.1 hu).1
      rw [hf] at this
      exact this
    have hjs : j * s + i < L.length * s := by
      have : (j + 1) * s ≤ L.length * s := Nat.mul_le_mul_right s hj
      rw [Nat.add_mul] at this
      omega
    have h1 := congrArg (fun x : List Value => x[j * s + i]?) ht
    simp only [List.getElem?_take, hjs, if_true, Array.getElem?_toList] at h1
    rw [cell_of_row w g (j * s + i) _ _ (0, 0) hw, h1, flat_at f s hf d L j i hj hi]
    exact hu
/-- A row of the call's own, read as an argument's slice. -/
theorem own_slR' {α : Type} {f : α → List Value} {s : Nat} (hf : ∀ x, (f x).length = s) {R : World → List Value → α → Prop} {w : World} {B : Nat} {e : TypeId} {v : Value} {L : List α} (h : w.ownsRow B e s v L.length (L.flatMap f)) (hR : ∀ x ∈ L, R w (f x) x) : SlR s R w v L := by
  obtain ⟨h1, ⟨rfl, h0⟩ | ⟨g, cap, cur, rfl, -, hw, hc, hm, hs, ht⟩⟩ := h
  · have : L = [] := List.eq_nil_of_length_eq_zero h0
    subst this
    exact ⟨none, 0, rfl, Nat.le_refl _, Nat.zero_le _, fun j hj => absurd hj (Nat.not_lt_zero j)⟩
  · refine ⟨_, cap, rfl, hc, hm, fun j hj => ⟨⟨g, 0, none⟩, f L[j], rfl, hf _, fun i u hu => ?_, hR _ (List.getElem_mem hj)⟩⟩
    have hi : i < s := by
      have := (List.getElem?_eq_some_iff.1 hu).1
      rw [hf] at this
      exact this
    have hjs : j * s + i < L.length * s := by
      have : (j + 1) * s ≤ L.length * s := Nat.mul_le_mul_right s hj
      rw [Nat.add_mul] at this
      omega
    have hD : L.getD j L[j] = L[j] := by simp [hj]
    have h2 := congrArg (fun x : List Value => x[j * s + i]?) ht
    simp only [List.getElem?_take, hjs, if_true, Array.getElem?_toList] at h2
    rw [Addr.add_lit, Nat.zero_add, cell_of_row w g (j * s + i) _ _ (0, 0) hw, h2, flat_at f s hf L[j] L j i hj hi, hD]
    exact hu
end Go.Proofs.YtphhgdgamnogpaaDoor

namespace Go.Proofs.YtphhgdgamnogpaaDoor
open Go.RowKit Go.Lib

/-- The words stand in the program's tables as their initialisers lay them. -/
structure ScTab (w : World) : Prop where
  f : ∀ i : Nat, i < 11 → w.cell? ⟨0, i, none⟩ = some (.string (bs (firstW i)))
  l : ∀ i : Nat, i < 4 → w.cell? ⟨2, i, none⟩ = some (.string (bs (levelW i)))
  p : ∀ i : Nat, i < 3 → w.cell? ⟨3, i, none⟩ = some (.string (bs (policyW i)))
theorem ScTab.below {w w' : World} (h : ScTab w) (hb : Below w.heap.size w w') : ScTab w' := ⟨fun i hi => cell_later hb (h.f i hi), fun i hi => cell_later hb (h.l i hi), fun i hi => cell_later hb (h.p i hi)⟩
theorem levelW_out (n : Int) (h : n < 1 ∨ 3 < n) : levelW n = [] := by
  unfold levelW
  rw [if_neg (by omega), if_neg (by omega), if_neg (by omega)]
theorem policyW_out (n : Int) (h : n < 1 ∨ 2 < n) : policyW n = [] := by
  unfold policyW
  rw [if_neg (by omega), if_neg (by omega)]

set_option maxRecDepth 100000 in
set_option maxHeartbeats 1000000 in
theorem level_any (n : Int) (w : World) (hS : ScTab w) :
    Calls Tryd.prog 72 #[.int .i64 n] w fun e w' => e = .returned (.string (bs (levelW n))) ∧ w = w' := by
  by_cases h1 : n < 1
  · rw [levelW_out n (.inl h1)]
    clear hS
    go_enter Tryd.func72, Tryd.ntmps72
    go_wp2
    go_ret
    exact ⟨rfl, rfl⟩
  · by_cases h2 : 3 < n
    · rw [levelW_out n (.inr h2)]
      clear hS
      have h1' : 1 ≤ n := by omega
      go_enter Tryd.func72, Tryd.ntmps72
      go_wp2
      go_ret
      exact ⟨rfl, rfl⟩
    · have h3 : n = 1 ∨ n = 2 ∨ n = 3 := by omega
      rcases h3 with rfl | rfl | rfl
      · have hc := hS.l 1 (by decide)
        clear hS h1 h2
        go_enter Tryd.func72, Tryd.ntmps72
        go_wp2
        go_ret
        exact ⟨rfl, rfl⟩
      · have hc := hS.l 2 (by decide)
        clear hS h1 h2
        go_enter Tryd.func72, Tryd.ntmps72
        go_wp2
        go_ret
        exact ⟨rfl, rfl⟩
      · have hc := hS.l 3 (by decide)
        clear hS h1 h2
        go_enter Tryd.func72, Tryd.ntmps72
        go_wp2
        go_ret
        exact ⟨rfl, rfl⟩

set_option maxRecDepth 100000 in
set_option maxHeartbeats 1000000 in
theorem policy_any (n : Int) (w : World) (hS : ScTab w) :
    Calls Tryd.prog 73 #[.int .i64 n] w fun e w' => e = .returned (.string (bs (policyW n))) ∧ w = w' := by
  by_cases h1 : n < 1
  · rw [policyW_out n (.inl h1)]
    clear hS
    go_enter Tryd.func73, Tryd.ntmps73
    go_wp2
    go_ret
    exact ⟨rfl, rfl⟩
  · by_cases h2 : 2 < n
    · rw [policyW_out n (.inr h2)]
      clear hS
      have h1' : 1 ≤ n := by omega
      go_enter Tryd.func73, Tryd.ntmps73
      go_wp2
      go_ret
      exact ⟨rfl, rfl⟩
    · have h3 : n = 1 ∨ n = 2 := by omega
      rcases h3 with rfl | rfl
      · have hc := hS.p 1 (by decide)
        clear hS h1 h2
        go_enter Tryd.func73, Tryd.ntmps73
        go_wp2
        go_ret
        exact ⟨rfl, rfl⟩
      · have hc := hS.p 2 (by decide)
        clear hS h1 h2
        go_enter Tryd.func73, Tryd.ntmps73
        go_wp2
        go_ret
        exact ⟨rfl, rfl⟩

set_option maxRecDepth 100000 in
set_option maxHeartbeats 1000000 in
theorem rlevel_any (n : Int) (w : World) :
    Calls Tryd.prog 75 #[.int .i64 n] w fun e w' => e = .returned (.string (bs (levelW n))) ∧ Below w.heap.size w w' := by
  by_cases h1 : n < 1
  · rw [levelW_out n (.inl h1)]
    go_enter Tryd.func75, Tryd.ntmps75
    go_wp2
    go_ret
    exact ⟨rfl, by go_grown⟩
  · by_cases h2 : 3 < n
    · rw [levelW_out n (.inr h2)]
      have h1' : 1 ≤ n := by omega
      go_enter Tryd.func75, Tryd.ntmps75
      go_wp2
      go_ret
      exact ⟨rfl, by go_grown⟩
    · have h3 : n = 1 ∨ n = 2 ∨ n = 3 := by omega
      rcases h3 with rfl | rfl | rfl
      all_goals
        clear h1 h2
        go_enter Tryd.func75, Tryd.ntmps75
        go_wp2
        go_ret
        exact ⟨rfl, by go_grown⟩

set_option maxRecDepth 100000 in
set_option maxHeartbeats 1000000 in
theorem rpolicy_any (n : Int) (w : World) :
    Calls Tryd.prog 76 #[.int .i64 n] w fun e w' => e = .returned (.string (bs (policyW n))) ∧ Below w.heap.size w w' := by
  by_cases h1 : n < 1
  · rw [policyW_out n (.inl h1)]
    go_enter Tryd.func76, Tryd.ntmps76
    go_wp2
    go_ret
    exact ⟨rfl, by go_grown⟩
  · by_cases h2 : 2 < n
    · rw [policyW_out n (.inr h2)]
      have h1' : 1 ≤ n := by omega
      go_enter Tryd.func76, Tryd.ntmps76
      go_wp2
      go_ret
      exact ⟨rfl, by go_grown⟩
    · have h3 : n = 1 ∨ n = 2 := by omega
      rcases h3 with rfl | rfl
      all_goals
        clear h1 h2
        go_enter Tryd.func76, Tryd.ntmps76
        go_wp2
        go_ret
        exact ⟨rfl, by go_grown⟩

set_option maxRecDepth 100000 in
set_option maxHeartbeats 2000000 in
theorem rfirst_any (k : Int) (h0 : 1 ≤ k) (h1 : k ≤ 10) (w : World) :
    Calls Tryd.prog 74 #[.int .i64 k] w fun e w' => e = .returned (.string (bs (firstW k))) ∧ Below w.heap.size w w' := by
  have h3 : k = 1 ∨ k = 2 ∨ k = 3 ∨ k = 4 ∨ k = 5 ∨ k = 6 ∨ k = 7 ∨ k = 8 ∨ k = 9 ∨ k = 10 := by omega
  rcases h3 with rfl | rfl | rfl | rfl | rfl | rfl | rfl | rfl | rfl | rfl
  all_goals
    clear h0 h1
    go_enter Tryd.func74, Tryd.ntmps74
    go_wp2
    go_ret
    exact ⟨rfl, by go_grown⟩

theorem whichL_any_hit (l : List UInt8) (k : Nat) (h0 : 1 ≤ k) (h1 : k ≤ 3) (h : levelW k = l) : levelN l = k := by
  subst h
  have h3 : k = 1 ∨ k = 2 ∨ k = 3 := by omega
  rcases h3 with rfl | rfl | rfl <;> decide
theorem whichL_any_miss (l : List UInt8) (h : ∀ j : Nat, 1 ≤ j → j < 4 → levelW j ≠ l) : levelN l = 0 := by
  have h1 := h 1 (by decide) (by decide)
  have h2 := h 2 (by decide) (by decide)
  have h3 := h 3 (by decide) (by decide)
  unfold levelN
  rw [if_neg (fun e => h1 e.symm), if_neg (fun e => h2 e.symm), if_neg (fun e => h3 e.symm)]
theorem whichL_any_ne (k : Nat) (h0 : 1 ≤ k) (h1 : k ≤ 3) : levelW k ≠ [] := by
  have h3 : k = 1 ∨ k = 2 ∨ k = 3 := by omega
  rcases h3 with rfl | rfl | rfl <;> decide
set_option maxRecDepth 100000 in
set_option maxHeartbeats 2000000 in
theorem whichL_any (l : List UInt8) (w : World) (hS : ScTab w) :
    Calls Tryd.prog 134 #[.string (bs l), .func (.func 72) #[] #[]] w fun e w' => e = .returned (.int .i64 (levelN l)) ∧ w = w' := by
  have HC := Lib.hid (fun n => level_any n w hS)
  have en := enters_of Tryd.func72 (by kernel_rfl) rfl
  have HHit := Lib.hid (whichL_any_hit l)
  have HMiss := Lib.hid (whichL_any_miss l)
  clear hS
  go_enter Tryd.func134, Tryd.ntmps134
  go_wp2_with fail
  go_loop [5] (fun i => ∃ k : Nat, 1 ≤ k ∧ k ≤ 4 ∧ i = .int .i64 k ∧ ∀ j : Nat, 1 ≤ j → j < k → levelW j ≠ l) (fun i => 4 - (RowKit.intOf i).toNat)
  case atStart => exact ⟨1, by omega, by omega, rfl, fun j h0 h1 => by omega⟩
  case round =>
    obtain ⟨k, hk0, hk, rfl, hno⟩ := hrel
    have HNo := Lib.hid hno
    clear hno
    by_cases hlt : k < 4
    · have hne : (levelW k == []) = false := beq_eq_false_iff_ne.2 (whichL_any_ne k hk0 (by omega))
      have hne' : (levelW k != []) = true := by simpa using whichL_any_ne k hk0 (by omega)
      have hne2 : (levelW k).isEmpty = false := by simpa using whichL_any_ne k hk0 (by omega)
      have HCk := Lib.hid (HC.out k)
      have HHk := Lib.hid (HHit.out k hk0 (by omega))
      have HN : RowKit.Hid (levelW k ≠ l → ∀ j : Nat, 1 ≤ j → j < k + 1 → levelW j ≠ l) := Lib.hid (fun he j h0 h1 => by
        by_cases h : j = k
        · rw [h]; exact he
        · exact HNo.out j h0 (by omega))
      generalize levelW (k : Int) = W at *
      by_cases he : W = l
      · have HR := Lib.hid (HHk.out he)
        have hb : (W == l) = true := by rw [he]; simp
        clear he HHk
        go_wp2_with (go_at_call 72; refine HCk.out.mono ?_; rintro e w' ⟨rfl, rfl⟩)
        go_ret
        exact ⟨by rw [HR.out]; rfl, rfl⟩
      · have HN2 := Lib.hid (HN.out he)
        have hb : (W == l) = false := beq_eq_false_iff_ne.2 he
        clear he HHk HN
        go_wp2_with (go_at_call 72; refine HCk.out.mono ?_; rintro e w' ⟨rfl, rfl⟩)
        go_round
        case rel => exact ⟨k + 1, by omega, by omega, by go_num, HN2.out⟩
        case measure => simp [RowKit.intOf]; omega
    · have hk7 : k = 4 := by omega
      subst hk7
      have HR := Lib.hid (HMiss.out (fun j h0 h1 => HNo.out j h0 h1))
      have HCk := Lib.hid (HC.out 4)
      rw [levelW_out 4 (by omega)] at HCk
      go_wp2_with (go_at_call 72; refine HCk.out.mono ?_; rintro e w' ⟨rfl, rfl⟩)
      go_ret
      exact ⟨by rw [HR.out]; rfl, rfl⟩

theorem whichP_any_hit (l : List UInt8) (k : Nat) (h0 : 1 ≤ k) (h1 : k ≤ 2) (h : policyW k = l) : policyN l = k := by
  subst h
  have h3 : k = 1 ∨ k = 2 := by omega
  rcases h3 with rfl | rfl <;> decide
theorem whichP_any_miss (l : List UInt8) (h : ∀ j : Nat, 1 ≤ j → j < 3 → policyW j ≠ l) : policyN l = 0 := by
  have h1 := h 1 (by decide) (by decide)
  have h2 := h 2 (by decide) (by decide)
  unfold policyN
  rw [if_neg (fun e => h1 e.symm), if_neg (fun e => h2 e.symm)]
theorem whichP_any_ne (k : Nat) (h0 : 1 ≤ k) (h1 : k ≤ 2) : policyW k ≠ [] := by
  have h3 : k = 1 ∨ k = 2 := by omega
  rcases h3 with rfl | rfl <;> decide
set_option maxRecDepth 100000 in
set_option maxHeartbeats 2000000 in
theorem whichP_any (l : List UInt8) (w : World) (hS : ScTab w) :
    Calls Tryd.prog 134 #[.string (bs l), .func (.func 73) #[] #[]] w fun e w' => e = .returned (.int .i64 (policyN l)) ∧ w = w' := by
  have HC := Lib.hid (fun n => policy_any n w hS)
  have en := enters_of Tryd.func73 (by kernel_rfl) rfl
  have HHit := Lib.hid (whichP_any_hit l)
  have HMiss := Lib.hid (whichP_any_miss l)
  clear hS
  go_enter Tryd.func134, Tryd.ntmps134
  go_wp2_with fail
  go_loop [5] (fun i => ∃ k : Nat, 1 ≤ k ∧ k ≤ 3 ∧ i = .int .i64 k ∧ ∀ j : Nat, 1 ≤ j → j < k → policyW j ≠ l) (fun i => 3 - (RowKit.intOf i).toNat)
  case atStart => exact ⟨1, by omega, by omega, rfl, fun j h0 h1 => by omega⟩
  case round =>
    obtain ⟨k, hk0, hk, rfl, hno⟩ := hrel
    have HNo := Lib.hid hno
    clear hno
    by_cases hlt : k < 3
    · have hne : (policyW k == []) = false := beq_eq_false_iff_ne.2 (whichP_any_ne k hk0 (by omega))
      have hne' : (policyW k != []) = true := by simpa using whichP_any_ne k hk0 (by omega)
      have hne2 : (policyW k).isEmpty = false := by simpa using whichP_any_ne k hk0 (by omega)
      have HCk := Lib.hid (HC.out k)
      have HHk := Lib.hid (HHit.out k hk0 (by omega))
      have HN : RowKit.Hid (policyW k ≠ l → ∀ j : Nat, 1 ≤ j → j < k + 1 → policyW j ≠ l) := Lib.hid (fun he j h0 h1 => by
        by_cases h : j = k
        · rw [h]; exact he
        · exact HNo.out j h0 (by omega))
      generalize policyW (k : Int) = W at *
      by_cases he : W = l
      · have HR := Lib.hid (HHk.out he)
        have hb : (W == l) = true := by rw [he]; simp
        clear he HHk
        go_wp2_with (go_at_call 73; refine HCk.out.mono ?_; rintro e w' ⟨rfl, rfl⟩)
        go_ret
        exact ⟨by rw [HR.out]; rfl, rfl⟩
      · have HN2 := Lib.hid (HN.out he)
        have hb : (W == l) = false := beq_eq_false_iff_ne.2 he
        clear he HHk HN
        go_wp2_with (go_at_call 73; refine HCk.out.mono ?_; rintro e w' ⟨rfl, rfl⟩)
        go_round
        case rel => exact ⟨k + 1, by omega, by omega, by go_num, HN2.out⟩
        case measure => simp [RowKit.intOf]; omega
    · have hk7 : k = 3 := by omega
      subst hk7
      have HR := Lib.hid (HMiss.out (fun j h0 h1 => HNo.out j h0 h1))
      have HCk := Lib.hid (HC.out 3)
      rw [policyW_out 3 (by omega)] at HCk
      go_wp2_with (go_at_call 73; refine HCk.out.mono ?_; rintro e w' ⟨rfl, rfl⟩)
      go_ret
      exact ⟨by rw [HR.out]; rfl, rfl⟩
end Go.Proofs.YtphhgdgamnogpaaDoor

namespace Go.Proofs.YtphhgdgamnogpaaDoor
open Go.RowKit Go.Lib

theorem budget_cases (l : List UInt8) : (∃ e, parseL l = (0, e) ∧ (e != 0) = true ∧ (e == 0) = false ∧ budgetC l = (0, e)) ∨ (∃ n, parseL l = (n, 0) ∧ decide (n < 0) = true ∧ n < 0 ∧ budgetC l = (0, 2)) ∨ (∃ n, parseL l = (n, 0) ∧ decide (n < 0) = false ∧ 0 ≤ n ∧ budgetC l = (n, 0)) := by
  obtain ⟨n, e, hp⟩ : ∃ n e, parseL l = (n, e) := ⟨_, _, rfl⟩
  by_cases he : e = 0
  · subst he
    by_cases hn : n < 0
    · exact .inr (.inl ⟨n, hp, by simpa using hn, hn, by unfold budgetC; rw [hp, if_neg (by simp), if_pos hn]⟩)
    · exact .inr (.inr ⟨n, hp, by simpa using hn, by omega, by unfold budgetC; rw [hp, if_neg (by simp), if_neg hn]⟩)
  · have h0 := parseL_bad l (by rw [hp]; exact he)
    rw [hp] at h0
    simp only at h0
    subst h0
    exact .inl ⟨e, hp, by simpa using he, by simpa using he, by unfold budgetC; rw [hp, if_pos he]⟩

set_option maxRecDepth 100000 in
set_option maxHeartbeats 2000000 in
theorem svalue_any (k : Int) (l : List UInt8) (hl : l.length ≤ 1000000) (w : World) (hS : ScTab w) :
    Calls Tryd.prog 99 #[.int .i64 k, .string (bs l)] w fun e w' => e = .returned (.tuple #[.int .i64 (secondC k l).1, .int .i64 (secondC k l).2]) ∧ w = w' := by
  have HL := Lib.hid (whichL_any l w hS)
  have HP := Lib.hid (whichP_any l w hS)
  have HD := Lib.hid (fun n e (hp : parseL l = (n, e)) w' => parse_at l n e (by omega) hp w')
  clear hS
  by_cases h1 : k = 1
  · subst h1
    have e : secondC 1 l = (levelN l, if levelN l = 0 then 5 else 0) := rfl
    rw [e]
    by_cases hz : levelN l = 0
    · rw [if_pos hz]
      rw [hz] at HL ⊢
      clear hz e HP HD
      go_enter Tryd.func99, Tryd.ntmps99
      go_wp2_with (go_at_call 134; refine HL.out.mono ?_; rintro e w' ⟨rfl, rfl⟩)
      go_ret2
      exact ⟨rfl, rfl⟩
    · rw [if_neg hz]
      have hb : (levelN l == 0) = false := beq_eq_false_iff_ne.2 hz
      generalize levelN l = n at *
      clear hz e HP HD
      go_enter Tryd.func99, Tryd.ntmps99
      go_wp2_with (go_at_call 134; refine HL.out.mono ?_; rintro e w' ⟨rfl, rfl⟩)
      go_ret2
      exact ⟨rfl, rfl⟩
  · by_cases h2 : k = 2
    · subst h2
      have e : secondC 2 l = (policyN l, if policyN l = 0 then 5 else 0) := rfl
      rw [e]
      by_cases hz : policyN l = 0
      · rw [if_pos hz]
        rw [hz] at HP ⊢
        clear hz e HL HD h1
        go_enter Tryd.func99, Tryd.ntmps99
        go_wp2_with (go_at_call 134; refine HP.out.mono ?_; rintro e w' ⟨rfl, rfl⟩)
        go_ret2
        exact ⟨rfl, rfl⟩
      · rw [if_neg hz]
        have hb : (policyN l == 0) = false := beq_eq_false_iff_ne.2 hz
        generalize policyN l = n at *
        clear hz e HL HD h1
        go_enter Tryd.func99, Tryd.ntmps99
        go_wp2_with (go_at_call 134; refine HP.out.mono ?_; rintro e w' ⟨rfl, rfl⟩)
        go_ret2
        exact ⟨rfl, rfl⟩
    · have e : secondC k l = budgetC l := by unfold secondC; rw [if_neg h1, if_neg h2]
      have hb1 : (k == 1) = false := beq_eq_false_iff_ne.2 h1
      have hb2 : (k == 2) = false := beq_eq_false_iff_ne.2 h2
      rw [e]
      clear e h1 h2 HL HP
      rcases budget_cases l with ⟨e, hp, he, he2, hb⟩ | ⟨n, hp, hn, hn2, hb⟩ | ⟨n, hp, hn, hn2, hb⟩
      all_goals
        have HV := Lib.hid (HD.out _ _ hp)
        rw [hb]
        clear hp hb HD
        go_enter Tryd.func99, Tryd.ntmps99
        go_wp2_with (go_at_call 135; refine (HV.out _).mono ?_; rintro e w' ⟨rfl, rfl⟩)
        go_ret2
        exact ⟨rfl, rfl⟩

/-- A command as a value. -/
def cmdV (x : CmdM) : Value := .agg #[.int .i64 x.1, .int .i64 x.2.1, .int .i64 x.2.2]
theorem results_cell2 {fn : Func} {a t : Nat} {u : Tmp} (h : fn.results = #[.cell a t, .tmp u]) (tmps : Array Value) (P : Program) (w : World) (A : Addr) (x : Value) (ha : tmps.getD a undef = .pointer (some A)) (hl : (loadVar t A).run P w = .ok x w) :
    (results fn tmps).run P w = .ok (.tuple #[x, tmps.getD u undef]) w := by
  have ha' : tmps[a]?.getD undef = .pointer (some A) := by simpa using ha
  simp [results, h, ha', hl, asAddr]
theorem command_cases (k : Int) (m : Nat) (l1 : List UInt8) : (3 < k ∧ m = 0 ∧ oneC k (m + 1) l1 = ((0, k, 0), 0)) ∨ (3 < k ∧ m ≠ 0 ∧ oneC k (m + 1) l1 = (noCmd, 5)) ∨ (k ≤ 3 ∧ m ≠ 1 ∧ oneC k (m + 1) l1 = (noCmd, 5)) ∨
    (k ≤ 3 ∧ m = 1 ∧ oneC k (m + 1) l1 = ((0, k, (secondC k l1).1), (secondC k l1).2)) := by
  unfold oneC
  by_cases h3 : 3 < k
  · by_cases hm : m = 0
    · exact .inl ⟨h3, hm, by rw [if_pos h3, if_pos (by omega)]⟩
    · exact .inr (.inl ⟨h3, hm, by rw [if_pos h3, if_neg (by omega)]⟩)
  · by_cases hm : m = 1
    · exact .inr (.inr (.inr ⟨by omega, hm, by rw [if_neg h3, if_pos (by omega)]⟩))
    · exact .inr (.inr (.inl ⟨by omega, hm, by rw [if_neg h3, if_neg (by omega)]⟩))
set_option maxHeartbeats 1000000 in
theorem sset_any (k : Int) (w : World) : Calls Tryd.prog 78 #[.int .i64 k] w fun e w' => e = .returned (.bool (decide (k ≤ 3))) ∧ w = w' := by
  go_enter Tryd.func78, Tryd.ntmps78
  go_wp2
  go_ret
  exact ⟨rfl, rfl⟩

set_option maxRecDepth 100000 in
set_option maxHeartbeats 2000000 in
theorem command_any (k : Int) (p : Option Addr) (m c : Nat) (l1 : List UInt8) (hl : l1.length ≤ 1000000) (w : World) (hm : m = 1 → ∃ g o, p = some ⟨g, o, none⟩ ∧ w.cell? ⟨g, o, none⟩ = some (.string (bs l1))) (hS : ScTab w) :
    Calls Tryd.prog 53 #[.int .i64 k, .slice p m c] w fun e w' => e = .returned (.tuple #[cmdV (oneC k (m + 1) l1).1, .int .i64 (oneC k (m + 1) l1).2]) ∧ Below w.heap.size w w' := by
  have HV := Lib.hid (fun w' (h : Below w.heap.size w w') => svalue_any k l1 hl w' (hS.below h))
  clear hS
  rcases command_cases k m l1 with ⟨h3, rfl, h⟩ | ⟨h3, hm0, h⟩ | ⟨h3, hm0, h⟩ | ⟨h3, rfl, h⟩
  · rw [h]
    clear h hm HV
    have hd : decide (k ≤ 3) = false := decide_eq_false (by omega)
    go_enter Tryd.func53, Tryd.ntmps53
    go_wp2_with fail
    refine (sset_any k _).mono ?_
    rintro e w' ⟨rfl, rfl⟩
    go_wp21
    refine bodyPost_ret ?_ rfl ⟨rfl, ?_⟩
    · simp [results, Tryd.results53, go_sem, cmdV]
      try rfl
    · (repeat' (first | (with_reducible exact Below.refl _ _) | (with_reducible assumption) | (refine below_next ?_ (by with_reducible assumption)) | (with_reducible refine Below.setCell ?_ ?_ _) | (with_reducible refine Below.alloc ?_ ?_ _) | (with_reducible refine Below.drew ?_) | (with_reducible refine below_drewN ?_ _) | omega | (simp; done) | (simp; omega)))
  · rw [h]
    have hd : decide (k ≤ 3) = false := decide_eq_false (by omega)
    have hz : ((m : Int) == 0) = false := beq_eq_false_iff_ne.2 (by omega)
    clear h hm HV
    go_enter Tryd.func53, Tryd.ntmps53
    go_wp2_with fail
    refine (sset_any k _).mono ?_
    rintro e w' ⟨rfl, rfl⟩
    go_wp2_with fail
    refine (sset_any k _).mono ?_
    rintro e w' ⟨rfl, rfl⟩
    go_wp21
    refine bodyPost_ret ?_ rfl ⟨rfl, ?_⟩
    · simp [results, Tryd.results53, go_sem, cmdV, noCmd]
      try rfl
    · (repeat' (first | (with_reducible exact Below.refl _ _) | (with_reducible assumption) | (refine below_next ?_ (by with_reducible assumption)) | (with_reducible refine Below.setCell ?_ ?_ _) | (with_reducible refine Below.alloc ?_ ?_ _) | (with_reducible refine Below.drew ?_) | (with_reducible refine below_drewN ?_ _) | omega | (simp; done) | (simp; omega)))
  · rw [h]
    have hd : decide (k ≤ 3) = true := decide_eq_true (by omega)
    have hz : ((m : Int) != 1) = true := by simp; omega
    clear h hm HV
    go_enter Tryd.func53, Tryd.ntmps53
    go_wp2_with fail
    refine (sset_any k _).mono ?_
    rintro e w' ⟨rfl, rfl⟩
    go_wp2_with fail
    refine (sset_any k _).mono ?_
    rintro e w' ⟨rfl, rfl⟩
    go_wp21
    refine bodyPost_ret ?_ rfl ⟨rfl, ?_⟩
    · simp [results, Tryd.results53, go_sem, cmdV, noCmd]
      try rfl
    · (repeat' (first | (with_reducible exact Below.refl _ _) | (with_reducible assumption) | (refine below_next ?_ (by with_reducible assumption)) | (with_reducible refine Below.setCell ?_ ?_ _) | (with_reducible refine Below.alloc ?_ ?_ _) | (with_reducible refine Below.drew ?_) | (with_reducible refine below_drewN ?_ _) | omega | (simp; done) | (simp; omega)))
  · rw [h]
    have hd : decide (k ≤ 3) = true := decide_eq_true (by omega)
    obtain ⟨g, o, rfl, hc⟩ := hm rfl
    have hg : g < w.heap.size := World.block_lt_of_cell? w _ hc
    obtain ⟨⟨n, e⟩, hs⟩ : ∃ x, secondC k l1 = x := ⟨_, rfl⟩
    rw [hs] at HV ⊢
    simp only at HV
    clear h hs
    have hal := (Below.refl w.heap.size w).alloc (Nat.le_refl _) (.cells #[.int .i64 0, .int .i64 0, .int .i64 0] 51)
    go_enter Tryd.func53, Tryd.ntmps53
    go_wp2_with fail
    refine (sset_any k _).mono ?_
    rintro e w' ⟨rfl, rfl⟩
    go_wp2_with fail
    refine (sset_any k _).mono ?_
    rintro e w' ⟨rfl, rfl⟩
    go_wp2_with fail
    refine (HV.out _ hal).mono ?_
    rintro e w' ⟨rfl, rfl⟩
    go_wp21
    refine bodyPost_ret ?_ rfl ⟨rfl, ?_⟩
    · simp [results, Tryd.results53, go_sem, cmdV]
      try rfl
    · (repeat' (first | (with_reducible exact Below.refl _ _) | (with_reducible assumption) | (refine below_next ?_ (by with_reducible assumption)) | (with_reducible refine Below.setCell ?_ ?_ _) | (with_reducible refine Below.alloc ?_ ?_ _) | (with_reducible refine Below.drew ?_) | (with_reducible refine below_drewN ?_ _) | omega | (simp; done) | (simp; omega)))
end Go.Proofs.YtphhgdgamnogpaaDoor

namespace Go.Proofs.YtphhgdgamnogpaaDoor
open Go.RowKit Go.Lib

/-- A command's three cells. -/
def cmc (x : CmdM) : List Value := [.int .i64 x.1, .int .i64 x.2.1, .int .i64 x.2.2]
theorem cmc_len (x : CmdM) : (cmc x).length = 3 := rfl
def CmdsS (w : World) (v : Value) (L : List CmdM) : Prop := SlS cmc 3 noCmd w v L
theorem info_cmd : (Tryd.prog.info? 51).map (fun i => (i.zero, i.size, i.bytes)) = some (some (.agg #[.int .i64 0, .int .i64 0, .int .i64 0]), 3, 24) := by kernel_rfl
theorem ones_cmd (a b c : Int) : ∀ u ∈ ([.int .i64 a, .int .i64 b, .int .i64 c] : List Value), u.oneCell' = true := by
  intro u hu
  simp at hu
  rcases hu with rfl | rfl | rfl <;> rfl
theorem cmd_skip (t : List UInt8) (r : List (List UInt8)) (i : Nat) (out : List CmdM) (h : (wordsR t).1 = []) : cmdGo (t :: r) i out = cmdGo r (i + 1) out := by
  rw [cmdGo, if_pos (by unfold wordsC; rw [h]; rfl)]
theorem lineC_eq (t : List UInt8) : lineC t = readC (wordsR t).1.length ((wordsR t).1.getD 0 ([], 0)).1 ((wordsR t).1.getD 1 ([], 0)).1 := by
  unfold lineC wordsC
  rw [map_fst_getD, map_fst_getD, List.length_map]
theorem wordsC_ne (t : List UInt8) (h : (wordsR t).1 ≠ []) : wordsC t ≠ [] := by
  unfold wordsC
  simpa using h
theorem cmd_bad (t : List UInt8) (r : List (List UInt8)) (i : Nat) (out : List CmdM) (h : (wordsR t).1 ≠ []) (x : CmdM) (e : Int) (hl : lineC t = (x, e)) (he : e ≠ 0) : cmdGo (t :: r) i out = ([], ((i + 1 : Nat) : Int), e) := by
  unfold cmdGo
  rw [if_neg (wordsC_ne t h), hl, if_pos he]
theorem cmd_full (t : List UInt8) (r : List (List UInt8)) (i : Nat) (out : List CmdM) (h : (wordsR t).1 ≠ []) (x : CmdM) (hl : lineC t = (x, 0)) (ho : out.length = 200) : cmdGo (t :: r) i out = ([], ((i + 1 : Nat) : Int), 7) := by
  unfold cmdGo
  rw [if_neg (wordsC_ne t h), hl, if_neg (by simp), if_pos ho]
theorem cmd_more (t : List UInt8) (r : List (List UInt8)) (i : Nat) (out : List CmdM) (h : (wordsR t).1 ≠ []) (x : CmdM) (hl : lineC t = (x, 0)) (ho : out.length ≠ 200) : cmdGo (t :: r) i out = cmdGo r (i + 1) (out ++ [onRow x ((i + 1 : Nat) : Int)]) := by
  rw [cmdGo, if_neg (wordsC_ne t h), hl, if_neg (by simp), if_neg ho]
theorem cmdK_miss (l : List UInt8) (h : ∀ j : Nat, 1 ≤ j → j < 11 → firstW j ≠ l) : cmdK l = 0 := by
  have hr := cmdK_range l
  by_cases h0 : cmdK l = 0
  · exact h0
  · exfalso
    obtain ⟨j, hj⟩ : ∃ j : Nat, cmdK l = j := ⟨(cmdK l).toNat, by omega⟩
    exact h j (by omega) (by omega) ((cmdK_eq l j (by omega) (by omega)).1 hj)
theorem readC_at (m : Nat) (l0 l1 : List UInt8) (j : Nat) (h1 : 1 ≤ j) (h2 : j < 11) (h : firstW j = l0) : readC m l0 l1 = oneC j m l1 := by
  have := (cmdK_eq l0 j h1 h2).2 h
  unfold readC
  rw [this, if_neg (by omega)]
theorem readC_no (m : Nat) (l0 l1 : List UInt8) (h : cmdK l0 = 0) : readC m l0 l1 = (noCmd, 5) := by
  unfold readC
  rw [if_pos h]
theorem oneC_row (k : Int) (m : Nat) (l1 : List UInt8) : (oneC k m l1).1.1 = 0 := by
  unfold oneC noCmd
  repeat' split
  all_goals rfl
theorem tabS_0 (w : World) : (Instr.index 84 (.agg #[.string (bs []), .string (bs [108, 101, 118, 101, 108]), .string (bs [112, 111, 108, 105, 99, 121]), .string (bs [98, 117, 100, 103, 101, 116]), .string (bs [99, 104, 101, 99, 107]), .string (bs [114, 101, 112, 111, 114, 116]), .string (bs [102, 111, 114, 99, 101, 100]), .string (bs [119, 111, 114, 108, 100, 115]), .string (bs [101, 110, 111, 117, 103, 104]), .string (bs [115, 104, 111, 119]), .string (bs [119, 114, 111, 110, 103])]) (.int .i64 0)).run Tryd.prog w = .ok (.string (bs [])) w := by kernel_rfl
theorem tabS_1 (w : World) : (Instr.index 84 (.agg #[.string (bs []), .string (bs [108, 101, 118, 101, 108]), .string (bs [112, 111, 108, 105, 99, 121]), .string (bs [98, 117, 100, 103, 101, 116]), .string (bs [99, 104, 101, 99, 107]), .string (bs [114, 101, 112, 111, 114, 116]), .string (bs [102, 111, 114, 99, 101, 100]), .string (bs [119, 111, 114, 108, 100, 115]), .string (bs [101, 110, 111, 117, 103, 104]), .string (bs [115, 104, 111, 119]), .string (bs [119, 114, 111, 110, 103])]) (.int .i64 1)).run Tryd.prog w = .ok (.string (bs [108, 101, 118, 101, 108])) w := by kernel_rfl
theorem tabS_2 (w : World) : (Instr.index 84 (.agg #[.string (bs []), .string (bs [108, 101, 118, 101, 108]), .string (bs [112, 111, 108, 105, 99, 121]), .string (bs [98, 117, 100, 103, 101, 116]), .string (bs [99, 104, 101, 99, 107]), .string (bs [114, 101, 112, 111, 114, 116]), .string (bs [102, 111, 114, 99, 101, 100]), .string (bs [119, 111, 114, 108, 100, 115]), .string (bs [101, 110, 111, 117, 103, 104]), .string (bs [115, 104, 111, 119]), .string (bs [119, 114, 111, 110, 103])]) (.int .i64 2)).run Tryd.prog w = .ok (.string (bs [112, 111, 108, 105, 99, 121])) w := by kernel_rfl
theorem tabS_3 (w : World) : (Instr.index 84 (.agg #[.string (bs []), .string (bs [108, 101, 118, 101, 108]), .string (bs [112, 111, 108, 105, 99, 121]), .string (bs [98, 117, 100, 103, 101, 116]), .string (bs [99, 104, 101, 99, 107]), .string (bs [114, 101, 112, 111, 114, 116]), .string (bs [102, 111, 114, 99, 101, 100]), .string (bs [119, 111, 114, 108, 100, 115]), .string (bs [101, 110, 111, 117, 103, 104]), .string (bs [115, 104, 111, 119]), .string (bs [119, 114, 111, 110, 103])]) (.int .i64 3)).run Tryd.prog w = .ok (.string (bs [98, 117, 100, 103, 101, 116])) w := by kernel_rfl
theorem tabS_4 (w : World) : (Instr.index 84 (.agg #[.string (bs []), .string (bs [108, 101, 118, 101, 108]), .string (bs [112, 111, 108, 105, 99, 121]), .string (bs [98, 117, 100, 103, 101, 116]), .string (bs [99, 104, 101, 99, 107]), .string (bs [114, 101, 112, 111, 114, 116]), .string (bs [102, 111, 114, 99, 101, 100]), .string (bs [119, 111, 114, 108, 100, 115]), .string (bs [101, 110, 111, 117, 103, 104]), .string (bs [115, 104, 111, 119]), .string (bs [119, 114, 111, 110, 103])]) (.int .i64 4)).run Tryd.prog w = .ok (.string (bs [99, 104, 101, 99, 107])) w := by kernel_rfl
theorem tabS_5 (w : World) : (Instr.index 84 (.agg #[.string (bs []), .string (bs [108, 101, 118, 101, 108]), .string (bs [112, 111, 108, 105, 99, 121]), .string (bs [98, 117, 100, 103, 101, 116]), .string (bs [99, 104, 101, 99, 107]), .string (bs [114, 101, 112, 111, 114, 116]), .string (bs [102, 111, 114, 99, 101, 100]), .string (bs [119, 111, 114, 108, 100, 115]), .string (bs [101, 110, 111, 117, 103, 104]), .string (bs [115, 104, 111, 119]), .string (bs [119, 114, 111, 110, 103])]) (.int .i64 5)).run Tryd.prog w = .ok (.string (bs [114, 101, 112, 111, 114, 116])) w := by kernel_rfl
theorem tabS_6 (w : World) : (Instr.index 84 (.agg #[.string (bs []), .string (bs [108, 101, 118, 101, 108]), .string (bs [112, 111, 108, 105, 99, 121]), .string (bs [98, 117, 100, 103, 101, 116]), .string (bs [99, 104, 101, 99, 107]), .string (bs [114, 101, 112, 111, 114, 116]), .string (bs [102, 111, 114, 99, 101, 100]), .string (bs [119, 111, 114, 108, 100, 115]), .string (bs [101, 110, 111, 117, 103, 104]), .string (bs [115, 104, 111, 119]), .string (bs [119, 114, 111, 110, 103])]) (.int .i64 6)).run Tryd.prog w = .ok (.string (bs [102, 111, 114, 99, 101, 100])) w := by kernel_rfl
theorem tabS_7 (w : World) : (Instr.index 84 (.agg #[.string (bs []), .string (bs [108, 101, 118, 101, 108]), .string (bs [112, 111, 108, 105, 99, 121]), .string (bs [98, 117, 100, 103, 101, 116]), .string (bs [99, 104, 101, 99, 107]), .string (bs [114, 101, 112, 111, 114, 116]), .string (bs [102, 111, 114, 99, 101, 100]), .string (bs [119, 111, 114, 108, 100, 115]), .string (bs [101, 110, 111, 117, 103, 104]), .string (bs [115, 104, 111, 119]), .string (bs [119, 114, 111, 110, 103])]) (.int .i64 7)).run Tryd.prog w = .ok (.string (bs [119, 111, 114, 108, 100, 115])) w := by kernel_rfl
theorem tabS_8 (w : World) : (Instr.index 84 (.agg #[.string (bs []), .string (bs [108, 101, 118, 101, 108]), .string (bs [112, 111, 108, 105, 99, 121]), .string (bs [98, 117, 100, 103, 101, 116]), .string (bs [99, 104, 101, 99, 107]), .string (bs [114, 101, 112, 111, 114, 116]), .string (bs [102, 111, 114, 99, 101, 100]), .string (bs [119, 111, 114, 108, 100, 115]), .string (bs [101, 110, 111, 117, 103, 104]), .string (bs [115, 104, 111, 119]), .string (bs [119, 114, 111, 110, 103])]) (.int .i64 8)).run Tryd.prog w = .ok (.string (bs [101, 110, 111, 117, 103, 104])) w := by kernel_rfl
theorem tabS_9 (w : World) : (Instr.index 84 (.agg #[.string (bs []), .string (bs [108, 101, 118, 101, 108]), .string (bs [112, 111, 108, 105, 99, 121]), .string (bs [98, 117, 100, 103, 101, 116]), .string (bs [99, 104, 101, 99, 107]), .string (bs [114, 101, 112, 111, 114, 116]), .string (bs [102, 111, 114, 99, 101, 100]), .string (bs [119, 111, 114, 108, 100, 115]), .string (bs [101, 110, 111, 117, 103, 104]), .string (bs [115, 104, 111, 119]), .string (bs [119, 114, 111, 110, 103])]) (.int .i64 9)).run Tryd.prog w = .ok (.string (bs [115, 104, 111, 119])) w := by kernel_rfl
theorem tabS_10 (w : World) : (Instr.index 84 (.agg #[.string (bs []), .string (bs [108, 101, 118, 101, 108]), .string (bs [112, 111, 108, 105, 99, 121]), .string (bs [98, 117, 100, 103, 101, 116]), .string (bs [99, 104, 101, 99, 107]), .string (bs [114, 101, 112, 111, 114, 116]), .string (bs [102, 111, 114, 99, 101, 100]), .string (bs [119, 111, 114, 108, 100, 115]), .string (bs [101, 110, 111, 117, 103, 104]), .string (bs [115, 104, 111, 119]), .string (bs [119, 114, 111, 110, 103])]) (.int .i64 10)).run Tryd.prog w = .ok (.string (bs [119, 114, 111, 110, 103])) w := by kernel_rfl
/-- The first word of a kind, out of the array's value. -/
def tabS (j : Nat) : Prop := ∀ w : World, (Instr.index 84 (.agg #[.string (bs []), .string (bs [108, 101, 118, 101, 108]), .string (bs [112, 111, 108, 105, 99, 121]), .string (bs [98, 117, 100, 103, 101, 116]), .string (bs [99, 104, 101, 99, 107]), .string (bs [114, 101, 112, 111, 114, 116]), .string (bs [102, 111, 114, 99, 101, 100]), .string (bs [119, 111, 114, 108, 100, 115]), .string (bs [101, 110, 111, 117, 103, 104]), .string (bs [115, 104, 111, 119]), .string (bs [119, 114, 111, 110, 103])]) (.int .i64 j)).run Tryd.prog w = .ok (.string (bs (firstW j))) w
theorem tabS_at : ∀ j : Nat, j < 11 → tabS j := by
  intro j hj w
  match j, hj with
  | 0, _ => exact tabS_0 w
  | 1, _ => exact tabS_1 w
  | 2, _ => exact tabS_2 w
  | 3, _ => exact tabS_3 w
  | 4, _ => exact tabS_4 w
  | 5, _ => exact tabS_5 w
  | 6, _ => exact tabS_6 w
  | 7, _ => exact tabS_7 w
  | 8, _ => exact tabS_8 w
  | 9, _ => exact tabS_9 w
  | 10, _ => exact tabS_10 w

set_option maxRecDepth 100000 in
set_option maxHeartbeats 8000000 in
theorem sparse_any (l : List UInt8) (hl : l.length ≤ 1000000) (w : World) (hm : HasMax w) (hS : ScTab w) :
    Calls Tryd.prog 15 #[.string (bs l)] w fun e w' => ∃ v, e = .returned (.tuple #[v, .int .i64 (readS l).2.1, .int .i64 (readS l).2.2]) ∧ CmdsS w' v (readS l).1 ∧ Below w.heap.size w w' := by
  have HO := Lib.hid (lof_any l hl w hm)
  have HP := Lib.hid (fun t (ht : t.length ≤ 1000000) w' (h : Below w.heap.size w w') => swords_any t ht w' (hm.below h))
  have HCm := Lib.hid (fun k p m c l1 (hl1 : l1.length ≤ 1000000) w' h9 (h : Below w.heap.size w w') => command_any k p m c l1 hl1 w' h9 (hS.below h))
  have HLs := Lib.hid (fun j => Nat.le_trans (line_short l j) hl)
  have HST := Lib.hid hS
  have hlen : (ofL l).1.length ≤ 1000001 := by
    unfold ofL
    split
    · simp
    · by_cases h : (resGo (linesL l) 0 (linesL l)).2.2 = 0
      · rw [(resGo_full _ _ _ h).1]
        have := lines_len l []
        unfold linesL
        omega
      · rw [(resGo_bad _ _ _ h).1]; simp
  clear hm hS
  have hre : readS l = if (ofL l).2.2 ≠ 0 then ([], ((ofL l).2.1 : Int), ((ofL l).2.2 : Int)) else cmdGo (ofL l).1 0 [] := rfl
  obtain ⟨⟨lns, en, ee⟩, hof⟩ : ∃ y, ofL l = y := ⟨_, rfl⟩
  rw [hof] at HO HLs hlen hre
  simp only at HO HLs hlen hre
  generalize readS l = R at *
  clear hof hl
  by_cases he : ee = 0
  · subst he
    rw [if_neg (by simp)] at hre
    have HRe := Lib.hid hre
    clear hre
    obtain ⟨i0, hi, hz0, hz1, hz2⟩ := info_parts info_cmd
    have IX := Lib.hid tabS_at
    go_enter Tryd.func15, Tryd.ntmps15
    go_wp2_with fail
    go_step3
    go_wp2_with fail
    refine HO.out.mono ?_
    rintro e w1 ⟨v1, rfl, hv1, hb1⟩
    obtain ⟨p, cap, rfl, hc⟩ := hv1
    have HC := Lib.hid hc
    have HB1 := Lib.hid hb1
    clear hc hb1
    go_wp2_with fail
    go_step3
    go_wp2_with fail
    go_loopg [8, 29] lns.length (fun g v8 i wr => ∃ (k : Nat) (out : List CmdM), k + g = lns.length ∧ out.length ≤ k ∧ i = .int .i64 k ∧ wr.ownsRow w1.heap.size 51 3 v8 out.length (out.flatMap cmc) ∧ RowKit.Hid (cmdGo (lns.drop k) k out = R) ∧ Below w1.heap.size w1 wr)
    case atStart => exact ⟨0, [], by omega, Nat.le_refl _, rfl, World.ownsRow_nil _ _ _ _, Lib.hid (by rw [List.drop_zero]; exact HRe.out.symm), Below.refl _ _⟩
    case round =>
      obtain ⟨k, out, hkg, hol, rfl, hown, HG, hbw⟩ := hrel
      cases gk with
      | zero =>
        have hke : k = lns.length := by omega
        subst hke
        have HR : RowKit.Hid (R = (out, 0, 0)) := Lib.hid (by rw [← HG.out, List.drop_length]; rfl)
        have HOw := Lib.hid (own_sls noCmd cmc_len hown)
        clear hown HG
        go_wp2_with fail
        try rw [Exit.noGoto_ret]
        go_ret3
        exact ⟨_, by rw [HR.out]; rfl, by rw [HR.out]; exact HOw.out, below_next HB1.out hbw⟩
      | succ g0 =>
        have hlt : k < lns.length := by omega
        obtain ⟨g, rfl, hcell⟩ := HC.out k hlt
        have hc1 := cell_later hbw hcell
        have hd : lns.drop k = lns.getD k [] :: lns.drop (k + 1) := by
          rw [List.drop_eq_getElem_cons hlt]
          simp [hlt]
        have HG2 := Lib.hid HG.out
        rw [hd] at HG2
        have htl := HLs.out k
        have HPk := Lib.hid (HP.out (lns.getD k []) htl)
        have hwl := fun j => Nat.le_trans (word_len (lns.getD k []) j) htl
        generalize lns.getD k [] = t at *
        have HB := Lib.hid (below_next HB1.out hbw)
        have HBw := Lib.hid hbw
        have HOw := Lib.hid hown
        have HLc := Lib.hid (lineC_eq t)
        have HSk := Lib.hid (cmd_skip t (lns.drop (k + 1)) k out)
        have HBad := Lib.hid (cmd_bad t (lns.drop (k + 1)) k out)
        have HFull := Lib.hid (cmd_full t (lns.drop (k + 1)) k out)
        have HMore := Lib.hid (cmd_more t (lns.drop (k + 1)) k out)
        obtain ⟨⟨W, we⟩, hW⟩ : ∃ y, wordsR t = y := ⟨_, rfl⟩
        rw [hW] at HPk hwl HLc HSk HBad HFull HMore
        simp only at HPk hwl HLc HSk HBad HFull HMore
        clear HG hd hcell hown hbw htl hW
        go_wp2_with fail
        refine (HPk.out _ HB.out).mono ?_
        rintro e2 w2 ⟨v2, rfl, hv2, hb2⟩
        obtain ⟨p2, cap2, rfl, hcw, hncap, hcapm⟩ := hv2
        have hf2 := below_next HBw.out hb2
        have ho2 := owns_later HOw.out hb2
        have HF2 := Lib.hid hf2
        have HO2 := Lib.hid ho2
        have hzb2 := hb2.size
        have HBx := Lib.hid (below_next HB.out hb2)
        have HCW := Lib.hid hcw
        have HS2 := Lib.hid (HST.out.below HBx.out)
        clear hcw hf2 ho2 hb2
        by_cases hW0 : W = []
        · subst hW0
          have HR : RowKit.Hid (cmdGo (lns.drop (k + 1)) (k + 1) out = R) := Lib.hid (by rw [← HG2.out]; exact (HSk.out rfl).symm)
          clear HG2 HSk HBad HFull HMore HLc
          go_wp2_with fail
          go_roundg g0
          case measure => omega
          case rel => exact ⟨k + 1, out, by omega, by omega, by go_num, HO2.out, HR, HF2.out⟩
        · obtain ⟨m, hWm⟩ : ∃ m, W.length = m + 1 := ⟨W.length - 1, by have := List.length_pos_iff.2 hW0; omega⟩
          obtain ⟨l0, hl0⟩ : ∃ x, (W.getD 0 ([], 0)).1 = x := ⟨_, rfl⟩
          obtain ⟨l1, hl1⟩ : ∃ x, (W.getD 1 ([], 0)).1 = x := ⟨_, rfl⟩
          have q1 := hwl 1
          rw [hl1] at q1
          obtain ⟨g2, hg2e, c0, -⟩ := HCW.out 0 (by omega)
          rw [hl0, Nat.zero_mul] at c0
          subst hg2e
          have C1 : RowKit.Hid (m = 1 → w2.cell? ⟨g2, 2, none⟩ = some (.string (bs l1))) := Lib.hid (fun h9 => by
            obtain ⟨g', e, c, -⟩ := HCW.out 1 (by omega)
            injection e with e
            injection e with e
            subst e
            rw [hl1] at c
            exact c)
          rw [hl0, hl1, hWm] at HLc
          have HBad2 := Lib.hid (HBad.out hW0)
          have HFull2 := Lib.hid (HFull.out hW0)
          have HMore2 := Lib.hid (HMore.out hW0)
          rw [hWm] at hncap
          rw [hWm]
          have hlg2 : g2 < w2.heap.size := World.block_lt_of_cell? w2 _ c0
          have t0 : w2.cell? ⟨0, 0, none⟩ = some (.string (bs [])) := HS2.out.f 0 (by decide)
          have t1 : w2.cell? ⟨0, 1, none⟩ = some (.string (bs [108, 101, 118, 101, 108])) := HS2.out.f 1 (by decide)
          have t2 : w2.cell? ⟨0, 2, none⟩ = some (.string (bs [112, 111, 108, 105, 99, 121])) := HS2.out.f 2 (by decide)
          have t3 : w2.cell? ⟨0, 3, none⟩ = some (.string (bs [98, 117, 100, 103, 101, 116])) := HS2.out.f 3 (by decide)
          have t4 : w2.cell? ⟨0, 4, none⟩ = some (.string (bs [99, 104, 101, 99, 107])) := HS2.out.f 4 (by decide)
          have t5 : w2.cell? ⟨0, 5, none⟩ = some (.string (bs [114, 101, 112, 111, 114, 116])) := HS2.out.f 5 (by decide)
          have t6 : w2.cell? ⟨0, 6, none⟩ = some (.string (bs [102, 111, 114, 99, 101, 100])) := HS2.out.f 6 (by decide)
          have t7 : w2.cell? ⟨0, 7, none⟩ = some (.string (bs [119, 111, 114, 108, 100, 115])) := HS2.out.f 7 (by decide)
          have t8 : w2.cell? ⟨0, 8, none⟩ = some (.string (bs [101, 110, 111, 117, 103, 104])) := HS2.out.f 8 (by decide)
          have t9 : w2.cell? ⟨0, 9, none⟩ = some (.string (bs [115, 104, 111, 119])) := HS2.out.f 9 (by decide)
          have t10 : w2.cell? ⟨0, 10, none⟩ = some (.string (bs [119, 114, 111, 110, 103])) := HS2.out.f 10 (by decide)
          have hm1 : ((m : Int) + 1 == 0) = false := beq_eq_false_iff_ne.2 (by omega)
          go_wp2_with fail
          clear t0 t1 t2 t3 t4 t5 t6 t7 t8 t9 t10
          obtain ⟨wo, rfl⟩ : ∃ wo : World, wo = wr := ⟨_, rfl⟩
          obtain ⟨p8, c8, rfl⟩ := owns_form HOw.out
          go_loopg [8, 43] 11 (fun gi v8 i wy => ∃ j : Nat, j + gi = 11 ∧ v8 = .slice p8 out.length c8 ∧ i = .int .i64 j ∧ (∀ t : Nat, 1 ≤ t → t < j → firstW t ≠ l0) ∧ wy = w2)
          case atStart => exact ⟨0, by omega, rfl, rfl, fun t h0 h1 => absurd h1 (Nat.not_lt_zero t), rfl⟩
          case round =>
            obtain ⟨j, hj, rfl, rfl, hno, hwy⟩ := hrel
            subst hwy
            have HNo := Lib.hid hno
            clear hno
            cases gk with
            | zero =>
              have hj11 : j = 11 := by omega
              subst hj11
              have HR : RowKit.Hid (R = ([], ((k + 1 : Nat) : Int), 5)) := Lib.hid (by
                rw [← HG2.out]
                exact HBad2.out noCmd 5 (by rw [HLc.out, readC_no _ _ _ (cmdK_miss l0 HNo.out)]) (by decide))
              go_wp2_with fail
              try rw [Exit.noGoto_ret]
              go_ret3
              exact ⟨_, by rw [HR.out]; rfl, by rw [HR.out]; exact sls_none _ _ _ _, HBx.out⟩
            | succ gi =>
              by_cases hj0 : j = 0
              · subst hj0
                have ix := tabS_0
                go_wp2_with fail
                go_roundg gi
                case measure => omega
                case rel => exact ⟨1, by omega, rfl, rfl, fun t h0 h1 => by omega, rfl⟩
              · have ix := IX.out j (by omega)
                unfold tabS at ix
                have hj1 : decide ((j : Int) < 1) = false := decide_eq_false (by omega)
                by_cases hf : firstW j = l0
                · have hb : (l0 != firstW j) = false := by rw [hf]; simp
                  have hb' : (l0 == firstW j) = true := by rw [hf]; simp
                  obtain ⟨⟨x, e⟩, hx⟩ : ∃ y, oneC j (m + 1) l1 = y := ⟨_, rfl⟩
                  have hrow := oneC_row j (m + 1) l1
                  rw [hx] at hrow
                  simp only at hrow
                  have HLx : RowKit.Hid (lineC t = (x, e)) := Lib.hid (by rw [HLc.out, readC_at _ _ _ j (by omega) (by omega) hf, hx])
                  obtain ⟨x1, x2, x3⟩ := x
                  simp only at hrow
                  subst hrow
                  have HCk := Lib.hid (fun p c w' h9 h => HCm.out (j : Int) p m c l1 q1 w' h9 h)
                  rw [hx] at HCk
                  unfold cmdV at HCk
                  dsimp only at HCk
                  clear hf hx
                  generalize firstW (j : Int) = FW at *
                  by_cases hcp : cap2 = 1
                  · have hm0 : m = 0 := by omega
                    subst hm0 hcp
                    go_wp2_with fail
                    refine (HCk.out _ _ _ (fun h9 => by omega) HBx.out).mono ?_
                    rintro e3 w3 ⟨rfl, hb3⟩
                    have hf3 := below_next HF2.out hb3
                    have HO3 := Lib.hid (owns_later HO2.out hb3)
                    have HBy := Lib.hid (below_next HBx.out hb3)
                    have HF3 := Lib.hid hf3
                    have hz3 := hf3.size
                    clear hb3 hf3
                    by_cases hez : e = 0
                    · subst hez
                      by_cases hfull : out.length = 200
                      · have HR : RowKit.Hid (R = ([], ((k + 1 : Nat) : Int), 7)) := Lib.hid (by rw [← HG2.out]; exact HFull2.out _ HLx.out hfull)
                        have hfb : ((out.length : Int) == 200) = true := by simp; omega
                        clear hfull
                        go_wp2_with fail
                        try rw [Exit.noGoto_ret]
                        go_ret3
                        exact ⟨_, by rw [HR.out]; rfl, by rw [HR.out]; exact sls_none _ _ _ _, by
                          have h9 := HBy.out
                          have h9z := h9.size
                          (repeat' (first | (with_reducible exact Below.refl _ _) | (with_reducible assumption) | (refine below_next ?_ (by with_reducible assumption)) | (with_reducible refine Below.setCell ?_ ?_ _) | (with_reducible refine Below.alloc ?_ ?_ _) | (with_reducible refine Below.drew ?_) | (with_reducible refine below_drewN ?_ _) | omega | (simp; done) | (simp; omega)))⟩
                      · have HR : RowKit.Hid (cmdGo (lns.drop (k + 1)) (k + 1) (out ++ [((k : Int) + 1, x2, x3)]) = R) := Lib.hid (by rw [← HG2.out]; exact (HMore2.out _ HLx.out hfull).symm)
                        have hfb : ((out.length : Int) == 200) = false := by rw [beq_eq_false_iff_ne]; omega
                        clear hfull
                        go_wp2_with (at_builtin; refine wpList_append_own _ rfl (.tmp 79) (.tmp 81) 23 rfl w1.heap.size 51 i0 (.agg #[.int .i64 0, .int .i64 0, .int .i64 0]) 3 24 Tryd.underlying23 hi hz0 hz1 hz2 rfl (by decide) _ _ _ rfl ((HO3.out.alloc _).alloc _) ⟨w3.heap.size + 1, 0, none⟩ 1 1 [.int .i64 ((k : Int) + 1), .int .i64 x2, .int .i64 x3] rfl rfl (news_lit _ _ _ _ (by simp)) (ones_cmd _ _ _) (by unfold maxLen; omega) (by omega) (by simp; omega) ?_)
                        intro v4 w4 hown4 hgrow hnil
                        have hb4 : Below w1.heap.size w1 w4 := ((HF3.out.alloc hz3 _).alloc (by simp; omega) _).grown hgrow (by simp; omega) (fun k hk => (HO3.out.lt k hk).1)
                        have HO4 : RowKit.Hid (w4.ownsRow w1.heap.size 51 3 v4 (out ++ [((k : Int) + 1, x2, x3)]).length ((out ++ [((k : Int) + 1, x2, x3)]).flatMap cmc)) := Lib.hid (by rw [← flat_snoc, List.length_append]; exact hown4)
                        clear hown4 hgrow hnil
                        go_wp2_with fail
                        go_roundg g0
                        case measure => omega
                        case rel => exact ⟨k + 1, _, by omega, by simp; omega, by go_num, HO4.out, HR, hb4⟩
                    · have HR : RowKit.Hid (R = ([], ((k + 1 : Nat) : Int), e)) := Lib.hid (by rw [← HG2.out]; exact HBad2.out _ _ HLx.out hez)
                      have he1 : (e == 0) = false := beq_eq_false_iff_ne.2 hez
                      have he2 : (e != 0) = true := by simpa using hez
                      clear hez
                      go_wp2_with fail
                      try rw [Exit.noGoto_ret]
                      go_ret3
                      exact ⟨_, by rw [HR.out]; rfl, by rw [HR.out]; exact sls_none _ _ _ _, by
                        have h9 := HBy.out
                        have h9z := h9.size
                        (repeat' (first | (with_reducible exact Below.refl _ _) | (with_reducible assumption) | (refine below_next ?_ (by with_reducible assumption)) | (with_reducible refine Below.setCell ?_ ?_ _) | (with_reducible refine Below.alloc ?_ ?_ _) | (with_reducible refine Below.drew ?_) | (with_reducible refine below_drewN ?_ _) | omega | (simp; done) | (simp; omega)))⟩
                  · skip
                    go_wp2_with fail
                    refine (HCk.out _ _ _ (fun h9 => ⟨g2, 2, rfl, C1.out h9⟩) HBx.out).mono ?_
                    rintro e3 w3 ⟨rfl, hb3⟩
                    have hf3 := below_next HF2.out hb3
                    have HO3 := Lib.hid (owns_later HO2.out hb3)
                    have HBy := Lib.hid (below_next HBx.out hb3)
                    have HF3 := Lib.hid hf3
                    have hz3 := hf3.size
                    clear hb3 hf3
                    by_cases hez : e = 0
                    · subst hez
                      by_cases hfull : out.length = 200
                      · have HR : RowKit.Hid (R = ([], ((k + 1 : Nat) : Int), 7)) := Lib.hid (by rw [← HG2.out]; exact HFull2.out _ HLx.out hfull)
                        have hfb : ((out.length : Int) == 200) = true := by simp; omega
                        clear hfull
                        go_wp2_with fail
                        try rw [Exit.noGoto_ret]
                        go_ret3
                        exact ⟨_, by rw [HR.out]; rfl, by rw [HR.out]; exact sls_none _ _ _ _, by
                          have h9 := HBy.out
                          have h9z := h9.size
                          (repeat' (first | (with_reducible exact Below.refl _ _) | (with_reducible assumption) | (refine below_next ?_ (by with_reducible assumption)) | (with_reducible refine Below.setCell ?_ ?_ _) | (with_reducible refine Below.alloc ?_ ?_ _) | (with_reducible refine Below.drew ?_) | (with_reducible refine below_drewN ?_ _) | omega | (simp; done) | (simp; omega)))⟩
                      · have HR : RowKit.Hid (cmdGo (lns.drop (k + 1)) (k + 1) (out ++ [((k : Int) + 1, x2, x3)]) = R) := Lib.hid (by rw [← HG2.out]; exact (HMore2.out _ HLx.out hfull).symm)
                        have hfb : ((out.length : Int) == 200) = false := by rw [beq_eq_false_iff_ne]; omega
                        clear hfull
                        go_wp2_with (at_builtin; refine wpList_append_own _ rfl (.tmp 79) (.tmp 81) 23 rfl w1.heap.size 51 i0 (.agg #[.int .i64 0, .int .i64 0, .int .i64 0]) 3 24 Tryd.underlying23 hi hz0 hz1 hz2 rfl (by decide) _ _ _ rfl ((HO3.out.alloc _).alloc _) ⟨w3.heap.size + 1, 0, none⟩ 1 1 [.int .i64 ((k : Int) + 1), .int .i64 x2, .int .i64 x3] rfl rfl (news_lit _ _ _ _ (by simp)) (ones_cmd _ _ _) (by unfold maxLen; omega) (by omega) (by simp; omega) ?_)
                        intro v4 w4 hown4 hgrow hnil
                        have hb4 : Below w1.heap.size w1 w4 := ((HF3.out.alloc hz3 _).alloc (by simp; omega) _).grown hgrow (by simp; omega) (fun k hk => (HO3.out.lt k hk).1)
                        have HO4 : RowKit.Hid (w4.ownsRow w1.heap.size 51 3 v4 (out ++ [((k : Int) + 1, x2, x3)]).length ((out ++ [((k : Int) + 1, x2, x3)]).flatMap cmc)) := Lib.hid (by rw [← flat_snoc, List.length_append]; exact hown4)
                        clear hown4 hgrow hnil
                        go_wp2_with fail
                        go_roundg g0
                        case measure => omega
                        case rel => exact ⟨k + 1, _, by omega, by simp; omega, by go_num, HO4.out, HR, hb4⟩
                    · have HR : RowKit.Hid (R = ([], ((k + 1 : Nat) : Int), e)) := Lib.hid (by rw [← HG2.out]; exact HBad2.out _ _ HLx.out hez)
                      have he1 : (e == 0) = false := beq_eq_false_iff_ne.2 hez
                      have he2 : (e != 0) = true := by simpa using hez
                      clear hez
                      go_wp2_with fail
                      try rw [Exit.noGoto_ret]
                      go_ret3
                      exact ⟨_, by rw [HR.out]; rfl, by rw [HR.out]; exact sls_none _ _ _ _, by
                        have h9 := HBy.out
                        have h9z := h9.size
                        (repeat' (first | (with_reducible exact Below.refl _ _) | (with_reducible assumption) | (refine below_next ?_ (by with_reducible assumption)) | (with_reducible refine Below.setCell ?_ ?_ _) | (with_reducible refine Below.alloc ?_ ?_ _) | (with_reducible refine Below.drew ?_) | (with_reducible refine below_drewN ?_ _) | omega | (simp; done) | (simp; omega)))⟩
                · have HN : RowKit.Hid (∀ t : Nat, 1 ≤ t → t < j + 1 → firstW t ≠ l0) := Lib.hid (fun t h0 h1 => by
                    by_cases h : t = j
                    · rw [h]; exact hf
                    · exact HNo.out t h0 (by omega))
                  have hb : (l0 != firstW j) = true := by simpa using fun e => hf e.symm
                  have hb' : (l0 == firstW j) = false := by simpa using fun e => hf e.symm
                  clear hf
                  go_wp2_with fail
                  go_roundg gi
                  case measure => omega
                  case rel => exact ⟨j + 1, by omega, rfl, by go_num, HN.out, rfl⟩
  · have hd : (((ee : Nat) : Int) != 0) = true := by simp; omega
    rw [if_pos he] at hre
    have HRe := Lib.hid hre
    clear hre he
    go_enter Tryd.func15, Tryd.ntmps15
    go_wp2_with fail
    go_step3
    go_wp2_with fail
    refine HO.out.mono ?_
    rintro e w1 ⟨v1, rfl, hv1, hb1⟩
    go_wp2_with fail
    try rw [Exit.noGoto_ret]
    go_ret3
    exact ⟨_, by rw [HRe.out]; rfl, by rw [HRe.out]; exact sls_none _ _ _ _, hb1⟩
end Go.Proofs.YtphhgdgamnogpaaDoor

namespace Go.Proofs.YtphhgdgamnogpaaDoor
open Go.RowKit Go.Lib

set_option maxRecDepth 100000 in
set_option maxHeartbeats 4000000 in
theorem rsecond_any (k : Int) (hk : k = 1 ∨ k = 2 ∨ k = 3) (l : List UInt8) (hl : l.length ≤ 1000000) (w : World) :
    Calls Tryd.prog 103 #[.int .i64 k, .string (bs l)] w fun e w' => e = .returned (.tuple #[.int .i64 (secondC k l).1, .int .i64 (secondC k l).2]) ∧ Below w.heap.size w w' := by
  rcases hk with rfl | rfl | rfl
  · -- kind 1
    have e : secondC 1 l = (levelN l, if levelN l = 0 then 5 else 0) := rfl
    rw [e]
    obtain ⟨⟨N, E⟩, hNE⟩ : ∃ y, ((levelN l, if levelN l = 0 then 5 else 0) : Int × Int) = y := ⟨_, rfl⟩
    have HHit : RowKit.Hid (∀ k : Nat, 1 ≤ k → k ≤ 3 → levelW k = l → (N, E) = ((k : Int), (0 : Int))) := Lib.hid (fun k h0 h1 h2 => by
      rw [← hNE, whichL_any_hit l k h0 h1 h2, if_neg (by omega)])
    have HMiss : RowKit.Hid ((∀ j : Nat, 1 ≤ j → j < 4 → levelW j ≠ l) → (N, E) = ((0 : Int), (5 : Int))) := Lib.hid (fun h => by
      rw [← hNE, whichL_any_miss l h, if_pos rfl])
    rw [hNE]
    clear e hNE
    go_enter Tryd.func103, Tryd.ntmps103
    go_wp2_with fail
    go_loopw [8] (fun i wr => ∃ k : Nat, 1 ≤ k ∧ k ≤ 4 ∧ i = .int .i64 k ∧ (∀ j : Nat, 1 ≤ j → j < k → j < 4 → levelW j ≠ l) ∧ Below w.heap.size w wr) (fun i _ => 4 - (RowKit.intOf i).toNat)
    case atStart => exact ⟨1, by omega, by omega, rfl, fun j h0 h1 => by omega, Below.refl _ _⟩
    case round =>
      obtain ⟨k, hk0, hk, rfl, hno, hbw⟩ := hrel
      have HNo := Lib.hid hno
      clear hno
      by_cases hlt : k < 4
      · have HCk := Lib.hid (rlevel_any (k : Int) wr)
        have HHk := Lib.hid (HHit.out k hk0 (by omega))
        have HN : RowKit.Hid (levelW k ≠ l → ∀ j : Nat, 1 ≤ j → j < k + 1 → j < 4 → levelW j ≠ l) := Lib.hid (fun he j h0 h1 h2 => by
          by_cases h : j = k
          · rw [h]; exact he
          · exact HNo.out j h0 (by omega) h2)
        have hd3 : decide ((k : Int) < 3) = decide (k < 3) := by simp; omega
        clear hd3
        generalize levelW (k : Int) = V at *
        by_cases he : V = l
        · have hR := HHk.out he
          obtain ⟨rfl, rfl⟩ := Prod.mk.inj hR
          have hb : (V == l) = true := by rw [he]; simp
          clear he HHk HN hR HMiss HHit
          go_wp2_with (go_at_call 75; refine HCk.out.mono ?_; rintro e w' ⟨rfl, hb9⟩)
          go_ret2
          exact ⟨rfl, below_next hbw hb9⟩
        · have HN2 := Lib.hid (HN.out he)
          have hb : (V == l) = false := beq_eq_false_iff_ne.2 he
          clear he HHk HN
          go_wp2_with (go_at_call 75; refine HCk.out.mono ?_; rintro e w' ⟨rfl, hb9⟩)
          go_roundw
          case rel => exact ⟨k + 1, by omega, by omega, by go_num, HN2.out, below_next hbw hb9⟩
          case measure => simp [RowKit.intOf]; omega
      · have hk4 : k = 4 := by omega
        have HR := Lib.hid (HMiss.out (fun j h0 h1 => HNo.out j h0 (by omega) h1))
        clear HMiss HHit
        subst hk4
        go_wp2_with fail
        obtain ⟨rfl, rfl⟩ := Prod.mk.inj HR.out
        go_ret2
        exact ⟨rfl, hbw⟩
  · -- kind 2
    have e : secondC 2 l = (policyN l, if policyN l = 0 then 5 else 0) := rfl
    rw [e]
    obtain ⟨⟨N, E⟩, hNE⟩ : ∃ y, ((policyN l, if policyN l = 0 then 5 else 0) : Int × Int) = y := ⟨_, rfl⟩
    have HHit : RowKit.Hid (∀ k : Nat, 1 ≤ k → k ≤ 2 → policyW k = l → (N, E) = ((k : Int), (0 : Int))) := Lib.hid (fun k h0 h1 h2 => by
      rw [← hNE, whichP_any_hit l k h0 h1 h2, if_neg (by omega)])
    have HMiss : RowKit.Hid ((∀ j : Nat, 1 ≤ j → j < 3 → policyW j ≠ l) → (N, E) = ((0 : Int), (5 : Int))) := Lib.hid (fun h => by
      rw [← hNE, whichP_any_miss l h, if_pos rfl])
    rw [hNE]
    clear e hNE
    go_enter Tryd.func103, Tryd.ntmps103
    go_wp2_with fail
    go_loopw [8] (fun i wr => ∃ k : Nat, 1 ≤ k ∧ k ≤ 4 ∧ i = .int .i64 k ∧ (∀ j : Nat, 1 ≤ j → j < k → j < 3 → policyW j ≠ l) ∧ Below w.heap.size w wr) (fun i _ => 4 - (RowKit.intOf i).toNat)
    case atStart => exact ⟨1, by omega, by omega, rfl, fun j h0 h1 => by omega, Below.refl _ _⟩
    case round =>
      obtain ⟨k, hk0, hk, rfl, hno, hbw⟩ := hrel
      have HNo := Lib.hid hno
      clear hno
      by_cases hlt : k < 3
      · have HCk := Lib.hid (rpolicy_any (k : Int) wr)
        have HHk := Lib.hid (HHit.out k hk0 (by omega))
        have HN : RowKit.Hid (policyW k ≠ l → ∀ j : Nat, 1 ≤ j → j < k + 1 → j < 3 → policyW j ≠ l) := Lib.hid (fun he j h0 h1 h2 => by
          by_cases h : j = k
          · rw [h]; exact he
          · exact HNo.out j h0 (by omega) h2)
        have hd3 : decide ((k : Int) < 3) = true := decide_eq_true (by omega)
        skip
        generalize policyW (k : Int) = V at *
        by_cases he : V = l
        · have hR := HHk.out he
          obtain ⟨rfl, rfl⟩ := Prod.mk.inj hR
          have hb : (V == l) = true := by rw [he]; simp
          clear he HHk HN hR HMiss HHit
          go_wp2_with (go_at_call 76; refine HCk.out.mono ?_; rintro e w' ⟨rfl, hb9⟩)
          go_ret2
          exact ⟨rfl, below_next hbw hb9⟩
        · have HN2 := Lib.hid (HN.out he)
          have hb : (V == l) = false := beq_eq_false_iff_ne.2 he
          clear he HHk HN
          go_wp2_with (go_at_call 76; refine HCk.out.mono ?_; rintro e w' ⟨rfl, hb9⟩)
          go_roundw
          case rel => exact ⟨k + 1, by omega, by omega, by go_num, HN2.out, below_next hbw hb9⟩
          case measure => simp [RowKit.intOf]; omega
      · have hk4 : k = 3 ∨ k = 4 := by omega
        have HR := Lib.hid (HMiss.out (fun j h0 h1 => HNo.out j h0 (by omega) h1))
        clear HMiss HHit
        rcases hk4 with rfl | rfl
        · go_wp2_with fail
          go_roundw
          case rel => exact ⟨4, by omega, by omega, rfl, fun j h0 h1 h2 => HNo.out j h0 (by omega) h2, hbw⟩
          case measure => simp [RowKit.intOf]
        · go_wp2_with fail
          obtain ⟨rfl, rfl⟩ := Prod.mk.inj HR.out
          go_ret2
          exact ⟨rfl, hbw⟩
  · have e : secondC 3 l = budgetC l := rfl
    rw [e]
    clear e
    have HD := Lib.hid (fun n e (hp : parseL l = (n, e)) w' => refparse_at l n e (by omega) hp w')
    rcases budget_cases l with ⟨e, hp, he, he2, hb⟩ | ⟨n, hp, hn, hn2, hb⟩ | ⟨n, hp, hn, hn2, hb⟩
    all_goals
      have HV := Lib.hid (HD.out _ _ hp)
      rw [hb]
      clear hp hb HD
      go_enter Tryd.func103, Tryd.ntmps103
      go_wp2_with (go_at_call 137; refine (HV.out _).mono ?_; rintro e w' ⟨rfl, rfl⟩)
      go_ret2
      exact ⟨rfl, Below.refl _ _⟩

theorem ret_cmd {w : World} {b : Nat} (x : CmdM) (tmps : Array Value) (v3 : Value) (h : w.rangeAt b 0 (cmc x)) (h2 : tmps.getD 2 undef = .pointer (some ⟨b, 0, none⟩)) (h3 : tmps.getD 3 undef = v3) :
    (results Tryd.f56 tmps).run Tryd.prog w = .ok (.tuple #[cmdV x, v3]) w := by
  have hl := run_loadVar_mid (P := Tryd.prog) w b 0 56 (cmc x) _ h Tryd.underlying56 rfl (by kernel_rfl)
  rw [← h3]
  exact results_cell2 Tryd.results56 tmps _ w _ _ h2 hl
theorem range_cmd {w : World} {b : Nat} (h : w.there b 0 3) (x y z : Value) : (((w.setCell ⟨b, 0, none⟩ x).setCell ⟨b, 1, none⟩ y).setCell ⟨b, 2, none⟩ z).rangeAt b 0 [x, y, z] :=
  World.rangeAt_setCells_same w b 0 [x, y, z] h
theorem there3 (w : World) (t : TypeId) (a0 a1 a2 : Value) : (w.alloc (.cells #[a0, a1, a2] t)).there w.heap.size 0 3 := by
  intro j hj
  have hb := heap_alloc_new w (.cells #[a0, a1, a2] t)
  rw [Nat.zero_add]
  refine ⟨?_, free_blk hb j⟩
  rw [cell_of_row _ w.heap.size j _ _ (0, 0) hb]
  match j, hj with
  | 0, _ => rfl
  | 1, _ => rfl
  | 2, _ => rfl
theorem one_cases (k : Int) (m : Nat) (l1 : List UInt8) : (3 < k ∧ m = 0 ∧ oneC k (m + 1) l1 = ((0, k, 0), 0)) ∨ (3 < k ∧ m ≠ 0 ∧ oneC k (m + 1) l1 = (noCmd, 5)) ∨ (k ≤ 3 ∧ m ≠ 1 ∧ oneC k (m + 1) l1 = (noCmd, 5)) ∨
    (k ≤ 3 ∧ m = 1 ∧ oneC k (m + 1) l1 = ((0, k, (secondC k l1).1), (secondC k l1).2)) := command_cases k m l1

set_option maxRecDepth 100000 in
set_option maxHeartbeats 8000000 in
theorem rone_any (g m c : Nat) (l0 l1 : List UInt8) (hl : l1.length ≤ 1000000) (hmb : m ≤ 1000000) (w : World) (c0 : w.cell? ⟨g, 0, none⟩ = some (.string (bs l0))) (c1 : m = 1 → w.cell? ⟨g, 2, none⟩ = some (.string (bs l1))) :
    Calls Tryd.prog 56 #[.slice (some ⟨g, 0, none⟩) (m + 1) c] w fun e w' => e = .returned (.tuple #[cmdV (readC (m + 1) l0 l1).1, .int .i64 (readC (m + 1) l0 l1).2]) ∧ Below w.heap.size w w' := by
  have HSec := Lib.hid (fun k hk w' => rsecond_any k hk l1 hl w')
  have HRC := Lib.hid (rfl : readC (m + 1) l0 l1 = readC (m + 1) l0 l1)
  have HAt := Lib.hid (readC_at (m + 1) l0 l1)
  have HNone := Lib.hid (readC_no (m + 1) l0 l1)
  have HMiss := Lib.hid (cmdK_miss l0)
  have C1 := Lib.hid c1
  obtain ⟨R, hR⟩ : ∃ R, readC (m + 1) l0 l1 = R := ⟨_, rfl⟩
  rw [hR] at HAt HNone ⊢
  have T0 := Lib.hid (there3 w 56 (.int .i64 0) (.int .i64 0) (.int .i64 0))
  have hg : g < w.heap.size := World.block_lt_of_cell? w _ c0
  have hal := (Below.refl w.heap.size w).alloc (Nat.le_refl _) (.cells #[.int .i64 0, .int .i64 0, .int .i64 0] 56)
  have d0 := cell_later hal c0
  have HAL := Lib.hid hal
  clear HRC hR c1 hal
  go_enter Tryd.func56, Tryd.ntmps56
  go_wp2_with fail
  go_loopw [4] (fun i wr => ∃ j : Nat, 1 ≤ j ∧ j ≤ 11 ∧ i = .int .i64 j ∧ (∀ t : Nat, 1 ≤ t → t < j → firstW t ≠ l0) ∧ Below (w.alloc (.cells #[.int .i64 0, .int .i64 0, .int .i64 0] 56)).heap.size (w.alloc (.cells #[.int .i64 0, .int .i64 0, .int .i64 0] 56)) wr) (fun i _ => 11 - (RowKit.intOf i).toNat)
  case atStart => exact ⟨1, by omega, by omega, rfl, fun t h0 h1 => by omega, Below.refl _ _⟩
  case round =>
    obtain ⟨j, hj0, hj, rfl, hno, hbw⟩ := hrel
    have HNo := Lib.hid hno
    have q0 := cell_later hbw d0
    have TR := Lib.hid (there_later T0.out hbw)
    have hB := Lib.hid (below_next HAL.out hbw)
    have hzr := hbw.size
    simp at hzr
    clear hno
    by_cases hlt : j < 11
    · have HS : RowKit.Hid (∀ w', Below wr.heap.size wr w' → (w'.cell? ⟨g, 0, none⟩ = some (.string (bs l0)) ∧ Below wr.heap.size wr w')) := Lib.hid (fun w' hb => ⟨cell_later hb q0, hb⟩)
      have hji : (j : Int) ≤ 10 := by omega
      by_cases hf : firstW j = l0
      · have hb : (l0 != firstW j) = false := by rw [hf]; simp
        have hb' : (l0 == firstW j) = true := by rw [hf]; simp
        go_wp2_with fail
        refine wp_region_keep (fun w' => w'.cell? ⟨g, 0, none⟩ = some (.string (bs l0)) ∧ Below wr.heap.size wr w') [] (by kernel_rfl) ?_
        have hB0 : Below (wr).heap.size (wr) (wr).drew := Below.drew (Below.refl _ _)
        have hS0 := HS.out _ hB0
        refine wpAnyM_free 0 (v := ?_) rfl (by kernel_rfl) (by kernel_rfl) (by kernel_rfl) (fun _ _ _ h => h) (Or.inl ⟨by rfl, ?_⟩) ?_
        rotate_left
        · intro w' hw'
          go_simp
          try with_reducible rfl
        try simp only [Act.put, List.setIfInBounds_toArray, List.set_cons_zero, List.set_cons_succ]
        refine wpAnyM_free 1 (v := ?_) rfl (by kernel_rfl) (by kernel_rfl) (by kernel_rfl) (fun _ _ _ h => h) (Or.inl ⟨by rfl, ?_⟩) ?_
        rotate_left
        · intro w' hw'
          go_simp
          try with_reducible rfl
        try simp only [Act.put, List.setIfInBounds_toArray, List.set_cons_zero, List.set_cons_succ]
        refine wpAnyM_free 2 (v := ?_) rfl (by kernel_rfl) (by kernel_rfl) (by kernel_rfl) (fun _ _ _ h => h) (Or.inl ⟨by rfl, ?_⟩) ?_
        rotate_left
        · intro w' hw'
          go_simp
          try with_reducible rfl
        try simp only [Act.put, List.setIfInBounds_toArray, List.set_cons_zero, List.set_cons_succ]
        refine wpAnyM_take 3 7 (v := ?_) rfl (by kernel_rfl) (by kernel_rfl) (by kernel_rfl) (by kernel_rfl) (by kernel_rfl) (fun _ _ _ h => h) (Or.inl ⟨by rfl, ?_⟩) hS0 ?_
        rotate_left
        · intro w' hw'
          try dsimp only at hw'
          go_simp
          try with_reducible rfl
        try simp only [Act.put, List.setIfInBounds_toArray, List.set_cons_zero, List.set_cons_succ]
        refine wpAnyM_one 4 rfl (by kernel_rfl) (fun K hK => ?_)
        go_simp
        refine hK.out _ _ (fun _ h => h) ?_
        clear hK K
        try simp only [Act.put, List.setIfInBounds_toArray, List.set_cons_zero, List.set_cons_succ]
        refine wpAnyM_one 5 rfl (by kernel_rfl) (fun K hK => ?_)
        go_simp
        refine (rfirst_any (j : Int) (by omega) (by omega) _).mono ?_
        rintro e w2 ⟨rfl, hb2⟩
        have hB1 := below_next hB0 hb2
        have hS1 := HS.out _ hB1
        refine hK.out _ _ (fun _ _ => hS1) ?_
        clear hK K hS0
        try simp only [Act.put, List.setIfInBounds_toArray, List.set_cons_zero, List.set_cons_succ]
        refine wpAnyM_one 6 rfl (by kernel_rfl) (fun K hK => ?_)
        go_simp
        refine hK.out _ _ (fun _ h => h) ?_
        clear hK K
        try simp only [Act.put, List.setIfInBounds_toArray, List.set_cons_zero, List.set_cons_succ]
        refine wpAnyM_done (by kernel_rfl) ?_ _
        try simp only [Act.put, List.setIfInBounds_toArray, List.set_cons_zero, List.set_cons_succ]
        have hbw2 := below_next hbw hB1
        have hBf := Lib.hid (below_next hB.out hB1)
        have TR2 := Lib.hid (there_later TR.out hB1)
        have hz2 := hB1.size
        obtain ⟨hc2, hf2⟩ := bcell hbw2
        have hlw0 : w.heap.size < w2.heap.size := by omega
        have hx := HAt.out j hj0 hlt hf
        rcases one_cases (j : Int) m l1 with ⟨h3, rfl, h⟩ | ⟨h3, hm0, h⟩ | ⟨h3, hm0, h⟩ | ⟨h3, rfl, h⟩
        · rw [h] at hx
          subst hx
          have hd : decide ((3 : Int) < (j : Int)) = true := decide_eq_true h3
          clear h hf
          have hbf := hBf.out
          have hrg := range_cmd TR2.out (.int .i64 0) (.int .i64 j) (.int .i64 0)
          go_wp21
          (try simp only [Exit.inBlock, Exit.then])
          refine bodyPost_ret (ret_cmd (0, j, 0) _ _ hrg rfl rfl) rfl ⟨rfl, ?_⟩
          (repeat' (first | (with_reducible exact Below.refl _ _) | (with_reducible assumption) | (refine below_next ?_ (by with_reducible assumption)) | (with_reducible refine Below.setCell ?_ ?_ _) | (with_reducible refine Below.alloc ?_ ?_ _) | (with_reducible refine Below.drew ?_) | (with_reducible refine below_drewN ?_ _) | omega | (simp; done) | (simp; omega)))
        · rw [h] at hx
          subst hx
          have hd : decide ((3 : Int) < (j : Int)) = true := decide_eq_true h3
          have hz : ((m : Int) + 1 == 1) = false := beq_eq_false_iff_ne.2 (by omega)
          clear h hf
          have hbf := hBf.out
          have hrg := range_cmd TR2.out (.int .i64 0) (.int .i64 0) (.int .i64 0)
          go_wp21
          (try simp only [Exit.inBlock, Exit.then])
          refine bodyPost_ret (ret_cmd noCmd _ _ hrg rfl rfl) rfl ⟨rfl, ?_⟩
          (repeat' (first | (with_reducible exact Below.refl _ _) | (with_reducible assumption) | (refine below_next ?_ (by with_reducible assumption)) | (with_reducible refine Below.setCell ?_ ?_ _) | (with_reducible refine Below.alloc ?_ ?_ _) | (with_reducible refine Below.drew ?_) | (with_reducible refine below_drewN ?_ _) | omega | (simp; done) | (simp; omega)))
        · rw [h] at hx
          subst hx
          have hd : decide ((3 : Int) < (j : Int)) = false := decide_eq_false (by omega)
          have hz : ((m : Int) + 1 != 2) = true := by simp; omega
          clear h hf
          have hbf := hBf.out
          have hrg := range_cmd TR2.out (.int .i64 0) (.int .i64 0) (.int .i64 0)
          go_wp21
          (try simp only [Exit.inBlock, Exit.then])
          refine bodyPost_ret (ret_cmd noCmd _ _ hrg rfl rfl) rfl ⟨rfl, ?_⟩
          (repeat' (first | (with_reducible exact Below.refl _ _) | (with_reducible assumption) | (refine below_next ?_ (by with_reducible assumption)) | (with_reducible refine Below.setCell ?_ ?_ _) | (with_reducible refine Below.alloc ?_ ?_ _) | (with_reducible refine Below.drew ?_) | (with_reducible refine below_drewN ?_ _) | omega | (simp; done) | (simp; omega)))
        · rw [h] at hx
          have hd : decide ((3 : Int) < (j : Int)) = false := decide_eq_false (by omega)
          obtain ⟨⟨n, e⟩, hs⟩ : ∃ y, secondC (j : Int) l1 = y := ⟨_, rfl⟩
          have HV := Lib.hid (HSec.out (j : Int) (by omega) w2)
          rw [hs] at HV hx
          simp only at HV hx
          subst hx
          have d1 := cell_later hB1 (cell_later hbw (cell_later HAL.out (C1.out rfl)))
          have c1w := C1.out rfl
          clear h hs hf
          go_wp2_with fail
          refine HV.out.mono ?_
          rintro e3 w3 ⟨rfl, hb3⟩
          obtain ⟨hc3, hf3⟩ := bcell hb3
          have hz3 := hb3.size
          have hlw3 : w.heap.size < w3.heap.size := by omega
          have hB3 := below_next hBf.out hb3
          have hbf := hB3
          have hrg := range_cmd (there_later TR2.out hb3) (.int .i64 0) (.int .i64 j) (.int .i64 n)
          go_wp21
          (try simp only [Exit.inBlock, Exit.then])
          refine bodyPost_ret (ret_cmd (0, j, n) _ _ hrg rfl rfl) rfl ⟨rfl, ?_⟩
          (repeat' (first | (with_reducible exact Below.refl _ _) | (with_reducible assumption) | (refine below_next ?_ (by with_reducible assumption)) | (with_reducible refine Below.setCell ?_ ?_ _) | (with_reducible refine Below.alloc ?_ ?_ _) | (with_reducible refine Below.drew ?_) | (with_reducible refine below_drewN ?_ _) | omega | (simp; done) | (simp; omega)))
      · have HN : RowKit.Hid (∀ t : Nat, 1 ≤ t → t < j + 1 → firstW t ≠ l0) := Lib.hid (fun t h0 h1 => by
          by_cases h : t = j
          · rw [h]; exact hf
          · exact HNo.out t h0 (by omega))
        have hb : (l0 != firstW j) = true := by simpa using fun e => hf e.symm
        have hb' : (l0 == firstW j) = false := by simpa using fun e => hf e.symm
        clear hf
        go_wp2_with fail
        refine wp_region_keep (fun w' => w'.cell? ⟨g, 0, none⟩ = some (.string (bs l0)) ∧ Below wr.heap.size wr w') [] (by kernel_rfl) ?_
        have hB0 : Below (wr).heap.size (wr) (wr).drew := Below.drew (Below.refl _ _)
        have hS0 := HS.out _ hB0
        refine wpAnyM_free 0 (v := ?_) rfl (by kernel_rfl) (by kernel_rfl) (by kernel_rfl) (fun _ _ _ h => h) (Or.inl ⟨by rfl, ?_⟩) ?_
        rotate_left
        · intro w' hw'
          go_simp
          try with_reducible rfl
        try simp only [Act.put, List.setIfInBounds_toArray, List.set_cons_zero, List.set_cons_succ]
        refine wpAnyM_free 1 (v := ?_) rfl (by kernel_rfl) (by kernel_rfl) (by kernel_rfl) (fun _ _ _ h => h) (Or.inl ⟨by rfl, ?_⟩) ?_
        rotate_left
        · intro w' hw'
          go_simp
          try with_reducible rfl
        try simp only [Act.put, List.setIfInBounds_toArray, List.set_cons_zero, List.set_cons_succ]
        refine wpAnyM_free 2 (v := ?_) rfl (by kernel_rfl) (by kernel_rfl) (by kernel_rfl) (fun _ _ _ h => h) (Or.inl ⟨by rfl, ?_⟩) ?_
        rotate_left
        · intro w' hw'
          go_simp
          try with_reducible rfl
        try simp only [Act.put, List.setIfInBounds_toArray, List.set_cons_zero, List.set_cons_succ]
        refine wpAnyM_take 3 7 (v := ?_) rfl (by kernel_rfl) (by kernel_rfl) (by kernel_rfl) (by kernel_rfl) (by kernel_rfl) (fun _ _ _ h => h) (Or.inl ⟨by rfl, ?_⟩) hS0 ?_
        rotate_left
        · intro w' hw'
          try dsimp only at hw'
          go_simp
          try with_reducible rfl
        try simp only [Act.put, List.setIfInBounds_toArray, List.set_cons_zero, List.set_cons_succ]
        refine wpAnyM_one 4 rfl (by kernel_rfl) (fun K hK => ?_)
        go_simp
        refine hK.out _ _ (fun _ h => h) ?_
        clear hK K
        try simp only [Act.put, List.setIfInBounds_toArray, List.set_cons_zero, List.set_cons_succ]
        refine wpAnyM_one 5 rfl (by kernel_rfl) (fun K hK => ?_)
        go_simp
        refine (rfirst_any (j : Int) (by omega) (by omega) _).mono ?_
        rintro e w2 ⟨rfl, hb2⟩
        have hB1 := below_next hB0 hb2
        have hS1 := HS.out _ hB1
        refine hK.out _ _ (fun _ _ => hS1) ?_
        clear hK K hS0
        try simp only [Act.put, List.setIfInBounds_toArray, List.set_cons_zero, List.set_cons_succ]
        refine wpAnyM_one 6 rfl (by kernel_rfl) (fun K hK => ?_)
        go_simp
        refine hK.out _ _ (fun _ h => h) ?_
        clear hK K
        try simp only [Act.put, List.setIfInBounds_toArray, List.set_cons_zero, List.set_cons_succ]
        refine wpAnyM_done (by kernel_rfl) ?_ _
        try simp only [Act.put, List.setIfInBounds_toArray, List.set_cons_zero, List.set_cons_succ]
        have hbw2 := below_next hbw hB1
        have hBf := Lib.hid (below_next hB.out hB1)
        have TR2 := Lib.hid (there_later TR.out hB1)
        have hz2 := hB1.size
        obtain ⟨hc2, hf2⟩ := bcell hbw2
        have hlw0 : w.heap.size < w2.heap.size := by omega
        go_wp2_with fail
        go_roundw
        case rel => exact ⟨j + 1, by omega, by omega, by go_num, HN.out, hbw2⟩
        case measure => simp [RowKit.intOf]; omega
    · have hj11 : j = 11 := by omega
      subst hj11
      have hx := HNone.out (HMiss.out HNo.out)
      subst hx
      obtain ⟨hc2, hf2⟩ := bcell hbw
      have hlw0 : w.heap.size < wr.heap.size := by omega
      have hbf := hB.out
      have hrg := range_cmd TR.out (.int .i64 0) (.int .i64 0) (.int .i64 0)
      go_wp21
      (try simp only [Exit.inBlock, Exit.then])
      refine bodyPost_ret (ret_cmd noCmd _ _ hrg rfl rfl) rfl ⟨rfl, ?_⟩
      (repeat' (first | (with_reducible exact Below.refl _ _) | (with_reducible assumption) | (refine below_next ?_ (by with_reducible assumption)) | (with_reducible refine Below.setCell ?_ ?_ _) | (with_reducible refine Below.alloc ?_ ?_ _) | (with_reducible refine Below.drew ?_) | (with_reducible refine below_drewN ?_ _) | omega | (simp; done) | (simp; omega)))

end Go.Proofs.YtphhgdgamnogpaaDoor

namespace Go.Proofs.YtphhgdgamnogpaaDoor
open Go.RowKit Go.Lib

theorem textsT_many : ∀ (t cur : List UInt8), (textsT cur t).length ≤ t.length + 1
  | [], cur => by
    unfold textsT
    split <;> simp
  | b :: t, cur => by
    unfold textsT
    repeat' split
    all_goals
      first
        | (have := textsT_many t []; simp only [List.length_cons]; omega)
        | (have := textsT_many t (cur ++ [b]); simp only [List.length_cons]; omega)
theorem words_many (t : List UInt8) (h : t.length ≤ 1000000) : (wordsR t).1.length ≤ 1000001 := by
  unfold wordsR
  split
  · have e := words_texts (aheadL t)
    have h1 := congrArg List.length e
    rw [List.length_map] at h1
    simp only
    rw [h1]
    have := textsT_many (aheadL t) []
    have := ahead_len t
    omega
  · simp
theorem readC_row (m : Nat) (l0 l1 : List UInt8) : (readC m l0 l1).1.1 = 0 := by
  unfold readC
  split
  · rfl
  · exact oneC_row _ _ _
theorem info_rcmd : (Tryd.prog.info? 56).map (fun i => (i.zero, i.size, i.bytes)) = some (some (.agg #[.int .i64 0, .int .i64 0, .int .i64 0]), 3, 24) := by kernel_rfl
set_option maxRecDepth 100000 in
set_option maxHeartbeats 8000000 in
theorem rsparse_any (l : List UInt8) (hl : l.length ≤ 1000000) (w : World) :
    Calls Tryd.prog 16 #[.string (bs l)] w fun e w' => ∃ v, e = .returned (.tuple #[v, .int .i64 (readS l).2.1, .int .i64 (readS l).2.2]) ∧ CmdsS w' v (readS l).1 ∧ Below w.heap.size w w' := by
  have HO := Lib.hid (rof_any l hl w)
  have HP := Lib.hid (fun t (ht : t.length ≤ 1000000) w' => rwords_any t ht w')
  have HOn := Lib.hid (fun g m c l0 l1 h1 h2 w' h3 h4 => rone_any g m c l0 l1 h1 h2 w' h3 h4)
  have HLs := Lib.hid (fun j => Nat.le_trans (line_short l j) hl)
  have hlen : (ofL l).1.length ≤ 1000001 := by
    unfold ofL
    split
    · simp
    · by_cases h : (resGo (linesL l) 0 (linesL l)).2.2 = 0
      · rw [(resGo_full _ _ _ h).1]
        have := lines_len l []
        unfold linesL
        omega
      · rw [(resGo_bad _ _ _ h).1]; simp
  have hre : readS l = if (ofL l).2.2 ≠ 0 then ([], ((ofL l).2.1 : Int), ((ofL l).2.2 : Int)) else cmdGo (ofL l).1 0 [] := rfl
  obtain ⟨⟨lns, en, ee⟩, hof⟩ : ∃ y, ofL l = y := ⟨_, rfl⟩
  rw [hof] at HO HLs hlen hre
  simp only at HO HLs hlen hre
  generalize readS l = R at *
  clear hof hl
  by_cases he : ee = 0
  · subst he
    rw [if_neg (by simp)] at hre
    have HRe := Lib.hid hre
    clear hre
    obtain ⟨i0, hi, hz0, hz1, hz2⟩ := info_parts info_rcmd
    go_enter Tryd.func16, Tryd.ntmps16
    go_wp2_with fail
    refine HO.out.mono ?_
    rintro e w1 ⟨v1, rfl, hv1, hb1⟩
    obtain ⟨p, cap, rfl, hc⟩ := hv1
    have HC := Lib.hid hc
    have HB1 := Lib.hid hb1
    clear hc hb1
    go_wp2_with fail
    go_loopw [8, 9] (fun v8 i wr => ∃ (k : Nat) (out : List CmdM), k ≤ lns.length ∧ out.length ≤ k ∧ i = .int .i64 k ∧ wr.ownsRow w1.heap.size 56 3 v8 out.length (out.flatMap cmc) ∧ RowKit.Hid (cmdGo (lns.drop k) k out = R) ∧ Below w1.heap.size w1 wr) (fun _ i _ => lns.length - (RowKit.intOf i).toNat)
    case atStart => exact ⟨0, [], Nat.zero_le _, Nat.le_refl _, rfl, World.ownsRow_made w1 #[] 0 (Nat.le_refl _) (Nat.zero_le _) rfl, Lib.hid (by rw [List.drop_zero]; exact HRe.out.symm), (Below.refl _ _).alloc (Nat.le_refl _) _⟩
    case round =>
      obtain ⟨k, out, hk, hol, rfl, hown, HG, hbw⟩ := hrel
      by_cases hlt : k < lns.length
      · obtain ⟨g, rfl, hcell⟩ := HC.out k hlt
        have hc1 := cell_later hbw hcell
        have hd : lns.drop k = lns.getD k [] :: lns.drop (k + 1) := by
          rw [List.drop_eq_getElem_cons hlt]
          simp [hlt]
        have HG2 := Lib.hid HG.out
        rw [hd] at HG2
        have htl := HLs.out k
        have HPk := Lib.hid (HP.out (lns.getD k []) htl)
        have hwl := fun j => Nat.le_trans (word_len (lns.getD k []) j) htl
        have hwn : (wordsR (lns.getD k [])).1.length ≤ 1000001 := words_many _ (by omega)
        generalize lns.getD k [] = t at *
        have HB := Lib.hid (below_next HB1.out hbw)
        have HBw := Lib.hid hbw
        have HOw := Lib.hid hown
        have HLc := Lib.hid (lineC_eq t)
        have HSk := Lib.hid (cmd_skip t (lns.drop (k + 1)) k out)
        have HBad := Lib.hid (cmd_bad t (lns.drop (k + 1)) k out)
        have HFull := Lib.hid (cmd_full t (lns.drop (k + 1)) k out)
        have HMore := Lib.hid (cmd_more t (lns.drop (k + 1)) k out)
        obtain ⟨⟨W, we⟩, hW⟩ : ∃ y, wordsR t = y := ⟨_, rfl⟩
        rw [hW] at HPk hwl hwn HLc HSk HBad HFull HMore
        simp only at HPk hwl hwn HLc HSk HBad HFull HMore
        clear HG hd hcell hown hbw htl hW
        go_wp2_with fail
        refine (HPk.out _).mono ?_
        rintro e2 w2 ⟨v2, rfl, hv2, hb2⟩
        obtain ⟨p2, cap2, rfl, hcw, -, -⟩ := hv2
        have HF2 := Lib.hid (below_next HBw.out hb2)
        have HO2 := Lib.hid (owns_later HOw.out hb2)
        have HCW := Lib.hid hcw
        have HBx := Lib.hid (below_next HB.out hb2)
        clear hcw hb2
        by_cases hW0 : W = []
        · subst hW0
          have HR : RowKit.Hid (cmdGo (lns.drop (k + 1)) (k + 1) out = R) := Lib.hid (by rw [← HG2.out]; exact (HSk.out rfl).symm)
          clear HG2 HSk HBad HFull HMore HLc
          go_wp2_with fail
          go_roundw
          case rel => exact ⟨k + 1, out, by omega, by omega, by go_num, HO2.out, HR, HF2.out⟩
          case measure => simp [RowKit.intOf]; omega
        · obtain ⟨m, hWm⟩ : ∃ m, W.length = m + 1 := ⟨W.length - 1, by have := List.length_pos_iff.2 hW0; omega⟩
          obtain ⟨l0, hl0⟩ : ∃ x, (W.getD 0 ([], 0)).1 = x := ⟨_, rfl⟩
          obtain ⟨l1, hl1⟩ : ∃ x, (W.getD 1 ([], 0)).1 = x := ⟨_, rfl⟩
          have q1 := hwl 1
          rw [hl1] at q1
          obtain ⟨g2, hg2e, c0, -⟩ := HCW.out 0 (by omega)
          rw [hl0, Nat.zero_mul] at c0
          subst hg2e
          have C0 := Lib.hid c0
          have C1 : RowKit.Hid (m = 1 → w2.cell? ⟨g2, 2, none⟩ = some (.string (bs l1))) := Lib.hid (fun h9 => by
            obtain ⟨g', e, c, -⟩ := HCW.out 1 (by omega)
            injection e with e
            injection e with e
            subst e
            rw [hl1] at c
            exact c)
          rw [hl0, hl1, hWm] at HLc
          have HBad2 := Lib.hid (HBad.out hW0)
          have HFull2 := Lib.hid (HFull.out hW0)
          have HMore2 := Lib.hid (HMore.out hW0)
          have hmb : m ≤ 1000000 := by omega
          rw [hWm]
          have hm1 : ((m : Int) + 1 == 0) = false := beq_eq_false_iff_ne.2 (by omega)
          have HCk := Lib.hid (HOn.out g2 m cap2 l0 l1 q1 hmb w2 C0.out C1.out)
          obtain ⟨⟨x, e⟩, hx⟩ : ∃ y, readC (m + 1) l0 l1 = y := ⟨_, rfl⟩
          have hrow := readC_row (m + 1) l0 l1
          rw [hx] at hrow HCk HLc
          have HLx := Lib.hid HLc.out
          simp only at hrow
          obtain ⟨x1, x2, x3⟩ := x
          simp only at hrow
          subst hrow
          unfold cmdV at HCk
          dsimp only at HCk
          clear hx c0 HLc HOn hl0 hl1
          go_wp2_with fail
          refine HCk.out.mono ?_
          rintro e3 w3 ⟨rfl, hb3⟩
          have hf3 := below_next HF2.out hb3
          have HO3 := Lib.hid (owns_later HO2.out hb3)
          have HBy := Lib.hid (below_next HBx.out hb3)
          have HF3 := Lib.hid hf3
          have hz3 := hf3.size
          clear hb3 hf3
          obtain ⟨p8, c8, rfl⟩ := owns_form HOw.out
          by_cases hez : e = 0
          · subst hez
            by_cases hfull : out.length = 200
            · have HR : RowKit.Hid (R = ([], ((k + 1 : Nat) : Int), 7)) := Lib.hid (by rw [← HG2.out]; exact HFull2.out _ HLx.out hfull)
              have hfb : ((out.length : Int) == 200) = true := by simp; omega
              clear hfull
              go_wp2_with fail
              go_ret3
              exact ⟨_, by rw [HR.out]; rfl, by rw [HR.out]; exact sls_none _ _ _ _, by
                have h9 := HBy.out
                have h9z := h9.size
                (repeat' (first | (with_reducible exact Below.refl _ _) | (with_reducible assumption) | (refine below_next ?_ (by with_reducible assumption)) | (with_reducible refine Below.setCell ?_ ?_ _) | (with_reducible refine Below.alloc ?_ ?_ _) | (with_reducible refine Below.drew ?_) | (with_reducible refine below_drewN ?_ _) | omega | (simp; done) | (simp; omega)))⟩
            · have HR : RowKit.Hid (cmdGo (lns.drop (k + 1)) (k + 1) (out ++ [((k : Int) + 1, x2, x3)]) = R) := Lib.hid (by rw [← HG2.out]; exact (HMore2.out _ HLx.out hfull).symm)
              have hfb : ((out.length : Int) == 200) = false := by rw [beq_eq_false_iff_ne]; omega
              clear hfull
              go_wp2_with (at_builtin; go_must (refine wpList_append_own _ rfl (.tmp 60) (.tmp 62) 27 rfl w1.heap.size 56 i0 (.agg #[.int .i64 0, .int .i64 0, .int .i64 0]) 3 24 Tryd.underlying27 hi hz0 hz1 hz2 rfl (by decide) _ _ _ rfl ((HO3.out.alloc _).alloc _) ⟨w3.heap.size + 1, 0, none⟩ 1 1 [.int .i64 ((k : Int) + 1), .int .i64 x2, .int .i64 x3] rfl rfl (news_lit _ _ _ _ (by simp)) (ones_cmd _ _ _) (by unfold maxLen; omega) (by omega) (by simp; omega) ?_))
              intro v4 w4 hown4 hgrow hnil
              have hb4 : Below w1.heap.size w1 w4 := ((HF3.out.alloc hz3 _).alloc (by simp; omega) _).grown hgrow (by simp; omega) (fun k hk => (HO3.out.lt k hk).1)
              have HO4 : RowKit.Hid (w4.ownsRow w1.heap.size 56 3 v4 (out ++ [((k : Int) + 1, x2, x3)]).length ((out ++ [((k : Int) + 1, x2, x3)]).flatMap cmc)) := Lib.hid (by rw [← flat_snoc, List.length_append]; exact hown4)
              clear hown4 hgrow hnil
              go_wp2_with fail
              go_roundw
              case rel => exact ⟨k + 1, _, by omega, by simp; omega, by go_num, HO4.out, HR, hb4⟩
              case measure => simp [RowKit.intOf]; omega
          · have HR : RowKit.Hid (R = ([], ((k + 1 : Nat) : Int), e)) := Lib.hid (by rw [← HG2.out]; exact HBad2.out _ _ HLx.out hez)
            have he2 : (e != 0) = true := by simpa using hez
            clear hez
            go_wp2_with fail
            go_ret3
            exact ⟨_, by rw [HR.out]; rfl, by rw [HR.out]; exact sls_none _ _ _ _, by
              have h9 := HBy.out
              have h9z := h9.size
              (repeat' (first | (with_reducible exact Below.refl _ _) | (with_reducible assumption) | (refine below_next ?_ (by with_reducible assumption)) | (with_reducible refine Below.setCell ?_ ?_ _) | (with_reducible refine Below.alloc ?_ ?_ _) | (with_reducible refine Below.drew ?_) | (with_reducible refine below_drewN ?_ _) | omega | (simp; done) | (simp; omega)))⟩
      · have hke : k = lns.length := by omega
        subst hke
        have HR : RowKit.Hid (R = (out, 0, 0)) := Lib.hid (by rw [← HG.out, List.drop_length]; rfl)
        have HOw := Lib.hid (own_sls noCmd cmc_len hown)
        clear hown HG
        go_wp2_with fail
        go_ret3
        exact ⟨_, by rw [HR.out]; rfl, by rw [HR.out]; exact HOw.out, below_next HB1.out hbw⟩
  · have hd : (((ee : Nat) : Int) != 0) = true := by simp; omega
    rw [if_pos he] at hre
    have HRe := Lib.hid hre
    clear hre he
    go_enter Tryd.func16, Tryd.ntmps16
    go_wp2_with fail
    refine HO.out.mono ?_
    rintro e w1 ⟨v1, rfl, hv1, hb1⟩
    go_wp2_with fail
    go_ret3
    exact ⟨_, by rw [HRe.out]; rfl, by rw [HRe.out]; exact sls_none _ _ _ _, hb1⟩
end Go.Proofs.YtphhgdgamnogpaaDoor

namespace Go.Proofs.YtphhgdgamnogpaaDoor
open Go.RowKit Go.Lib

theorem cmdlist_same (L M : List CmdM) (hl : L.length = M.length) (h : ∀ j, j < L.length → L.getD j noCmd = M.getD j noCmd) : L = M := by
  refine List.ext_getElem hl (fun j h1 h2 => ?_)
  have := h j h1
  simpa [h1, h2] using this
theorem cmdlist_not {L M : List CmdM} {k : Nat} (h : L.getD k noCmd ≠ M.getD k noCmd) : L ≠ M := fun e => h (by rw [e])
theorem cmdlen_not {L M : List CmdM} (h : L.length ≠ M.length) : L ≠ M := fun e => h (by rw [e])
theorem cmd_at {w : World} {g j : Nat} {x : CmdM} (h : ∀ i u, (cmc x)[i]? = some u → w.cell? ⟨g, j * 3 + i, none⟩ = some u) :
    w.cell? ⟨g, j * 3, none⟩ = some (.int .i64 x.1) ∧ w.cell? ⟨g, j * 3 + 1, none⟩ = some (.int .i64 x.2.1) ∧ w.cell? ⟨g, j * 3 + 2, none⟩ = some (.int .i64 x.2.2) :=
  ⟨h 0 _ rfl, h 1 _ rfl, h 2 _ rfl⟩
theorem cmd_differ {x1 x2 x3 y1 y2 y3 : Int} (h : ¬ ((x1, x2, x3) : CmdM) = (y1, y2, y3)) : (¬ x1 = y1) ∨ (x1 = y1 ∧ ¬ x2 = y2) ∨ (x1 = y1 ∧ x2 = y2 ∧ ¬ x3 = y3) := by
  by_cases h1 : x1 = y1
  · by_cases h2 : x2 = y2
    · by_cases h3 : x3 = y3
      · exact absurd (by rw [h1, h2, h3]) h
      · exact .inr (.inr ⟨h1, h2, h3⟩)
    · exact .inr (.inl ⟨h1, h2⟩)
  · exact .inl h1

set_option maxRecDepth 100000 in
set_option maxHeartbeats 4000000 in
theorem rsame43_any (v v' : Value) (L M : List CmdM) (w : World) (hv : CmdsS w v L) (hv' : CmdsS w v' M) (hl : L.length ≤ 1000000) (_ : M.length ≤ 1000000) :
    Calls Tryd.prog 17 #[v, v'] w fun e w' => e = .returned (.bool (decide (L = M))) ∧ Below w.heap.size w w' := by
  obtain ⟨p, c, rfl, hp⟩ := hv
  obtain ⟨q, d, rfl, hq⟩ := hv'
  have HP := Lib.hid hp
  have HQ := Lib.hid hq
  clear hp hq
  go_enter Tryd.func17, Tryd.ntmps17
  by_cases hlm : L.length = M.length
  · have hlmi : ((L.length : Nat) : Int) = ((M.length : Nat) : Int) := by omega
    have HLM := Lib.hid hlm
    clear hlm
    go_wp2_with fail
    go_loopw [5] (fun i wr => ∃ k : Nat, k ≤ L.length ∧ i = .int .i64 k ∧ (∀ j, j < k → L.getD j noCmd = M.getD j noCmd) ∧ Below w.heap.size w wr) (fun i _ => L.length - (RowKit.intOf i).toNat)
    case atStart => exact ⟨0, Nat.zero_le _, rfl, fun j hj => absurd hj (Nat.not_lt_zero j), Below.refl _ _⟩
    case round =>
      obtain ⟨k, hk, rfl, heq, hbw⟩ := hrel
      have HEq := Lib.hid heq
      clear heq
      by_cases hk1 : k < L.length
      · have hk2 : k < M.length := by rw [← HLM.out]; exact hk1
        obtain ⟨g, rfl, hA⟩ := HP.out k hk1
        obtain ⟨g', rfl, hB⟩ := HQ.out k hk2
        obtain ⟨a1, a2, a3⟩ := cmd_at hA
        obtain ⟨b1, b2, b3⟩ := cmd_at hB
        have a1' := cell_later hbw a1
        have b1' := cell_later hbw b1
        have a2' := cell_later hbw a2
        have b2' := cell_later hbw b2
        have a3' := cell_later hbw a3
        have b3' := cell_later hbw b3
        clear hA hB a1 b1 a2 b2 a3 b3
        by_cases hxy : L.getD k noCmd = M.getD k noCmd
        · have HK : RowKit.Hid (∀ j, j < k + 1 → L.getD j noCmd = M.getD j noCmd) := Lib.hid (fun j hj => by
            by_cases h : j = k
            · subst h; exact hxy
            · exact HEq.out j (by omega))
          rw [← hxy] at b1' b2' b3'
          clear hxy
          generalize L.getD k noCmd = x at *
          obtain ⟨x1, x2, x3⟩ := x
          simp only at a1' a2' a3' b1' b2' b3'
          go_wp2_with fail
          go_quiet (fail)
          have hbw2 : Below w.heap.size w (wr.drewN nq) := hbw.trans ⟨rfl, rfl, rfl, Nat.le_refl _, fun _ _ => rfl⟩
          generalize wr.drewN nq = wq at *
          go_wp2_with fail
          go_roundw
          case rel => exact ⟨k + 1, by omega, by go_num, HK.out, hbw2⟩
          case measure => simp [RowKit.intOf]; omega
        · have HNe := Lib.hid (cmdlist_not hxy)
          generalize L.getD k noCmd = x at *
          generalize M.getD k noCmd = y at *
          obtain ⟨x1, x2, x3⟩ := x
          obtain ⟨y1, y2, y3⟩ := y
          have hd := cmd_differ hxy
          simp only at a1' a2' a3' b1' b2' b3'
          clear hxy
          rcases hd with hd | ⟨rfl, hd⟩ | ⟨rfl, rfl, hd⟩
          · have he := beq_eq_false_iff_ne.2 hd
            go_wp2_with fail
            go_quiet (fail)
            have hbw2 : Below w.heap.size w (wr.drewN nq) := hbw.trans ⟨rfl, rfl, rfl, Nat.le_refl _, fun _ _ => rfl⟩
            generalize wr.drewN nq = wq at *
            go_wp2_with fail
            go_ret
            exact ⟨by rw [decide_eq_false HNe.out]; rfl, hbw2⟩
          · have he := beq_eq_false_iff_ne.2 hd
            go_wp2_with fail
            go_quiet (fail)
            have hbw2 : Below w.heap.size w (wr.drewN nq) := hbw.trans ⟨rfl, rfl, rfl, Nat.le_refl _, fun _ _ => rfl⟩
            generalize wr.drewN nq = wq at *
            go_wp2_with fail
            go_ret
            exact ⟨by rw [decide_eq_false HNe.out]; rfl, hbw2⟩
          · have he := beq_eq_false_iff_ne.2 hd
            go_wp2_with fail
            go_quiet (fail)
            have hbw2 : Below w.heap.size w (wr.drewN nq) := hbw.trans ⟨rfl, rfl, rfl, Nat.le_refl _, fun _ _ => rfl⟩
            generalize wr.drewN nq = wq at *
            go_wp2_with fail
            go_ret
            exact ⟨by rw [decide_eq_false HNe.out]; rfl, hbw2⟩
      · have hke : k = L.length := by omega
        subst hke
        have HLL := Lib.hid (cmdlist_same L M HLM.out HEq.out)
        go_wp2_with fail
        go_ret
        exact ⟨by rw [decide_eq_true HLL.out]; rfl, hbw⟩
  · have HNe := Lib.hid (cmdlen_not hlm)
    have hlmi : ¬ (((L.length : Nat) : Int) = ((M.length : Nat) : Int)) := by omega
    go_wp2_with fail
    go_ret
    exact ⟨by rw [decide_eq_false HNe.out]; rfl, Below.refl _ _⟩

theorem news_lit3 (w : World) (a b c : Int) (e : TypeId) : ∀ (j : Nat) (u : Value), ([.int .i64 a, .int .i64 b, .int .i64 c] : List Value)[j]? = some u → (w.drew.alloc (.cells #[.int .i64 a, .int .i64 b, .int .i64 c] e)).cell? ((⟨w.heap.size, 0, none⟩ : Addr).add j) = some u := by
  intro j u hj
  exact news_lit w.drew [.int .i64 a, .int .i64 b, .int .i64 c] e w.heap.size rfl j u hj
theorem take_snocC (L : List CmdM) (k : Nat) (hk : k < L.length) : L.take (k + 1) = L.take k ++ [L.getD k noCmd] := by
  rw [List.take_succ_eq_append_getElem hk]
  simp [hk]
set_option maxRecDepth 100000 in
set_option maxHeartbeats 4000000 in
theorem back43_any (v : Value) (L : List CmdM) (w : World) (hv : CmdsS w v L) (hl : L.length ≤ 1000000) :
    Calls Tryd.prog 18 #[v] w fun e w' => ∃ v', e = .returned v' ∧ CmdsS w' v' L ∧ Below w.heap.size w w' := by
  obtain ⟨p, c, rfl, hp⟩ := hv
  have HP := Lib.hid hp
  clear hp
  obtain ⟨i0, hi, hz0, hz1, hz2⟩ := info_parts info_rcmd
  go_enter Tryd.func18, Tryd.ntmps18
  go_wp2_with fail
  go_loopw [3, 4] (fun v3 i wr => ∃ k : Nat, k ≤ L.length ∧ i = .int .i64 k ∧ wr.ownsRow w.heap.size 56 3 v3 k ((L.take k).flatMap cmc) ∧ Below w.heap.size w wr) (fun _ i _ => L.length - (RowKit.intOf i).toNat)
  case atStart => exact ⟨0, Nat.zero_le _, rfl, World.ownsRow_made w #[] 0 (Nat.le_refl _) (Nat.zero_le _) rfl, (Below.refl _ _).alloc (Nat.le_refl _) _⟩
  case round =>
    obtain ⟨k, hk, rfl, hown, hbw⟩ := hrel
    have HOw := Lib.hid hown
    have hbz := hbw.size
    obtain ⟨p3, c3, rfl⟩ := owns_form hown
    clear hown
    by_cases hk1 : k < L.length
    · obtain ⟨g, rfl, hA⟩ := HP.out k hk1
      obtain ⟨a1, a2, a3⟩ := cmd_at hA
      have HN := Lib.hid (take_snocC L k hk1)
      generalize L.getD k noCmd = x at *
      obtain ⟨x1, x2, x3⟩ := x
      have b1 := cell_later hbw a1
      have b2 := cell_later hbw a2
      have b3 := cell_later hbw a3
      simp only at b1 b2 b3
      have hgl : g < wr.heap.size := World.block_lt_of_cell? wr _ b1
      have HS : RowKit.Hid (∀ w', Below wr.heap.size wr w' → (w'.cell? ⟨g, k * 3, none⟩ = some (.int .i64 x1) ∧ w'.cell? ⟨g, k * 3 + 1, none⟩ = some (.int .i64 x2) ∧ w'.cell? ⟨g, k * 3 + 2, none⟩ = some (.int .i64 x3))) := Lib.hid (fun w' hb => ⟨cell_later hb b1, cell_later hb b2, cell_later hb b3⟩)
      clear hA a1 a2 a3
      go_wp2_with fail
      refine wp_region_keep (fun w' => w'.cell? ⟨g, k * 3, none⟩ = some (.int .i64 x1) ∧ w'.cell? ⟨g, k * 3 + 1, none⟩ = some (.int .i64 x2) ∧ w'.cell? ⟨g, k * 3 + 2, none⟩ = some (.int .i64 x3)) [17, 18, 19] (by kernel_rfl) ?_
      have hB0 : Below (wr).heap.size (wr) (wr).drew := Below.drew (Below.refl _ _)
      have hS0 := HS.out _ hB0
      refine wpAnyM_free 0 (v := ?_) rfl (by kernel_rfl) (by kernel_rfl) (by kernel_rfl) (fun _ _ _ h => h) (Or.inl ⟨by rfl, ?_⟩) ?_
      rotate_left
      · intro w' hw'
        go_simp
        try with_reducible rfl
      try simp only [Act.put, List.setIfInBounds_toArray, List.set_cons_zero, List.set_cons_succ]
      refine wpAnyM_free 1 (v := ?_) rfl (by kernel_rfl) (by kernel_rfl) (by kernel_rfl) (fun _ _ _ h => h) (Or.inl ⟨by rfl, ?_⟩) ?_
      rotate_left
      · intro w' hw'
        go_simp
        try with_reducible rfl
      try simp only [Act.put, List.setIfInBounds_toArray, List.set_cons_zero, List.set_cons_succ]
      refine wpAnyM_free 2 (v := ?_) rfl (by kernel_rfl) (by kernel_rfl) (by kernel_rfl) (fun _ _ _ h => h) (Or.inl ⟨by rfl, ?_⟩) ?_
      rotate_left
      · intro w' hw'
        go_simp
        try with_reducible rfl
      try simp only [Act.put, List.setIfInBounds_toArray, List.set_cons_zero, List.set_cons_succ]
      refine wpAnyM_free 3 (v := ?_) rfl (by kernel_rfl) (by kernel_rfl) (by kernel_rfl) (fun _ _ _ h => h) (Or.inl ⟨by rfl, ?_⟩) ?_
      rotate_left
      · intro w' hw'
        go_simp
        try with_reducible rfl
      try simp only [Act.put, List.setIfInBounds_toArray, List.set_cons_zero, List.set_cons_succ]
      refine wpAnyM_free 4 (v := ?_) rfl (by kernel_rfl) (by kernel_rfl) (by kernel_rfl) (fun _ _ _ h => h) (Or.inl ⟨by rfl, ?_⟩) ?_
      rotate_left
      · intro w' hw'
        go_simp
        try with_reducible rfl
      try simp only [Act.put, List.setIfInBounds_toArray, List.set_cons_zero, List.set_cons_succ]
      refine wpAnyM_take 5 20 (v := ?_) rfl (by kernel_rfl) (by kernel_rfl) (by kernel_rfl) (by kernel_rfl) (by kernel_rfl) (fun _ _ _ h => h) (Or.inl ⟨by rfl, ?_⟩) hS0 ?_
      rotate_left
      · intro w' hw'
        try dsimp only at hw'
        go_simp
        try with_reducible rfl
      try simp only [Act.put, List.setIfInBounds_toArray, List.set_cons_zero, List.set_cons_succ]
      refine wpAnyM_free 6 (v := ?_) rfl (by kernel_rfl) (by kernel_rfl) (by kernel_rfl) (fun _ _ _ h => h) (Or.inl ⟨by rfl, ?_⟩) ?_
      rotate_left
      · intro w' hw'
        go_simp
        try with_reducible rfl
      try simp only [Act.put, List.setIfInBounds_toArray, List.set_cons_zero, List.set_cons_succ]
      refine wpAnyM_free 7 (v := ?_) rfl (by kernel_rfl) (by kernel_rfl) (by kernel_rfl) (fun _ _ _ h => h) (Or.inl ⟨by rfl, ?_⟩) ?_
      rotate_left
      · intro w' hw'
        go_simp
        try with_reducible rfl
      try simp only [Act.put, List.setIfInBounds_toArray, List.set_cons_zero, List.set_cons_succ]
      refine wpAnyM_free 8 (v := ?_) rfl (by kernel_rfl) (by kernel_rfl) (by kernel_rfl) (fun _ _ _ h => h) (Or.inl ⟨by rfl, ?_⟩) ?_
      rotate_left
      · intro w' hw'
        go_simp
        try with_reducible rfl
      try simp only [Act.put, List.setIfInBounds_toArray, List.set_cons_zero, List.set_cons_succ]
      refine wpAnyM_free 9 (v := ?_) rfl (by kernel_rfl) (by kernel_rfl) (by kernel_rfl) (fun _ _ _ h => h) (Or.inl ⟨by rfl, ?_⟩) ?_
      rotate_left
      · intro w' hw'
        go_simp
        try with_reducible rfl
      try simp only [Act.put, List.setIfInBounds_toArray, List.set_cons_zero, List.set_cons_succ]
      refine wpAnyM_take 10 20 (v := ?_) rfl (by kernel_rfl) (by kernel_rfl) (by kernel_rfl) (by kernel_rfl) (by kernel_rfl) (fun _ _ _ h => h) (Or.inl ⟨by rfl, ?_⟩) hS0 ?_
      rotate_left
      · intro w' hw'
        try dsimp only at hw'
        go_simp
        try with_reducible rfl
      try simp only [Act.put, List.setIfInBounds_toArray, List.set_cons_zero, List.set_cons_succ]
      refine wpAnyM_free 11 (v := ?_) rfl (by kernel_rfl) (by kernel_rfl) (by kernel_rfl) (fun _ _ _ h => h) (Or.inl ⟨by rfl, ?_⟩) ?_
      rotate_left
      · intro w' hw'
        go_simp
        try with_reducible rfl
      try simp only [Act.put, List.setIfInBounds_toArray, List.set_cons_zero, List.set_cons_succ]
      refine wpAnyM_one 12 rfl (by kernel_rfl) (fun K hK => ?_)
      go_simp
      refine hK.out _ _ (fun _ h => h) ?_
      clear hK K
      try simp only [Act.put, List.setIfInBounds_toArray, List.set_cons_zero, List.set_cons_succ]
      refine wpAnyM_one 13 rfl (by kernel_rfl) (fun K hK => ?_)
      go_simp
      refine hK.out _ _ (fun _ h => h) ?_
      clear hK K
      try simp only [Act.put, List.setIfInBounds_toArray, List.set_cons_zero, List.set_cons_succ]
      refine wpAnyM_one 14 rfl (by kernel_rfl) (fun K hK => ?_)
      go_simp
      refine hK.out _ _ (fun _ h => h) ?_
      clear hK K
      try simp only [Act.put, List.setIfInBounds_toArray, List.set_cons_zero, List.set_cons_succ]
      refine wpAnyM_one 15 rfl (by kernel_rfl) (fun K hK => ?_)
      go_simp
      refine hK.out _ _ (fun _ h => h) ?_
      clear hK K
      try simp only [Act.put, List.setIfInBounds_toArray, List.set_cons_zero, List.set_cons_succ]
      refine wpAnyM_one 16 rfl (by kernel_rfl) (fun K hK => ?_)
      go_simp
      refine hK.out _ _ (fun _ _ => hS0) ?_
      clear hK K
      try simp only [Act.put, List.setIfInBounds_toArray, List.set_cons_zero, List.set_cons_succ]
      refine wpAnyM_one 17 rfl (by kernel_rfl) (fun K hK => ?_)
      go_simp
      refine hK.out _ _ (fun h => absurd h (by decide)) ?_
      clear hK K
      try simp only [Act.put, List.setIfInBounds_toArray, List.set_cons_zero, List.set_cons_succ]
      refine wpAnyM_one 18 rfl (by kernel_rfl) (fun K hK => ?_)
      refine step_append_lies _ (by rfl) _ _ 27 (by rfl) w.heap.size 56 i0 (.agg #[.int .i64 0, .int .i64 0, .int .i64 0]) 3 24 Tryd.underlying27 hi hz0 hz1 hz2 rfl (by decide) _ k ((L.take k).flatMap cmc) (by rfl) (HOw.out.alloc _) ⟨wr.heap.size, 0, none⟩ 1 1 [.int .i64 x1, .int .i64 x2, .int .i64 x3] (by rfl) rfl (news_lit3 _ _ _ _ _) (ones_cmd _ _ _) (by decide) (by unfold maxLen; omega) (by omega) (by simp; omega) _ rfl (fun g4 cap4 w4 hown4 hgrow hg4 hlt4 => ?_)
      refine hK.out _ _ (fun h => absurd h (by decide)) ?_
      clear hK K
      try simp only [Act.put, List.setIfInBounds_toArray, List.set_cons_zero, List.set_cons_succ]
      refine wpAnyM_one 19 rfl (by kernel_rfl) (fun K hK => ?_)
      go_simp
      refine hK.out _ _ (fun h => absurd h (by decide)) ?_
      clear hK K
      try simp only [Act.put, List.setIfInBounds_toArray, List.set_cons_zero, List.set_cons_succ]
      refine wpAnyM_done (by kernel_rfl) ?_ _
      try simp only [Act.put, List.setIfInBounds_toArray, List.set_cons_zero, List.set_cons_succ]
      have hb4 : Below w.heap.size w w4 := ((hbw.drew).alloc hbz _).grown hgrow (by simp; omega) (fun k hk => (HOw.out.lt k hk).1)
      have HO4 : RowKit.Hid (w4.ownsRow w.heap.size 56 3 (.slice (some ⟨g4, 0, none⟩) (k + 1) cap4) (k + 1) ((L.take (k + 1)).flatMap cmc)) := Lib.hid (by rw [HN.out, ← flat_snoc]; exact hown4)
      clear hown4 hgrow hg4
      go_wp2_with fail
      go_roundw
      case rel => exact ⟨k + 1, by omega, by go_num, HO4.out, hb4⟩
      case measure => simp [RowKit.intOf]; omega
    · have hke : k = L.length := by omega
      subst hke
      have h9 : CmdsS wr (.slice p3 L.length c3) L := by
        have h8 := HOw.out
        rw [List.take_length] at h8
        exact own_sls noCmd cmc_len h8
      have H9 := Lib.hid h9
      clear h9
      go_wp2_with fail
      go_ret
      exact ⟨_, rfl, H9.out, hbw⟩
end Go.Proofs.YtphhgdgamnogpaaDoor

namespace Go.Proofs.YtphhgdgamnogpaaDoor
open Go.RowKit Go.Lib

theorem cmdGo_len : ∀ (r : List (List UInt8)) (i : Nat) (out : List CmdM), out.length ≤ 200 → (cmdGo r i out).1.length ≤ 200
  | [], _, _, h => h
  | t :: r, i, out, h => by
    unfold cmdGo
    split
    · exact cmdGo_len r _ _ h
    · split
      · simp
      · split
        · simp
        · exact cmdGo_len r _ _ (by simp; omega)
theorem readS_len (l : List UInt8) : (readS l).1.length ≤ 200 := by
  unfold readS
  split
  · simp
  · exact cmdGo_len _ _ _ (by simp)
theorem shortS_len (l : List UInt8) : (shortS l).length ≤ 65537 := by
  unfold shortS
  split <;> simp <;> omega
set_option maxHeartbeats 1000000 in
theorem scshort_any (l : List UInt8) (hs : l.length ≤ 9223372036854775807) (w : World) :
    Calls Tryd.prog 14 #[.string (bs l)] w fun e w' => e = .returned (.string (bs (shortS l))) ∧ w = w' := by
  by_cases h : 65536 < l.length
  · have e : shortS l = l.take 65537 := by unfold shortS; rw [if_pos h]
    rw [e]
    have hd : decide ((65536 : Int) < (l.length : Int)) = true := decide_eq_true (by omega)
    have h1 : (65537 : Int) ≤ (l.length : Int) := by omega
    clear e
    go_enter Tryd.func14, Tryd.ntmps14
    go_wp2
    go_ret
    exact ⟨rfl, rfl⟩
  · have e : l.take (min (l.length : Int) 4000).toNat = shortS l := by
      unfold shortS
      rw [if_neg h]
      by_cases h : l.length ≤ 4000
      · rw [show (min (l.length : Int) 4000).toNat = l.length by omega, List.take_length, List.take_of_length_le h]
      · rw [show (min (l.length : Int) 4000).toNat = 4000 by omega]
    have E := Lib.hid e
    have hd : decide ((65536 : Int) < (l.length : Int)) = false := decide_eq_false (by omega)
    clear e h
    go_enter Tryd.func14, Tryd.ntmps14
    go_wp2
    go_ret
    refine ⟨?_, rfl⟩
    rw [← E.out]
    rfl
instance : DecidableEq CmdM := inferInstance
theorem exS1 : readS [98, 117, 100, 103, 101, 116, 32, 55, 32, 35, 32, 115, 111, 32, 109, 97, 110, 121, 10, 10, 99, 104, 101, 99, 107] = ([(1, 3, 7), (3, 4, 0)], 0, 0) := by decide +kernel
theorem exS2 : readS [99, 104, 101, 99, 107, 10, 98, 117, 100, 103, 101, 116, 32, 45, 49] = ([], 2, 2) := by decide +kernel
theorem exS3 : readS [108, 101, 118, 101, 108, 32, 114, 99] = ([], 1, 5) := by decide +kernel
set_option maxRecDepth 100000 in
set_option maxHeartbeats 4000000 in
theorem scworks_any (w : World) (hm : HasMax w) (hS : ScTab w) :
    Calls Tryd.prog 19 #[] w fun e w' => e = .returned (.bool true) ∧ Below w.heap.size w w' := by
  have H1 := Lib.hid (sparse_any [98, 117, 100, 103, 101, 116, 32, 55, 32, 35, 32, 115, 111, 32, 109, 97, 110, 121, 10, 10, 99, 104, 101, 99, 107] (by decide) w hm hS)
  have H2 := Lib.hid (fun w' (h : Below w.heap.size w w') => sparse_any [99, 104, 101, 99, 107, 10, 98, 117, 100, 103, 101, 116, 32, 45, 49] (by decide) w' (hm.below h) (hS.below h))
  have H3 := Lib.hid (fun w' (h : Below w.heap.size w w') => sparse_any [108, 101, 118, 101, 108, 32, 114, 99] (by decide) w' (hm.below h) (hS.below h))
  rw [exS1] at H1
  rw [exS2] at H2
  rw [exS3] at H3
  clear hm hS
  go_enter Tryd.func19, Tryd.ntmps19
  go_wp2_with fail
  refine H1.out.mono ?_
  rintro e w1 ⟨v, rfl, hv, hb1⟩
  obtain ⟨p, c, rfl, hc⟩ := hv
  obtain ⟨g, rfl, h0⟩ := hc 0 (by decide)
  obtain ⟨g', hg', h1⟩ := hc 1 (by decide)
  injection hg' with hg'
  injection hg' with hg'
  subst hg'
  have a0 := h0 0 _ rfl
  have a1 := h0 1 _ rfl
  have a2 := h0 2 _ rfl
  have a3 := h1 0 _ rfl
  have a4 := h1 1 _ rfl
  have a5 := h1 2 _ rfl
  simp only [Nat.reduceMul, Nat.reduceAdd] at a0 a1 a2 a3 a4 a5
  clear h0 h1 hc
  go_wp2_with fail
  refine (H2.out _ hb1).mono ?_
  rintro e w2 ⟨v2, rfl, -, hb2⟩
  have hb12 := below_next hb1 hb2
  have c0 := cell_later hb2 a0
  have c1 := cell_later hb2 a1
  have c2 := cell_later hb2 a2
  have c3 := cell_later hb2 a3
  have c4 := cell_later hb2 a4
  have c5 := cell_later hb2 a5
  go_wp2_with fail
  refine (H3.out _ hb12).mono ?_
  rintro e w3 ⟨v3, rfl, -, hb3⟩
  have d0 := cell_later hb3 c0
  have d1 := cell_later hb3 c1
  have d2 := cell_later hb3 c2
  have d3 := cell_later hb3 c3
  have d4 := cell_later hb3 c4
  have d5 := cell_later hb3 c5
  have hbf := below_next hb12 hb3
  clear a0 a1 a2 a3 a4 a5 c0 c1 c2 c3 c4 c5
  go_wp2_with fail
  go_ret
  exact ⟨rfl, hbf⟩

set_option maxRecDepth 100000 in
set_option maxHeartbeats 2000000 in
theorem scriptparses_any (l : List UInt8) (hs : l.length ≤ 9223372036854775807) (w : World) (hm : HasMax w) (hS : ScTab w) :
    Calls Tryd.prog 3 #[.string (bs l)] w fun e w' => e = .returned (.bool true) ∧ Below w.heap.size w w' := by
  have HS := Lib.hid (scshort_any l hs w)
  have hl : (shortS l).length ≤ 1000000 := by have := shortS_len l; omega
  have H1 := Lib.hid (sparse_any (shortS l) hl w hm hS)
  have H2 := Lib.hid (fun w' => rsparse_any (shortS l) hl w')
  have HW := Lib.hid (fun w' (h : Below w.heap.size w w') => scworks_any w' (hm.below h) (hS.below h))
  have hn := readS_len (shortS l)
  have HBk := Lib.hid (fun v w' (h : CmdsS w' v (readS (shortS l)).1) => back43_any v _ w' h (by omega))
  have HSa := Lib.hid (fun v v' w' (h : CmdsS w' v (readS (shortS l)).1) (h' : CmdsS w' v' (readS (shortS l)).1) => rsame43_any v v' _ _ w' h h' (by omega) (by omega))
  obtain ⟨⟨R, n, e⟩, hR⟩ : ∃ R, readS (shortS l) = R := ⟨_, rfl⟩
  rw [hR] at H1 H2 HSa HBk
  simp only [decide_true] at HSa
  simp only at H1 H2 HBk
  clear hm hS hR hn hl
  go_enter Tryd.func3, Tryd.ntmps3
  go_wp2_with fail
  refine HS.out.mono ?_
  rintro e0 w0 ⟨rfl, rfl⟩
  go_wp2_with fail
  refine H1.out.mono ?_
  rintro e1 w1 ⟨v1, rfl, hv1, hb1⟩
  have HV1 := Lib.hid hv1
  clear hv1
  go_wp2_with fail
  refine (H2.out w1).mono ?_
  rintro e2 w2 ⟨v2, rfl, hv2, hb2⟩
  have HV2 := Lib.hid hv2
  have hb12 := below_next hb1 hb2
  clear hv2
  go_wp2_with fail
  refine (HBk.out _ w2 (HV1.out.below hb2)).mono ?_
  rintro e3 w3 ⟨v3, rfl, hv3, hb3⟩
  have HV3 := Lib.hid hv3
  have hb13 := below_next hb12 hb3
  clear hv3
  go_wp2_with fail
  refine (HSa.out _ _ w3 HV3.out (HV2.out.below hb3)).mono ?_
  rintro e4 w4 ⟨rfl, hb4⟩
  have hb := below_next hb13 hb4
  go_wp2_with fail
  refine (HW.out w4 hb).mono ?_
  rintro e5 w5 ⟨rfl, hb5⟩
  go_wp2_with fail
  go_ret
  exact ⟨rfl, below_next hb hb5⟩
/-! ### the tables -/
theorem firstW_at (i : Nat) (h : i < 11) : firstW (i : Int) = ([[], [108, 101, 118, 101, 108], [112, 111, 108, 105, 99, 121], [98, 117, 100, 103, 101, 116], [99, 104, 101, 99, 107], [114, 101, 112, 111, 114, 116], [102, 111, 114, 99, 101, 100], [119, 111, 114, 108, 100, 115], [101, 110, 111, 117, 103, 104], [115, 104, 111, 119], [119, 114, 111, 110, 103]] : List (List UInt8)).getD i [] := by
  match i, h with
  | 0, _ => rfl
  | 1, _ => rfl
  | 2, _ => rfl
  | 3, _ => rfl
  | 4, _ => rfl
  | 5, _ => rfl
  | 6, _ => rfl
  | 7, _ => rfl
  | 8, _ => rfl
  | 9, _ => rfl
  | 10, _ => rfl
theorem levelW_at (i : Nat) (h : i < 4) : levelW (i : Int) = ([[], [82, 67], [67, 67], [83, 69, 82]] : List (List UInt8)).getD i [] := by
  match i, h with
  | 0, _ => rfl
  | 1, _ => rfl
  | 2, _ => rfl
  | 3, _ => rfl
theorem policyW_at (i : Nat) (h : i < 3) : policyW (i : Int) = ([[], [107, 101, 101, 112], [101, 114, 97, 115, 101]] : List (List UInt8)).getD i [] := by
  match i, h with
  | 0, _ => rfl
  | 1, _ => rfl
  | 2, _ => rfl
theorem sctab_of {W : World} (h1 : ∀ i, i < ([[], [108, 101, 118, 101, 108], [112, 111, 108, 105, 99, 121], [98, 117, 100, 103, 101, 116], [99, 104, 101, 99, 107], [114, 101, 112, 111, 114, 116], [102, 111, 114, 99, 101, 100], [119, 111, 114, 108, 100, 115], [101, 110, 111, 117, 103, 104], [115, 104, 111, 119], [119, 114, 111, 110, 103]] : List (List UInt8)).length → W.cell? ⟨0, i, none⟩ = some (.string (bs (([[], [108, 101, 118, 101, 108], [112, 111, 108, 105, 99, 121], [98, 117, 100, 103, 101, 116], [99, 104, 101, 99, 107], [114, 101, 112, 111, 114, 116], [102, 111, 114, 99, 101, 100], [119, 111, 114, 108, 100, 115], [101, 110, 111, 117, 103, 104], [115, 104, 111, 119], [119, 114, 111, 110, 103]] : List (List UInt8)).getD i []))))
    (h2 : ∀ i, i < ([[], [82, 67], [67, 67], [83, 69, 82]] : List (List UInt8)).length → W.cell? ⟨2, i, none⟩ = some (.string (bs (([[], [82, 67], [67, 67], [83, 69, 82]] : List (List UInt8)).getD i []))))
    (h3 : ∀ i, i < ([[], [107, 101, 101, 112], [101, 114, 97, 115, 101]] : List (List UInt8)).length → W.cell? ⟨3, i, none⟩ = some (.string (bs (([[], [107, 101, 101, 112], [101, 114, 97, 115, 101]] : List (List UInt8)).getD i [])))) : ScTab W :=
  ⟨fun i hi => by rw [firstW_at i hi]; exact h1 i hi, fun i hi => by rw [levelW_at i hi]; exact h2 i hi, fun i hi => by rw [policyW_at i hi]; exact h3 i hi⟩
end Go.Proofs.YtphhgdgamnogpaaDoor
