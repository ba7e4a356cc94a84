/-
  Layer 5 (value) in plain words: values in order, as the program makes them (sorted, then no two alike) and as the reference does (put in one by one); no program in sight. No conditions.
  A region that draws its order: one condition on the world that all but the late operations keep; what asks nothing of the world may come when it will. No conditions.
  A region that draws its order, where what it keeps is told by a fact. No conditions.
-/
import Derived.Test.YtldcbapjiflblaaVVa
namespace Go.Proofs.Ytldcbapjiflblaa
section
open Go.Lib
abbrev ValV := Int × Int
def okV (a : ValV) : Bool := mayV a.1 a.2
def ltV (a b : ValV) : Bool := if a.1 = b.1 then a.1 == 1 && decide (a.2 < b.2) else decide (a.1 < b.1)
theorem ltV_iff (a b : ValV) : ltV a b = true ↔ a.1 < b.1 ∨ (a.1 = b.1 ∧ a.1 = 1 ∧ a.2 < b.2) := by
 unfold ltV
 by_cases h : a.1 = b.1
 ·rw [if_pos h]
  simp only [Bool.and_eq_true, beq_iff_eq, decide_eq_true_eq]
  omega
 ·rw [if_neg h]
  simp only [decide_eq_true_eq]
  omega
theorem ltV_irrefl (a : ValV) : ltV a a = false := by
 rw [Bool.eq_false_iff, ne_eq, ltV_iff]
 omega
theorem ltV_trans (a b c : ValV) (h1 : ltV a b = true) (h2 : ltV b c = true) : ltV a c = true := by
 rw [ltV_iff] at *
 omega
theorem okV_iff (a : ValV) : okV a = true ↔ a.1 = 1 ∨ (a.1 = 0 ∨ a.1 = 2) ∧ a.2 = 0 := by
 unfold okV mayV
 simp only [Bool.or_eq_true, Bool.and_eq_true, beq_iff_eq]
theorem ltV_total (a b : ValV) (ha : okV a = true) (hb : okV b = true) (h1 : ltV a b = false) (h2 : ltV b a = false) : a = b := by
 rw [Bool.eq_false_iff, ne_eq, ltV_iff] at h1 h2
 rw [okV_iff] at ha hb
 obtain ⟨a1, a2⟩ := a
 obtain ⟨b1, b2⟩ := b
 simp only at *
 have e1 : a1 = b1 := by omega
 subst e1
 have e2 : a2 = b2 := by omega
 rw [e2]
theorem ltV_ntrans (a b c : ValV) (h1 : ltV a b = false) (h2 : ltV b c = false) : ltV a c = false := by
 rw [Bool.eq_false_iff, ne_eq, ltV_iff] at *
 omega
def insV (x : ValV) : List ValV → List ValV
 | [] => [x]
 | y :: r => if ltV y x then y :: insV x r else if y = x then y :: r else x :: y :: r
theorem insV_mem (x y : ValV) : ∀ r, y ∈ insV x r ↔ y = x ∨ y ∈ r
 | [] => by simp [insV]
 | z :: r => by
  unfold insV
  split
  ·rw [List.mem_cons, insV_mem x y r, List.mem_cons]
   constructor
   ·rintro (h | h | h)
    ·exact .inr (.inl h)
    ·exact .inl h
    ·exact .inr (.inr h)
   ·rintro (h | h | h)
    ·exact .inr (.inl h)
    ·exact .inl h
    ·exact .inr (.inr h)
  ·split
   ·rename_i h
    subst h
    simp
   ·simp
theorem insV_sorted (x : ValV) (hx : okV x = true) : ∀ r, (∀ y ∈ r, okV y = true) → r.Pairwise (fun a b => ltV a b = true) → (insV x r).Pairwise (fun a b => ltV a b = true)
 | [], _, _ => by simp [insV]
 | y :: r, hn, hs => by
  have hy := hn y (List.mem_cons_self ..)
  rw [List.pairwise_cons] at hs
  unfold insV
  split
  ·rename_i h
   rw [List.pairwise_cons]
   refine ⟨fun z hz => ?_, insV_sorted x hx r (fun z hz => hn z (List.mem_cons_of_mem _ hz)) hs.2⟩
   rcases (insV_mem x z r).1 hz with e | e
   ·subst e; exact h
   ·exact hs.1 z e
  ·rename_i h
   split
   ·rw [List.pairwise_cons]; exact hs
   ·rename_i he
    have hxy : ltV x y = true := by
     cases hq : ltV x y with
     | true => rfl
     | false => exact absurd (ltV_total y x hy hx (by simpa using h) hq) he
    rw [List.pairwise_cons, List.pairwise_cons]
    refine ⟨fun z hz => ?_, hs⟩
    rcases List.mem_cons.1 hz with e | e
    ·subst e; exact hxy
    ·exact ltV_trans x y z hxy (hs.1 z e)
def aheadV (x : ValV) (r : List ValV) : Nat := (r.takeWhile (fun y => ltV y x)).length
theorem insV_at (x : ValV) : ∀ r : List ValV, aheadV x r ≤ r.length ∧ (∀ j, j < aheadV x r → ltV (r.getD j (0, 0)) x = true) ∧
  (aheadV x r < r.length → ltV (r.getD (aheadV x r) (0, 0)) x = false) ∧
  insV x r = if aheadV x r < r.length ∧ r.getD (aheadV x r) (0, 0) = x then r else r.take (aheadV x r) ++ x :: r.drop (aheadV x r)
 | [] => by simp [aheadV, insV]
 | y :: r => by
  obtain ⟨h1, h2, h3, h4⟩ := insV_at x r
  by_cases h : ltV y x = true
  ·have e : aheadV x (y :: r) = aheadV x r + 1 := by simp [aheadV, h]
   rw [e]
   refine ⟨by simpa using h1, ?_, ?_, ?_⟩
   ·intro j hj
    cases j with
    | zero => exact h
    | succ j => exact h2 j (by omega)
   ·intro hl
    exact h3 (by simpa using hl)
   ·unfold insV
    rw [if_pos h, h4]
    by_cases hc : aheadV x r < r.length ∧ r.getD (aheadV x r) (0, 0) = x
    ·rw [if_pos hc, if_pos (by simpa using hc)]
    ·rw [if_neg hc, if_neg (by simpa using hc)]
     simp
  ·have h' : ltV y x = false := by simpa using h
   have e : aheadV x (y :: r) = 0 := by simp [aheadV, h']
   rw [e]
   refine ⟨Nat.zero_le _, fun j hj => absurd hj (Nat.not_lt_zero j), fun _ => h', ?_⟩
   unfold insV
   rw [if_neg h]
   simp
def sortedV (L : List ValV) : List ValV := L.foldl (fun out x => if okV x then insV x out else out) []
theorem foldV (L : List ValV) : ∀ out : List ValV, (∀ y ∈ out, okV y = true) → out.Pairwise (fun a b => ltV a b = true) →
  (L.foldl (fun out x => if okV x then insV x out else out) out).Pairwise (fun a b => ltV a b = true) ∧
  ∀ y, y ∈ L.foldl (fun out x => if okV x then insV x out else out) out ↔ y ∈ out ∨ (y ∈ L ∧ okV y = true) := by
 induction L with
 | nil => intro out _ hs; exact ⟨hs, by simp⟩
 | cons x L ih =>
  intro out hn hs
  rw [List.foldl_cons]
  by_cases h : okV x = true
  ·rw [if_pos h]
   obtain ⟨h1, h2⟩ := ih (insV x out) (fun y hy => by rcases (insV_mem x y out).1 hy with e | e; (subst e; exact h); exact hn y e) (insV_sorted x h out hn hs)
   refine ⟨h1, fun y => ?_⟩
   rw [h2, insV_mem, List.mem_cons]
   constructor
   ·rintro ((e | e) | ⟨e, e'⟩)
    ·subst e; exact .inr ⟨.inl rfl, h⟩
    ·exact .inl e
    ·exact .inr ⟨.inr e, e'⟩
   ·rintro (e | ⟨e | e, e'⟩)
    ·exact .inl (.inr e)
    ·exact .inl (.inl e)
    ·exact .inr ⟨e, e'⟩
  ·rw [if_neg h]
   obtain ⟨h1, h2⟩ := ih out hn hs
   refine ⟨h1, fun y => ?_⟩
   rw [h2, List.mem_cons]
   constructor
   ·rintro (e | ⟨e, e'⟩)
    ·exact .inl e
    ·exact .inr ⟨.inr e, e'⟩
   ·rintro (e | ⟨e | e, e'⟩)
    ·exact .inl e
    ·subst e; exact absurd e' h
    ·exact .inr ⟨e, e'⟩
theorem sortedV_spec (L : List ValV) : (sortedV L).Pairwise (fun a b => ltV a b = true) ∧ ∀ y, y ∈ sortedV L ↔ y ∈ L ∧ okV y = true := by
 obtain ⟨h1, h2⟩ := foldV L [] (by simp) List.Pairwise.nil
 exact ⟨h1, fun y => by rw [sortedV, h2]; simp⟩
theorem sortedV_len (L : List ValV) : (sortedV L).length ≤ L.length := by
 have key : ∀ (L out : List ValV), (L.foldl (fun out x => if okV x then insV x out else out) out).length ≤ out.length + L.length := by
  intro L
  induction L with
  | nil => intro out; simp
  | cons x L ih =>
   intro out
   rw [List.foldl_cons, List.length_cons]
   have hi : ∀ r : List ValV, (insV x r).length ≤ r.length + 1 := by
    intro r
    induction r with
    | nil => simp [insV]
    | cons y r ihr =>
     unfold insV
     split
     ·rw [List.length_cons, List.length_cons]; omega
     ·split <;> simp
   split
   ·have := ih (insV x out)
    have := hi out
    omega
   ·have := ih out
    omega
 have := key L []
 simpa [sortedV] using this
theorem strictV (A B : List ValV) (hA : A.Pairwise (fun a b => ltV a b = true)) (hB : B.Pairwise (fun a b => ltV a b = true)) (h : ∀ x, x ∈ A ↔ x ∈ B) : A = B := by
 induction A generalizing B with
 | nil =>
  cases B with
  | nil => rfl
  | cons b B => exact absurd ((h b).2 (List.mem_cons_self ..)) (by simp)
 | cons a A ih =>
  cases B with
  | nil => exact absurd ((h a).1 (List.mem_cons_self ..)) (by simp)
  | cons b B =>
   rw [List.pairwise_cons] at hA hB
   have hab : a = b := by
    rcases List.mem_cons.1 ((h a).1 (List.mem_cons_self ..)) with e | e
    ·exact e
    ·rcases List.mem_cons.1 ((h b).2 (List.mem_cons_self ..)) with e2 | e2
     ·exact e2.symm
     ·have := ltV_trans a b a (hA.1 b e2) (hB.1 a e)
      rw [ltV_irrefl] at this
      cases this
   subst hab
   rw [ih B hA.2 hB.2 fun x => ?_]
   constructor
   ·intro hx
    rcases List.mem_cons.1 ((h x).1 (List.mem_cons_of_mem _ hx)) with e | e
    ·subst e
     have := hA.1 x hx
     rw [ltV_irrefl] at this
     cases this
    ·exact e
   ·intro hx
    rcases List.mem_cons.1 ((h x).2 (List.mem_cons_of_mem _ hx)) with e | e
    ·subst e
     have := hB.1 x hx
     rw [ltV_irrefl] at this
     cases this
    ·exact e
theorem compactV_up (d : Array ValV) (hn : ∀ j, j < d.size → okV d[j]! = true) (hs : ∀ i j, i < j → j < d.size → ltV d[j]! d[i]! = false) :
  ∀ m, m ≤ d.size → (compactUpTo d m).Pairwise (fun a b => ltV a b = true) ∧ (∀ j, j < m → d[j]! ∈ compactUpTo d m) ∧ (∀ y ∈ compactUpTo d m, ∃ j, j < m ∧ y = d[j]!)
 | 0, _ => ⟨by simp [compactUpTo], by simp, by simp [compactUpTo]⟩
 | m + 1, hm => by
  obtain ⟨h1, h2, h3⟩ := compactV_up d hn hs m (by omega)
  rw [compactUpTo_succ]
  cases hk : keeps d m with
  | true =>
   simp only [if_true]
   refine ⟨?_, ?_, ?_⟩
   ·rw [List.pairwise_append]
    refine ⟨h1, by simp, ?_⟩
    intro a ha b hb
    obtain rfl : b = d[m]! := by simpa using hb
    obtain ⟨j, hj, rfl⟩ := h3 a ha
    have hne : d[j]! ≠ d[m]! := by
     intro e
     unfold keeps at hk
     simp only [decide_eq_true_eq] at hk
     rcases hk with hk | hk
     ·omega
     ·have hjm : d[m - 1]! = d[m]! := by
       by_cases hj1 : j = m - 1
       ·rw [← hj1]; exact e
       ·have a1 := hs j (m - 1) (by omega) (by omega)
        have a2 := hs (m - 1) m (by omega) (by omega)
        rw [e] at a1
        exact ltV_total _ _ (hn _ (by omega)) (hn _ (by omega)) a1 a2
      exact hk hjm.symm
    have a := hs j m hj (by omega)
    cases hl : ltV d[j]! d[m]! with
    | true => rfl
    | false => exact absurd (ltV_total _ _ (hn _ (by omega)) (hn _ (by omega)) hl a) hne
   ·intro j hj
    by_cases hjm : j < m
    ·exact List.mem_append_left _ (h2 j hjm)
    ·obtain rfl : j = m := by omega
     exact List.mem_append_right _ (by simp)
   ·intro y hy
    rcases List.mem_append.1 hy with hy | hy
    ·obtain ⟨j, hj, e⟩ := h3 y hy
     exact ⟨j, by omega, e⟩
    ·exact ⟨m, by omega, by simpa using hy⟩
  | false =>
   simp only [Bool.false_eq_true, if_false, List.append_nil]
   refine ⟨h1, ?_, fun y hy => by obtain ⟨j, hj, e⟩ := h3 y hy; exact ⟨j, by omega, e⟩⟩
   intro j hj
   by_cases hjm : j < m
   ·exact h2 j hjm
   ·obtain rfl : j = m := by omega
    unfold keeps at hk
    simp only [decide_eq_false_iff_not, not_or, ne_eq, Classical.not_not] at hk
    rw [hk.2]
    exact h2 (j - 1) (by omega)
theorem compactV_sorted (S L : List ValV) (hm : ∀ y, y ∈ S ↔ y ∈ L ∧ okV y = true) (hs : S.Pairwise (fun a b => ltV b a = false)) : compact S = sortedV L := by
 have hget : ∀ j, j < S.toArray.size → S.toArray[j]! ∈ S := fun j hj => by
  have hj' : j < S.length := by simpa using hj
  have : S.toArray[j]! = S[j] := by simp [hj']
  rw [this]
  exact List.getElem_mem hj'
 obtain ⟨h1, h2, h3⟩ := compactV_up S.toArray (fun j hj => ((hm _).1 (hget j hj)).2) (fun i j hij hj => by
  have hj' : j < S.length := by simpa using hj
  have e1 : S.toArray[j]! = S[j] := by simp [hj']
  have e2 : S.toArray[i]! = S[i] := by simp [show i < S.length by omega]
  rw [e1, e2]
  exact List.pairwise_iff_getElem.1 hs i j (by omega) hj' hij) S.length (by simp)
 obtain ⟨g1, g2⟩ := sortedV_spec L
 refine strictV _ _ h1 g1 fun x => ?_
 rw [g2, ← hm]
 constructor
 ·intro hx
  obtain ⟨j, hj, rfl⟩ := h3 x hx
  exact hget j (by simpa using hj)
 ·intro hx
  obtain ⟨j, hj, e⟩ := List.getElem_of_mem hx
  have := h2 j hj
  have e1 : S.toArray[j]! = S[j] := by simp [hj]
  rw [e1, e] at this
  exact this
end
section
open Go.RowKit
section
variable {P : Program} {ops : Array Oper} {Q : Exit → Act → World → Prop} {md : Region.Mode} {S : World → Prop} {late : List Nat}
def wpAnyM (P : Program) (md : Region.Mode) (ops : Array Oper) (Q : Exit → Act → World → Prop) (S : World → Prop) (late : List Nat) : Nat → Array Bool → Act → World → Prop
 | 0, listed, a, w => Region.ready md ops listed = [] ∧ Q .normal a w
 | fuel + 1, listed, a, w =>
  (Region.ready md ops listed = [] → Q .normal a w) ∧
  ∀ i ∈ Region.ready md ops listed, wpOp P ops Q i (fun a' w' => (late.contains i = false → S w → S w') ∧ wpAnyM P md ops Q S late fuel (listed.setIfInBounds i true) a' w') a w
theorem wpAny_of_keep : ∀ (fuel : Nat) (listed : Array Bool) (a : Act) (w : World), wpAnyM P md ops Q S late fuel listed a w → wpAny P md ops Q fuel listed a w
 | 0, _, _, _, h => h
 | fuel + 1, _, _, _, h => ⟨h.1, fun i hi => wpOp_mono (fun a' w' h' => wpAny_of_keep fuel _ a' w' h'.2) (h.2 i hi)⟩
def waitsN' (md : Region.Mode) (ops : Array Oper) : Nat → Nat → Nat → Bool
 | 0, _, _ => false
 | n + 1, l, i => match ops[l]? with
  | some o => o.after.any fun e => Region.binds md e && (e.on == i || waitsN' md ops n e.on i)
  | none => false
def closedB' (md : Region.Mode) (ops : Array Oper) (listed : Array Bool) : Bool := (List.range ops.size).all fun j => !listed.getD j true || match ops[j]? with
 | some o => o.after.all fun e => !Region.binds md e || listed.getD e.on true
 | none => true
def ClosedM (md : Region.Mode) (ops : Array Oper) (listed : Array Bool) : Prop := ∀ j o, ops[j]? = some o → listed.getD j true = true → ∀ e ∈ o.after, Region.binds md e = true → listed.getD e.on true = true
theorem closed_of' {listed : Array Bool} (h : closedB' md ops listed = true) : ClosedM md ops listed := by
 intro j o ho hj e he hb
 have hlt : j < ops.size := (Array.getElem?_eq_some_iff.1 ho).1
 have h1 := List.all_eq_true.1 h j (List.mem_range.2 hlt)
 simp only [hj, Bool.not_true, Bool.false_or, ho] at h1
 have h2 := Array.all_eq_true_iff_forall_mem.1 h1 e he
 simpa [hb] using h2
theorem ready_on' {listed : Array Bool} {j : Nat} {o : Oper} (hj : j ∈ Region.ready md ops listed) (ho : ops[j]? = some o) : ∀ e ∈ o.after, Region.binds md e = true → listed.getD e.on true = true := by
 intro e he hb
 obtain ⟨-, o', ho', hall⟩ := mem_ready.1 hj
 obtain rfl := Option.some.inj (ho.symm.trans ho')
 have h1 := hall e he hb
 rcases Nat.lt_or_ge e.on listed.size with h' | h'
 ·simp [h'] at h1 ⊢; exact h1
 ·simp [Array.getElem?_eq_none h'] at h1
theorem ClosedM.next {listed : Array Bool} (h : ClosedM md ops listed) {j : Nat} (hj : j ∈ Region.ready md ops listed) : ClosedM md ops (listed.setIfInBounds j true) := by
 have up : ∀ k, listed.getD k true = true → (listed.setIfInBounds j true).getD k true = true := by
  intro k hk
  by_cases hjk : j = k
  ·subst hjk
   rcases Nat.lt_or_ge j listed.size with h' | h'
   ·simp [h']
   ·simp
  ·rw [getD_set_ne true hjk]; exact hk
 intro k o ho hk e he hb
 apply up
 by_cases hjk : j = k
 ·subst hjk
  exact ready_on' hj ho e he hb
 ·rw [getD_set_ne true hjk] at hk
  exact h k o ho hk e he hb
theorem waits_open' {i : Nat} {listed : Array Bool} (hc : ClosedM md ops listed) (hi : listed.getD i true = false) : ∀ n l, waitsN' md ops n l i = true → listed.getD l true = false ∧ l ∉ Region.ready md ops listed
 | 0, _, h => by cases h
 | n + 1, l, h => by
  unfold waitsN' at h
  split at h
  ·rename_i o ho
   obtain ⟨e, he, hb⟩ := Array.any_eq_true'.1 h
   simp only [Bool.and_eq_true, Bool.or_eq_true, beq_iff_eq] at hb
   have hne : listed.getD e.on true = false := by
    rcases hb.2 with h1 | h1
    ·rw [h1]; exact hi
    ·exact (waits_open' hc hi n e.on h1).1
   constructor
   ·cases hl : listed.getD l true with
    | false => rfl
    | true => rw [hc l o ho hl e he hb.1] at hne; cases hne
   ·intro hr
    rw [ready_on' hr ho e he hb.1] at hne
    cases hne
  ·cases h
theorem wpAnyM_first {i n : Nat} {oi : Oper} {v : Value} (hi : ops[i]? = some oi) (hsel : ∀ (j : Nat) (o : Oper) cs b, ops[j]? = some o → o.op ≠ .select cs b)
  (hQ : ∀ c a w, Q (.panic c) (a.put oi.dst v) w → Q (.panic c) a w) (hw : late.all (fun l => waitsN' md ops n l i) = true) :
  ∀ (fuel : Nat) (listed : Array Bool) (a : Act) (w : World), ClosedM md ops listed →
   (∀ j oj, ops[j]? = some oj → j ≠ i → listed.getD j true = false → (∀ e ∈ oj.after, Region.binds md e = true → e.on ≠ i) → oi.apart ops oj = true) →
   i ∈ Region.ready md ops listed → YieldsIf P ops S oi v a → S w →
   wpAnyM P md ops Q S late fuel (listed.setIfInBounds i true) (a.put oi.dst v) w → wpAnyM P md ops Q S late (fuel + 1) listed a w := by
 intro fuel
 induction fuel with
 | zero =>
  intro listed a w _ _ hr hy hS H
  refine ⟨fun h => (by rw [h] at hr; cases hr), fun j hj => ?_⟩
  by_cases hji : j = i
  ·subst hji; exact hy.wpOp hi hS ⟨fun _ h => h, H⟩
  ·have := ready_mono hj hji
   rw [H.1] at this
   cases this
 | succ fuel ih =>
  intro listed a w hcl hfree hr hy hS H
  refine ⟨fun h => (by rw [h] at hr; cases hr), fun j hj => ?_⟩
  by_cases hji : j = i
  ·subst hji; exact hy.wpOp hi hS ⟨fun _ h => h, H⟩
  ·have hjl : late.contains j = false := by
    cases hc : late.contains j with
    | false => rfl
    | true =>
     have hm : j ∈ late := by simpa using hc
     exact absurd hj (waits_open' hcl (mem_ready.1 hr).1 n j (List.all_eq_true.1 hw j hm)).2
   have h1 := H.2 j (ready_mono hj hji)
   obtain ⟨hjun, oj, hoj, hall⟩ := mem_ready.1 hj
   have hnot : ∀ e ∈ oj.after, Region.binds md e = true → e.on ≠ i := fun e he hb heq => by
    have h1 := hall e he hb
    have h0 := (mem_ready.1 hr).1
    rw [heq] at h1
    rcases Nat.lt_or_ge i listed.size with h' | h'
    ·simp [h'] at h0 h1; rw [h0] at h1; cases h1
    ·simp [Array.getElem?_eq_none h'] at h1
   have h2 := wpOp_putIf hoj (hfree j oj hoj hji hjun hnot) (fun cs b => hsel i oi cs b hi) (fun cs b => hsel j oj cs b hoj) hQ hy h1
   have hfree' : ∀ k ok, ops[k]? = some ok → k ≠ i → (listed.setIfInBounds j true).getD k true = false →
     (∀ e ∈ ok.after, Region.binds md e = true → e.on ≠ i) → oi.apart ops ok = true := fun k ok hk hki hun hno => by
    refine hfree k ok hk hki ?_ hno
    by_cases hjk : j = k
    ·subst hjk; exact hjun
    ·rw [getD_set_ne true hjk] at hun; exact hun
   refine wpOp_mono (fun a' w' h3 => ⟨fun _ => h3.2.1 hjl, ih (listed.setIfInBounds j true) a' w' (hcl.next hj) hfree' (ready_mono hr (Ne.symm hji)) h3.1 (h3.2.1 hjl hS) ?_⟩) h2
   rw [Array.setIfInBounds_comm _ _ hji]
   exact h3.2.2
theorem wpAnyM_loose {i : Nat} {oi : Oper} {v : Value} (hi : ops[i]? = some oi) (hsel : ∀ (j : Nat) (o : Oper) cs b, ops[j]? = some o → o.op ≠ .select cs b)
  (hQ : ∀ c a w, Q (.panic c) (a.put oi.dst v) w → Q (.panic c) a w) :
  ∀ (fuel : Nat) (listed : Array Bool) (a : Act) (w : World),
   (∀ j oj, ops[j]? = some oj → j ≠ i → listed.getD j true = false → (∀ e ∈ oj.after, Region.binds md e = true → e.on ≠ i) → oi.apart ops oj = true) →
   i ∈ Region.ready md ops listed → YieldsIf P ops (fun _ => True) oi v a →
   wpAnyM P md ops Q S late fuel (listed.setIfInBounds i true) (a.put oi.dst v) w → wpAnyM P md ops Q S late (fuel + 1) listed a w := by
 intro fuel
 induction fuel with
 | zero =>
  intro listed a w _ hr hy H
  refine ⟨fun h => (by rw [h] at hr; cases hr), fun j hj => ?_⟩
  by_cases hji : j = i
  ·subst hji; exact hy.wpOp hi trivial ⟨fun _ h => h, H⟩
  ·have := ready_mono hj hji
   rw [H.1] at this
   cases this
 | succ fuel ih =>
  intro listed a w hfree hr hy H
  refine ⟨fun h => (by rw [h] at hr; cases hr), fun j hj => ?_⟩
  by_cases hji : j = i
  ·subst hji; exact hy.wpOp hi trivial ⟨fun _ h => h, H⟩
  ·have h1 := H.2 j (ready_mono hj hji)
   obtain ⟨hjun, oj, hoj, hall⟩ := mem_ready.1 hj
   have hnot : ∀ e ∈ oj.after, Region.binds md e = true → e.on ≠ i := fun e he hb heq => by
    have h1 := hall e he hb
    have h0 := (mem_ready.1 hr).1
    rw [heq] at h1
    rcases Nat.lt_or_ge i listed.size with h' | h'
    ·simp [h'] at h0 h1; rw [h0] at h1; cases h1
    ·simp [Array.getElem?_eq_none h'] at h1
   have h2 := wpOp_putIf hoj (hfree j oj hoj hji hjun hnot) (fun cs b => hsel i oi cs b hi) (fun cs b => hsel j oj cs b hoj) hQ hy h1
   have hfree' : ∀ k ok, ops[k]? = some ok → k ≠ i → (listed.setIfInBounds j true).getD k true = false →
     (∀ e ∈ ok.after, Region.binds md e = true → e.on ≠ i) → oi.apart ops ok = true := fun k ok hk hki hun hno => by
    refine hfree k ok hk hki ?_ hno
    by_cases hjk : j = k
    ·subst hjk; exact hjun
    ·rw [getD_set_ne true hjk] at hun; exact hun
   refine wpOp_mono (fun a' w' h3 => ⟨h3.2.1, ih (listed.setIfInBounds j true) a' w' hfree' (ready_mono hr (Ne.symm hji)) h3.1 ?_⟩) h2
   rw [Array.setIfInBounds_comm _ _ hji]
   exact h3.2.2
theorem wpAnyM_free (i : Nat) {d : Tmp} {op : Op} {ty : TypeId} {pos : String} {aft : Array Edge} {gd : Option (Nat × Bool)} {v : Value} {fuel : Nat} {listed : Array Bool} {a : Act} {w : World} (hi : ops[i]? = some ⟨some d, op, ty, pos, aft, gd⟩)
  (hs : Region.noSelect ops = true) (hf : Region.free md ops listed i = true) (hr : (Region.ready md ops listed).contains i = true)
  (hQ : ∀ c a w, Q (.panic c) (a.put (some d) v) w → Q (.panic c) a w) (hy : YieldsIf P ops (fun _ => True) ⟨some d, op, ty, pos, aft, gd⟩ v a)
  (h : wpAnyM P md ops Q S late fuel (listed.setIfInBounds i true) (a.put (some d) v) w) : wpAnyM P md ops Q S late (fuel + 1) listed a w :=
 wpAnyM_loose hi (Region.noSelect_spec hs) hQ fuel listed a w (Region.free_spec hi hf) (by simpa using hr) hy h
theorem wpAnyM_take (i n : Nat) {d : Tmp} {op : Op} {ty : TypeId} {pos : String} {aft : Array Edge} {gd : Option (Nat × Bool)} {v : Value} {fuel : Nat} {listed : Array Bool} {a : Act} {w : World} (hi : ops[i]? = some ⟨some d, op, ty, pos, aft, gd⟩)
  (hs : Region.noSelect ops = true) (hf : Region.free md ops listed i = true) (hr : (Region.ready md ops listed).contains i = true) (hw : late.all (fun l => waitsN' md ops n l i) = true) (hcl : closedB' md ops listed = true)
  (hQ : ∀ c a w, Q (.panic c) (a.put (some d) v) w → Q (.panic c) a w) (hy : YieldsIf P ops S ⟨some d, op, ty, pos, aft, gd⟩ v a) (hS : S w)
  (h : wpAnyM P md ops Q S late fuel (listed.setIfInBounds i true) (a.put (some d) v) w) : wpAnyM P md ops Q S late (fuel + 1) listed a w :=
 wpAnyM_first hi (Region.noSelect_spec hs) hQ hw fuel listed a w (closed_of' hcl) (Region.free_spec hi hf) (by simpa using hr) hy hS h
theorem wpAnyM_one (i : Nat) {d : Option Tmp} {op : Op} {ty : TypeId} {pos : String} {aft : Array Edge} {gd : Option (Nat × Bool)} {fuel : Nat} {listed : Array Bool} {a : Act} {w : World} (ho : ops[i]? = some ⟨d, op, ty, pos, aft, gd⟩) (hr : Region.ready md ops listed = [i])
  (h : ∀ K : Act → World → Prop, RowKit.Hid (∀ a' w', (late.contains i = false → S w → S w') → wpAnyM P md ops Q S late fuel (listed.setIfInBounds i true) a' w' → K a' w') → if Region.wanted ⟨d, op, ty, pos, aft, gd⟩ (yielded ops a.tmps) = true then Oper.wp P ⟨d, op, ty, pos, aft, gd⟩ a w K Q else K (a.put d undef) w) : wpAnyM P md ops Q S late (fuel + 1) listed a w := by
 refine ⟨fun h0 => (by rw [hr] at h0; cases h0), fun j hj => ?_⟩
 rw [hr] at hj
 obtain rfl : j = i := by simpa using hj
 exact wpOp_step ho (fun K hK => h K (Lib.hid (fun a' w' h1 h2 => hK a' w' ⟨h1, h2⟩)))
theorem wfr (i : Nat) {d : Tmp} {op : Op} {ty : TypeId} {pos : String} {aft : Array Edge} {gd : Option (Nat × Bool)} {v : Value} {fuel : Nat} {listed : Array Bool} {a : Act} {w : World} (hi : ops[i]? = some ⟨some d, op, ty, pos, aft, gd⟩)
  (hy : ∀ w, True → (execOp a.eval ⟨some d, op, ty, pos, aft, gd⟩).run P w = .ok (.value v) w) (h : wpAnyM P md ops Q S late fuel (listed.setIfInBounds i true) (a.put (some d) v) w)
  (hs : Region.noSelect ops = true := by kernel_rfl) (hf : Region.free md ops listed i = true := by kernel_rfl) (hr : (Region.ready md ops listed).contains i = true := by kernel_rfl)
  (hQ : ∀ c a w, Q (.panic c) (a.put (some d) v) w → Q (.panic c) a w := by exact fun _ _ _ h => h) (hw : Region.wanted ⟨some d, op, ty, pos, aft, gd⟩ (yielded ops a.tmps) = true := by rfl) :
  wpAnyM P md ops Q S late (fuel + 1) listed a w := wpAnyM_free i hi hs hf hr hQ (Or.inl ⟨hw, hy⟩) h
theorem wtk (i n : Nat) {d : Tmp} {op : Op} {ty : TypeId} {pos : String} {aft : Array Edge} {gd : Option (Nat × Bool)} {v : Value} {fuel : Nat} {listed : Array Bool} {a : Act} {w : World} (hi : ops[i]? = some ⟨some d, op, ty, pos, aft, gd⟩)
  (hy : ∀ w, S w → (execOp a.eval ⟨some d, op, ty, pos, aft, gd⟩).run P w = .ok (.value v) w) (hS : S w) (h : wpAnyM P md ops Q S late fuel (listed.setIfInBounds i true) (a.put (some d) v) w)
  (hs : Region.noSelect ops = true := by kernel_rfl) (hf : Region.free md ops listed i = true := by kernel_rfl) (hr : (Region.ready md ops listed).contains i = true := by kernel_rfl)
  (hl : late.all (fun l => waitsN' md ops n l i) = true := by kernel_rfl) (hcl : closedB' md ops listed = true := by kernel_rfl)
  (hQ : ∀ c a w, Q (.panic c) (a.put (some d) v) w → Q (.panic c) a w := by exact fun _ _ _ h => h) (hw : Region.wanted ⟨some d, op, ty, pos, aft, gd⟩ (yielded ops a.tmps) = true := by rfl) :
  wpAnyM P md ops Q S late (fuel + 1) listed a w := wpAnyM_take i n hi hs hf hr hl hcl hQ (Or.inl ⟨hw, hy⟩) hS h
theorem won (i : Nat) {d : Option Tmp} {op : Op} {ty : TypeId} {pos : String} {aft : Array Edge} {gd : Option (Nat × Bool)} {fuel : Nat} {listed : Array Bool} {a : Act} {w : World} (ho : ops[i]? = some ⟨d, op, ty, pos, aft, gd⟩)
  (h : ∀ K : Act → World → Prop, RowKit.Hid (∀ a' w', (late.contains i = false → S w → S w') → wpAnyM P md ops Q S late fuel (listed.setIfInBounds i true) a' w' → K a' w') → if Region.wanted ⟨d, op, ty, pos, aft, gd⟩ (yielded ops a.tmps) = true then Oper.wp P ⟨d, op, ty, pos, aft, gd⟩ a w K Q else K (a.put d undef) w)
  (hr : Region.ready md ops listed = [i] := by kernel_rfl) : wpAnyM P md ops Q S late (fuel + 1) listed a w := wpAnyM_one i ho hr h
theorem wpAnyM_done {listed : Array Bool} {a : Act} {w : World} (hr : Region.ready md ops listed = []) (h : Q .normal a w) : ∀ fuel, wpAnyM P md ops Q S late fuel listed a w
 | 0 => ⟨hr, h⟩
 | _ + 1 => ⟨fun _ => h, by rw [hr]; simp⟩
theorem wp_region_keep (S : World → Prop) (late : List Nat) {id : Nat} {a : Act} {w : World} (hm : P.follows .mixedOrders = true)
  (h : wpAnyM P .any ops Q S late ops.size (Array.replicate ops.size false) a w.drew) : (Code.region id ops true).wp P Q a w :=
 wp_region_any hm (wpAny_of_keep _ _ _ _ h)
end
end
section
open Go.RowKit
section
variable {P : Program} {ops : Array Oper} {Q : Exit → Act → World → Prop} {S : World → Prop}
theorem wpk {id : Nat} {a : Act} {w : World} (hs : RowKit.Hid (∀ w', Below w.heap.size w w' → S w')) (late : List Nat) (hm : P.follows .mixedOrders = true)
  (h : Below w.heap.size w w.drew → S w.drew → wpAnyM P .any ops Q S late ops.size (Array.replicate ops.size false) a w.drew) : (Code.region id ops true).wp P Q a w :=
 wp_region_keep S late hm (h (Below.drew (Below.refl _ _)) (hs.out _ (Below.drew (Below.refl _ _))))
end
end
end Go.Proofs.Ytldcbapjiflblaa
