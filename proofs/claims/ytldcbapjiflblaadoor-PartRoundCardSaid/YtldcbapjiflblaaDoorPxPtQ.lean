/-
  Layer 20 (part) in plain words: a graph's parts in order are one list; whether it goes round; each node is in just one part; no program in sight. No conditions.
-/
import Derived.Test.YtldcbapjiflblaaDoorPxPtP
namespace Go.Proofs.YtldcbapjiflblaaDoor
theorem pw_ext {α : Type} {r : α → α → Prop} (ir : ∀ a b, r a b → r b a → False) : ∀ (l m : List α), l.Pairwise r → m.Pairwise r → (∀ x, x ∈ l ↔ x ∈ m) → l = m
 | [], [], _, _, _ => rfl
 | [], b :: m, _, _, h => absurd ((h b).2 (by simp)) (by simp)
 | a :: l, [], _, _, h => absurd ((h a).1 (by simp)) (by simp)
 | a :: l, b :: m, hl, hm, h => by
  obtain ⟨l1, l2⟩ := List.pairwise_cons.1 hl
  obtain ⟨m1, m2⟩ := List.pairwise_cons.1 hm
  have hab : a = b := by
   rcases List.mem_cons.1 ((h a).1 (by simp)) with e | e
   ·exact e
   ·rcases List.mem_cons.1 ((h b).2 (by simp)) with f | f
    ·exact f.symm
    ·exact (ir _ _ (l1 b f) (m1 a e)).elim
  subst hab
  have irr : ∀ x, ¬ r x x := fun x hx => ir _ _ hx hx
  rw [pw_ext ir l m l2 m2 fun x => ?_]
  constructor
  ·intro hx
   rcases List.mem_cons.1 ((h x).1 (List.mem_cons_of_mem _ hx)) with rfl | e
   ·exact absurd (l1 x hx) (irr x)
   ·exact e
  ·intro hx
   rcases List.mem_cons.1 ((h x).2 (List.mem_cons_of_mem _ hx)) with rfl | e
   ·exact absurd (m1 x hx) (irr x)
   ·exact e
structure PartsK (n : Nat) (E : Nat → Nat → Prop) (k : Nat) (P : List (List Nat)) : Prop where
 ne : ∀ L ∈ P, L ≠ []
 so : ∀ L ∈ P, L.Pairwise (· < ·)
 cl : ∀ L ∈ P, ∀ x ∈ L, x < n ∧ ∀ y, y ∈ L ↔ (ReachP E x y ∧ ReachP E y x)
 al : ∀ x, x < k → ∃ L ∈ P, x ∈ L
 hd : P.Pairwise fun L M => L.headD 0 < M.headD 0
theorem head_mem : ∀ (L : List Nat), L ≠ [] → L.headD 0 ∈ L
 | [], h => absurd rfl h
 | a :: _, _ => by simp
theorem head_le (L : List Nat) (h : L.Pairwise (· < ·)) : ∀ x ∈ L, L.headD 0 ≤ x := by
 cases L with
 | nil => intro x hx; cases hx
 | cons a l =>
  intro x hx
  rcases List.mem_cons.1 hx with rfl | hx
  ·exact Nat.le_refl _
  ·exact Nat.le_of_lt ((List.pairwise_cons.1 h).1 x hx)
theorem class_one {n k : Nat} {E : Nat → Nat → Prop} {P Q : List (List Nat)} (hP : PartsK n E k P) (hQ : PartsK n E k Q) {L M : List Nat} (hL : L ∈ P) (hM : M ∈ Q) {x : Nat} (h1 : x ∈ L) (h2 : x ∈ M) : L = M :=
 pw_ext (fun _ _ h h' => Nat.lt_asymm h h') L M (hP.so L hL) (hQ.so M hM) fun y => ((hP.cl L hL x h1).2 y).trans ((hQ.cl M hM x h2).2 y).symm
theorem parts_one {n : Nat} {E : Nat → Nat → Prop} {P Q : List (List Nat)} (hP : PartsK n E n P) (hQ : PartsK n E n Q) : P = Q := by
 refine pw_ext (fun _ _ h h' => Nat.lt_asymm h h') P Q hP.hd hQ.hd fun L => ⟨fun hL => ?_, fun hL => ?_⟩
 ·have hx := head_mem L (hP.ne L hL)
  obtain ⟨M, hM, hxM⟩ := hQ.al _ (hP.cl L hL _ hx).1
  rw [class_one hP hQ hL hM hx hxM]
  exact hM
 ·have hx := head_mem L (hQ.ne L hL)
  obtain ⟨M, hM, hxM⟩ := hP.al _ (hQ.cl L hL _ hx).1
  rw [class_one hQ hP hL hM hx hxM]
  exact hM
theorem parts_apart {n k : Nat} {E : Nat → Nat → Prop} {P : List (List Nat)} (hP : PartsK n E k P) : P.Pairwise fun L M => ∀ x ∈ L, x ∉ M := by
 refine hP.hd.imp_of_mem fun {L M} hL hM hlt x hx hxM => ?_
 rw [class_one hP hP hL hM hx hxM] at hlt
 exact Nat.lt_irrefl _ hlt
theorem search_parts {n : Nat} {adj : Nat → List Nat} {s : StP} (h : InvP n adj s) (hs : s.stack = []) (hall : ∀ a, a < n → s.num a ≠ 0) (P : List (List Nat)) (hp : P.Perm s.parts) (hso : P.Pairwise fun L M => L.headD 0 ≤ M.headD 0) :
  PartsK n (EdgeP adj) n P := by
 have hh := empty_held h hs
 have hm : ∀ L, L ∈ P ↔ L ∈ s.parts := fun L => hp.mem_iff
 have hdis : P.Pairwise fun L M => (∀ x ∈ L, x ∉ M) ∧ ∀ x ∈ M, x ∉ L := by
  have h1 : s.parts.Pairwise fun L M => (∀ x ∈ L, x ∉ M) ∧ ∀ x ∈ M, x ∉ L := h.dis.imp fun {L M} g => ⟨g, fun x hx hxL => g x hxL hx⟩
  exact (hp.pairwise_iff fun {L M} g => ⟨g.2, g.1⟩).2 h1
 refine ⟨fun L hL => (h.part L ((hm L).1 hL)).1, fun L hL => (h.part L ((hm L).1 hL)).2.1, fun L hL x hx => ?_, fun x hx => ?_, ?_⟩
 ·obtain ⟨g1, -, g3⟩ := (h.part L ((hm L).1 hL)).2.2 x hx
  exact ⟨h.pn x g1, g3⟩
 ·obtain ⟨L, hL, hxL⟩ := h.done x (hall x hx) (by rw [hh]; simp)
  exact ⟨L, (hm L).2 hL, hxL⟩
 ·refine (hdis.and hso).imp_of_mem fun {L M} hL hM hg => ?_
  obtain ⟨⟨g, -⟩, g2⟩ := hg
  refine Nat.lt_of_le_of_ne g2 fun e => ?_
  have h1 := head_mem L (h.part L ((hm L).1 hL)).1
  have h2 := head_mem M (h.part M ((hm M).1 hM)).1
  rw [← e] at h2
  exact g _ h1 h2
theorem parts_none (n : Nat) (E : Nat → Nat → Prop) : PartsK n E 0 [] := ⟨fun _ h => (by cases h), fun _ h => (by cases h), fun _ h => (by cases h), fun x h => absurd h (Nat.not_lt_zero x), List.Pairwise.nil⟩
theorem parts_same {n k : Nat} {E : Nat → Nat → Prop} {P : List (List Nat)} (h : PartsK n E k P) (hk : ∃ L ∈ P, k ∈ L) : PartsK n E (k + 1) P :=
 ⟨h.ne, h.so, h.cl, fun x hx => by
  by_cases e : x = k
  ·rw [e]; exact hk
  ·exact h.al x (by omega), h.hd⟩
theorem parts_more {n k : Nat} {E : Nat → Nat → Prop} {P : List (List Nat)} (h : PartsK n E k P) (hlt : ∀ L ∈ P, L.headD 0 < k) (hkn : k < n) (hk : ∀ L ∈ P, k ∉ L) (C : List Nat) (hC : C.Pairwise (· < ·)) (hm : ∀ y, y ∈ C ↔ y < n ∧ ReachP E k y ∧ ReachP E y k) (hE : ∀ a b, E a b → b < n) :
  PartsK n E (k + 1) (P ++ [C]) ∧ ∀ L ∈ P ++ [C], L.headD 0 < k + 1 := by
 have hkC : k ∈ C := (hm k).2 ⟨hkn, ReachP.rfl' _, ReachP.rfl' _⟩
 have hne : C ≠ [] := fun e => by rw [e] at hkC; cases hkC
 have hhead : C.headD 0 = k := by
  have h1 := head_le C hC k hkC
  have h2 := head_mem C hne
  by_cases e : C.headD 0 < k
  ·obtain ⟨-, r1, r2⟩ := (hm _).1 h2
   obtain ⟨L, hL, hxL⟩ := h.al _ e
   exact absurd (((h.cl L hL _ hxL).2 k).2 ⟨r2, r1⟩) (hk L hL)
  ·omega
 have hn : ∀ x y, x < n → ReachP E x y → y < n := fun x y hx hr => by
  rcases hr with rfl | hr
  ·exact hx
  ·cases hr with
   | single e => exact hE _ _ e
   | tail _ e => exact hE _ _ e
 refine ⟨⟨fun L hL => ?_, fun L hL => ?_, fun L hL x hx => ?_, fun x hx => ?_, ?_⟩, fun L hL => ?_⟩
 ·rcases List.mem_append.1 hL with hL | hL
  ·exact h.ne L hL
  ·obtain rfl : L = C := by simpa using hL
   exact hne
 ·rcases List.mem_append.1 hL with hL | hL
  ·exact h.so L hL
  ·obtain rfl : L = C := by simpa using hL
   exact hC
 ·rcases List.mem_append.1 hL with hL | hL
  ·exact h.cl L hL x hx
  ·obtain rfl : L = C := by simpa using hL
   obtain ⟨g1, g2, g3⟩ := (hm x).1 hx
   refine ⟨g1, fun y => ⟨fun hy => ?_, fun ⟨r1, r2⟩ => ?_⟩⟩
   ·obtain ⟨k1, k2, k3⟩ := (hm y).1 hy
    exact ⟨g3.trans k2, k3.trans g2⟩
   ·exact (hm y).2 ⟨hn x y g1 r1, g2.trans r1, r2.trans g3⟩
 ·by_cases e : x = k
  ·exact ⟨C, by simp, by rw [e]; exact hkC⟩
  ·obtain ⟨L, hL, hxL⟩ := h.al x (by omega)
   exact ⟨L, by simp [hL], hxL⟩
 ·rw [List.pairwise_append]
  refine ⟨h.hd, List.pairwise_singleton .., fun L hL M hM => ?_⟩
  obtain rfl : M = C := by simpa using hM
  rw [hhead]
  exact hlt L hL
 ·rcases List.mem_append.1 hL with hL | hL
  ·exact Nat.lt_succ_of_lt (hlt L hL)
  ·obtain rfl : L = C := by simpa using hL
   rw [hhead]
   exact Nat.lt_succ_self _
theorem round_parts {n : Nat} {E : Nat → Nat → Prop} {P : List (List Nat)} (h : PartsK n E n P) (hE : ∀ a b, E a b → a < n ∧ b < n) :
  (∃ a, Relation.TransGen E a a) ↔ ((∃ L ∈ P, 1 < L.length) ∨ ∃ a, E a a) := by
 constructor
 ·rintro ⟨a, ha⟩
  have hab : ∃ b, E a b ∧ ReachP E b a := by
   clear h
   generalize hz : a = z at ha
   have key : ∀ {x y}, Relation.TransGen E x y → ∃ b, E x b ∧ ReachP E b y := fun {x y} hxy => by
    induction hxy with
    | single e => exact ⟨_, e, ReachP.rfl' _⟩
    | tail _ e ih =>
     obtain ⟨b, h1, h2⟩ := ih
     exact ⟨b, h1, h2.tail e⟩
   subst hz
   exact key ha
  obtain ⟨b, e, r⟩ := hab
  by_cases hb : b = a
  ·exact .inr ⟨a, by rw [hb] at e; exact e⟩
  ·left
   obtain ⟨L, hL, haL⟩ := h.al a (hE a b e).1
   have hbL : b ∈ L := ((h.cl L hL a haL).2 b).2 ⟨.inr (.single e), r⟩
   refine ⟨L, hL, ?_⟩
   match L, haL, hbL with
   | [x], h1, h2 => exact absurd ((by simpa using h2 : b = x).trans (by simpa using h1 : a = x).symm) hb
   | _ :: _ :: _, _, _ => simp
 ·rintro (⟨L, hL, hl⟩ | ⟨a, e⟩)
  ·match L, hL, hl with
   | x :: y :: l, hL, _ =>
    have hxy : x < y := (List.pairwise_cons.1 (h.so _ hL)).1 y (by simp)
    obtain ⟨r1, r2⟩ := ((h.cl _ hL x (by simp)).2 y).1 (by simp)
    rcases r1 with e | r1
    ·omega
    ·rcases r2 with e | r2
     ·omega
     ·exact ⟨x, Relation.TransGen.trans r1 r2⟩
  ·exact ⟨a, .single e⟩
theorem parts_count {n : Nat} {E : Nat → Nat → Prop} {P : List (List Nat)} (h : PartsK n E n P) : (P.map List.length).sum = n := by
 have h1 : P.flatten.Nodup := by
  rw [List.nodup_iff_pairwise_ne, List.pairwise_flatten]
  exact ⟨fun L hL => (h.so L hL).imp fun {a b} hab e => by omega, (parts_apart h).imp fun {L M} g => fun x hx y hy e => g x hx (e ▸ hy)⟩
 have h2 : P.flatten.Perm (List.range n) := by
  rw [List.perm_ext_iff_of_nodup h1 List.nodup_range]
  intro x
  rw [List.mem_flatten, List.mem_range]
  constructor
  ·rintro ⟨L, hL, hx⟩
   exact (h.cl L hL x hx).1
  ·intro hx
   exact h.al x hx
 have h3 := h2.length_eq
 rw [List.length_flatten, List.length_range] at h3
 exact h3
def whichP (P : List (List Nat)) (x : Nat) : Nat := P.findIdx fun L => decide (x ∈ L)
theorem which_at {n : Nat} {E : Nat → Nat → Prop} {P : List (List Nat)} (h : PartsK n E n P) (i : Nat) (hi : i < P.length) (x : Nat) (hx : x ∈ P[i]) : whichP P x = i := by
 unfold whichP
 rw [List.findIdx_eq hi]
 refine ⟨by simpa using hx, fun j hj => ?_⟩
 have hap := List.pairwise_iff_getElem.1 (parts_apart h) j i (by omega) hi hj
 have : x ∉ P[j] := fun e => hap x e hx
 simpa using this
theorem once_round {n : Nat} {E E' : Nat → Nat → Prop} {P : List (List Nat)} (h : PartsK n E n P) (hE : ∀ a b, E a b → a < n ∧ b < n) (h1 : ∀ a b, E' a b → E a b ∧ whichP P a ≠ whichP P b) : ¬ ∃ a, Relation.TransGen E' a a := by
 rintro ⟨a, ha⟩
 have up : ∀ {x y}, Relation.TransGen E' x y → Relation.TransGen E x y := fun {x y} hxy => by
  induction hxy with
  | single e => exact .single (h1 _ _ e).1
  | tail _ e ih => exact .tail ih (h1 _ _ e).1
 have key : ∀ {x y}, Relation.TransGen E' x y → ∃ b, E' x b ∧ ReachP E b y := fun {x y} hxy => by
  induction hxy with
  | single e => exact ⟨_, e, ReachP.rfl' _⟩
  | tail _ e ih =>
   obtain ⟨b, g1, g2⟩ := ih
   exact ⟨b, g1, g2.tail (h1 _ _ e).1⟩
 obtain ⟨b, e, r⟩ := key ha
 obtain ⟨e1, e2⟩ := h1 _ _ e
 obtain ⟨L, hL, haL⟩ := h.al a (hE a b e1).1
 have hbL : b ∈ L := ((h.cl L hL a haL).2 b).2 ⟨.inr (.single e1), r⟩
 obtain ⟨i, hi, rfl⟩ := List.getElem_of_mem hL
 rw [which_at h i hi a haL, which_at h i hi b hbL] at e2
 exact e2 rfl
end Go.Proofs.YtldcbapjiflblaaDoor
