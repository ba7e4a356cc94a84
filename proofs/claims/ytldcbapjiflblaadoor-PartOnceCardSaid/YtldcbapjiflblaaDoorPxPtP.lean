/-
  Layer 20 (part) in plain words: the search for a graph's parts, step by step; that each part is a class of nodes that come to one another; no program in sight. No conditions.
-/
import Derived.Test.YtldcbapjiflblaaDoorRows
import Derived.Handy
import Derived.WalkSpells
import Derived.WalkLawsBesides
import Derived.Deep.RegionHeld3
import Derived.Deep.DrawnRows
import Derived.Lib.Hide
import Derived.Lib.Strings
import Derived.Lib.SmallJoins
import Derived.Deep.QuietTactic
import Derived.Deep.RegionWith
import Derived.BigQuiet
namespace Go.Proofs.YtldcbapjiflblaaDoor
def ReachP (E : Nat → Nat → Prop) (a b : Nat) : Prop := a = b ∨ Relation.TransGen E a b
theorem ReachP.rfl' {E : Nat → Nat → Prop} (a : Nat) : ReachP E a a := .inl rfl
theorem ReachP.tail {E : Nat → Nat → Prop} {a b c : Nat} (h : ReachP E a b) (e : E b c) : ReachP E a c := by
 rcases h with rfl | h
 ·exact .inr (.single e)
 ·exact .inr (.tail h e)
theorem ReachP.trans {E : Nat → Nat → Prop} {a b c : Nat} (h : ReachP E a b) (k : ReachP E b c) : ReachP E a c := by
 rcases h with rfl | h
 ·exact k
 ·rcases k with rfl | k
  ·exact .inr h
  ·exact .inr (Relation.TransGen.trans h k)
theorem ReachP.keep {E : Nat → Nat → Prop} {p : Nat → Prop} (hp : ∀ x y, p x → E x y → p y) {a b : Nat} (h : ReachP E a b) (ha : p a) : p b := by
 rcases h with rfl | h
 ·exact ha
 ·induction h with
  | single e => exact hp _ _ ha e
  | tail _ e ih => exact hp _ _ ih e
structure StP where
 num : Nat → Nat
 low : Nat → Nat
 count : Nat
 held : List Nat
 stack : List (Nat × List Nat)
 parts : List (List Nat)
def updP (f : Nat → Nat) (a v : Nat) : Nat → Nat := fun x => if x = a then v else f x
theorem updP_same (f : Nat → Nat) (a v : Nat) : updP f a v a = v := if_pos rfl
theorem updP_other (f : Nat → Nat) {a v x : Nat} (h : x ≠ a) : updP f a v x = f x := if_neg h
def pathP (S : List (Nat × List Nat)) : List Nat := S.map (·.1)
def ExplP (S : List (Nat × List Nat)) (x y : Nat) : Prop := ∀ f ∈ S, f.1 = x → y ∉ f.2
def EdgeP (adj : Nat → List Nat) (a b : Nat) : Prop := b ∈ adj a
def riseP (n : Nat) (C : List Nat) : List Nat := (List.range n).filter fun b => decide (b ∈ C)
theorem rise_mem (n : Nat) (C : List Nat) (x : Nat) : x ∈ riseP n C ↔ x < n ∧ x ∈ C := by simp [riseP]
theorem rise_sorted (n : Nat) (C : List Nat) : (riseP n C).Pairwise (· < ·) := List.pairwise_lt_range.sublist (List.filter_sublist ..)
structure InvP (n : Nat) (adj : Nat → List Nat) (s : StP) : Prop where
 pn : ∀ x, s.num x ≠ 0 → x < n
 cnt : ∀ x, s.num x ≤ s.count
 inj : ∀ x y, s.num x ≠ 0 → s.num x = s.num y → x = y
 hv : ∀ x ∈ s.held, s.num x ≠ 0
 ho : s.held.Pairwise (fun x y => s.num x < s.num y)
 ps : List.Sublist (pathP s.stack) s.held
 suf : ∀ f ∈ s.stack, ∀ y ∈ f.2, y ∈ adj f.1
 closed : ∀ x, s.num x ≠ 0 → x ∉ s.held → ∀ y ∈ adj x, s.num y ≠ 0 ∧ y ∉ s.held
 expl : ∀ x ∈ s.held, ∀ y ∈ adj x, ExplP s.stack x y → s.num y ≠ 0
 lowle : ∀ x ∈ s.held, s.low x ≤ s.num x
 lowr : ∀ x ∈ s.held, ∃ u ∈ s.held, s.num u = s.low x ∧ ReachP (EdgeP adj) x u
 q : ∀ x ∈ s.held, ∀ y ∈ adj x, ExplP s.stack x y → y ∈ s.held → s.low x ≤ s.num y
 fin : ∀ x ∈ s.held, x ∉ pathP s.stack → s.low x < s.num x
 t : ∀ p ∈ pathP s.stack, ∀ x ∈ s.held, s.num p ≤ s.num x → ReachP (EdgeP adj) p x
 prop : ∀ A p B, pathP s.stack = A ++ p :: B → ∀ x ∈ s.held, x ∉ pathP s.stack → s.num p ≤ s.num x → (∀ q ∈ B, s.num x < s.num q) → s.low p ≤ s.low x
 bot : ∀ x ∈ s.held, ∃ p ∈ pathP s.stack, s.num p ≤ s.num x
 part : ∀ L ∈ s.parts, L ≠ [] ∧ L.Pairwise (· < ·) ∧ ∀ x ∈ L, s.num x ≠ 0 ∧ x ∉ s.held ∧ ∀ y, y ∈ L ↔ (ReachP (EdgeP adj) x y ∧ ReachP (EdgeP adj) y x)
 done : ∀ x, s.num x ≠ 0 → x ∉ s.held → ∃ L ∈ s.parts, x ∈ L
 dis : s.parts.Pairwise fun L M => ∀ x ∈ L, x ∉ M
def startP : StP := ⟨fun _ => 0, fun _ => 0, 0, [], [], []⟩
theorem start_inv (n : Nat) (adj : Nat → List Nat) : InvP n adj startP := by
 constructor <;> simp [startP, pathP]
theorem path_sorted {n : Nat} {adj : Nat → List Nat} {s : StP} (h : InvP n adj s) : (pathP s.stack).Pairwise (fun x y => s.num x < s.num y) := h.ho.sublist h.ps
theorem num_ne {n : Nat} {adj : Nat → List Nat} {s : StP} (h : InvP n adj s) {x y : Nat} (hx : x ∈ s.held) (hy : s.num y = 0) : x ≠ y := fun e => h.hv x hx (by rw [e]; exact hy)
def enterP (adj : Nat → List Nat) (s : StP) (S : List (Nat × List Nat)) (a : Nat) : StP :=
 ⟨updP s.num a (s.count + 1), updP s.low a (s.count + 1), s.count + 1, s.held ++ [a], S ++ [(a, adj a)], s.parts⟩
theorem enter_inv {n : Nat} {adj : Nat → List Nat} {s : StP} (h : InvP n adj s) (S : List (Nat × List Nat)) (a : Nat) (ha : a < n) (h0 : s.num a = 0)
  (e1 : pathP S = pathP s.stack) (e2 : ∀ f ∈ S, ∀ y ∈ f.2, y ∈ adj f.1) (e3 : ∀ x y, ExplP S x y → ExplP s.stack x y ∨ y = a) (e4 : ∀ p ∈ pathP s.stack, ReachP (EdgeP adj) p a) :
  InvP n adj (enterP adj s S a) := by
 have hna : a ∉ s.held := fun hm => h.hv a hm h0
 have hnx : ∀ x ∈ s.held, updP s.num a (s.count + 1) x = s.num x := fun x hx => updP_other _ (num_ne h hx h0)
 have hlx : ∀ x ∈ s.held, updP s.low a (s.count + 1) x = s.low x := fun x hx => updP_other _ (num_ne h hx h0)
 have hP : pathP (S ++ [(a, adj a)]) = pathP s.stack ++ [a] := by rw [← e1]; simp [pathP]
 have hin : ∀ x ∈ pathP s.stack, x ∈ s.held := fun x hx => h.ps.subset hx
 have hmem : ∀ x, x ∈ s.held ++ [a] → x ∈ s.held ∨ x = a := fun x hx => by simpa using hx
 have hex : ∀ x y, ExplP (S ++ [(a, adj a)]) x y → (x = a → y ∉ adj a) ∧ ExplP S x y := fun x y hE =>
  ⟨fun e => hE (a, adj a) (by simp) e.symm, fun f hf => hE f (by simp [hf])⟩
 have hle : ∀ x, x ≠ a → updP s.num a (s.count + 1) x = s.num x := fun x hx => updP_other _ hx
 refine ⟨?_, ?_, ?_, ?_, ?_, ?_, ?_, ?_, ?_, ?_, ?_, ?_, ?_, ?_, ?_, ?_, ?_, ?_, h.dis⟩
 ·intro x hx
  by_cases e : x = a
  ·rw [e]; exact ha
  ·exact h.pn x (by rwa [show (enterP adj s S a).num x = s.num x from hle x e] at hx)
 ·intro x
  show updP s.num a (s.count + 1) x ≤ s.count + 1
  by_cases e : x = a
  ·rw [e, updP_same]; exact Nat.le_refl _
  ·rw [hle x e]; exact Nat.le_succ_of_le (h.cnt x)
 ·intro x y hx hxy
  change updP s.num a (s.count + 1) x ≠ 0 at hx
  change updP s.num a (s.count + 1) x = updP s.num a (s.count + 1) y at hxy
  by_cases e : x = a
  ·by_cases f : y = a
   ·rw [e, f]
   ·rw [e, updP_same, hle y f] at hxy
    have := h.cnt y
    omega
  ·by_cases f : y = a
   ·rw [f, updP_same, hle x e] at hxy
    have := h.cnt x
    omega
   ·rw [hle x e] at hx
    rw [hle x e, hle y f] at hxy
    exact h.inj x y hx hxy
 ·intro x hx
  show updP s.num a (s.count + 1) x ≠ 0
  rcases hmem x hx with hx | rfl
  ·rw [hnx x hx]; exact h.hv x hx
  ·rw [updP_same]; omega
 ·show (s.held ++ [a]).Pairwise _
  rw [List.pairwise_append]
  refine ⟨h.ho.imp_of_mem fun {x y} hx hy hxy => ?_, List.pairwise_singleton .., fun x hx y hy => ?_⟩
  ·show updP s.num a _ x < updP s.num a _ y
   rw [hnx x hx, hnx y hy]; exact hxy
  ·obtain rfl : y = a := by simpa using hy
   show updP s.num y _ x < updP s.num y _ y
   rw [hnx x hx, updP_same]
   have := h.cnt x
   omega
 ·show List.Sublist (pathP (S ++ [(a, adj a)])) (s.held ++ [a])
  rw [hP]
  exact h.ps.append (List.Sublist.refl _)
 ·intro f hf y hy
  change f ∈ S ++ [(a, adj a)] at hf
  rcases List.mem_append.1 hf with hf | hf
  ·exact e2 f hf y hy
  ·obtain rfl : f = (a, adj a) := by simpa using hf
   exact hy
 ·intro x hx hxh y hy
  change updP s.num a (s.count + 1) x ≠ 0 at hx
  change x ∉ s.held ++ [a] at hxh
  have hxa : x ≠ a := fun e => hxh (by simp [e])
  have hxh' : x ∉ s.held := fun e => hxh (by simp [e])
  rw [hle x hxa] at hx
  obtain ⟨h1, h2⟩ := h.closed x hx hxh' y hy
  have hya : y ≠ a := fun e => h1 (by rw [e]; exact h0)
  refine ⟨?_, ?_⟩
  ·show updP s.num a (s.count + 1) y ≠ 0
   rw [hle y hya]; exact h1
  ·show y ∉ s.held ++ [a]
   simp [h2, hya]
 ·intro x hx y hy hE
  show updP s.num a (s.count + 1) y ≠ 0
  obtain ⟨g1, g2⟩ := hex x y hE
  by_cases f : y = a
  ·rw [f, updP_same]; omega
  ·rw [hle y f]
   rcases hmem x hx with hx | rfl
   ·rcases e3 x y g2 with g3 | g3
    ·exact h.expl x hx y hy g3
    ·exact absurd g3 f
   ·exact absurd hy (g1 rfl)
 ·intro x hx
  show updP s.low a (s.count + 1) x ≤ updP s.num a (s.count + 1) x
  rcases hmem x hx with hx | rfl
  ·rw [hnx x hx, hlx x hx]; exact h.lowle x hx
  ·rw [updP_same, updP_same]; exact Nat.le_refl _
 ·intro x hx
  rcases hmem x hx with hx | rfl
  ·obtain ⟨u, hu, hn, hr⟩ := h.lowr x hx
   refine ⟨u, by show u ∈ s.held ++ [a]; simp [hu], ?_, hr⟩
   show updP s.num a (s.count + 1) u = updP s.low a (s.count + 1) x
   rw [hnx u hu, hlx x hx]; exact hn
  ·refine ⟨x, by show x ∈ s.held ++ [x]; simp, ?_, ReachP.rfl' _⟩
   show updP s.num x (s.count + 1) x = updP s.low x (s.count + 1) x
   rw [updP_same, updP_same]
 ·intro x hx y hy hE hyh
  show updP s.low a (s.count + 1) x ≤ updP s.num a (s.count + 1) y
  obtain ⟨g1, g2⟩ := hex x y hE
  rcases hmem x hx with hx1 | rfl
  ·rw [hlx x hx1]
   have k1 := h.lowle x hx1
   have k2 := h.cnt x
   rcases hmem y hyh with hyh1 | hya
   ·rw [hnx y hyh1]
    rcases e3 x y g2 with g3 | g3
    ·exact h.q x hx1 y hy g3 hyh1
    ·exact absurd (g3 ▸ hyh1) hna
   ·rw [hya, updP_same]
    omega
  ·exact absurd hy (g1 rfl)
 ·intro x hx hxp
  change x ∉ pathP (S ++ [(a, adj a)]) at hxp
  rw [hP] at hxp
  show updP s.low a (s.count + 1) x < updP s.num a (s.count + 1) x
  rcases hmem x hx with hx | rfl
  ·rw [hnx x hx, hlx x hx]
   exact h.fin x hx (fun e => hxp (by simp [e]))
  ·exact absurd (by simp) hxp
 ·intro p hp x hx hpx
  change p ∈ pathP (S ++ [(a, adj a)]) at hp
  change updP s.num a (s.count + 1) p ≤ updP s.num a (s.count + 1) x at hpx
  rw [hP] at hp
  rcases List.mem_append.1 hp with hp1 | hp
  ·rcases hmem x hx with hx | hxa
   ·rw [hnx p (hin p hp1), hnx x hx] at hpx
    exact h.t p hp1 x hx hpx
   ·rw [hxa]; exact e4 p hp1
  ·obtain rfl : p = a := by simpa using hp
   rcases hmem x hx with hx | rfl
   ·rw [hnx x hx, updP_same] at hpx
    have := h.cnt x
    omega
   ·exact ReachP.rfl' _
 ·intro A p B hAB x hx hxp hpx hB
  change pathP (S ++ [(a, adj a)]) = _ at hAB
  change x ∉ pathP (S ++ [(a, adj a)]) at hxp
  rw [hP] at hAB hxp
  change updP s.num a (s.count + 1) p ≤ updP s.num a (s.count + 1) x at hpx
  show updP s.low a (s.count + 1) p ≤ updP s.low a (s.count + 1) x
  rcases hmem x hx with hx | rfl
  ·rw [hnx x hx] at hpx
   rw [hlx x hx]
   have hxp' : x ∉ pathP s.stack := fun e => hxp (by simp [e])
   rcases List.eq_nil_or_concat B with rfl | ⟨B', z, rfl⟩
   ·have hp : p = a := by
     have := congrArg (fun l : List Nat => l.getLast?) hAB
     simpa using this.symm
    rw [hp, updP_same] at hpx
    have := h.cnt x
    omega
   ·have hz : pathP s.stack ++ [a] = (A ++ p :: B') ++ [z] := by rw [hAB]; simp
    obtain ⟨k1, -⟩ := List.append_inj' hz rfl
    have hp : p ∈ pathP s.stack := by rw [k1]; simp
    rw [hnx p (hin p hp)] at hpx
    rw [hlx p (hin p hp)]
    refine h.prop A p B' k1 x hx hxp' hpx fun q hq => ?_
    have h1 := hB q (by simp [hq])
    change updP s.num a (s.count + 1) x < updP s.num a (s.count + 1) q at h1
    rwa [hnx x hx, hnx q (hin q (by rw [k1]; simp [hq]))] at h1
  ·exact absurd (by simp) hxp
 ·intro x hx
  show ∃ p ∈ pathP (S ++ [(a, adj a)]), updP s.num a (s.count + 1) p ≤ updP s.num a (s.count + 1) x
  rw [hP]
  rcases hmem x hx with hx | rfl
  ·obtain ⟨p, hp, hpx⟩ := h.bot x hx
   exact ⟨p, by simp [hp], by rw [hnx p (hin p hp), hnx x hx]; exact hpx⟩
  ·exact ⟨x, by simp, Nat.le_refl _⟩
 ·intro L hL
  obtain ⟨h1, h2, h3⟩ := h.part L hL
  refine ⟨h1, h2, fun x hx => ?_⟩
  obtain ⟨g1, g2, g3⟩ := h3 x hx
  have hxa : x ≠ a := fun e => g1 (by rw [e]; exact h0)
  refine ⟨?_, ?_, g3⟩
  ·show updP s.num a (s.count + 1) x ≠ 0
   rw [hle x hxa]; exact g1
  ·show x ∉ s.held ++ [a]
   simp [g2, hxa]
 ·intro x hx hxh
  change updP s.num a (s.count + 1) x ≠ 0 at hx
  change x ∉ s.held ++ [a] at hxh
  have hxa : x ≠ a := fun e => hxh (by simp [e])
  rw [hle x hxa] at hx
  exact h.done x hx (fun e => hxh (by simp [e]))
def lookP (s : StP) (S : List (Nat × List Nat)) (x b : Nat) : StP :=
 ⟨s.num, if b ∈ s.held then updP s.low x (min (s.low x) (s.num b)) else s.low, s.count, s.held, S, s.parts⟩
theorem look_le (s : StP) (S : List (Nat × List Nat)) (x b y : Nat) : (lookP s S x b).low y ≤ s.low y := by
 unfold lookP
 show (if b ∈ s.held then updP s.low x (min (s.low x) (s.num b)) else s.low) y ≤ _
 split
 ·by_cases e : y = x
  ·rw [e, updP_same]; exact Nat.min_le_left ..
  ·rw [updP_other _ e]; exact Nat.le_refl _
 ·exact Nat.le_refl _
theorem look_other (s : StP) (S : List (Nat × List Nat)) (x b : Nat) {y : Nat} (h : y ≠ x) : (lookP s S x b).low y = s.low y := by
 unfold lookP
 show (if b ∈ s.held then updP s.low x (min (s.low x) (s.num b)) else s.low) y = _
 split
 ·rw [updP_other _ h]
 ·rfl
theorem look_inv {n : Nat} {adj : Nat → List Nat} {s : StP} (h : InvP n adj s) (S : List (Nat × List Nat)) (x b : Nat) (l : List Nat) (hs : s.stack = S ++ [(x, b :: l)]) (hb : s.num b ≠ 0) :
  InvP n adj (lookP s (S ++ [(x, l)]) x b) := by
 have hP : pathP (S ++ [(x, l)]) = pathP s.stack := by rw [hs]; simp [pathP]
 have hxP : x ∈ pathP s.stack := by rw [hs]; simp [pathP]
 have hxh : x ∈ s.held := h.ps.subset hxP
 have hba : b ∈ adj x := h.suf (x, b :: l) (by rw [hs]; simp) b (by simp)
 have hex : ∀ z y, ExplP (S ++ [(x, l)]) z y → ExplP s.stack z y ∨ (z = x ∧ y = b) := by
  intro z y hE
  by_cases e : z = x ∧ y = b
  ·exact .inr e
  ·refine .inl fun f hf hfz => ?_
   rw [hs] at hf
   rcases List.mem_append.1 hf with hf | hf
   ·exact hE f (by simp [hf]) hfz
   ·obtain rfl : f = (x, b :: l) := by simpa using hf
    have h1 := hE (x, l) (by simp) hfz
    intro hy
    rcases List.mem_cons.1 hy with rfl | hy
    ·exact e ⟨hfz.symm, rfl⟩
    ·exact h1 hy
 refine ⟨h.pn, h.cnt, h.inj, h.hv, h.ho, ?_, ?_, h.closed, ?_, ?_, ?_, ?_, ?_, ?_, ?_, ?_, h.part, h.done, h.dis⟩
 ·show List.Sublist (pathP (S ++ [(x, l)])) s.held
  rw [hP]; exact h.ps
 ·intro f hf y hy
  change f ∈ S ++ [(x, l)] at hf
  rcases List.mem_append.1 hf with hf | hf
  ·exact h.suf f (by rw [hs]; simp [hf]) y hy
  ·obtain rfl : f = (x, l) := by simpa using hf
   exact h.suf (x, b :: l) (by rw [hs]; simp) y (by simp [show y ∈ l from hy])
 ·intro z hz y hy hE
  rcases hex z y hE with g | ⟨-, rfl⟩
  ·exact h.expl z hz y hy g
  ·exact hb
 ·intro z hz
  exact Nat.le_trans (look_le ..) (h.lowle z hz)
 ·intro z hz
  by_cases e : z = x
  ·subst e
   show ∃ u ∈ s.held, s.num u = (if b ∈ s.held then updP s.low z (min (s.low z) (s.num b)) else s.low) z ∧ _
   split
   ·rename_i hbh
    rw [updP_same]
    by_cases g : s.low z ≤ s.num b
    ·rw [Nat.min_eq_left g]; exact h.lowr z hz
    ·rw [Nat.min_eq_right (by omega)]
     exact ⟨b, hbh, rfl, .inr (.single hba)⟩
   ·exact h.lowr z hz
  ·rw [look_other _ _ _ _ e]; exact h.lowr z hz
 ·intro z hz y hy hE hyh
  rcases hex z y hE with g | ⟨rfl, rfl⟩
  ·exact Nat.le_trans (look_le ..) (h.q z hz y hy g hyh)
  ·have hyh' : y ∈ s.held := hyh
   show (if y ∈ s.held then updP s.low z (min (s.low z) (s.num y)) else s.low) z ≤ s.num y
   rw [if_pos hyh', updP_same]
   exact Nat.min_le_right ..
 ·intro z hz hzp
  change z ∉ pathP (S ++ [(x, l)]) at hzp
  rw [hP] at hzp
  exact Nat.lt_of_le_of_lt (look_le ..) (h.fin z hz hzp)
 ·intro p hp z hz
  change p ∈ pathP (S ++ [(x, l)]) at hp
  rw [hP] at hp
  exact h.t p hp z hz
 ·intro A p B hAB z hz hzp hpz hB
  change pathP (S ++ [(x, l)]) = _ at hAB
  change z ∉ pathP (S ++ [(x, l)]) at hzp
  rw [hP] at hAB hzp
  have hzx : z ≠ x := fun e => hzp (e ▸ hxP)
  rw [look_other _ _ _ _ hzx]
  exact Nat.le_trans (look_le ..) (h.prop A p B hAB z hz hzp hpz hB)
 ·intro z hz
  show ∃ p ∈ pathP (S ++ [(x, l)]), _
  rw [hP]; exact h.bot z hz
theorem down_inv {n : Nat} {adj : Nat → List Nat} {s : StP} (h : InvP n adj s) (hn : ∀ a, ∀ b ∈ adj a, b < n) (S : List (Nat × List Nat)) (x b : Nat) (l : List Nat) (hs : s.stack = S ++ [(x, b :: l)]) (hb : s.num b = 0) :
  InvP n adj (enterP adj s (S ++ [(x, l)]) b) := by
 have hxP : x ∈ pathP s.stack := by rw [hs]; simp [pathP]
 have hba : b ∈ adj x := h.suf (x, b :: l) (by rw [hs]; simp) b (by simp)
 refine enter_inv h _ b (hn x b hba) hb (by rw [hs]; simp [pathP]) ?_ ?_ ?_
 ·intro f hf y hy
  rcases List.mem_append.1 hf with hf | hf
  ·exact h.suf f (by rw [hs]; simp [hf]) y hy
  ·obtain rfl : f = (x, l) := by simpa using hf
   exact h.suf (x, b :: l) (by rw [hs]; simp) y (by simp [show y ∈ l from hy])
 ·intro z y hE
  by_cases e : y = b
  ·exact .inr e
  ·refine .inl fun f hf hfz => ?_
   rw [hs] at hf
   rcases List.mem_append.1 hf with hf | hf
   ·exact hE f (by simp [hf]) hfz
   ·obtain rfl : f = (x, b :: l) := by simpa using hf
    have h1 := hE (x, l) (by simp) hfz
    intro hy
    rcases List.mem_cons.1 hy with rfl | hy
    ·exact e rfl
    ·exact h1 hy
 ·intro p hp
  have hpx : s.num p ≤ s.num x := by
   have hso := path_sorted h
   rw [hs] at hso hp
   simp only [pathP, List.map_append, List.map_cons, List.map_nil] at hso hp
   rcases List.mem_append.1 hp with hp | hp
   ·exact Nat.le_of_lt ((List.pairwise_append.1 hso).2.2 p hp x (by simp))
   ·obtain rfl : p = x := by simpa using hp
    exact Nat.le_refl _
  exact (h.t p hp x (h.ps.subset hxP) hpx).tail hba
theorem root_inv {n : Nat} {adj : Nat → List Nat} {s : StP} (h : InvP n adj s) (a : Nat) (ha : a < n) (hs : s.stack = []) (h0 : s.num a = 0) : InvP n adj (enterP adj s [] a) :=
 enter_inv h [] a ha h0 (by rw [hs]) (fun f hf => by cases hf) (fun x y hE => .inl (by rw [hs]; exact hE)) (fun p hp => by rw [hs] at hp; cases hp)
def lowerO (s : StP) (o : Option (Nat × List Nat)) (a : Nat) : Nat → Nat :=
 match o with
 | none => s.low
 | some f => updP s.low f.1 (min (s.low f.1) (s.low a))
def lowerP (s : StP) (S : List (Nat × List Nat)) (a : Nat) : Nat → Nat := lowerO s S.getLast? a
theorem lower_le (s : StP) (S : List (Nat × List Nat)) (a x : Nat) : lowerP s S a x ≤ s.low x := by
 unfold lowerP
 cases S.getLast? with
 | none => exact Nat.le_refl _
 | some f =>
  show updP s.low f.1 _ x ≤ _
  by_cases e : x = f.1
  ·rw [e, updP_same]; exact Nat.min_le_left ..
  ·rw [updP_other _ e]; exact Nat.le_refl _
theorem lower_other (s : StP) (S : List (Nat × List Nat)) (a : Nat) {x : Nat} (h : x ∉ pathP S) : lowerP s S a x = s.low x := by
 unfold lowerP
 cases hf : S.getLast? with
 | none => rfl
 | some f =>
  show updP s.low f.1 _ x = _
  refine updP_other _ fun e => h ?_
  rw [e]
  exact List.mem_map_of_mem (List.mem_of_getLast? hf)
theorem lower_last (s : StP) (S : List (Nat × List Nat)) (f : Nat × List Nat) (a : Nat) : lowerP s (S ++ [f]) a = updP s.low f.1 (min (s.low f.1) (s.low a)) := by
 unfold lowerP
 rw [List.getLast?_append]
 rfl
def backP (s : StP) (S : List (Nat × List Nat)) (a : Nat) : StP := ⟨s.num, lowerP s S a, s.count, s.held, S, s.parts⟩
def cutP (n : Nat) (s : StP) (S : List (Nat × List Nat)) (H C : List Nat) : StP := ⟨s.num, s.low, s.count, H, S, s.parts ++ [riseP n C]⟩
theorem leave_path {s : StP} (S : List (Nat × List Nat)) (a : Nat) (hs : s.stack = S ++ [(a, [])]) : pathP s.stack = pathP S ++ [a] := by rw [hs]; simp [pathP]
theorem leave_expl {s : StP} (S : List (Nat × List Nat)) (a : Nat) (hs : s.stack = S ++ [(a, [])]) (x y : Nat) (hE : ExplP S x y) : ExplP s.stack x y := fun f hf hx => by
 rw [hs] at hf
 rcases List.mem_append.1 hf with hf | hf
 ·exact hE f hf hx
 ·obtain rfl : f = (a, []) := by simpa using hf
  intro hy
  cases hy
section
variable {n : Nat} {adj : Nat → List Nat} {s : StP} (h : InvP n adj s) (S : List (Nat × List Nat)) (a : Nat) (hs : s.stack = S ++ [(a, [])])
include h hs
theorem leave_lt : ∀ p ∈ pathP S, s.num p < s.num a := fun p hp => by
 have hso := path_sorted h
 rw [leave_path S a hs] at hso
 exact (List.pairwise_append.1 hso).2.2 p hp a (by simp)
theorem leave_held : a ∈ s.held := h.ps.subset (by rw [leave_path S a hs]; simp)
theorem back_inv (hr : s.low a ≠ s.num a) : InvP n adj (backP s S a) := by
 have hP := leave_path S a hs
 have hlt := leave_lt h S a hs
 have hah := leave_held h S a hs
 have hal : s.low a < s.num a := Nat.lt_of_le_of_ne (h.lowle a hah) hr
 have haS : a ∉ pathP S := fun e => Nat.lt_irrefl _ (hlt a e)
 have hnot : ∀ x, x ∉ pathP S → x = a ∨ x ∉ pathP s.stack := fun x hx => by
  by_cases e : x = a
  ·exact .inl e
  ·refine .inr fun k => ?_
   rw [hP] at k
   rcases List.mem_append.1 k with k | k
   ·exact hx k
   ·exact e (by simpa using k)
 refine ⟨h.pn, h.cnt, h.inj, h.hv, h.ho, ?_, ?_, h.closed, ?_, ?_, ?_, ?_, ?_, ?_, ?_, ?_, h.part, h.done, h.dis⟩
 ·exact List.Sublist.trans (by rw [hP]; exact List.sublist_append_left ..) h.ps
 ·exact fun f hf => h.suf f (by rw [hs]; simp [show f ∈ S from hf])
 ·exact fun x hx y hy hE => h.expl x hx y hy (leave_expl S a hs x y hE)
 ·exact fun x hx => Nat.le_trans (lower_le ..) (h.lowle x hx)
 ·intro x hx
  show ∃ u ∈ s.held, s.num u = lowerP s S a x ∧ _
  rcases List.eq_nil_or_concat S with rfl | ⟨S', f, rfl⟩
  ·exact h.lowr x hx
  ·rw [List.concat_eq_append, lower_last]
   by_cases e : x = f.1
   ·rw [e, updP_same]
    have hfP : f.1 ∈ pathP (S' ++ [f]) := by simp [pathP]
    have hfs : f.1 ∈ pathP s.stack := by rw [hP, List.concat_eq_append]; simp [pathP]
    by_cases g : s.low f.1 ≤ s.low a
    ·rw [Nat.min_eq_left g]; exact h.lowr _ (h.ps.subset hfs)
    ·rw [Nat.min_eq_right (by omega)]
     obtain ⟨u, hu, hn, hr2⟩ := h.lowr a hah
     exact ⟨u, hu, hn, (h.t f.1 hfs a hah (Nat.le_of_lt (hlt f.1 (by rw [List.concat_eq_append]; exact hfP)))).trans hr2⟩
   ·rw [updP_other _ e]; exact h.lowr x hx
 ·exact fun x hx y hy hE hyh => Nat.le_trans (lower_le ..) (h.q x hx y hy (leave_expl S a hs x y hE) hyh)
 ·intro x hx hxp
  change x ∉ pathP S at hxp
  show lowerP s S a x < s.num x
  rw [lower_other s S a hxp]
  rcases hnot x hxp with rfl | k
  ·exact hal
  ·exact h.fin x hx k
 ·exact fun p hp => h.t p (by rw [hP]; simp [show p ∈ pathP S from hp])
 ·intro A p B hAB x hx hxp hpx hB
  change pathP S = _ at hAB
  change x ∉ pathP S at hxp
  show lowerP s S a p ≤ lowerP s S a x
  rw [lower_other s S a hxp]
  by_cases g : s.num x < s.num a
  ·refine Nat.le_trans (lower_le ..) (h.prop A p (B ++ [a]) (by rw [hP, hAB]; simp) x hx ?_ hpx fun q hq => ?_)
   ·rcases hnot x hxp with rfl | k
    ·exact absurd g (Nat.lt_irrefl _)
    ·exact k
   ·rcases List.mem_append.1 hq with hq | hq
    ·exact hB q hq
    ·obtain rfl : q = a := by simpa using hq
     exact g
  ·have hBn : B = [] := by
    cases B with
    | nil => rfl
    | cons q B =>
     have h1 := hB q (by simp)
     have h2 := hlt q (by rw [hAB]; simp)
     change s.num x < s.num q at h1
     omega
   subst hBn
   have hax : s.low a ≤ s.low x := by
    rcases hnot x hxp with rfl | k
    ·exact Nat.le_refl _
    ·exact h.prop (pathP S) a [] hP x hx k (by omega) (fun q hq => by cases hq)
   rcases List.eq_nil_or_concat S with rfl | ⟨S', f, rfl⟩
   ·simp [pathP] at hAB
   ·rw [List.concat_eq_append, lower_last]
    have hp : f.1 = p := by
     rw [List.concat_eq_append] at hAB
     have := congrArg (fun l : List Nat => l.getLast?) hAB
     simpa [pathP] using this
    rw [hp, updP_same]
    exact Nat.le_trans (Nat.min_le_right ..) hax
 ·intro x hx
  show ∃ p ∈ pathP S, s.num p ≤ s.num x
  obtain ⟨p, hp, hpx⟩ := h.bot x hx
  rw [hP] at hp
  rcases List.mem_append.1 hp with hp | hp
  ·exact ⟨p, hp, hpx⟩
  ·obtain rfl : p = a := by simpa using hp
   obtain ⟨u, hu, hn, -⟩ := h.lowr p hah
   obtain ⟨r, hr1, hr2⟩ := h.bot u hu
   rw [hP] at hr1
   rcases List.mem_append.1 hr1 with hr1 | hr1
   ·exact ⟨r, hr1, by omega⟩
   ·obtain rfl : r = p := by simpa using hr1
    omega
theorem cut_inv (hr : s.low a = s.num a) (H R : List Nat) (hH : s.held = H ++ a :: R) : InvP n adj (cutP n s S H (a :: R)) ∧ lowerP s S a = s.low := by
 have hP := leave_path S a hs
 have hlt := leave_lt h S a hs
 have hah := leave_held h S a hs
 have ho := h.ho
 rw [hH] at ho
 have hHlt : ∀ y ∈ H, s.num y < s.num a := fun y hy => (List.pairwise_append.1 ho).2.2 y hy a (by simp)
 have hCge : ∀ y ∈ a :: R, s.num a ≤ s.num y := fun y hy => by
  rcases List.mem_cons.1 hy with rfl | hy
  ·exact Nat.le_refl _
  ·exact Nat.le_of_lt ((List.pairwise_cons.1 (List.pairwise_append.1 ho).2.1).1 y hy)
 have hmem : ∀ x, x ∈ s.held ↔ x ∈ H ∨ x ∈ a :: R := fun x => by rw [hH, List.mem_append]
 have hPle : ∀ p ∈ pathP s.stack, p = a ∨ p ∈ pathP S := fun p hp => by
  rw [hP] at hp
  rcases List.mem_append.1 hp with hp | hp
  ·exact .inr hp
  ·exact .inl (by simpa using hp)
 have hfinC : ∀ x ∈ a :: R, x ≠ a → x ∉ pathP s.stack := fun x hx hxa hp => by
  rcases hPle x hp with e | e
  ·exact hxa e
  ·have := hlt x e
   have := hCge x hx
   omega
 have hlowC : ∀ x ∈ a :: R, s.low a ≤ s.low x := fun x hx => by
  by_cases e : x = a
  ·rw [e]; exact Nat.le_refl _
  ·exact h.prop (pathP S) a [] hP x ((hmem x).2 (.inr hx)) (hfinC x hx e) (hCge x hx) (fun q hq => by cases hq)
 have hC : ∀ x ∈ a :: R, ∀ y ∈ adj x, s.num y ≠ 0 ∧ (y ∈ s.held → y ∈ a :: R) := fun x hx y hy => by
  have hE : ExplP s.stack x y := fun f hf hfx => by
   have hf0 := hf
   rw [hs] at hf
   rcases List.mem_append.1 hf with hf | hf
   ·have h1 := hlt f.1 (List.mem_map_of_mem hf)
    have h2 := hCge x hx
    rw [hfx] at h1
    omega
   ·obtain rfl : f = (a, []) := by simpa using hf
    intro hy
    cases hy
  have hxh := (hmem x).2 (.inr hx)
  refine ⟨h.expl x hxh y hy hE, fun hyh => ?_⟩
  have h1 := h.q x hxh y hy hE hyh
  have h2 := hlowC x hx
  rcases (hmem y).1 hyh with k | k
  ·have := hHlt y k
   omega
  ·exact k
 have hto : ∀ x ∈ a :: R, ReachP (EdgeP adj) a x := fun x hx => h.t a (by rw [hP]; simp) x ((hmem x).2 (.inr hx)) (hCge x hx)
 have hback : ∀ m x, s.num x ≤ m → x ∈ a :: R → ReachP (EdgeP adj) x a := by
  intro m
  induction m with
  | zero =>
   intro x hm hx
   exact absurd (Nat.le_zero.1 hm) (h.hv x ((hmem x).2 (.inr hx)))
  | succ m ih =>
   intro x hm hx
   by_cases e : x = a
   ·rw [e]; exact ReachP.rfl' _
   ·have hxh := (hmem x).2 (.inr hx)
    obtain ⟨u, hu, hn, hru⟩ := h.lowr x hxh
    have h1 := h.fin x hxh (hfinC x hx e)
    have h2 := hlowC x hx
    have huC : u ∈ a :: R := by
     rcases (hmem u).1 hu with k | k
     ·have := hHlt u k
      omega
     ·exact k
    exact hru.trans (ih u (by omega) huC)
 have hstay : ∀ {x y}, ReachP (EdgeP adj) x y → x ∈ a :: R → y ∈ a :: R ∨ (s.num y ≠ 0 ∧ y ∉ s.held) := fun {x y} hxy hx =>
  hxy.keep (p := fun y => y ∈ a :: R ∨ (s.num y ≠ 0 ∧ y ∉ s.held)) (fun u v hu huv => by
   rcases hu with hu | ⟨hu1, hu2⟩
   ·obtain ⟨k1, k2⟩ := hC u hu v huv
    by_cases e : v ∈ s.held
    ·exact .inl (k2 e)
    ·exact .inr ⟨k1, e⟩
   ·exact .inr (h.closed u hu1 hu2 v huv)) (.inl hx)
 have hgone : ∀ {x y}, ReachP (EdgeP adj) x y → (s.num x ≠ 0 ∧ x ∉ s.held) → (s.num y ≠ 0 ∧ y ∉ s.held) := fun {x y} hxy hx =>
  hxy.keep (p := fun y => s.num y ≠ 0 ∧ y ∉ s.held) (fun u v hu huv => h.closed u hu.1 hu.2 v huv) hx
 have hlow : lowerP s S a = s.low := by
  rcases List.eq_nil_or_concat S with rfl | ⟨S', f, rfl⟩
  ·rfl
  ·rw [List.concat_eq_append, lower_last]
   funext x
   by_cases e : x = f.1
   ·rw [e, updP_same]
    have hfS : f.1 ∈ pathP (S'.concat f) := by simp [pathP]
    have h1 := hlt f.1 hfS
    have h2 := h.lowle f.1 (h.ps.subset (by rw [hP]; exact List.mem_append_left _ hfS))
    exact Nat.min_eq_left (by omega)
   ·exact updP_other _ e
 refine ⟨⟨h.pn, h.cnt, h.inj, fun x hx => h.hv x ((hmem x).2 (.inl hx)), (List.pairwise_append.1 ho).1, ?_, fun f hf => h.suf f (by rw [hs]; simp [show f ∈ S from hf]), ?_, ?_, fun x hx => h.lowle x ((hmem x).2 (.inl hx)), ?_, ?_, ?_, ?_, ?_, ?_, ?_, ?_, ?_⟩, hlow⟩
 ·show List.Sublist (pathP S) H
  have e1 : (pathP s.stack).filter (fun x => decide (s.num x < s.num a)) = pathP S := by
   rw [hP, List.filter_append, List.filter_eq_self.2 (fun x hx => by simpa using hlt x hx)]
   simp
  have e2 : s.held.filter (fun x => decide (s.num x < s.num a)) = H := by
   rw [hH, List.filter_append, List.filter_eq_self.2 (fun x hx => by simpa using hHlt x hx), List.filter_eq_nil_iff.2 (fun x hx => by have := hCge x hx; simp; omega), List.append_nil]
  rw [← e1, ← e2]
  exact h.ps.filter _
 ·intro x hx hxH y hy
  by_cases e : x ∈ s.held
  ·rcases (hmem x).1 e with k | k
   ·exact absurd k hxH
   ·obtain ⟨k1, k2⟩ := hC x k y hy
    refine ⟨k1, fun hyH => ?_⟩
    have h1 := hHlt y hyH
    have h2 := hCge y (k2 ((hmem y).2 (.inl hyH)))
    omega
  ·obtain ⟨k1, k2⟩ := h.closed x hx e y hy
   exact ⟨k1, fun hyH => k2 ((hmem y).2 (.inl hyH))⟩
 ·exact fun x hx y hy hE => h.expl x ((hmem x).2 (.inl hx)) y hy (leave_expl S a hs x y hE)
 ·intro x hx
  have hxh := (hmem x).2 (.inl hx)
  obtain ⟨u, hu, hn, hru⟩ := h.lowr x hxh
  refine ⟨u, ?_, hn, hru⟩
  rcases (hmem u).1 hu with k | k
  ·exact k
  ·have h1 := hCge u k
   have h2 := h.lowle x hxh
   have h3 := hHlt x hx
   omega
 ·exact fun x hx y hy hE hyH => h.q x ((hmem x).2 (.inl hx)) y hy (leave_expl S a hs x y hE) ((hmem y).2 (.inl hyH))
 ·intro x hx hxp
  refine h.fin x ((hmem x).2 (.inl hx)) fun hp => ?_
  rcases hPle x hp with rfl | e
  ·exact Nat.lt_irrefl _ (hHlt x hx)
  ·exact hxp e
 ·exact fun p hp x hx => h.t p (by rw [hP]; simp [show p ∈ pathP S from hp]) x ((hmem x).2 (.inl hx))
 ·intro A p B hAB x hx hxp hpx hB
  change pathP S = _ at hAB
  change x ∈ H at hx
  refine h.prop A p (B ++ [a]) (by rw [hP, hAB]; simp) x ((hmem x).2 (.inl hx)) (fun hp => ?_) hpx fun q hq => ?_
  ·rcases hPle x hp with rfl | e
   ·exact Nat.lt_irrefl _ (hHlt x hx)
   ·exact hxp e
  ·rcases List.mem_append.1 hq with hq | hq
   ·exact hB q hq
   ·obtain rfl : q = a := by simpa using hq
    exact hHlt x hx
 ·intro x hx
  change x ∈ H at hx
  show ∃ p ∈ pathP S, s.num p ≤ s.num x
  obtain ⟨p, hp, hpx⟩ := h.bot x ((hmem x).2 (.inl hx))
  rcases hPle p hp with rfl | e
  ·have := hHlt x hx
   omega
  ·exact ⟨p, e, hpx⟩
 ·intro L hL
  change L ∈ s.parts ++ [riseP n (a :: R)] at hL
  rcases List.mem_append.1 hL with hL | hL
  ·obtain ⟨h1, h2, h3⟩ := h.part L hL
   refine ⟨h1, h2, fun x hx => ?_⟩
   obtain ⟨g1, g2, g3⟩ := h3 x hx
   exact ⟨g1, fun e => g2 ((hmem x).2 (.inl e)), g3⟩
  ·obtain rfl : L = riseP n (a :: R) := by simpa using hL
   have hn : ∀ x ∈ a :: R, x < n := fun x hx => h.pn x (h.hv x ((hmem x).2 (.inr hx)))
   refine ⟨fun e => ?_, rise_sorted _ _, fun x hx => ?_⟩
   ·have : a ∈ riseP n (a :: R) := (rise_mem _ _ _).2 ⟨hn a (by simp), by simp⟩
    rw [e] at this
    cases this
   ·obtain ⟨-, hxC⟩ := (rise_mem _ _ _).1 hx
    have hxh := (hmem x).2 (.inr hxC)
    refine ⟨h.hv x hxh, fun e => ?_, fun y => ?_⟩
    ·have h1 := hHlt x e
     have h2 := hCge x hxC
     omega
    ·rw [rise_mem]
     constructor
     ·rintro ⟨-, hyC⟩
      exact ⟨(hback _ x (Nat.le_refl _) hxC).trans (hto y hyC), (hback _ y (Nat.le_refl _) hyC).trans (hto x hxC)⟩
     ·rintro ⟨r1, r2⟩
      rcases hstay r1 hxC with k | k
      ·exact ⟨hn y k, k⟩
      ·exact absurd hxh (hgone r2 k).2
 ·intro x hx hxH
  change x ∉ H at hxH
  show ∃ L ∈ s.parts ++ [riseP n (a :: R)], x ∈ L
  by_cases e : x ∈ s.held
  ·rcases (hmem x).1 e with k | k
   ·exact absurd k hxH
   ·exact ⟨_, by simp, (rise_mem _ _ _).2 ⟨h.pn x hx, k⟩⟩
  ·obtain ⟨L, hL, hxL⟩ := h.done x hx e
   exact ⟨L, by simp [hL], hxL⟩
 ·show (s.parts ++ [riseP n (a :: R)]).Pairwise _
  rw [List.pairwise_append]
  refine ⟨h.dis, List.pairwise_singleton .., fun L hL M hM x hx hxM => ?_⟩
  obtain rfl : M = riseP n (a :: R) := by simpa using hM
  obtain ⟨-, hxC⟩ := (rise_mem _ _ _).1 hxM
  exact ((h.part L hL).2.2 x hx).2.1 ((hmem x).2 (.inr hxC))
end
theorem empty_held {n : Nat} {adj : Nat → List Nat} {s : StP} (h : InvP n adj s) (hs : s.stack = []) : s.held = [] := by
 cases hh : s.held with
 | nil => rfl
 | cons x l =>
  obtain ⟨p, hp, -⟩ := h.bot x (by rw [hh]; simp)
  rw [hs] at hp
  cases hp
theorem held_nodup {n : Nat} {adj : Nat → List Nat} {s : StP} (h : InvP n adj s) : s.held.Nodup := h.ho.imp fun {x y} hxy e => by rw [e] at hxy; exact Nat.lt_irrefl _ hxy
end Go.Proofs.YtldcbapjiflblaaDoor
