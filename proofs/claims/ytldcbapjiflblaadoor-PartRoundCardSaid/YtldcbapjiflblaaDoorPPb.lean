/-
  Blocks of cells known whole: made, kept, stored into; rows of a call's own against them. No conditions.
  A region that draws its order: one condition on the world that all but the late operations keep; what asks nothing of the world may come when it will. No conditions.
  A region that draws its order, where what it keeps is told by a fact. No conditions.
-/
import Derived.Test.YtldcbapjiflblaaDoorRows
import Derived.Handy
import Derived.WalkSpells
import Derived.WalkLawsBesides
import Derived.Deep.RegionHeld3
import Derived.Deep.DrawnRows
import Derived.Lib.Hide
import Derived.Lib.Strings
import Derived.Lib.SmallJoins
import Derived.Deep.QuietTactic
import Derived.Deep.RegionWith
import Derived.BigQuiet
import Derived.OrdersHeld
namespace Go.Proofs.YtldcbapjiflblaaDoor
section
open Go.RowKit
def Blk (w : World) (B : Nat) (t : TypeId) (cs : List Value) : Prop := w.heap[B]? = some (.cells cs.toArray t (0, 0))
theorem Blk.lt {w : World} {B : Nat} {t : TypeId} {cs : List Value} (h : Blk w B t cs) : B < w.heap.size := (Array.getElem?_eq_some_iff.1 h).1
theorem Blk.cell {w : World} {B : Nat} {t : TypeId} {cs : List Value} (h : Blk w B t cs) (i : Nat) {v : Value} (hi : cs[i]? = some v) : w.cell? ⟨B, i, none⟩ = some v := by
 rw [cell_of_row w B i cs.toArray t (0, 0) h]
 simpa using hi
theorem Blk.frozen {w : World} {B : Nat} {t : TypeId} {cs : List Value} (h : Blk w B t cs) (i : Nat) : w.frozen? ⟨B, i, none⟩ = false := by
 have h' : w.heap[B]? = some (.cells cs.toArray t (0, 0)) := h
 simp [World.frozen?, h']
theorem Blk.new (w : World) (t : TypeId) (cs : List Value) : Blk (w.alloc (.cells cs.toArray t)) w.heap.size t cs := heap_alloc_new w _
theorem Blk.kept {w w' : World} {row : Option Nat} {B : Nat} {t : TypeId} {cs : List Value} (h : Blk w B t cs) (hg : w.grownBy w' row) (hne : some B ≠ row) : Blk w' B t cs := (hg.block B h.lt hne).trans h
theorem Blk.alloc {w : World} {B : Nat} {t : TypeId} {cs : List Value} (h : Blk w B t cs) (o : Obj) : Blk (w.alloc o) B t cs := h.kept (World.grownBy_alloc w o none) (by simp)
theorem Blk.drew {w : World} {B : Nat} {t : TypeId} {cs : List Value} (h : Blk w B t cs) : Blk w.drew B t cs := h
theorem Blk.drewN {w : World} {B : Nat} {t : TypeId} {cs : List Value} (h : Blk w B t cs) (n : Nat) : Blk (w.drewN n) B t cs := h
theorem Blk.below {w w' : World} {B n : Nat} {t : TypeId} {cs : List Value} (h : Blk w B t cs) (hb : Below n w w') (hn : B < n) : Blk w' B t cs := (hb.block B hn).trans h
theorem Blk.later {w w' : World} {B : Nat} {t : TypeId} {cs : List Value} (h : Blk w B t cs) (hb : Below w.heap.size w w') : Blk w' B t cs := h.below hb h.lt
theorem Blk.far {w : World} {B : Nat} {t : TypeId} {cs : List Value} (h : Blk w B t cs) {a : Addr} (hne : B ≠ a.block) (v : Value) : Blk (w.setCell a v) B t cs := (Below.heap_setCell w a v B hne).trans h
theorem Blk.set {w : World} {B : Nat} {t : TypeId} {cs : List Value} (h : Blk w B t cs) (i : Nat) (v : Value) : Blk (w.setCell ⟨B, i, none⟩ v) B t (cs.set i v) := by
 have h' : w.heap[B]? = some (.cells cs.toArray t (0, 0)) := h
 simp [Blk, World.setCell, Array.getElem?_modify, h']
theorem owns_far {w : World} {base size n : Nat} {e : TypeId} {v : Value} {xs : List Value} (h : w.ownsRow base e size v n xs) {a : Addr} (ha : a.block < base) (u : Value) : (w.setCell a u).ownsRow base e size v n xs := by
 obtain ⟨h1, h2⟩ := h
 refine ⟨h1, ?_⟩
 rcases h2 with h2 | ⟨g, cap, cur, e1, hb, hw, r⟩
 ·exact .inl h2
 ·exact .inr ⟨g, cap, cur, e1, hb, (Below.heap_setCell w a u g (by omega)).trans hw, r⟩
theorem owns_keep {w w' : World} {base size n m : Nat} {e : TypeId} {v : Value} {xs : List Value} (h : w.ownsRow base e size v n xs) (hb : Below m w w') (hm : ∀ k, v.ownBlock = some k → k < m) : w'.ownsRow base e size v n xs := by
 obtain ⟨h1, h2⟩ := h
 refine ⟨h1, ?_⟩
 rcases h2 with h2 | ⟨g, cap, cur, e1, hg, hw, r⟩
 ·exact .inl h2
 ·exact .inr ⟨g, cap, cur, e1, hg, (hb.block g (hm g (by subst e1; rfl))).trans hw, r⟩
theorem owns_later {w w' : World} {base size n : Nat} {e : TypeId} {v : Value} {xs : List Value} (h : w.ownsRow base e size v n xs) (hb : Below w.heap.size w w') : w'.ownsRow base e size v n xs := owns_keep h hb (fun k hk => (h.lt k hk).2)
theorem owns_other {w w' : World} {base base' size size' n n' : Nat} {e e' : TypeId} {v v' : Value} {xs xs' : List Value} (h : w.ownsRow base e size v n xs) (h' : w.ownsRow base' e' size' v' n' xs') (hne : e ≠ e') (hg : w.grownBy w' v'.ownBlock) : w'.ownsRow base e size v n xs := by
 refine h.kept hg ?_
 rcases h.2 with ⟨rfl, -⟩ | ⟨g, cap, cur, rfl, -, hw, -⟩
 ·exact .inl rfl
 ·refine .inr fun he => ?_
  rcases h'.2 with ⟨rfl, -⟩ | ⟨g', cap', cur', rfl, -, hw', -⟩
  ·cases he
  ·have e1 : g = g' := by simpa [Value.ownBlock] using he
   subst e1
   rw [hw] at hw'
   injection hw' with hw'
   injection hw' with _ hw'
   exact hne hw'
theorem Blk.grown {w w' : World} {B base size n : Nat} {t e : TypeId} {cs : List Value} {v : Value} {xs : List Value} (h : Blk w B t cs) (ho : w.ownsRow base e size v n xs) (hB : B < base) (hg : w.grownBy w' v.ownBlock) : Blk w' B t cs :=
 h.kept hg (fun he => by have := (ho.lt B he.symm).1; omega)
theorem below_own {w w' : World} {a : World} {B base size n : Nat} {e : TypeId} {v : Value} {xs : List Value} (hb : Below B a w) (hB : B ≤ base) (hs : B ≤ w.heap.size) (ho : w.ownsRow base e size v n xs) (hg : w.grownBy w' v.ownBlock) : Below B a w' :=
 hb.grown hg hs (fun k hk => Nat.le_trans hB (ho.lt k hk).1)
theorem below_own2 {w w' : World} {a : World} {B base size n : Nat} {e : TypeId} {v : Value} {xs : List Value} (hb : Below B a w) (hB : B ≤ base) (hs : B ≤ a.heap.size) (ho : w.ownsRow base e size v n xs) (hg : w.grownBy w' v.ownBlock) : Below B a w' :=
 below_own hb hB (Nat.le_trans hs hb.size) ho hg
theorem owns_some {w : World} {base size k : Nat} {e : TypeId} {v : Value} {xs : List Value} (h : w.ownsRow base e size v (k + 1) xs) : ∃ g cap, v = .slice (some ⟨g, 0, none⟩) (k + 1) cap := by
 rcases h.2 with ⟨-, h2⟩ | ⟨g, cap, cur, rfl, -⟩
 ·cases h2
 ·exact ⟨g, cap, rfl⟩
theorem owns_store {w : World} {base size n B : Nat} {e t : TypeId} {v : Value} {xs cs : List Value} (h : w.ownsRow base e size v n xs) (hB : Blk w B t cs) (hne : e ≠ t) (i : Nat) (u : Value) : (w.setCell ⟨B, i, none⟩ u).ownsRow base e size v n xs := by
 obtain ⟨h1, h2⟩ := h
 refine ⟨h1, ?_⟩
 rcases h2 with h2 | ⟨g, cap, cur, e1, hg, hw, r⟩
 ·exact .inl h2
 ·refine .inr ⟨g, cap, cur, e1, hg, (Below.heap_setCell w _ u g fun he => ?_).trans hw, r⟩
  have he' : g = B := he
  subst he'
  have hB' : w.heap[g]? = some (.cells cs.toArray t (0, 0)) := hB
  rw [hw] at hB'
  injection hB' with hB'
  injection hB' with _ hB'
  exact hne hB'
theorem news_lit (w : World) (cs : List Value) (e : TypeId) (n : Nat) (hn : n = w.heap.size) : ∀ (j : Nat) (u : Value), cs[j]? = some u → (w.alloc (.cells cs.toArray e)).cell? ((⟨n, 0, none⟩ : Addr).add j) = some u := by
 intro j u hj
 subst hn
 rw [Addr.add_lit, Nat.zero_add]
 exact (Blk.new w e cs).cell j hj
theorem owns_apart {w w' : World} {b1 N s1 s2 n1 n2 : Nat} {e1 e2 : TypeId} {v1 v2 : Value} {xs1 xs2 : List Value} (h : w.ownsRow b1 e1 s1 v1 n1 xs1) (hN : ∀ k, v1.ownBlock = some k → k < N) (h2 : w.ownsRow N e2 s2 v2 n2 xs2) (hg : w.grownBy w' v2.ownBlock) : w'.ownsRow b1 e1 s1 v1 n1 xs1 := by
 refine h.kept hg ?_
 cases hb : v1.ownBlock with
 | none => exact .inl rfl
 | some k =>
  refine .inr fun he => ?_
  have := (h2.lt k he.symm).1
  have := hN k hb
  omega
theorem owns_form {w : World} {base size n : Nat} {e : TypeId} {v : Value} {xs : List Value} (h : w.ownsRow base e size v n xs) : ∃ p cap, v = .slice p n cap := by
 rcases h.2 with ⟨rfl, rfl⟩ | ⟨g, cap, cur, rfl, -⟩
 ·exact ⟨_, _, rfl⟩
 ·exact ⟨_, _, rfl⟩
theorem owns_base {w : World} {base base' size n : Nat} {e : TypeId} {v : Value} {xs : List Value} (h : w.ownsRow base e size v n xs) (hb : base' ≤ base) : w.ownsRow base' e size v n xs := by
 obtain ⟨h1, h2⟩ := h
 refine ⟨h1, ?_⟩
 rcases h2 with h2 | ⟨g, cap, cur, e1, hg, r⟩
 ·exact .inl h2
 ·exact .inr ⟨g, cap, cur, e1, Nat.le_trans hb hg, r⟩
end
section
open Go.RowKit
section
variable {P : Program} {ops : Array Oper} {Q : Exit → Act → World → Prop} {md : Region.Mode} {S : World → Prop} {late : List Nat}
def wpAnyM (P : Program) (md : Region.Mode) (ops : Array Oper) (Q : Exit → Act → World → Prop) (S : World → Prop) (late : List Nat) : Nat → Array Bool → Act → World → Prop
 | 0, listed, a, w => Region.ready md ops listed = [] ∧ Q .normal a w
 | fuel + 1, listed, a, w =>
  (Region.ready md ops listed = [] → Q .normal a w) ∧
  ∀ i ∈ Region.ready md ops listed, wpOp P ops Q i (fun a' w' => (late.contains i = false → S w → S w') ∧ wpAnyM P md ops Q S late fuel (listed.setIfInBounds i true) a' w') a w
theorem wpAny_of_keep : ∀ (fuel : Nat) (listed : Array Bool) (a : Act) (w : World), wpAnyM P md ops Q S late fuel listed a w → wpAny P md ops Q fuel listed a w
 | 0, _, _, _, h => h
 | fuel + 1, _, _, _, h => ⟨h.1, fun i hi => wpOp_mono (fun a' w' h' => wpAny_of_keep fuel _ a' w' h'.2) (h.2 i hi)⟩
def waitsN' (md : Region.Mode) (ops : Array Oper) : Nat → Nat → Nat → Bool
 | 0, _, _ => false
 | n + 1, l, i => match ops[l]? with
  | some o => o.after.any fun e => Region.binds md e && (e.on == i || waitsN' md ops n e.on i)
  | none => false
def closedB' (md : Region.Mode) (ops : Array Oper) (listed : Array Bool) : Bool := (List.range ops.size).all fun j => !listed.getD j true || match ops[j]? with
 | some o => o.after.all fun e => !Region.binds md e || listed.getD e.on true
 | none => true
def ClosedM (md : Region.Mode) (ops : Array Oper) (listed : Array Bool) : Prop := ∀ j o, ops[j]? = some o → listed.getD j true = true → ∀ e ∈ o.after, Region.binds md e = true → listed.getD e.on true = true
theorem closed_of' {listed : Array Bool} (h : closedB' md ops listed = true) : ClosedM md ops listed := by
 intro j o ho hj e he hb
 have hlt : j < ops.size := (Array.getElem?_eq_some_iff.1 ho).1
 have h1 := List.all_eq_true.1 h j (List.mem_range.2 hlt)
 simp only [hj, Bool.not_true, Bool.false_or, ho] at h1
 have h2 := Array.all_eq_true_iff_forall_mem.1 h1 e he
 simpa [hb] using h2
theorem ready_on' {listed : Array Bool} {j : Nat} {o : Oper} (hj : j ∈ Region.ready md ops listed) (ho : ops[j]? = some o) : ∀ e ∈ o.after, Region.binds md e = true → listed.getD e.on true = true := by
 intro e he hb
 obtain ⟨-, o', ho', hall⟩ := mem_ready.1 hj
 obtain rfl := Option.some.inj (ho.symm.trans ho')
 have h1 := hall e he hb
 rcases Nat.lt_or_ge e.on listed.size with h' | h'
 ·simp [h'] at h1 ⊢; exact h1
 ·simp [Array.getElem?_eq_none h'] at h1
theorem ClosedM.next {listed : Array Bool} (h : ClosedM md ops listed) {j : Nat} (hj : j ∈ Region.ready md ops listed) : ClosedM md ops (listed.setIfInBounds j true) := by
 have up : ∀ k, listed.getD k true = true → (listed.setIfInBounds j true).getD k true = true := by
  intro k hk
  by_cases hjk : j = k
  ·subst hjk
   rcases Nat.lt_or_ge j listed.size with h' | h'
   ·simp [h']
   ·simp
  ·rw [getD_set_ne true hjk]; exact hk
 intro k o ho hk e he hb
 apply up
 by_cases hjk : j = k
 ·subst hjk
  exact ready_on' hj ho e he hb
 ·rw [getD_set_ne true hjk] at hk
  exact h k o ho hk e he hb
theorem waits_open' {i : Nat} {listed : Array Bool} (hc : ClosedM md ops listed) (hi : listed.getD i true = false) : ∀ n l, waitsN' md ops n l i = true → listed.getD l true = false ∧ l ∉ Region.ready md ops listed
 | 0, _, h => by cases h
 | n + 1, l, h => by
  unfold waitsN' at h
  split at h
  ·rename_i o ho
   obtain ⟨e, he, hb⟩ := Array.any_eq_true'.1 h
   simp only [Bool.and_eq_true, Bool.or_eq_true, beq_iff_eq] at hb
   have hne : listed.getD e.on true = false := by
    rcases hb.2 with h1 | h1
    ·rw [h1]; exact hi
    ·exact (waits_open' hc hi n e.on h1).1
   constructor
   ·cases hl : listed.getD l true with
    | false => rfl
    | true => rw [hc l o ho hl e he hb.1] at hne; cases hne
   ·intro hr
    rw [ready_on' hr ho e he hb.1] at hne
    cases hne
  ·cases h
theorem wpAnyM_first {i n : Nat} {oi : Oper} {v : Value} (hi : ops[i]? = some oi) (hsel : ∀ (j : Nat) (o : Oper) cs b, ops[j]? = some o → o.op ≠ .select cs b)
  (hQ : ∀ c a w, Q (.panic c) (a.put oi.dst v) w → Q (.panic c) a w) (hw : late.all (fun l => waitsN' md ops n l i) = true) :
  ∀ (fuel : Nat) (listed : Array Bool) (a : Act) (w : World), ClosedM md ops listed →
   (∀ j oj, ops[j]? = some oj → j ≠ i → listed.getD j true = false → (∀ e ∈ oj.after, Region.binds md e = true → e.on ≠ i) → oi.apart ops oj = true) →
   i ∈ Region.ready md ops listed → YieldsIf P ops S oi v a → S w →
   wpAnyM P md ops Q S late fuel (listed.setIfInBounds i true) (a.put oi.dst v) w → wpAnyM P md ops Q S late (fuel + 1) listed a w := by
 intro fuel
 induction fuel with
 | zero =>
  intro listed a w _ _ hr hy hS H
  refine ⟨fun h => (by rw [h] at hr; cases hr), fun j hj => ?_⟩
  by_cases hji : j = i
  ·subst hji; exact hy.wpOp hi hS ⟨fun _ h => h, H⟩
  ·have := ready_mono hj hji
   rw [H.1] at this
   cases this
 | succ fuel ih =>
  intro listed a w hcl hfree hr hy hS H
  refine ⟨fun h => (by rw [h] at hr; cases hr), fun j hj => ?_⟩
  by_cases hji : j = i
  ·subst hji; exact hy.wpOp hi hS ⟨fun _ h => h, H⟩
  ·have hjl : late.contains j = false := by
    cases hc : late.contains j with
    | false => rfl
    | true =>
     have hm : j ∈ late := by simpa using hc
     exact absurd hj (waits_open' hcl (mem_ready.1 hr).1 n j (List.all_eq_true.1 hw j hm)).2
   have h1 := H.2 j (ready_mono hj hji)
   obtain ⟨hjun, oj, hoj, hall⟩ := mem_ready.1 hj
   have hnot : ∀ e ∈ oj.after, Region.binds md e = true → e.on ≠ i := fun e he hb heq => by
    have h1 := hall e he hb
    have h0 := (mem_ready.1 hr).1
    rw [heq] at h1
    rcases Nat.lt_or_ge i listed.size with h' | h'
    ·simp [h'] at h0 h1; rw [h0] at h1; cases h1
    ·simp [Array.getElem?_eq_none h'] at h1
   have h2 := wpOp_putIf hoj (hfree j oj hoj hji hjun hnot) (fun cs b => hsel i oi cs b hi) (fun cs b => hsel j oj cs b hoj) hQ hy h1
   have hfree' : ∀ k ok, ops[k]? = some ok → k ≠ i → (listed.setIfInBounds j true).getD k true = false →
     (∀ e ∈ ok.after, Region.binds md e = true → e.on ≠ i) → oi.apart ops ok = true := fun k ok hk hki hun hno => by
    refine hfree k ok hk hki ?_ hno
    by_cases hjk : j = k
    ·subst hjk; exact hjun
    ·rw [getD_set_ne true hjk] at hun; exact hun
   refine wpOp_mono (fun a' w' h3 => ⟨fun _ => h3.2.1 hjl, ih (listed.setIfInBounds j true) a' w' (hcl.next hj) hfree' (ready_mono hr (Ne.symm hji)) h3.1 (h3.2.1 hjl hS) ?_⟩) h2
   rw [Array.setIfInBounds_comm _ _ hji]
   exact h3.2.2
theorem wpAnyM_loose {i : Nat} {oi : Oper} {v : Value} (hi : ops[i]? = some oi) (hsel : ∀ (j : Nat) (o : Oper) cs b, ops[j]? = some o → o.op ≠ .select cs b)
  (hQ : ∀ c a w, Q (.panic c) (a.put oi.dst v) w → Q (.panic c) a w) :
  ∀ (fuel : Nat) (listed : Array Bool) (a : Act) (w : World),
   (∀ j oj, ops[j]? = some oj → j ≠ i → listed.getD j true = false → (∀ e ∈ oj.after, Region.binds md e = true → e.on ≠ i) → oi.apart ops oj = true) →
   i ∈ Region.ready md ops listed → YieldsIf P ops (fun _ => True) oi v a →
   wpAnyM P md ops Q S late fuel (listed.setIfInBounds i true) (a.put oi.dst v) w → wpAnyM P md ops Q S late (fuel + 1) listed a w := by
 intro fuel
 induction fuel with
 | zero =>
  intro listed a w _ hr hy H
  refine ⟨fun h => (by rw [h] at hr; cases hr), fun j hj => ?_⟩
  by_cases hji : j = i
  ·subst hji; exact hy.wpOp hi trivial ⟨fun _ h => h, H⟩
  ·have := ready_mono hj hji
   rw [H.1] at this
   cases this
 | succ fuel ih =>
  intro listed a w hfree hr hy H
  refine ⟨fun h => (by rw [h] at hr; cases hr), fun j hj => ?_⟩
  by_cases hji : j = i
  ·subst hji; exact hy.wpOp hi trivial ⟨fun _ h => h, H⟩
  ·have h1 := H.2 j (ready_mono hj hji)
   obtain ⟨hjun, oj, hoj, hall⟩ := mem_ready.1 hj
   have hnot : ∀ e ∈ oj.after, Region.binds md e = true → e.on ≠ i := fun e he hb heq => by
    have h1 := hall e he hb
    have h0 := (mem_ready.1 hr).1
    rw [heq] at h1
    rcases Nat.lt_or_ge i listed.size with h' | h'
    ·simp [h'] at h0 h1; rw [h0] at h1; cases h1
    ·simp [Array.getElem?_eq_none h'] at h1
   have h2 := wpOp_putIf hoj (hfree j oj hoj hji hjun hnot) (fun cs b => hsel i oi cs b hi) (fun cs b => hsel j oj cs b hoj) hQ hy h1
   have hfree' : ∀ k ok, ops[k]? = some ok → k ≠ i → (listed.setIfInBounds j true).getD k true = false →
     (∀ e ∈ ok.after, Region.binds md e = true → e.on ≠ i) → oi.apart ops ok = true := fun k ok hk hki hun hno => by
    refine hfree k ok hk hki ?_ hno
    by_cases hjk : j = k
    ·subst hjk; exact hjun
    ·rw [getD_set_ne true hjk] at hun; exact hun
   refine wpOp_mono (fun a' w' h3 => ⟨h3.2.1, ih (listed.setIfInBounds j true) a' w' hfree' (ready_mono hr (Ne.symm hji)) h3.1 ?_⟩) h2
   rw [Array.setIfInBounds_comm _ _ hji]
   exact h3.2.2
theorem wpAnyM_free (i : Nat) {d : Tmp} {op : Op} {ty : TypeId} {pos : String} {aft : Array Edge} {gd : Option (Nat × Bool)} {v : Value} {fuel : Nat} {listed : Array Bool} {a : Act} {w : World} (hi : ops[i]? = some ⟨some d, op, ty, pos, aft, gd⟩)
  (hs : Region.noSelect ops = true) (hf : Region.free md ops listed i = true) (hr : (Region.ready md ops listed).contains i = true)
  (hQ : ∀ c a w, Q (.panic c) (a.put (some d) v) w → Q (.panic c) a w) (hy : YieldsIf P ops (fun _ => True) ⟨some d, op, ty, pos, aft, gd⟩ v a)
  (h : wpAnyM P md ops Q S late fuel (listed.setIfInBounds i true) (a.put (some d) v) w) : wpAnyM P md ops Q S late (fuel + 1) listed a w :=
 wpAnyM_loose hi (Region.noSelect_spec hs) hQ fuel listed a w (Region.free_spec hi hf) (by simpa using hr) hy h
theorem wpAnyM_take (i n : Nat) {d : Tmp} {op : Op} {ty : TypeId} {pos : String} {aft : Array Edge} {gd : Option (Nat × Bool)} {v : Value} {fuel : Nat} {listed : Array Bool} {a : Act} {w : World} (hi : ops[i]? = some ⟨some d, op, ty, pos, aft, gd⟩)
  (hs : Region.noSelect ops = true) (hf : Region.free md ops listed i = true) (hr : (Region.ready md ops listed).contains i = true) (hw : late.all (fun l => waitsN' md ops n l i) = true) (hcl : closedB' md ops listed = true)
  (hQ : ∀ c a w, Q (.panic c) (a.put (some d) v) w → Q (.panic c) a w) (hy : YieldsIf P ops S ⟨some d, op, ty, pos, aft, gd⟩ v a) (hS : S w)
  (h : wpAnyM P md ops Q S late fuel (listed.setIfInBounds i true) (a.put (some d) v) w) : wpAnyM P md ops Q S late (fuel + 1) listed a w :=
 wpAnyM_first hi (Region.noSelect_spec hs) hQ hw fuel listed a w (closed_of' hcl) (Region.free_spec hi hf) (by simpa using hr) hy hS h
theorem wpAnyM_one (i : Nat) {d : Option Tmp} {op : Op} {ty : TypeId} {pos : String} {aft : Array Edge} {gd : Option (Nat × Bool)} {fuel : Nat} {listed : Array Bool} {a : Act} {w : World} (ho : ops[i]? = some ⟨d, op, ty, pos, aft, gd⟩) (hr : Region.ready md ops listed = [i])
  (h : ∀ K : Act → World → Prop, RowKit.Hid (∀ a' w', (late.contains i = false → S w → S w') → wpAnyM P md ops Q S late fuel (listed.setIfInBounds i true) a' w' → K a' w') → if Region.wanted ⟨d, op, ty, pos, aft, gd⟩ (yielded ops a.tmps) = true then Oper.wp P ⟨d, op, ty, pos, aft, gd⟩ a w K Q else K (a.put d undef) w) : wpAnyM P md ops Q S late (fuel + 1) listed a w := by
 refine ⟨fun h0 => (by rw [hr] at h0; cases h0), fun j hj => ?_⟩
 rw [hr] at hj
 obtain rfl : j = i := by simpa using hj
 exact wpOp_step ho (fun K hK => h K (Lib.hid (fun a' w' h1 h2 => hK a' w' ⟨h1, h2⟩)))
theorem wfr (i : Nat) {d : Tmp} {op : Op} {ty : TypeId} {pos : String} {aft : Array Edge} {gd : Option (Nat × Bool)} {v : Value} {fuel : Nat} {listed : Array Bool} {a : Act} {w : World} (hi : ops[i]? = some ⟨some d, op, ty, pos, aft, gd⟩)
  (hy : ∀ w, True → (execOp a.eval ⟨some d, op, ty, pos, aft, gd⟩).run P w = .ok (.value v) w) (h : wpAnyM P md ops Q S late fuel (listed.setIfInBounds i true) (a.put (some d) v) w)
  (hs : Region.noSelect ops = true := by kernel_rfl) (hf : Region.free md ops listed i = true := by kernel_rfl) (hr : (Region.ready md ops listed).contains i = true := by kernel_rfl)
  (hQ : ∀ c a w, Q (.panic c) (a.put (some d) v) w → Q (.panic c) a w := by exact fun _ _ _ h => h) (hw : Region.wanted ⟨some d, op, ty, pos, aft, gd⟩ (yielded ops a.tmps) = true := by rfl) :
  wpAnyM P md ops Q S late (fuel + 1) listed a w := wpAnyM_free i hi hs hf hr hQ (Or.inl ⟨hw, hy⟩) h
theorem wtk (i n : Nat) {d : Tmp} {op : Op} {ty : TypeId} {pos : String} {aft : Array Edge} {gd : Option (Nat × Bool)} {v : Value} {fuel : Nat} {listed : Array Bool} {a : Act} {w : World} (hi : ops[i]? = some ⟨some d, op, ty, pos, aft, gd⟩)
  (hy : ∀ w, S w → (execOp a.eval ⟨some d, op, ty, pos, aft, gd⟩).run P w = .ok (.value v) w) (hS : S w) (h : wpAnyM P md ops Q S late fuel (listed.setIfInBounds i true) (a.put (some d) v) w)
  (hs : Region.noSelect ops = true := by kernel_rfl) (hf : Region.free md ops listed i = true := by kernel_rfl) (hr : (Region.ready md ops listed).contains i = true := by kernel_rfl)
  (hl : late.all (fun l => waitsN' md ops n l i) = true := by kernel_rfl) (hcl : closedB' md ops listed = true := by kernel_rfl)
  (hQ : ∀ c a w, Q (.panic c) (a.put (some d) v) w → Q (.panic c) a w := by exact fun _ _ _ h => h) (hw : Region.wanted ⟨some d, op, ty, pos, aft, gd⟩ (yielded ops a.tmps) = true := by rfl) :
  wpAnyM P md ops Q S late (fuel + 1) listed a w := wpAnyM_take i n hi hs hf hr hl hcl hQ (Or.inl ⟨hw, hy⟩) hS h
theorem won (i : Nat) {d : Option Tmp} {op : Op} {ty : TypeId} {pos : String} {aft : Array Edge} {gd : Option (Nat × Bool)} {fuel : Nat} {listed : Array Bool} {a : Act} {w : World} (ho : ops[i]? = some ⟨d, op, ty, pos, aft, gd⟩)
  (h : ∀ K : Act → World → Prop, RowKit.Hid (∀ a' w', (late.contains i = false → S w → S w') → wpAnyM P md ops Q S late fuel (listed.setIfInBounds i true) a' w' → K a' w') → if Region.wanted ⟨d, op, ty, pos, aft, gd⟩ (yielded ops a.tmps) = true then Oper.wp P ⟨d, op, ty, pos, aft, gd⟩ a w K Q else K (a.put d undef) w)
  (hr : Region.ready md ops listed = [i] := by kernel_rfl) : wpAnyM P md ops Q S late (fuel + 1) listed a w := wpAnyM_one i ho hr h
theorem wpAnyM_done {listed : Array Bool} {a : Act} {w : World} (hr : Region.ready md ops listed = []) (h : Q .normal a w) : ∀ fuel, wpAnyM P md ops Q S late fuel listed a w
 | 0 => ⟨hr, h⟩
 | _ + 1 => ⟨fun _ => h, by rw [hr]; simp⟩
theorem wp_region_keep (S : World → Prop) (late : List Nat) {id : Nat} {a : Act} {w : World} (hm : P.follows .mixedOrders = true)
  (h : wpAnyM P .any ops Q S late ops.size (Array.replicate ops.size false) a w.drew) : (Code.region id ops true).wp P Q a w :=
 wp_region_any hm (wpAny_of_keep _ _ _ _ h)
end
end
section
open Go.RowKit
section
variable {P : Program} {ops : Array Oper} {Q : Exit → Act → World → Prop} {S : World → Prop}
theorem wpk {id : Nat} {a : Act} {w : World} (hs : RowKit.Hid (∀ w', Below w.heap.size w w' → S w')) (late : List Nat) (hm : P.follows .mixedOrders = true)
  (h : Below w.heap.size w w.drew → S w.drew → wpAnyM P .any ops Q S late ops.size (Array.replicate ops.size false) a w.drew) : (Code.region id ops true).wp P Q a w :=
 wp_region_keep S late hm (h (Below.drew (Below.refl _ _)) (hs.out _ (Below.drew (Below.refl _ _))))
end
end
end Go.Proofs.YtldcbapjiflblaaDoor
