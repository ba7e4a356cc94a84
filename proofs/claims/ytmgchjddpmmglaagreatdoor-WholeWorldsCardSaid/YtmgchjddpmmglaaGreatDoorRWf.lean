/-
  An event's six cells in memory: the build, the store and the load of a whole event as one rule of the walk each. No conditions.
  The walks of layer 7 (event): an event of four words; whether an event may be, in the program and in the reference. Conditions: unicode/utf8's two tables, and event.words, hold what their initialisers lay; texts of at most 1,000,000 bytes.
  A region that draws its order, some of whose operations wait for all that read: one condition on the world serves till those. No conditions.
-/
import Derived.Deep.MidRow
import Derived.Test.YtmgchjddpmmglaaGreatDoorRWc
import Derived.Laws.IdiomStrings
import Derived.Shelf.SlGeneric
import Derived.Shelf.Unicode.ValidAny
import Derived.Deep.DeepCutAuto
import Derived.OrdersHeld
namespace Go.Proofs.YtmgchjddpmmglaaGreatDoor
section
open Go.RowKit
theorem store_ev (w : World) (b : Nat) (k vk n ln : Int) (s key : ByteArray) (h : w.there b 0 6) : (Instr.storeAt 123 (.pointer (some ⟨b, 0, none⟩)) (.agg #[.int .i64 k, .string s, .string key, .int .i64 vk, .int .i64 n, .int .i64 ln])).run Tryz.prog w = .ok () ((((((w.setCell ⟨b, 0, none⟩ (.int .i64 k)).setCell ⟨b, 1, none⟩ (.string s)).setCell ⟨b, 2, none⟩ (.string key)).setCell ⟨b, 3, none⟩ (.int .i64 vk)).setCell ⟨b, 4, none⟩ (.int .i64 n)).setCell ⟨b, 5, none⟩ (.int .i64 ln)) :=
 run_storeAt_mid (P := Tryz.prog) w b 0 123 #[.int .i64 k, .string s, .string key, .int .i64 vk, .int .i64 n, .int .i64 ln] h (by kernel_rfl) (by simp [Value.oneCell'])
theorem free_blk {w : World} {g : Nat} {t : TypeId} {C : Array Value} (h : w.heap[g]? = some (.cells C t (0, 0))) (i : Nat) : w.frozen? ⟨g, i, none⟩ = false := by simp [World.frozen?, h]
theorem storeVar_ev (w : World) (b : Nat) (k vk n ln : Int) (s key : ByteArray) (h : w.there b 0 6) : (storeVar 123 ⟨b, 0, none⟩ (.agg #[.int .i64 k, .string s, .string key, .int .i64 vk, .int .i64 n, .int .i64 ln])).run Tryz.prog w = .ok () ((((((w.setCell ⟨b, 0, none⟩ (.int .i64 k)).setCell ⟨b, 1, none⟩ (.string s)).setCell ⟨b, 2, none⟩ (.string key)).setCell ⟨b, 3, none⟩ (.int .i64 vk)).setCell ⟨b, 4, none⟩ (.int .i64 n)).setCell ⟨b, 5, none⟩ (.int .i64 ln)) :=
 run_storeVar_mid (P := Tryz.prog) w b 0 123 #[.int .i64 k, .string s, .string key, .int .i64 vk, .int .i64 n, .int .i64 ln] h (by kernel_rfl) (by simp [Value.oneCell'])
theorem there_new (w : World) (t : TypeId) (a0 a1 a2 a3 a4 a5 : Value) : (w.alloc (.cells #[a0, a1, a2, a3, a4, a5] t)).there w.heap.size 0 6 := by
 intro j hj
 have hb := heap_alloc_new w (.cells #[a0, a1, a2, a3, a4, a5] t)
 rw [Nat.zero_add]
 refine ⟨?_, free_blk hb j⟩
 rw [cell_of_row _ w.heap.size j _ _ (0, 0) hb]
 match j, hj with
 | 0, _ => rfl
 | 1, _ => rfl
 | 2, _ => rfl
 | 3, _ => rfl
 | 4, _ => rfl
 | 5, _ => rfl
theorem there_later {w w' : World} {b o n : Nat} (h : w.there b o n) (hb : Below w.heap.size w w') : w'.there b o n := by
 intro j hj
 obtain ⟨h1, h2⟩ := h j hj
 obtain ⟨v, hv⟩ := Option.isSome_iff_exists.1 h1
 have hl := World.block_lt_of_cell? w _ hv
 rw [hb.cell hl, hb.frozen hl]
 exact ⟨h1, h2⟩
theorem there_past {w : World} {b o n : Nat} (h : w.there b o n) : ∀ ob, (w.alloc ob).there b o n := fun ob => World.there_alloc h ob
theorem there_set {w : World} {b o n : Nat} (h : w.there b o n) (a : Addr) (v : Value) : (w.setCell a v).there b o n := by
 intro j hj
 obtain ⟨h1, h2⟩ := h j hj
 obtain ⟨u, hu⟩ := Option.isSome_iff_exists.1 h1
 obtain ⟨u', hu'⟩ := cell?_setCell_some (w := w) (p := a) (x := v) (q := ⟨b, o + j, none⟩) (v := u) hu
 exact ⟨by rw [hu']; rfl, by rw [World.frozen?_setCell]; exact h2⟩
theorem range_ev (w : World) (b : Nat) (k vk n ln : Int) (s key : ByteArray) (h : w.there b 0 6) : ((((((w.setCell ⟨b, 0, none⟩ (.int .i64 k)).setCell ⟨b, 1, none⟩ (.string s)).setCell ⟨b, 2, none⟩ (.string key)).setCell ⟨b, 3, none⟩ (.int .i64 vk)).setCell ⟨b, 4, none⟩ (.int .i64 n)).setCell ⟨b, 5, none⟩ (.int .i64 ln)).rangeAt b 0 [.int .i64 k, .string s, .string key, .int .i64 vk, .int .i64 n, .int .i64 ln] :=
 World.rangeAt_setCells_same w b 0 [.int .i64 k, .string s, .string key, .int .i64 vk, .int .i64 n, .int .i64 ln] h
theorem load_ev (w : World) (b : Nat) (k vk n ln : Int) (s key : ByteArray) (h : w.there b 0 6) : (Instr.loadAt 123 (.pointer (some ⟨b, 0, none⟩))).run Tryz.prog ((((((w.setCell ⟨b, 0, none⟩ (.int .i64 k)).setCell ⟨b, 1, none⟩ (.string s)).setCell ⟨b, 2, none⟩ (.string key)).setCell ⟨b, 3, none⟩ (.int .i64 vk)).setCell ⟨b, 4, none⟩ (.int .i64 n)).setCell ⟨b, 5, none⟩ (.int .i64 ln)) = .ok (.agg #[.int .i64 k, .string s, .string key, .int .i64 vk, .int .i64 n, .int .i64 ln]) ((((((w.setCell ⟨b, 0, none⟩ (.int .i64 k)).setCell ⟨b, 1, none⟩ (.string s)).setCell ⟨b, 2, none⟩ (.string key)).setCell ⟨b, 3, none⟩ (.int .i64 vk)).setCell ⟨b, 4, none⟩ (.int .i64 n)).setCell ⟨b, 5, none⟩ (.int .i64 ln)) :=
 run_loadAt_mid _ b 0 123 [.int .i64 k, .string s, .string key, .int .i64 vk, .int .i64 n, .int .i64 ln] _ (range_ev w b k vk n ln s key h) Tryz.underlying123 rfl (by kernel_rfl)
theorem loadVar_ev (w : World) (b : Nat) (k vk n ln : Int) (s key : ByteArray) (h : w.there b 0 6) : (loadVar 123 ⟨b, 0, none⟩).run Tryz.prog ((((((w.setCell ⟨b, 0, none⟩ (.int .i64 k)).setCell ⟨b, 1, none⟩ (.string s)).setCell ⟨b, 2, none⟩ (.string key)).setCell ⟨b, 3, none⟩ (.int .i64 vk)).setCell ⟨b, 4, none⟩ (.int .i64 n)).setCell ⟨b, 5, none⟩ (.int .i64 ln)) = .ok (.agg #[.int .i64 k, .string s, .string key, .int .i64 vk, .int .i64 n, .int .i64 ln]) ((((((w.setCell ⟨b, 0, none⟩ (.int .i64 k)).setCell ⟨b, 1, none⟩ (.string s)).setCell ⟨b, 2, none⟩ (.string key)).setCell ⟨b, 3, none⟩ (.int .i64 vk)).setCell ⟨b, 4, none⟩ (.int .i64 n)).setCell ⟨b, 5, none⟩ (.int .i64 ln)) :=
 run_loadVar_mid _ b 0 123 [.int .i64 k, .string s, .string key, .int .i64 vk, .int .i64 n, .int .i64 ln] _ (range_ev w b k vk n ln s key h) Tryz.underlying123 rfl (by kernel_rfl)
theorem below_setCells {B : Nat} {w w' : World} (h : Below B w w') {b : Nat} (hb : B ≤ b) : ∀ (vs : List Value) (o : Nat), Below B w (w'.setCells b o vs)
 | [], _ => h
 | v :: vs, o => below_setCells (h.setCell (p := ⟨b, o, none⟩) hb v) hb vs (o + 1)
theorem there_set' {w : World} {b n : Nat} {a : Addr} {v : Value} (h : w.there b 0 n) : (w.setCell a v).there b 0 n ↔ True := iff_true_intro (there_set h a v)
end
section
open Go.RowKit
theorem valued_cases (k : Int) (s key t : List UInt8) : (∃ a b c, vParse t = (a, b, c) ∧ (c != 0) = true ∧ valuedE k s key t = (noEv, c)) ∨
  (∃ b, k = 3 ∧ vParse t = (0, b, 0) ∧ valuedE k s key t = (noEv, 11)) ∨ (∃ b, k = 3 ∧ vParse t = (2, b, 0) ∧ valuedE k s key t = (noEv, 5)) ∨
  (∃ a b, vParse t = (a, b, 0) ∧ (k == 3) = false ∧ valuedE k s key t = ((k, s, key, a, b, 0), 0)) ∨
  (∃ a b, k = 3 ∧ vParse t = (a, b, 0) ∧ (a == 0) = false ∧ (a == 2) = false ∧ valuedE k s key t = ((k, s, key, a, b, 0), 0)) := by
 obtain ⟨a, b, c, hp⟩ : ∃ a b c, vParse t = (a, b, c) := ⟨_, _, _, rfl⟩
 unfold valuedE
 rw [hp]
 by_cases hc : c = 0
 ·subst hc
  rw [if_neg (by simp)]
  by_cases hk : k = 3
  ·by_cases h0 : a = 0
   ·subst h0
    exact .inr (.inl ⟨b, hk, rfl, by rw [if_pos ⟨hk, rfl⟩]⟩)
   ·by_cases h2 : a = 2
    ·subst h2
     exact .inr (.inr (.inl ⟨b, hk, rfl, by rw [if_neg (fun h => h0 h.2), if_pos ⟨hk, rfl⟩]⟩))
    ·exact .inr (.inr (.inr (.inr ⟨a, b, hk, rfl, by simpa using h0, by simpa using h2, by rw [if_neg (fun h => h0 h.2), if_neg (fun h => h2 h.2)]⟩)))
  ·exact .inr (.inr (.inr (.inl ⟨a, b, rfl, by simpa using hk, by rw [if_neg (fun h => hk h.1), if_neg (fun h => hk h.1)]⟩)))
 ·exact .inl ⟨a, b, c, rfl, by simpa using hc, by rw [if_pos hc]⟩
section
attribute [local go_sem ↓] store_ev
set_option maxRecDepth 100000 in
set_option maxHeartbeats 2000000 in
theorem valued_any (k : Int) (s key t : List UInt8) (ht : t.length ≤ 9223372036854775806) (w : World) :
  Calls Tryz.prog 158 #[.int .i64 k, .string (bs s), .string (bs key), .string (bs t)] w fun e w' => e = .returned (.tuple #[evV (valuedE k s key t).1, .int .i64 (valuedE k s key t).2]) ∧ Below w.heap.size w w' := by
 have T0 := Lib.hid (there_new w 123 (.int .i64 0) (.string { data := #[] }) (.string { data := #[] }) (.int .i64 0) (.int .i64 0) (.int .i64 0))
 rcases valued_cases k s key t with ⟨a, b, c, hp, hc, h⟩ | ⟨b, rfl, hp, h⟩ | ⟨b, rfl, hp, h⟩ | ⟨a, b, hp, hk, h⟩ | ⟨a, b, rfl, hp, h0, h2, h⟩
 all_goals
  have HV := Lib.hid (vparse_of t _ _ _ ht hp)
  rw [h]
  clear h hp
  go_enter Tryz.func158, Tryz.ntmps158
  go_wp2_with (fail)
  refine (HV.out _).mono ?_
  rintro e w1 ⟨rfl, hb1⟩
  obtain ⟨hc1, hf1⟩ := bcell hb1
  have hz1 := hb1.size
  try simp at hz1
  have hl1_0 : w.heap.size < w1.heap.size := by omega
  have hl1_0_1 : w.heap.size < w1.heap.size + 1 := by omega
  have th := there_past (there_later T0.out hb1)
  go_wp21
  refine bodyPost_ret ?_ rfl ⟨rfl, ?_⟩
  ·simp [results, Tryz.results158, go_sem, hc1, hl1_0, evV, noEv]
   try rfl
  ·exact bes
end
end
section
open Go.RowKit
section
variable {P : Program} {ops : Array Oper} {Q : Exit → Act → World → Prop} {md : Region.Mode} {S : World → Prop} {late : List Nat}
def wpAnyL (P : Program) (md : Region.Mode) (ops : Array Oper) (Q : Exit → Act → World → Prop) (S : World → Prop) (late : List Nat) : Nat → Array Bool → Act → World → Prop
 | 0, listed, a, w => Region.ready md ops listed = [] ∧ Q .normal a w
 | fuel + 1, listed, a, w =>
  (Region.ready md ops listed = [] → Q .normal a w) ∧
  ∀ i ∈ Region.ready md ops listed, wpOp P ops Q i (fun a' w' => (late.contains i = false → S w') ∧ wpAnyL P md ops Q S late fuel (listed.setIfInBounds i true) a' w') a w
theorem wpAny_of_late : ∀ (fuel : Nat) (listed : Array Bool) (a : Act) (w : World), wpAnyL P md ops Q S late fuel listed a w → wpAny P md ops Q fuel listed a w
 | 0, _, _, _, h => h
 | fuel + 1, _, _, _, h => ⟨h.1, fun i hi => wpOp_mono (fun a' w' h' => wpAny_of_late fuel _ a' w' h'.2) (h.2 i hi)⟩
def waitsN (md : Region.Mode) (ops : Array Oper) : Nat → Nat → Nat → Bool
 | 0, _, _ => false
 | n + 1, l, i => match ops[l]? with
  | some o => o.after.any fun e => Region.binds md e && (e.on == i || waitsN md ops n e.on i)
  | none => false
def closedB (md : Region.Mode) (ops : Array Oper) (listed : Array Bool) : Bool := (List.range ops.size).all fun j => !listed.getD j true || match ops[j]? with
 | some o => o.after.all fun e => !Region.binds md e || listed.getD e.on true
 | none => true
def Closed (md : Region.Mode) (ops : Array Oper) (listed : Array Bool) : Prop := ∀ j o, ops[j]? = some o → listed.getD j true = true → ∀ e ∈ o.after, Region.binds md e = true → listed.getD e.on true = true
theorem closed_of {listed : Array Bool} (h : closedB md ops listed = true) : Closed md ops listed := by
 intro j o ho hj e he hb
 have hlt : j < ops.size := (Array.getElem?_eq_some_iff.1 ho).1
 have h1 := List.all_eq_true.1 h j (List.mem_range.2 hlt)
 simp only [hj, Bool.not_true, Bool.false_or, ho] at h1
 have h2 := Array.all_eq_true_iff_forall_mem.1 h1 e he
 simpa [hb] using h2
theorem ready_on {listed : Array Bool} {j : Nat} {o : Oper} (hj : j ∈ Region.ready md ops listed) (ho : ops[j]? = some o) : ∀ e ∈ o.after, Region.binds md e = true → listed.getD e.on true = true := by
 intro e he hb
 obtain ⟨-, o', ho', hall⟩ := mem_ready.1 hj
 obtain rfl := Option.some.inj (ho.symm.trans ho')
 have h1 := hall e he hb
 rcases Nat.lt_or_ge e.on listed.size with h' | h'
 ·simp [h'] at h1 ⊢; exact h1
 ·simp [Array.getElem?_eq_none h'] at h1
theorem Closed.next {listed : Array Bool} (h : Closed md ops listed) {j : Nat} (hj : j ∈ Region.ready md ops listed) : Closed md ops (listed.setIfInBounds j true) := by
 have up : ∀ k, listed.getD k true = true → (listed.setIfInBounds j true).getD k true = true := by
  intro k hk
  by_cases hjk : j = k
  ·subst hjk
   rcases Nat.lt_or_ge j listed.size with h' | h'
   ·simp [h']
   ·simp
  ·rw [getD_set_ne true hjk]; exact hk
 intro k o ho hk e he hb
 apply up
 by_cases hjk : j = k
 ·subst hjk
  exact ready_on hj ho e he hb
 ·rw [getD_set_ne true hjk] at hk
  exact h k o ho hk e he hb
theorem waits_open {i : Nat} {listed : Array Bool} (hc : Closed md ops listed) (hi : listed.getD i true = false) : ∀ n l, waitsN md ops n l i = true → listed.getD l true = false ∧ l ∉ Region.ready md ops listed
 | 0, _, h => by cases h
 | n + 1, l, h => by
  unfold waitsN at h
  split at h
  ·rename_i o ho
   obtain ⟨e, he, hb⟩ := Array.any_eq_true'.1 h
   simp only [Bool.and_eq_true, Bool.or_eq_true, beq_iff_eq] at hb
   have hne : listed.getD e.on true = false := by
    rcases hb.2 with h1 | h1
    ·rw [h1]; exact hi
    ·exact (waits_open hc hi n e.on h1).1
   constructor
   ·cases hl : listed.getD l true with
    | false => rfl
    | true => rw [hc l o ho hl e he hb.1] at hne; cases hne
   ·intro hr
    rw [ready_on hr ho e he hb.1] at hne
    cases hne
  ·cases h
theorem wpAnyL_first {i n : Nat} {oi : Oper} {v : Value} (hi : ops[i]? = some oi) (hsel : ∀ (j : Nat) (o : Oper) cs b, ops[j]? = some o → o.op ≠ .select cs b)
  (hQ : ∀ c a w, Q (.panic c) (a.put oi.dst v) w → Q (.panic c) a w) (hw : late.all (fun l => waitsN md ops n l i) = true) :
  ∀ (fuel : Nat) (listed : Array Bool) (a : Act) (w : World), Closed md ops listed →
   (∀ j oj, ops[j]? = some oj → j ≠ i → listed.getD j true = false → (∀ e ∈ oj.after, Region.binds md e = true → e.on ≠ i) → oi.apart ops oj = true) →
   i ∈ Region.ready md ops listed → YieldsIf P ops S oi v a → S w →
   wpAnyL P md ops Q S late fuel (listed.setIfInBounds i true) (a.put oi.dst v) w → wpAnyL P md ops Q S late (fuel + 1) listed a w := by
 intro fuel
 induction fuel with
 | zero =>
  intro listed a w _ _ hr hy hS H
  refine ⟨fun h => (by rw [h] at hr; cases hr), fun j hj => ?_⟩
  by_cases hji : j = i
  ·subst hji; exact hy.wpOp hi hS ⟨fun _ => hS, H⟩
  ·have := ready_mono hj hji
   rw [H.1] at this
   cases this
 | succ fuel ih =>
  intro listed a w hcl hfree hr hy hS H
  refine ⟨fun h => (by rw [h] at hr; cases hr), fun j hj => ?_⟩
  by_cases hji : j = i
  ·subst hji; exact hy.wpOp hi hS ⟨fun _ => hS, H⟩
  ·have hjl : late.contains j = false := by
    cases hc : late.contains j with
    | false => rfl
    | true =>
     have hm : j ∈ late := by simpa using hc
     exact absurd hj (waits_open hcl (mem_ready.1 hr).1 n j (List.all_eq_true.1 hw j hm)).2
   have h1 := H.2 j (ready_mono hj hji)
   obtain ⟨hjun, oj, hoj, hall⟩ := mem_ready.1 hj
   have hnot : ∀ e ∈ oj.after, Region.binds md e = true → e.on ≠ i := fun e he hb heq => by
    have h1 := hall e he hb
    have h0 := (mem_ready.1 hr).1
    rw [heq] at h1
    rcases Nat.lt_or_ge i listed.size with h' | h'
    ·simp [h'] at h0 h1; rw [h0] at h1; cases h1
    ·simp [Array.getElem?_eq_none h'] at h1
   have h2 := wpOp_putIf hoj (hfree j oj hoj hji hjun hnot) (fun cs b => hsel i oi cs b hi) (fun cs b => hsel j oj cs b hoj) hQ hy h1
   have hfree' : ∀ k ok, ops[k]? = some ok → k ≠ i → (listed.setIfInBounds j true).getD k true = false →
     (∀ e ∈ ok.after, Region.binds md e = true → e.on ≠ i) → oi.apart ops ok = true := fun k ok hk hki hun hno => by
    refine hfree k ok hk hki ?_ hno
    by_cases hjk : j = k
    ·subst hjk; exact hjun
    ·rw [getD_set_ne true hjk] at hun; exact hun
   refine wpOp_mono (fun a' w' h3 => ⟨fun _ => h3.2.1 hjl, ih (listed.setIfInBounds j true) a' w' (hcl.next hj) hfree' (ready_mono hr (Ne.symm hji)) h3.1 (h3.2.1 hjl) ?_⟩) h2
   rw [Array.setIfInBounds_comm _ _ hji]
   exact h3.2.2
theorem wpAnyL_loose {i : Nat} {oi : Oper} {v : Value} (hi : ops[i]? = some oi) (hsel : ∀ (j : Nat) (o : Oper) cs b, ops[j]? = some o → o.op ≠ .select cs b)
  (hQ : ∀ c a w, Q (.panic c) (a.put oi.dst v) w → Q (.panic c) a w) (hl : late.contains i = true) :
  ∀ (fuel : Nat) (listed : Array Bool) (a : Act) (w : World),
   (∀ j oj, ops[j]? = some oj → j ≠ i → listed.getD j true = false → (∀ e ∈ oj.after, Region.binds md e = true → e.on ≠ i) → oi.apart ops oj = true) →
   i ∈ Region.ready md ops listed → YieldsIf P ops (fun _ => True) oi v a →
   wpAnyL P md ops Q S late fuel (listed.setIfInBounds i true) (a.put oi.dst v) w → wpAnyL P md ops Q S late (fuel + 1) listed a w := by
 intro fuel
 induction fuel with
 | zero =>
  intro listed a w _ hr hy H
  refine ⟨fun h => (by rw [h] at hr; cases hr), fun j hj => ?_⟩
  by_cases hji : j = i
  ·subst hji; exact hy.wpOp hi trivial ⟨fun h => (by rw [hl] at h; cases h), H⟩
  ·have := ready_mono hj hji
   rw [H.1] at this
   cases this
 | succ fuel ih =>
  intro listed a w hfree hr hy H
  refine ⟨fun h => (by rw [h] at hr; cases hr), fun j hj => ?_⟩
  by_cases hji : j = i
  ·subst hji; exact hy.wpOp hi trivial ⟨fun h => (by rw [hl] at h; cases h), H⟩
  ·have h1 := H.2 j (ready_mono hj hji)
   obtain ⟨hjun, oj, hoj, hall⟩ := mem_ready.1 hj
   have hnot : ∀ e ∈ oj.after, Region.binds md e = true → e.on ≠ i := fun e he hb heq => by
    have h1 := hall e he hb
    have h0 := (mem_ready.1 hr).1
    rw [heq] at h1
    rcases Nat.lt_or_ge i listed.size with h' | h'
    ·simp [h'] at h0 h1; rw [h0] at h1; cases h1
    ·simp [Array.getElem?_eq_none h'] at h1
   have h2 := wpOp_putIf hoj (hfree j oj hoj hji hjun hnot) (fun cs b => hsel i oi cs b hi) (fun cs b => hsel j oj cs b hoj) hQ hy h1
   have hfree' : ∀ k ok, ops[k]? = some ok → k ≠ i → (listed.setIfInBounds j true).getD k true = false →
     (∀ e ∈ ok.after, Region.binds md e = true → e.on ≠ i) → oi.apart ops ok = true := fun k ok hk hki hun hno => by
    refine hfree k ok hk hki ?_ hno
    by_cases hjk : j = k
    ·subst hjk; exact hjun
    ·rw [getD_set_ne true hjk] at hun; exact hun
   refine wpOp_mono (fun a' w' h3 => ⟨h3.2.1, ih (listed.setIfInBounds j true) a' w' hfree' (ready_mono hr (Ne.symm hji)) h3.1 ?_⟩) h2
   rw [Array.setIfInBounds_comm _ _ hji]
   exact h3.2.2
theorem wpAnyL_free (i : Nat) {d : Tmp} {op : Op} {ty : TypeId} {pos : String} {aft : Array Edge} {gd : Option (Nat × Bool)} {v : Value} {fuel : Nat} {listed : Array Bool} {a : Act} {w : World} (hi : ops[i]? = some ⟨some d, op, ty, pos, aft, gd⟩)
  (hs : Region.noSelect ops = true) (hf : Region.free md ops listed i = true) (hr : (Region.ready md ops listed).contains i = true) (hl : late.contains i = true)
  (hQ : ∀ c a w, Q (.panic c) (a.put (some d) v) w → Q (.panic c) a w) (hy : YieldsIf P ops (fun _ => True) ⟨some d, op, ty, pos, aft, gd⟩ v a)
  (h : wpAnyL P md ops Q S late fuel (listed.setIfInBounds i true) (a.put (some d) v) w) : wpAnyL P md ops Q S late (fuel + 1) listed a w :=
 wpAnyL_loose hi (Region.noSelect_spec hs) hQ hl fuel listed a w (Region.free_spec hi hf) (by simpa using hr) hy h
theorem wpAnyL_take (i n : Nat) {d : Tmp} {op : Op} {ty : TypeId} {pos : String} {aft : Array Edge} {gd : Option (Nat × Bool)} {v : Value} {fuel : Nat} {listed : Array Bool} {a : Act} {w : World} (hi : ops[i]? = some ⟨some d, op, ty, pos, aft, gd⟩)
  (hs : Region.noSelect ops = true) (hf : Region.free md ops listed i = true) (hr : (Region.ready md ops listed).contains i = true) (hw : late.all (fun l => waitsN md ops n l i) = true) (hcl : closedB md ops listed = true)
  (hQ : ∀ c a w, Q (.panic c) (a.put (some d) v) w → Q (.panic c) a w) (hy : YieldsIf P ops S ⟨some d, op, ty, pos, aft, gd⟩ v a) (hS : S w)
  (h : wpAnyL P md ops Q S late fuel (listed.setIfInBounds i true) (a.put (some d) v) w) : wpAnyL P md ops Q S late (fuel + 1) listed a w :=
 wpAnyL_first hi (Region.noSelect_spec hs) hQ hw fuel listed a w (closed_of hcl) (Region.free_spec hi hf) (by simpa using hr) hy hS h
theorem wpAnyL_one (i : Nat) {d : Option Tmp} {op : Op} {ty : TypeId} {pos : String} {aft : Array Edge} {gd : Option (Nat × Bool)} {fuel : Nat} {listed : Array Bool} {a : Act} {w : World} (ho : ops[i]? = some ⟨d, op, ty, pos, aft, gd⟩) (hr : Region.ready md ops listed = [i])
  (h : ∀ K : Act → World → Prop, RowKit.Hid (∀ a' w', (late.contains i = false → S w') → wpAnyL P md ops Q S late fuel (listed.setIfInBounds i true) a' w' → K a' w') → if Region.wanted ⟨d, op, ty, pos, aft, gd⟩ (yielded ops a.tmps) = true then Oper.wp P ⟨d, op, ty, pos, aft, gd⟩ a w K Q else K (a.put d undef) w) : wpAnyL P md ops Q S late (fuel + 1) listed a w := by
 refine ⟨fun h0 => (by rw [hr] at h0; cases h0), fun j hj => ?_⟩
 rw [hr] at hj
 obtain rfl : j = i := by simpa using hj
 exact wpOp_step ho (fun K hK => h K (Lib.hid (fun a' w' h1 h2 => hK a' w' ⟨h1, h2⟩)))
theorem wpAnyL_done {listed : Array Bool} {a : Act} {w : World} (hr : Region.ready md ops listed = []) (h : Q .normal a w) : ∀ fuel, wpAnyL P md ops Q S late fuel listed a w
 | 0 => ⟨hr, h⟩
 | _ + 1 => ⟨fun _ => h, by rw [hr]; simp⟩
theorem wp_region_late (S : World → Prop) (late : List Nat) {id : Nat} {a : Act} {w : World} (hm : P.follows .mixedOrders = true)
  (h : wpAnyL P .any ops Q S late ops.size (Array.replicate ops.size false) a w.drew) : (Code.region id ops true).wp P Q a w :=
 wp_region_any hm (wpAny_of_late _ _ _ _ h)
end
end
end Go.Proofs.YtmgchjddpmmglaaGreatDoor
