/-
  slices.Backward at a transaction's operations: what it hands on to any loop's body that keeps what lay; in plain words which one is met first. No conditions.
-/
import Derived.Test.YtmgchjddpmmglaaGreatDoorQxInP
namespace Go.Proofs.YtmgchjddpmmglaaGreatDoor
open Go.RowKit Go.Shelf Go.Lib
abbrev ItemB := Nat × OpM
def encB (x : ItemB) : Array Value := #[.int .i64 (x.1 : Nat), .agg #[.bool x.2.1, .int .i64 x.2.2.1, .int .i64 x.2.2.2.1, .int .i64 x.2.2.2.2]]
def itB (l : List OpM) (k : Nat) : List ItemB := (List.range k).map fun j => (l.length - 1 - j, l.getD (l.length - 1 - j) noOp)
theorem itB_succ (l : List OpM) (k : Nat) : itB l (k + 1) = itB l k ++ [(l.length - 1 - k, l.getD (l.length - 1 - k) noOp)] := by simp [itB, List.range_succ]
theorem itB_len (l : List OpM) (k : Nat) : (itB l k).length = k := by simp [itB]
theorem itB_prefix (l : List OpM) (k m : Nat) (h : k ≤ m) : itB l k <+: itB l m := by
 induction m with
 | zero =>
  obtain rfl : k = 0 := by omega
  exact List.prefix_rfl
 | succ m ih =>
  by_cases hk : k ≤ m
  ·rw [itB_succ]
   exact (ih hk).trans (List.prefix_append _ _)
  ·obtain rfl : k = m + 1 := by omega
   exact List.prefix_rfl
theorem itB_take (l : List OpM) (pre : List ItemB) (h : pre <+: itB l l.length) : pre = itB l pre.length := by
 have h1 := itB_prefix l pre.length l.length (by have := h.length_le; rwa [itB_len] at this)
 exact (List.prefix_of_prefix_length_le h h1 (by rw [itB_len]; exact Nat.le_refl _)).eq_of_length (by rw [itB_len])
theorem raw_skip (key : Int) (l : List OpM) : ∀ k, k ≤ l.length → (∀ x ∈ itB l k, wrO key x.2 = false) → rawO key l = rawO key (l.take (l.length - k))
 | 0, _, _ => by rw [Nat.sub_zero, List.take_length]
 | k + 1, hk, h => by
  rw [raw_skip key l k (by omega) (fun x hx => h x (by rw [itB_succ]; exact List.mem_append_left _ hx))]
  have e : l.length - k = (l.length - (k + 1)) + 1 := by omega
  have h2 := h (l.length - 1 - k, l.getD (l.length - 1 - k) noOp) (by rw [itB_succ]; simp)
  rw [show l.length - 1 - k = l.length - (k + 1) by omega] at h2
  rw [e, raw_next key l _ (by omega), if_neg (by rw [h2]; exact Bool.false_ne_true)]
theorem raw_none (key : Int) (l : List OpM) (h : ∀ x ∈ itB l l.length, wrO key x.2 = false) : rawO key l = noGot := by
 rw [raw_skip key l l.length (Nat.le_refl _) h, Nat.sub_self, List.take_zero, raw_nil]
theorem raw_hit (key : Int) (l : List OpM) (pre : List ItemB) (x : ItemB) (hp : pre ++ [x] <+: itB l l.length) (h : ∀ y ∈ pre, wrO key y.2 = false) (hx : wrO key x.2 = true) : rawO key l = (x.2.2.2, true) := by
 have e := itB_take l _ hp
 have hl := hp.length_le
 rw [List.length_append, List.length_singleton, itB_len] at hl
 rw [List.length_append, List.length_singleton, itB_succ] at e
 obtain ⟨e1, e2⟩ := List.append_inj' e rfl
 injection e2 with e2
 rw [e1] at h
 rw [raw_skip key l pre.length (by omega) h]
 have e3 : l.length - pre.length = (l.length - 1 - pre.length) + 1 := by omega
 rw [e3, raw_next key l _ (by omega)]
 rw [e2] at hx ⊢
 rw [if_pos hx]
attribute [local go_sem] Oper.semAt_some
set_option maxHeartbeats 1000000 in
theorem back_in (F : Fence) (n : Nat) (hF : F.fn 139) (hro : F.round = none) (p : Option Addr) (m c : Nat) (w : World) :
  CallsIn F n Tryz.prog 139 #[.slice p m c] w fun e w' => e = .returned (.func (.func 185) #[] #[.pointer (some ⟨w.heap.size, 0, none⟩)]) ∧ w' = w.alloc (.cells #[.slice p m c] 45) := by
 refine callsIn_of_wp Tryz.func139 rfl hF ?_ hro
 simp only [Tryz.ntmps139, List.size_toArray, List.length_cons, List.length_nil, Nat.reduceAdd, Nat.reduceSub, Array.replicate_succ, Array.replicate_zero, List.push_toArray, List.append_toArray, List.nil_append, List.cons_append]
 gi_wp2
 go_ret
 exact ⟨rfl, rfl⟩
set_option maxRecDepth 100000 in
set_option maxHeartbeats 4000000 in
theorem back1_in (F : Fence) (n : Nat) (hF : F.fn 185) (hro : F.round = none) (hn : 1 ≤ n) (l B : Nat) (w0 : World) (p : Option Addr) (c : Nat) (L : List OpM) (hL : L.length ≤ 1000) (ho : HasOps w0 p L)
  (J Jx : List ItemB → World → Prop)
  (hA : ∀ pre W o, J pre W → J pre (W.alloc o))
  (hY : ∀ pre x W, J pre W → pre ++ [x] <+: itB L L.length → YieldAt F (n - 1) Tryz.prog l (encB x) W fun e W' =>
   (e = .returned (.bool true) ∧ J (pre ++ [x]) W' ∧ Below w0.heap.size W W') ∨ (e = .returned (.bool false) ∧ Jx (pre ++ [x]) W'))
  (W : World) (hbW : Below w0.heap.size w0 W) (h3 : W.cell? ⟨B, 0, none⟩ = some (.slice p L.length c)) (hfr : ∀ W', Below w0.heap.size w0 W' → W'.cell? ⟨B, 0, none⟩ = some (.slice p L.length c)) (h0 : J [] W) :
  CallsIn F n Tryz.prog 185 #[.func (.yield l) #[] #[], .pointer (some ⟨B, 0, none⟩)] W fun e W' => (∃ v, e = .returned v) ∧
   ((∃ ys, ys = itB L L.length ∧ J ys W') ∨ (∃ pre, pre <+: itB L L.length ∧ Jx pre W')) := by
 have HX := Lib.hid ho
 have HY := Lib.hid hY
 have HA := Lib.hid hA
 have HFR := Lib.hid hfr
 clear ho hY hA hfr
 refine callsIn_of_wp Tryz.func185 rfl hF ?_ hro
 simp only [Tryz.ntmps185, List.size_toArray, List.length_cons, List.length_nil, Nat.reduceAdd, Nat.reduceSub, Array.replicate_succ, Array.replicate_zero, List.push_toArray, List.append_toArray, List.nil_append, List.cons_append]
 have e0 : IntKind.i64.wrap ((L.length : Int) - 1) = (L.length : Int) - 1 := by rw [IntKind.wrap_i64]; omega
 gi_wp2
 gi_loopw [3] (fun i wr => ∃ k : Nat, k ≤ L.length ∧ i = .int .i64 ((L.length : Int) - 1 - k) ∧ J (itB L k) wr ∧ Below w0.heap.size w0 wr) (fun i _ => (RowKit.intOf i + 1).toNat)
 case atStart => exact ⟨0, Nat.zero_le _, by simp, by simpa [itB] using h0, hbW⟩
 case round =>
  obtain ⟨k, hk, rfl, hJk, hbk⟩ := hrel
  have y3 := HFR.out _ hbk
  by_cases hlt : k < L.length
  ·obtain ⟨g2, rfl, b1, b2, b3, b4⟩ := HX.out (L.length - 1 - k) (by omega)
   have b1' := cell_later hbk b1
   have b2' := cell_later hbk b2
   have b3' := cell_later hbk b3
   have b4' := cell_later hbk b4
   have HS2 := Lib.hid (itB_succ L k)
   have hpf := itB_prefix L (k + 1) L.length hlt
   have ei : ((L.length : Int) - 1 - k) = ((L.length - 1 - k : Nat) : Int) := by omega
   obtain ⟨j, hj⟩ : ∃ j, L.length - 1 - k = j := ⟨_, rfl⟩
   rw [hj] at b1' b2' b3' b4' HS2 ei
   rw [ei]
   obtain ⟨o, ho⟩ : ∃ o, L.getD j noOp = o := ⟨_, rfl⟩
   rw [ho] at b1' b2' b3' b4' HS2
   rw [HS2.out] at hpf
   obtain ⟨ow, ok, od, on⟩ := o
   simp only at b1' b2' b3' b4' HS2 hpf
   have HPf := Lib.hid hpf
   have EI := Lib.hid ei
   have HJ := Lib.hid hj
   clear b1 b2 b3 b4 ho
   have hjl : j < L.length := by omega
   have hge : decide ((0 : Int) ≤ (j : Int)) = true := decide_eq_true (by omega)
   have ew : IntKind.i64.wrap ((j : Int) - 1) = (j : Int) - 1 := by rw [IntKind.wrap_i64]; omega
   obtain ⟨fn, tmps, assign, body, hy, hR⟩ := HY.out _ (j, (ow, ok, od, on)) wr hJk hpf
   simp only [encB] at hy
   clear hpf ei hj
   gi_wp2
   refine hR.mono ?_
   rintro e W3 (⟨rfl, hJ3, hk3⟩ | ⟨rfl, hJx3⟩)
   ·gi_wp2
    go_roundw
    case rel => exact ⟨k + 1, by omega, by have h1 := EI.out; go_num, by rw [HS2.out]; exact hJ3, hbk.trans hk3⟩
    case measure => simp [RowKit.intOf]
   ·gi_wp2
    refine bodyPost_ret (results_none rfl _ _ _) rfl ?_
    exact ⟨⟨_, rfl⟩, .inr ⟨_, HPf.out, hJx3⟩⟩
  ·obtain rfl : k = L.length := by omega
   have hge : decide ((0 : Int) ≤ (L.length : Int) - 1 - (L.length : Nat)) = false := decide_eq_false (by omega)
   gi_wp2
   go_end0
   exact ⟨⟨_, rfl⟩, .inl ⟨_, rfl, hJk⟩⟩
theorem itB_mem_prefix {a : List ItemB} {x : ItemB} {b : List ItemB} (h : a ++ [x] <+: b) : x ∈ b := h.subset (by simp)
theorem back_stops (F : Fence) (n : Nat) (hF : F.fn 185) (hro : F.round = none) (hn : 1 ≤ n) (B : Nat) (w : World) (p : Option Addr) (c : Nat) (L : List OpM) (hL : L.length ≤ 1000) (ho : HasOps w p L) (h3 : w.cell? ⟨B, 0, none⟩ = some (.slice p L.length c)) :
  SeqStopsK F n Tryz.prog 185 #[.pointer (some ⟨B, 0, none⟩)] encB (Below w.heap.size) (fun ys => ys = itB L L.length) (fun pre => pre <+: itB L L.length) (itB L L.length).length w := fun l J Jx W hW hJ _ hY h0 => by
 refine (back1_in F n hF hro hn l B w p c L hL ho J Jx (fun pre W o h => hJ pre W _ none h (World.grownBy_alloc W o none) (fun r e => by cases e)) (fun pre x W' hj hpf => hY pre x W' hj (prefix_lt hpf)) W hW (cell_later hW h3) (fun W' hb => cell_later hb h3) h0).mono ?_
 rintro e W' ⟨he, h⟩
 exact ⟨he, h.elim (fun ⟨ys, h1, h2⟩ => .inl ⟨ys, h1, h2⟩) (fun ⟨pre, h1, h2⟩ => .inr ⟨pre, h1, h2⟩)⟩
end Go.Proofs.YtmgchjddpmmglaaGreatDoor
