/-
  Layer 17 (whole): what stands while a history is made whole; the clone of operations. No conditions.
-/
import Derived.Test.YtmgchjddpmmglaaGreatDoorRxHFew
import Derived.Test.YtmgchjddpmmglaaGreatDoorRxWoA
import Derived.Test.YtmgchjddpmmglaaGreatDoorRWp
namespace Go.Proofs.YtmgchjddpmmglaaGreatDoor
open Go.RowKit Go.Lib
theorem run_append_none (w : World) (base : Nat) (t ty e : TypeId) (i : TypeInfo) (size c : Nat) (ht : Tryz.prog.underlying t = some (.slice e)) (hi : Tryz.prog.info? e = some i) (v : Value) (n : Nat) (xs : List Value) (hown : w.ownsRow base e size v n xs) :
  (Builtin.append_ #[t, t] ty #[v, .slice none 0 c]).run Tryz.prog w = .ok v w := by
 rcases hown.2 with ⟨rfl, rfl⟩ | ⟨g, cap, cur, rfl, _, _, hnc, _⟩
 ·simp [Builtin.append_, run_underlying ht, sizeOf, typeInfo, hi, Builtin.lenOf, Builtin.firstCells]
 ·simp [Builtin.append_, run_underlying ht, sizeOf, typeInfo, hi, Builtin.lenOf, Builtin.firstCells, hnc, storeCells]
theorem run_append_texts (w : World) (base ty : Nat) (v : Value) (n c : Nat) (xs : List Value) (hown : w.ownsRow base 9 1 v n xs) (p : Option Addr) (L : List (List UInt8)) (hT : HasTexts w p L) (hL : L.length ≤ 1000) (hn : n ≤ 1000) (hbase : base ≤ w.heap.size) :
  ∃ v' w', (Builtin.append_ #[22, 22] ty #[v, .slice p L.length c]).run Tryz.prog w = .ok v' w' ∧ w'.ownsRow base 9 1 v' (n + L.length) (xs ++ strs L) ∧ w.grownBy w' v.ownBlock ∧ (v'.ownBlock = v.ownBlock ∨ v'.ownBlock = some w.heap.size) := by
 obtain ⟨i0, hi, hz0, hz1, hz2⟩ := info_parts info_str
 cases p with
 | none =>
  have e : L = [] := by
   cases L with
   | nil => rfl
   | cons a l =>
    obtain ⟨g, e, -⟩ := hT 0 (by simp)
    cases e
  subst e
  exact ⟨v, w, run_append_none w base _ ty 9 i0 1 c Tryz.underlying22 hi v n xs hown, by simpa [strs] using hown, ⟨rfl, rfl, rfl, Nat.le_refl _, fun k _ _ => rfl⟩, .inl rfl⟩
 | some a =>
  obtain ⟨v', w', h1, h2, h3, -, h5⟩ := run_append_own_at (P := Tryz.prog) w base 22 ty 9 i0 (.string ByteArray.empty) 1 16 Tryz.underlying22 hi hz0 hz1 hz2 rfl (by decide) v n xs hown a L.length c (strs L) (by simp [strs]) (of_news hT) (ones_strs _) (by unfold maxLen; omega) (by omega) hbase
  exact ⟨v', w', h1, h2, h3, h5⟩
theorem step_append_texts {w : World} {ops : Array Oper} {o : Oper} {a : Act} {K : Act → World → Prop} {Q : Exit → Act → World → Prop} {F : Prop} (hgd : o.guard = none) (s x : Operand)
  (ho : o.op = .call { callee := .builtin .append, args := #[s, x], argTypes := #[22, 22] }) (base : Nat) (v : Value) (n : Nat) (xs : List Value) (hs : a.eval s = v) (hown : w.ownsRow base 9 1 v n xs)
  (p : Option Addr) (c : Nat) (L : List (List UInt8)) (hx : a.eval x = .slice p L.length c) (hT : HasTexts w p L) (hL : L.length ≤ 1000) (hn : n ≤ 1000) (hbase : base ≤ w.heap.size)
  (h : ∀ v' w', w'.ownsRow base 9 1 v' (n + L.length) (xs ++ strs L) → w.grownBy w' v.ownBlock → (v'.ownBlock = v.ownBlock ∨ v'.ownBlock = some w.heap.size) → K (a.put o.dst v') w') :
  if Region.wanted o (yielded ops a.tmps) = true then Oper.wp Tryz.prog o a w K Q else F := by
 have hw : Region.wanted o (yielded ops a.tmps) = true := by simp [Region.wanted, hgd]
 rw [if_pos hw]
 obtain ⟨v', w', hr, h2, h3, h5⟩ := run_append_texts w base o.type v n c xs hown p L hT hL hn hbase
 unfold Oper.wp execOp
 simp only [ho, resolve, invoke, builtin, Sem.run_bind, Sem.run_pure, Result.andThen_ok, List.map_toArray, List.map_cons, List.map_nil, hs, hx, hr]
 exact h v' w' h2 h3 h5
theorem box_grown {w w' : World} {B base size n : Nat} {t e : TypeId} {cs xs : List Value} {v : Value} (h : Blk w B t cs) (hr : w.ownsRow base e size v n xs) (hne : e ≠ t) (hg : w.grownBy w' v.ownBlock) : Blk w' B t cs := by
 refine h.kept hg ?_
 intro e1
 rcases hr.2 with ⟨rfl, -⟩ | ⟨g, cap, cur, rfl, -, hw, -⟩
 ·cases e1
 ·have e2 : B = g := by simpa [Value.ownBlock] using e1
  subst e2
  have h2 : w.heap[B]? = some (.cells cs.toArray t (0, 0)) := h
  rw [hw] at h2
  injection h2 with h2
  injection h2 with _ h3 _
  exact hne h3
theorem box3 {w : World} {g : Nat} {t : TypeId} {a b c : Value} (h : Blk w g t [a, b, c]) : w.cell? ⟨g, 0, none⟩ = some a ∧ w.cell? ⟨g, 1, none⟩ = some b ∧ w.cell? ⟨g, 2, none⟩ = some c ∧ w.frozen? ⟨g, 0, none⟩ = false ∧ w.frozen? ⟨g, 1, none⟩ = false ∧ w.frozen? ⟨g, 2, none⟩ = false ∧ g < w.heap.size :=
 ⟨h.cell 0 rfl, h.cell 1 rfl, h.cell 2 rfl, h.frozen 0, h.frozen 1, h.frozen 2, h.lt⟩
theorem out_done {w0 wc : World} {g B1 B2 n1 n2 : Nat} {vs vk : Value} {xs ys : List Value} (rs : wc.ownsRow B1 9 1 vs n1 xs) (rk : wc.ownsRow B2 9 1 vk n2 ys) (hg : Blk wc g 25 [.slice none 0 0, .slice none 0 0, .slice none 0 0]) (hb : Below w0.heap.size w0 wc) (hl : w0.heap.size ≤ g) :
  (((wc.setCell ⟨g, 0, none⟩ vs).setCell ⟨g, 1, none⟩ vk).setCell ⟨g, 2, none⟩ (.slice none 0 0)).ownsRow 0 9 1 vs n1 xs ∧ (((wc.setCell ⟨g, 0, none⟩ vs).setCell ⟨g, 1, none⟩ vk).setCell ⟨g, 2, none⟩ (.slice none 0 0)).ownsRow 0 9 1 vk n2 ys ∧ Blk (((wc.setCell ⟨g, 0, none⟩ vs).setCell ⟨g, 1, none⟩ vk).setCell ⟨g, 2, none⟩ (.slice none 0 0)) g 25 [vs, vk, .slice none 0 0] ∧ Below w0.heap.size w0 (((wc.setCell ⟨g, 0, none⟩ vs).setCell ⟨g, 1, none⟩ vk).setCell ⟨g, 2, none⟩ (.slice none 0 0)) ∧ w0.heap.size ≤ g :=
 ⟨owns_store (owns_store (owns_store (owns_base rs (Nat.zero_le _)) hg (by decide) 0 vs) (hg.set 0 vs) (by decide) 1 vk) ((hg.set 0 vs).set 1 vk) (by decide) 2 _, owns_store (owns_store (owns_store (owns_base rk (Nat.zero_le _)) hg (by decide) 0 vs) (hg.set 0 vs) (by decide) 1 vk) ((hg.set 0 vs).set 1 vk) (by decide) 2 _, ((hg.set 0 vs).set 1 vk).set 2 _, ((hb.setCell hl _).setCell hl _).setCell hl _, hl⟩
def Parted (v u : Value) : Prop := ∀ k, v.ownBlock = some k → u.ownBlock = some k → False
theorem Parted.flip {v u : Value} (h : Parted v u) : Parted u v := fun k h1 h2 => h k h2 h1
theorem Parted.new {w : World} {base size n : Nat} {e : TypeId} {v : Value} {xs : List Value} (h : w.ownsRow base e size v n xs) (a b : Nat) : Parted v (.slice (some ⟨w.heap.size, 0, none⟩) a b) := fun k h1 h2 => by
 have h3 : w.heap.size = k := by simpa [Value.ownBlock] using h2
 have := (h.lt k h1).2
 omega
theorem Parted.grow {w : World} {base size n : Nat} {e : TypeId} {v v' u : Value} {xs : List Value} (h : Parted v u) (hat : v'.ownBlock = v.ownBlock ∨ v'.ownBlock = some w.heap.size) (hu : w.ownsRow base e size u n xs) : Parted v' u := fun k h1 h2 => by
 rcases hat with e | e
 ·exact h k (e ▸ h1) h2
 ·rw [e] at h1
  have h3 : w.heap.size = k := by simpa using h1
  have := (hu.lt k h2).2
  omega
theorem owns_posp {w : World} {base size n c : Nat} {e : TypeId} {p : Option Addr} {xs : List Value} (h : w.ownsRow base e size (.slice p n c) n xs) (hn : 0 < n) : ∃ g, p = some ⟨g, 0, none⟩ := by
 obtain ⟨h1, ⟨h2, h3⟩ | ⟨g, cap, cur, e1, -⟩⟩ := h
 ·omega
 ·injection e1 with e1 _ _
  exact ⟨g, e1⟩
theorem opsCells_set (d n : Int) : ∀ (L : List OpM) (m : Nat), m < L.length → ((opsCells L).set (m * 4 + 2) (.int .i64 d)).set (m * 4 + 2 + 1) (.int .i64 n) = opsCells (L.set m ((L.getD m noOp).1, (L.getD m noOp).2.1, d, n))
 | [], _, h => absurd h (Nat.not_lt_zero _)
 | o :: L, 0, _ => by
  simp [opsCells, opCells]
 | o :: L, m + 1, h => by
  have ih := opsCells_set d n L m (by simpa using h)
  have e1 : opsCells (o :: L) = opCells o ++ opsCells L := by simp [opsCells]
  have e2 : (o :: L).getD (m + 1) noOp = L.getD m noOp := by simp
  have e3 : (o :: L).set (m + 1) ((L.getD m noOp).1, (L.getD m noOp).2.1, d, n) = o :: L.set m ((L.getD m noOp).1, (L.getD m noOp).2.1, d, n) := rfl
  have e4 : opsCells (o :: L.set m ((L.getD m noOp).1, (L.getD m noOp).2.1, d, n)) = opCells o ++ opsCells (L.set m ((L.getD m noOp).1, (L.getD m noOp).2.1, d, n)) := by simp [opsCells]
  have hl : (opCells o).length = 4 := rfl
  rw [e2, e3, e4, e1, ← ih, List.set_append_right _ _ (by omega), hl, List.set_append_right _ _ (by omega), hl, show (m + 1) * 4 + 2 - 4 = m * 4 + 2 by omega, show (m + 1) * 4 + 2 + 1 - 4 = m * 4 + 2 + 1 by omega]
theorem ops_cell {L : List OpM} {m i : Nat} (hm : m < L.length) (hi : i < 4) : (opsCells L)[m * 4 + i]? = (opCells (L.getD m noOp))[i]? := by
 unfold opsCells
 exact flat_get opCells 4 (fun _ => rfl) noOp L m i hm hi
theorem opsS_news {w : World} {a : Addr} {n c : Nat} {L : List OpM} (h : OpsS w (.slice (some a) n c) L) : ∀ (q : Nat) (u : Value), (opsCells L)[q]? = some u → w.cell? (a.add q) = some u := by
 obtain ⟨p, c', e, -, hc⟩ := h
 injection e with e1 e2 e3
 subst e1
 intro q u hq
 have hql : q < L.length * 4 := by rw [← opsCells_len]; exact (List.getElem?_eq_some_iff.1 hq).1
 have hj : q / 4 < L.length := by omega
 obtain ⟨g, e, h0, h1, h2, h3⟩ := hc (q / 4) hj
 cases e
 have hq' : q = q / 4 * 4 + q % 4 := by omega
 rw [hq', ops_cell hj (by omega)] at hq
 rw [hq', Addr.add_lit, Nat.zero_add]
 have hm : q % 4 = 0 ∨ q % 4 = 1 ∨ q % 4 = 2 ∨ q % 4 = 3 := by omega
 rcases hm with e | e | e | e <;> rw [e] at hq ⊢ <;> simp [opCells] at hq <;> rw [← hq]
 ·exact h0
 ·exact h1
 ·exact h2
 ·exact h3
set_option maxRecDepth 100000 in
set_option maxHeartbeats 1000000 in
theorem cloneT_any (w : World) (v : Value) (L : List (List UInt8)) (hv : Texts w v L) (hL : L.length ≤ 1000000) :
  Calls Tryz.prog 89 #[v] w fun e w' => ∃ v', e = .returned v' ∧ w'.ownsRow w.heap.size 9 1 v' L.length (strs L) ∧ Below w.heap.size w w' := by
 obtain ⟨p, c, rfl, hp⟩ := hv
 obtain ⟨i0, hi, hz0, hz1, hz2⟩ := info_parts info_str
 cases p with
 | none =>
  have hL0 : L = [] := by
   cases L with
   | nil => rfl
   | cons a r => obtain ⟨g, hg, -⟩ := hp 0 (by simp); cases hg
  subst hL0
  have hq := run_eql_slice_nil (P := Tryz.prog) w 22 9 none 0 c 0 0 Tryz.underlying22
  go_enter Tryz.func89, Tryz.ntmps89
  go_wp2_with fail
  go_ret
  exact ⟨_, rfl, World.ownsRow_nil _ _ _ _, Below.refl _ _⟩
 | some a =>
  have hq := run_eql_slice_nil (P := Tryz.prog) w 22 9 (some a) L.length c 0 0 Tryz.underlying22
  have hnews : ∀ (j : Nat) (u : Value), (strs L)[j]? = some u → w.cell? (a.add j) = some u := by
   intro j u hj
   have hjl : j < L.length := by
    have := (List.getElem?_eq_some_iff.1 hj).1
    simpa [strs] using this
   obtain ⟨g, hg, hc⟩ := hp j hjl
   obtain rfl : a = ⟨g, 0, none⟩ := by simpa using hg
   rw [Addr.add_lit, Nat.zero_add, hc, ← hj]
   simp [strs, hjl]
  have HNews := Lib.hid hnews
  clear hnews hp
  go_enter Tryz.func89, Tryz.ntmps89
  go_wp2_with (at_builtin; refine wpList_append_own _ rfl _ _ 22 rfl w.heap.size 9 i0 (.string ByteArray.empty) 1 16 Tryz.underlying22 hi hz0 hz1 hz2 rfl (by decide) _ 0 [] rfl (World.ownsRow_made w #[] 0 (Nat.le_refl _) (Nat.zero_le _) rfl) a L.length c (strs L) rfl (by simp [strs]) (fun j u hj => cell_past _ (HNews.out j u hj)) (ones_strs _) (by unfold maxLen; omega) (by omega) (by simp) ?_)
  intro v' w4 hown4 hgrow hnil
  have hb4 : Below w.heap.size w w4 := ((Below.refl _ _).alloc (Nat.le_refl _) _).grown hgrow (by simp) (fun k hk => by simp [Value.ownBlock] at hk; omega)
  have HO : RowKit.Hid (w4.ownsRow w.heap.size 9 1 v' L.length (strs L)) := Lib.hid (by simpa using hown4)
  clear hown4 hgrow hnil
  go_wp2_with fail
  go_ret
  exact ⟨_, rfl, HO.out, hb4⟩
set_option maxRecDepth 100000 in
set_option maxHeartbeats 2000000 in
theorem cloneops_any (w : World) (v : Value) (L : List OpM) (hv : OpsS w v L) (hL : L.length ≤ 1000) :
  Calls Tryz.prog 90 #[v] w fun e w' => ∃ v', e = .returned v' ∧ w'.ownsRow w.heap.size 51 4 v' L.length (opsCells L) ∧ Below w.heap.size w w' := by
 obtain ⟨p, c, rfl, hcap, hp⟩ := id hv
 obtain ⟨i0, hi, hz0, hz1, hz2⟩ := info_parts info_op
 cases p with
 | none =>
  have hL0 : L = [] := by
   cases L with
   | nil => rfl
   | cons a r => obtain ⟨g, hg, -⟩ := hp 0 (by simp); cases hg
  subst hL0
  have hq := run_eql_slice_nil (P := Tryz.prog) w 45 51 none 0 c 0 0 Tryz.underlying45
  clear hv hp
  go_enter Tryz.func90, Tryz.ntmps90
  go_wp2_with fail
  go_ret
  exact ⟨_, rfl, World.ownsRow_nil _ _ _ _, Below.refl _ _⟩
 | some a =>
  have hq := run_eql_slice_nil (P := Tryz.prog) w 45 51 (some a) L.length c 0 0 Tryz.underlying45
  have HNews := Lib.hid (opsS_news hv)
  clear hv hp
  go_enter Tryz.func90, Tryz.ntmps90
  go_wp2_with (at_builtin; refine wpList_append_own _ rfl _ _ 45 rfl w.heap.size 51 i0 (.agg #[.bool false, .int .i64 0, .int .i64 0, .int .i64 0]) 4 32 Tryz.underlying45 hi hz0 hz1 hz2 rfl (by decide) _ 0 [] rfl (World.ownsRow_made w #[] 0 (Nat.le_refl _) (Nat.zero_le _) rfl) a L.length c (opsCells L) rfl (opsCells_len L) (fun j u hj => cell_past _ (HNews.out j u hj)) (ones_ops _) (by unfold maxLen; omega) (by omega) (by simp) ?_)
  intro v' w4 hown4 hgrow hnil
  have hb4 : Below w.heap.size w w4 := ((Below.refl _ _).alloc (Nat.le_refl _) _).grown hgrow (by simp) (fun k hk => by simp [Value.ownBlock] at hk; omega)
  have HO : RowKit.Hid (w4.ownsRow w.heap.size 51 4 v' L.length (opsCells L)) := Lib.hid (by simpa using hown4)
  clear hown4 hgrow hnil
  go_wp2_with fail
  go_ret
  exact ⟨_, rfl, HO.out, hb4⟩
def LeftIs (pv : Option Addr) (n c : Nat) (k : Nat) (l : Value) : Prop := ∃ q, l = .slice q (n - k) (c - k) ∧ (k < n → ∃ g, pv = some ⟨g, 0, none⟩ ∧ q = some ⟨g, k * 2, none⟩)
def makeP (h : HistM) (m : WorldM) : HistM × Int := if mayH h then (if mayW h m then (makeH h m, 0) else (noH, 2)) else (noH, 4)
structure MkT (w : World) (N G : Nat) (wr : World) (v0 v1 v2 vs vk vt vi u0 u1 : Value) (S K : List (List UInt8)) (I : List Bool) (LV : List TxnV) : Prop where
 t : wr.ownsRow N 47 3 vt LV.length (txnsCells LV)
 o : ∀ t ∈ LV, wr.ownsRow N 51 4 t.2 t.1.2.2.length (opsCells t.1.2.2)
 s : wr.ownsRow 0 9 1 vs S.length (strs S)
 k : wr.ownsRow 0 9 1 vk K.length (strs K)
 i : wr.ownsRow 0 4 1 vi I.length (bools I)
 h : Blk wr w.heap.size 25 [v0, v1, v2]
 u : Blk wr (w.heap.size + 1) 64 [u0, u1]
 r : Blk wr (w.heap.size + 1 + 1) 25 [.slice none 0 0, .slice none 0 0, .slice none 0 0]
 g : Blk wr G 25 [vs, vk, vt]
 b : Below w.heap.size w wr
 c : N ≤ wr.heap.size
 d : G < N
 e : w.heap.size + 1 + 1 < G
theorem mkT_next {w wr W3 w6 : World} {N G : Nat} {v0 v1 v2 vs vk vt vi u0 u1 v5 v6 : Value} {S K : List (List UInt8)} {I : List Bool} {LV : List TxnV} {X : Obj} {ts tf : Int} {tl : List OpM} (h : MkT w N G wr v0 v1 v2 vs vk vt vi u0 u1 S K I LV) (hb : Below wr.heap.size wr W3)
  (h5 : W3.ownsRow N 51 4 v5 tl.length (opsCells tl)) {k : Nat} (hk : LV.length = k) (h6 : w6.ownsRow N 47 3 v6 (k + 1) (txnsCells LV ++ [.int .i64 ts, .int .i64 tf, v5])) (hg : (W3.alloc X).grownBy w6 vt.ownBlock) :
  MkT w N G (w6.setCell ⟨G, 2, none⟩ v6) v0 v1 v2 vs vk v6 vi u0 u1 S K I (LV ++ [((ts, tf, tl), v5)]) := by
 have hA : Below wr.heap.size wr (W3.alloc X) := hb.alloc hb.size X
 have tA := owns_later h.t hA
 have hd := h.d
 have he := h.e
 have gA := h.g.later hA
 have o6 : Blk w6 G 25 [vs, vk, vt] := gA.grown tA hd hg
 refine ⟨?_, ?_, ?_, ?_, ?_, ?_, ?_, ?_, o6.set 2 v6, ?_, ?_, hd, he⟩
 ·have e : txnsCells (LV ++ [((ts, tf, tl), v5)]) = txnsCells LV ++ [.int .i64 ts, .int .i64 tf, v5] := by simp [txnsCells, txnCells]
  rw [e, List.length_append, hk]
  exact owns_far h6 hd _
 ·intro t ht
  rcases List.mem_append.1 ht with ht | ht
  ·exact owns_far (owns_other (owns_later (h.o t ht) hA) tA (by decide) hg) hd _
  ·obtain rfl : t = ((ts, tf, tl), v5) := by simpa using ht
   exact owns_far (owns_other (h5.alloc X) tA (by decide) hg) hd _
 ·exact owns_store (owns_other (owns_later h.s hA) tA (by decide) hg) o6 (by decide) _ _
 ·exact owns_store (owns_other (owns_later h.k hA) tA (by decide) hg) o6 (by decide) _ _
 ·exact owns_store (owns_other (owns_later h.i hA) tA (by decide) hg) o6 (by decide) _ _
 ·exact ((h.h.later hA).grown tA (by omega) hg).far (by show w.heap.size ≠ G; omega) _
 ·exact ((h.u.later hA).grown tA (by omega) hg).far (by show w.heap.size + 1 ≠ G; omega) _
 ·exact ((h.r.later hA).grown tA (by omega) hg).far (by show w.heap.size + 1 + 1 ≠ G; omega) _
 ·have hs := (h.b.trans (hA.mono h.b.size)).size
  exact (((h.b.trans (hA.mono h.b.size)).grown hg hs (fun k hk => by have := (tA.lt k hk).1; omega)).setCell (by show w.heap.size ≤ G; omega) _)
 ·have := hg.size
  have := h.c
  have := hA.size
  simp only [World.setCell, Array.size_modify]
  omega
theorem mkT_end {w wr : World} {N G : Nat} {v0 v1 v2 vs vk vt vi u0 u1 : Value} {S K : List (List UInt8)} {I : List Bool} {T : List TxnM} {LV : List TxnV} (h : MkT w N G wr v0 v1 v2 vs vk vt vi u0 u1 S K I LV) (hL : LV.map (·.1) = T) :
  Blk (((wr.setCell ⟨w.heap.size + 1 + 1, 0, none⟩ vs).setCell ⟨w.heap.size + 1 + 1, 1, none⟩ vk).setCell ⟨w.heap.size + 1 + 1, 2, none⟩ vt) (w.heap.size + 1 + 1) 25 [vs, vk, vt] ∧
  HistV (((wr.setCell ⟨w.heap.size + 1 + 1, 0, none⟩ vs).setCell ⟨w.heap.size + 1 + 1, 1, none⟩ vk).setCell ⟨w.heap.size + 1 + 1, 2, none⟩ vt) (.agg #[vs, vk, vt]) (S, K, T) ∧
   Below w.heap.size w (((wr.setCell ⟨w.heap.size + 1 + 1, 0, none⟩ vs).setCell ⟨w.heap.size + 1 + 1, 1, none⟩ vk).setCell ⟨w.heap.size + 1 + 1, 2, none⟩ vt) := by
 have r0 := h.r
 have r1 := r0.set 0 vs
 have r2 := r1.set 1 vk
 have ks : ∀ {base size n : Nat} {e : TypeId} {v : Value} {xs : List Value}, e ≠ 25 → wr.ownsRow base e size v n xs → (((wr.setCell ⟨w.heap.size + 1 + 1, 0, none⟩ vs).setCell ⟨w.heap.size + 1 + 1, 1, none⟩ vk).setCell ⟨w.heap.size + 1 + 1, 2, none⟩ vt).ownsRow base e size v n xs := fun he hr => owns_store (owns_store (owns_store hr r0 he 0 vs) r1 he 1 vk) r2 he 2 vt
 have hs := ks (by decide) h.s
 have hk := ks (by decide) h.k
 have ht := ks (by decide) h.t
 have ho := fun t m => ks (by decide) (h.o t m)
 refine ⟨r2.set 2 vt, ⟨vs, vk, vt, rfl, own_texts hs, own_texts hk, ?_⟩, ?_⟩
 ·have := own_txns ht (fun t m => own_ops (ho t m))
  rw [hL] at this
  exact this
 ·have e := h.e
  exact ((h.b.setCell (by show w.heap.size ≤ w.heap.size + 1 + 1; omega) _).setCell (by show w.heap.size ≤ w.heap.size + 1 + 1; omega) _).setCell (by show w.heap.size ≤ w.heap.size + 1 + 1; omega) _
end Go.Proofs.YtmgchjddpmmglaaGreatDoor
