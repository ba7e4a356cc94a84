/-
  Layer 10 (pair): what the maker's steps leave in memory, the walks apart. No conditions.
  A region that draws its order: one condition on the world that all but the late operations keep; what asks nothing of the world may come when it will. No conditions.
-/
import Derived.Test.YtmgchjddpmmglaaGreatDoorRWg
import Derived.Maps.AppendAt
import Derived.Maps.OwnOps
namespace Go.Proofs.YtmgchjddpmmglaaGreatDoor
section
open Go.RowKit Go.Lib Go.Maps
theorem info_pdr : (Tryz.prog.info? 135).map (fun i => (i.zero, i.size, i.bytes)) = some (some (.pointer none), 1, 8) := by kernel_rfl
theorem ones_ptr (g : Nat) : ∀ u ∈ ([.pointer (some ⟨g, 0, none⟩)] : List Value), u.oneCell' = true := by
 intro u hu
 simp at hu
 subst hu
 rfl
theorem turn_block {w w' : World} {b : Nat} (h : w.mapTurned w' b) (k : Nat) (hk : k < w.heap.size) (hne : k ≠ b) : w'.heap[k]? = w.heap[k]? := h.grown.block k hk (fun e => hne (by injection e))
theorem turn_below {w w' a : World} {b n : Nat} (h : w.mapTurned w' b) (hb : Below n a w) (hn : n ≤ a.heap.size) (hbn : n ≤ b) : Below n a w' :=
 hb.grown h.grown (Nat.le_trans hn hb.size) (fun k hk => by injection hk with hk; omega)
theorem turn_ty {w w' : World} {b k : Nat} {t : TypeId} (ht : w.mapTurned w' b) (hk : Ty w k t) : w'.heap[k]? = w.heap[k]? := by
 obtain ⟨cs, fz, h2⟩ := hk
 refine turn_block ht k (Array.getElem?_eq_some_iff.1 h2).1 (fun e => ?_)
 obtain ⟨es, clock, _, _, h1, _⟩ := ht
 rw [e, h1] at h2
 cases h2
theorem lt_of_eq {w w' : World} {k : Nat} (h : w'.heap[k]? = w.heap[k]?) (hk : k < w.heap.size) : k < w'.heap.size := by
 rcases Nat.lt_or_ge k w'.heap.size with h5 | h5
 ·exact h5
 ·rw [Array.getElem?_eq_none h5, Array.getElem?_eq_getElem hk] at h
  cases h
theorem set_size (w : World) (a : Addr) (v : Value) : (w.setCell a v).heap.size = w.heap.size := by simp
theorem step_append_own_at {P : Program} {w : World} {ops : Array Oper} {o : Oper} {a : Act} {K : Act → World → Prop} {Q : Exit → Act → World → Prop} {F : Prop} (hgd : o.guard = none) (s x : Operand) (t : TypeId)
  (ho : o.op = .call { callee := .builtin .append, args := #[s, x], argTypes := #[t, t] })
  (base : Nat) (e : TypeId) (i : TypeInfo) (z : Value) (size bytes : Nat) (ht : P.underlying t = some (.slice e)) (hi : P.info? e = some i) (hz : i.zero = some z)
  (hsize : i.size = size) (hby : i.bytes = bytes) (hzs : z.cells.size = size) (hsz : 0 < size)
  (v : Value) (n : Nat) (xs : List Value) (hs : a.eval s = v) (hown : w.ownsRow base e size v n xs)
  (ad : Addr) (m c : Nat) (news : List Value) (hx : a.eval x = .slice (some ad) m c) (hl : news.length = m * size) (hnews : ∀ j u, news[j]? = some u → w.cell? (ad.add j) = some u) (h1 : ∀ u ∈ news, u.oneCell' = true)
  (h63 : n + m ≤ maxLen) (hbytes : (n + m) * bytes ≤ 140737488355328) (hbase : base ≤ w.heap.size)
  (h : ∀ v' w', w'.ownsRow base e size v' (n + m) (xs ++ news) → w.grownBy w' v.ownBlock → (v'.ownBlock = v.ownBlock ∨ v'.ownBlock = some w.heap.size) → K (a.put o.dst v') w') :
  if Region.wanted o (yielded ops a.tmps) = true then Oper.wp P o a w K Q else F := by
 have hw : Region.wanted o (yielded ops a.tmps) = true := by simp [Region.wanted, hgd]
 rw [if_pos hw]
 obtain ⟨v', w', hr, h2, h3, -, h5⟩ := run_append_own_at (P := P) w base t o.type e i z size bytes ht hi hz hsize hby hzs hsz v n xs hown ad m c news hl hnews h1 h63 hbytes hbase
 unfold Oper.wp execOp
 simp only [ho, resolve, invoke, builtin, Sem.run_bind, Sem.run_pure, Result.andThen_ok, List.map_toArray, List.map_cons, List.map_nil, hs, hx, hr]
 exact h v' w' h2 h3 h5
theorem step_del {w : World} {ops : Array Oper} {o : Oper} {a : Act} {K : Act → World → Prop} {Q : Exit → Act → World → Prop} {F : Prop} {b n : Nat} {f : List UInt8 → Option Nat} {l : List UInt8} (hgd : o.guard = none) (m key : Operand)
  (ho : o.op = .call { callee := .builtin .delete, args := #[m, key], argTypes := #[131, 9] }) (hm : a.eval m = .map (some b)) (hk : a.eval key = .string (bs l)) (h : OpnM w b f n) (hl : l.length ≤ 9223372036854775807)
  (hK : ∀ w', OpnM w' b (updF f l none) n → w.mapTurned w' b → K (a.put o.dst (.tuple #[])) w') : if Region.wanted o (yielded ops a.tmps) = true then Oper.wp Tryz.prog o a w K Q else F := by
 have hw : Region.wanted o (yielded ops a.tmps) = true := by simp [Region.wanted, hgd]
 rw [if_pos hw]
 obtain ⟨w', r1, r2, r3⟩ := opn_del h l hl o.type
 unfold Oper.wp execOp
 simp only [ho, resolve, invoke, builtin, Sem.run_bind, Sem.run_pure, Result.andThen_ok, List.map_toArray, List.map_cons, List.map_nil, hm, hk, r1]
 exact hK w' r2 r3
structure StB (w0 w : World) (B gm N bo bz bk gx : Nat) (L : List DraftM) (lv : Value) (E : List EntM) (x : EventM) : Prop where
 mi : MkI w B gm L N lv bo bz bk E
 box : Blk w gx 123 [.int .i64 x.1, .string (bs x.2.1), .string (bs x.2.2.1), .int .i64 x.2.2.2.1, .int .i64 x.2.2.2.2.1, .int .i64 x.2.2.2.2.2]
 bel : Below w0.heap.size w0 w
theorem StB.below {w0 w w' : World} {B gm N bo bz bk gx : Nat} {L : List DraftM} {lv : Value} {E : List EntM} {x : EventM} (h : StB w0 w B gm N bo bz bk gx L lv E x) (hb : Below w.heap.size w w') : StB w0 w' B gm N bo bz bk gx L lv E x :=
 ⟨h.mi.below hb, h.box.later hb, below_next h.bel hb⟩
def newc (s : List UInt8) (ln : Int) : List Value := [.string (bs s), .slice none 0 0, .int .i64 ln, .int .i64 0, .int .i64 0, .slice none 0 0]
structure MidB (w0 w3 w : World) (B gm bo bz bk gx g n : Nat) (lv lv' : Value) (E : List EntM) (x : EventM) : Prop where
 mb : Blk w gm 134 [lv', .map (some bo), .map (some bz), .map (some bk)]
 box : Blk w gx 123 [.int .i64 x.1, .string (bs x.2.1), .string (bs x.2.2.1), .int .i64 x.2.2.2.1, .int .i64 x.2.2.2.2.1, .int .i64 x.2.2.2.2.2]
 dr : Blk w g 137 (newc x.2.1 x.2.2.2.2.2)
 row : w.ownsRow B 135 1 lv' n (E.flatMap ptc ++ [.pointer (some ⟨g, 0, none⟩)])
 far : ∀ k, k < w3.heap.size → k ≠ gm → lv.ownBlock ≠ some k → k ≠ bo → k ≠ bz → w.heap[k]? = w3.heap[k]?
 bel : Below B w0 w
theorem begin_mid {w0 w3 w4 : World} {B gm N bo bz bk gx : Nat} {L : List DraftM} {lv v4 : Value} {E : List EntM} {x : EventM} {o : Obj} (h : StB w0 w3 B gm N bo bz bk gx L lv E x) (hB : B ≤ w0.heap.size)
  (hown : w4.ownsRow B 135 1 v4 (E.length + 1) (E.flatMap ptc ++ [.pointer (some ⟨w3.heap.size, 0, none⟩)]))
  (hg : ((w3.alloc (.cells (newc x.2.1 x.2.2.2.2.2).toArray 137)).alloc o).grownBy w4 lv.ownBlock) :
  Blk w4 gm 134 [lv, .map (some bo), .map (some bz), .map (some bk)] ∧ MidB w0 w3 (w4.setCell ⟨gm, 0, none⟩ v4) B gm bo bz bk gx w3.heap.size (E.length + 1) lv v4 E x ∧ OpnM (w4.setCell ⟨gm, 0, none⟩ v4) bo (openF L E) N ∧ (w4.setCell ⟨gm, 0, none⟩ v4).heap[bz]? = w3.heap[bz]? := by
 have old : ∀ k, k < w3.heap.size → lv.ownBlock ≠ some k → w4.heap[k]? = w3.heap[k]? := fun k hk hne => by
  rw [hg.block k (by simp; omega) (fun e => hne e.symm), heap_kept _ _ (by simp; omega), heap_kept _ _ hk]
 have hm := h.mi
 have hmlt := hm.bx.lt
 have hmo : lv.ownBlock ≠ some gm := fun e => (hm.bx.ty.ne (owns_ty hm.row e) (by decide)) rfl
 have hm4 := hm.bx.at (old gm hmlt hmo)
 have hgx := h.box.lt
 have hxo : lv.ownBlock ≠ some gx := fun e => (h.box.ty.ne (owns_ty hm.row e) (by decide)) rfl
 have hxm : gx ≠ gm := h.box.ty.ne hm.bx.ty (by decide)
 have hnew : Blk w4 w3.heap.size 137 (newc x.2.1 x.2.2.2.2.2) := by
  refine ((Blk.new w3 _ _).alloc o).at (hg.block _ (by simp; omega) (fun e => ?_))
  have := own_lt hm.row e.symm
  omega
 have old5 : ∀ k, k < w3.heap.size → k ≠ gm → lv.ownBlock ≠ some k → (w4.setCell ⟨gm, 0, none⟩ v4).heap[k]? = w3.heap[k]? := fun k hk h1 h2 => by
  rw [Below.heap_setCell _ _ _ _ h1]
  exact old k hk h2
 obtain ⟨ks, c1, -⟩ := hm.ses
 refine ⟨hm4, ⟨hm4.set 0 v4, (h.box.at (old gx hgx hxo)).far hxm v4, hnew.far (by simp; omega) v4, owns_store hown hm4 (by decide) 0 v4, fun k hk h1 h2 _ _ => old5 k hk h1 h2, ?_⟩, hm.opn.at (old5 bo hm.opn.lt (hm.opn.ty hm.bx.ty) (fun e => hm.opn.ty (owns_ty hm.row e) rfl)), old5 bz c1.lt (c1.ty hm.bx.ty) (fun e => c1.ty (owns_ty hm.row e) rfl)⟩
 ·have hs := h.bel.size
  have hb : Below B w0 w3 := h.bel.mono hB
  have h3 : Below B w0 w4 := ((hb.alloc (by omega) _).alloc (by simp; omega) o).grown hg (by simp; omega) (fun k hk => (hm.row.lt k hk).1)
  exact h3.setCell hm.base.1 _
theorem MidB.drew {w0 w3 w : World} {B gm bo bz bk gx g n : Nat} {lv lv' : Value} {E : List EntM} {x : EventM} (h : MidB w0 w3 w B gm bo bz bk gx g n lv lv' E x) : MidB w0 w3 w.drew B gm bo bz bk gx g n lv lv' E x :=
 ⟨h.mb, h.box, h.dr, h.row, h.far, h.bel.drew⟩
theorem MidB.turn {w0 w3 w w' : World} {B gm bo bz bk gx g n b : Nat} {lv lv' : Value} {E : List EntM} {x : EventM} (h : MidB w0 w3 w B gm bo bz bk gx g n lv lv' E x) (ht : w.mapTurned w' b) (hb : b = bo ∨ b = bz) (hB : B ≤ w0.heap.size) (hBb : B ≤ b) : MidB w0 w3 w' B gm bo bz bk gx g n lv lv' E x := by
 refine ⟨h.mb.at (turn_ty ht h.mb.ty), h.box.at (turn_ty ht h.box.ty), h.dr.at (turn_ty ht h.dr.ty), owns_at h.row (fun k hk => turn_ty ht (owns_ty h.row hk)), fun k hk h1 h2 h3 h4 => ?_, turn_below ht h.bel hB hBb⟩
 have hf := h.far k hk h1 h2 h3 h4
 rw [← hf]
 exact turn_block ht k (lt_of_eq hf hk) (fun e => hb.elim (fun e2 => h3 (e.trans e2)) (fun e2 => h4 (e.trans e2)))
structure MidO (w0 w3 w : World) (B bo bk gx N : Nat) (f : List UInt8 → Option Nat) (kl : List (List UInt8)) (e0 e : EntM) (d : DraftM) (x : EventM) : Prop where
 box : Blk w gx 123 [.int .i64 x.1, .string (bs x.2.1), .string (bs x.2.2.1), .int .i64 x.2.2.2.1, .int .i64 x.2.2.2.2.1, .int .i64 x.2.2.2.2.2]
 dv : DraftV w B e d
 one : e.1 = e0.1
 hk : e.2.1.ownBlock = e0.2.1.ownBlock ∨ ∃ g, e.2.1.ownBlock = some g ∧ w3.heap.size ≤ g
 ho : e.2.2.ownBlock = e0.2.2.ownBlock ∨ ∃ g, e.2.2.ownBlock = some g ∧ w3.heap.size ≤ g
 far : ∀ k, k < w3.heap.size → k ≠ e0.1 → e0.2.1.ownBlock ≠ some k → e0.2.2.ownBlock ≠ some k → k ≠ bo → k ≠ bk → w.heap[k]? = w3.heap[k]?
 opn : OpnM w bo f N
 cnt : CntM w bk kl N
 bel : Below B w0 w
 sz : w3.heap.size ≤ w.heap.size
theorem MidO.start {w0 w3 : World} {B gm N bo bz bk gx : Nat} {L : List DraftM} {lv : Value} {E : List EntM} {x : EventM} (h : StB w0 w3 B gm N bo bz bk gx L lv E x) (hB : B ≤ w0.heap.size) (i : Nat) (hi : i < L.length) {kl : List (List UInt8)} (hc : CntM w3 bk kl N) :
  MidO w0 w3 w3 B bo bk gx N (openF L E) kl (E.getD i noEn) (E.getD i noEn) (L.getD i noD) x :=
 ⟨h.box, h.mi.dr i hi, rfl, .inl rfl, .inl rfl, fun _ _ _ _ _ _ _ => rfl, h.mi.opn, hc, h.bel.mono hB, Nat.le_refl _⟩
theorem MidO.drew {w0 w3 w : World} {B bo bk gx N : Nat} {f : List UInt8 → Option Nat} {kl : List (List UInt8)} {e0 e : EntM} {d : DraftM} {x : EventM} (h : MidO w0 w3 w B bo bk gx N f kl e0 e d x) : MidO w0 w3 w.drew B bo bk gx N f kl e0 e d x :=
 ⟨h.box, ⟨h.dv.base, h.dv.blk, h.dv.ks, h.dv.ops⟩, h.one, h.hk, h.ho, h.far, h.opn.at rfl, h.cnt.at rfl, h.bel.drew, h.sz⟩
theorem MidO.turnK {w0 w3 w w' : World} {B bo bk gx N : Nat} {f : List UInt8 → Option Nat} {kl kl' : List (List UInt8)} {e0 e : EntM} {d : DraftM} {x : EventM} (h : MidO w0 w3 w B bo bk gx N f kl e0 e d x) (ht : w.mapTurned w' bk) (hc : CntM w' bk kl' (N + 1)) (hB : B ≤ w0.heap.size) (hBb : B ≤ bk) (hne : bo ≠ bk) :
  MidO w0 w3 w' B bo bk gx (N + 1) f kl' e0 e d x := by
 refine ⟨h.box.at (turn_ty ht h.box.ty), h.dv.at (turn_ty ht h.dv.blk.ty) (fun k hk => turn_ty ht (owns_ty h.dv.ks hk)) (fun k hk => turn_ty ht (owns_ty h.dv.ops hk)), h.one, h.hk, h.ho, fun k hk h1 h2 h3 h4 h5 => ?_, (h.opn.at (turn_block ht bo h.opn.lt hne)).mono (Nat.le_succ N), hc, turn_below ht h.bel hB hBb, Nat.le_trans h.sz ht.grown.size⟩
 have hf := h.far k hk h1 h2 h3 h4 h5
 rw [← hf]
 exact turn_block ht k (lt_of_eq hf hk) h5
theorem MidO.turnO {w0 w3 w w' : World} {B bo bk gx N : Nat} {f f' : List UInt8 → Option Nat} {kl : List (List UInt8)} {e0 e : EntM} {d : DraftM} {x : EventM} (h : MidO w0 w3 w B bo bk gx N f kl e0 e d x) (ht : w.mapTurned w' bo) (hc : OpnM w' bo f' N) (hB : B ≤ w0.heap.size) (hBb : B ≤ bo) (hne : bo ≠ bk) :
  MidO w0 w3 w' B bo bk gx N f' kl e0 e d x := by
 refine ⟨h.box.at (turn_ty ht h.box.ty), h.dv.at (turn_ty ht h.dv.blk.ty) (fun k hk => turn_ty ht (owns_ty h.dv.ks hk)) (fun k hk => turn_ty ht (owns_ty h.dv.ops hk)), h.one, h.hk, h.ho, fun k hk h1 h2 h3 h4 h5 => ?_, hc, h.cnt.at (turn_block ht bk h.cnt.lt (Ne.symm hne)), turn_below ht h.bel hB hBb, Nat.le_trans h.sz ht.grown.size⟩
 have hf := h.far k hk h1 h2 h3 h4 h5
 rw [← hf]
 exact turn_block ht k (lt_of_eq hf hk) h4
theorem MidO.fate {w0 w3 w : World} {B bo bk gx N : Nat} {f : List UInt8 → Option Nat} {kl : List (List UInt8)} {e0 e : EntM} {d : DraftM} {x : EventM} (h : MidO w0 w3 w B bo bk gx N f kl e0 e d x) (u : Int) (o : Bool) :
  MidO w0 w3 (w.setCell ⟨e.1, 4, none⟩ (.int .i64 u)) B bo bk gx N f kl e0 e { d with fate := u, op := o } x := by
 have hb := h.dv.blk
 have old5 : ∀ k, k ≠ e.1 → (w.setCell ⟨e.1, 4, none⟩ (.int .i64 u)).heap[k]? = w.heap[k]? := fun k h1 => Below.heap_setCell _ _ _ _ h1
 refine ⟨h.box.at (old5 gx (h.box.ty.ne hb.ty (by decide))), ⟨h.dv.base, hb.set 4 _, owns_at h.dv.ks (fun k hk => old5 k ((owns_ty h.dv.ks hk).ne hb.ty (by decide))), owns_at h.dv.ops (fun k hk => old5 k ((owns_ty h.dv.ops hk).ne hb.ty (by decide)))⟩, h.one, h.hk, h.ho, fun k hk h1 h2 h3 h4 h5 => ?_,
  h.opn.at (old5 bo (h.opn.ty hb.ty)), h.cnt.at (old5 bk (h.cnt.ty hb.ty)), h.bel.setCell h.dv.base _, by rw [set_size]; exact h.sz⟩
 rw [old5 k (by rw [h.one]; exact h1)]
 exact h.far k hk h1 h2 h3 h4 h5
theorem MidO.ops {w0 w3 w w4 : World} {B bo bk gx N : Nat} {f : List UInt8 → Option Nat} {kl : List (List UInt8)} {e0 e : EntM} {d : DraftM} {x : EventM} {v4 : Value} {ob : Obj} (h : MidO w0 w3 w B bo bk gx N f kl e0 e d x) (o : OpM)
  (hown : w4.ownsRow B 51 4 v4 (d.ops.length + 1) (d.ops.flatMap opc ++ opc o)) (hg : (w.alloc ob).grownBy w4 e.2.2.ownBlock) (hat : v4.ownBlock = e.2.2.ownBlock ∨ v4.ownBlock = some (w.alloc ob).heap.size) (hB : B ≤ w0.heap.size) :
  Blk w4 e.1 137 (drc d e) ∧ MidO w0 w3 (w4.setCell ⟨e.1, 5, none⟩ v4) B bo bk gx N f kl e0 (e.1, e.2.1, v4) { d with ops := d.ops ++ [o] } x := by
 have hb := h.dv.blk
 have hBw := Nat.le_trans hB h.bel.size
 have old : ∀ k, k < w.heap.size → e.2.2.ownBlock ≠ some k → w4.heap[k]? = w.heap[k]? := fun k hk hne => by
  rw [hg.block k (by simp; omega) (fun e => hne e.symm), heap_kept _ _ hk]
 have no : ∀ {k t}, Ty w k t → t ≠ 51 → e.2.2.ownBlock ≠ some k := fun {k t} hk ht he => (hk.ne (owns_ty h.dv.ops he) ht) rfl
 have hb4 := hb.at (old e.1 hb.lt (no hb.ty (by decide)))
 have old5 : ∀ k, k < w.heap.size → e.2.2.ownBlock ≠ some k → k ≠ e.1 → (w4.setCell ⟨e.1, 5, none⟩ v4).heap[k]? = w.heap[k]? := fun k hk hne h1 => by
  rw [Below.heap_setCell _ _ _ _ h1]
  exact old k hk hne
 have hsz : w.heap.size ≤ w4.heap.size := Nat.le_trans (by simp) hg.size
 refine ⟨hb4, h.box.at (old5 gx h.box.lt (no h.box.ty (by decide)) (h.box.ty.ne hb.ty (by decide))), ⟨h.dv.base, hb4.set 5 v4, owns_at h.dv.ks (fun k hk => old5 k (own_lt h.dv.ks hk) (no (owns_ty h.dv.ks hk) (by decide)) ((owns_ty h.dv.ks hk).ne hb.ty (by decide))), ?_⟩, h.one, h.hk, ?_, fun k hk h1 h2 h3 h4 h5 => ?_,
  h.opn.at (old5 bo h.opn.lt (fun e => h.opn.ty (owns_ty h.dv.ops e) rfl) (h.opn.ty hb.ty)), h.cnt.at (old5 bk h.cnt.lt (fun e => h.cnt.ty (owns_ty h.dv.ops e) rfl) (h.cnt.ty hb.ty)), ?_, by rw [set_size]; exact Nat.le_trans h.sz hsz⟩
 ·have := owns_store hown hb4 (by decide) 5 v4
  rw [flat_snoc] at this
  simpa using this
 ·rcases hat with hat | hat
  ·simp only; rw [hat]; exact h.ho
  ·exact .inr ⟨_, hat, Nat.le_trans h.sz (by simp)⟩
 ·rw [old5 k (Nat.lt_of_lt_of_le hk h.sz) (fun e => ?_) (by rw [h.one]; exact h1)]
  ·exact h.far k hk h1 h2 h3 h4 h5
  ·rcases h.ho with h6 | ⟨g, h6, h7⟩
   ·rw [h6] at e; exact h3 e
   ·rw [h6] at e; injection e with e; omega
 ·exact ((h.bel.alloc hBw ob).grown hg (by simp; omega) (fun k hk => (h.dv.ops.lt k hk).1)).setCell h.dv.base _
theorem MidO.ks {w0 w3 w w4 : World} {B bo bk gx N : Nat} {f : List UInt8 → Option Nat} {kl : List (List UInt8)} {e0 e : EntM} {d : DraftM} {x : EventM} {v4 : Value} {ob : Obj} (h : MidO w0 w3 w B bo bk gx N f kl e0 e d x) (o : List UInt8)
  (hown : w4.ownsRow B 9 1 v4 (d.ks.length + 1) (d.ks.flatMap nmc ++ nmc o)) (hg : (w.alloc ob).grownBy w4 e.2.1.ownBlock) (hat : v4.ownBlock = e.2.1.ownBlock ∨ v4.ownBlock = some (w.alloc ob).heap.size) (hB : B ≤ w0.heap.size) :
  Blk w4 e.1 137 (drc d e) ∧ MidO w0 w3 (w4.setCell ⟨e.1, 1, none⟩ v4) B bo bk gx N f kl e0 (e.1, v4, e.2.2) { d with ks := d.ks ++ [o] } x := by
 have hb := h.dv.blk
 have hBw := Nat.le_trans hB h.bel.size
 have old : ∀ k, k < w.heap.size → e.2.1.ownBlock ≠ some k → w4.heap[k]? = w.heap[k]? := fun k hk hne => by
  rw [hg.block k (by simp; omega) (fun e => hne e.symm), heap_kept _ _ hk]
 have no : ∀ {k t}, Ty w k t → t ≠ 9 → e.2.1.ownBlock ≠ some k := fun {k t} hk ht he => (hk.ne (owns_ty h.dv.ks he) ht) rfl
 have hb4 := hb.at (old e.1 hb.lt (no hb.ty (by decide)))
 have old5 : ∀ k, k < w.heap.size → e.2.1.ownBlock ≠ some k → k ≠ e.1 → (w4.setCell ⟨e.1, 1, none⟩ v4).heap[k]? = w.heap[k]? := fun k hk hne h1 => by
  rw [Below.heap_setCell _ _ _ _ h1]
  exact old k hk hne
 have hsz : w.heap.size ≤ w4.heap.size := Nat.le_trans (by simp) hg.size
 refine ⟨hb4, h.box.at (old5 gx h.box.lt (no h.box.ty (by decide)) (h.box.ty.ne hb.ty (by decide))), ⟨h.dv.base, hb4.set 1 v4, ?_, owns_at h.dv.ops (fun k hk => old5 k (own_lt h.dv.ops hk) (no (owns_ty h.dv.ops hk) (by decide)) ((owns_ty h.dv.ops hk).ne hb.ty (by decide)))⟩, h.one, ?_, h.ho, fun k hk h1 h2 h3 h4 h5 => ?_,
  h.opn.at (old5 bo h.opn.lt (fun e => h.opn.ty (owns_ty h.dv.ks e) rfl) (h.opn.ty hb.ty)), h.cnt.at (old5 bk h.cnt.lt (fun e => h.cnt.ty (owns_ty h.dv.ks e) rfl) (h.cnt.ty hb.ty)), ?_, by rw [set_size]; exact Nat.le_trans h.sz hsz⟩
 ·have := owns_store hown hb4 (by decide) 1 v4
  rw [flat_snoc] at this
  simpa using this
 ·rcases hat with hat | hat
  ·simp only; rw [hat]; exact h.hk
  ·exact .inr ⟨_, hat, Nat.le_trans h.sz (by simp)⟩
 ·rw [old5 k (Nat.lt_of_lt_of_le hk h.sz) (fun e => ?_) (by rw [h.one]; exact h1)]
  ·exact h.far k hk h1 h2 h3 h4 h5
  ·rcases h.hk with h6 | ⟨g, h6, h7⟩
   ·rw [h6] at e; exact h2 e
   ·rw [h6] at e; injection e with e; omega
 ·exact ((h.bel.alloc hBw ob).grown hg (by simp; omega) (fun k hk => (h.dv.ks.lt k hk).1)).setCell h.dv.base _
theorem MidO.done {w0 w3 w : World} {B gm N N' bo bz bk gx : Nat} {L : List DraftM} {lv : Value} {E : List EntM} {f : List UInt8 → Option Nat} {kl : List (List UInt8)} {e : EntM} {d : DraftM} {x : EventM} (i : Nat) (hi : i < L.length) (h0 : StB w0 w3 B gm N bo bz bk gx L lv E x)
  (h : MidO w0 w3 w B bo bk gx N' f kl (E.getD i noEn) e d x) (hn : d.nm = (L.getD i noD).nm) (hf : openF (L.set i d) (E.set i e) = f) (hd : kl.Nodup) (hm : ∀ y, y ∈ kl ↔ y ∈ keysD (L.set i d)) (hN : N ≤ N') : MkI w B gm (L.set i d) N' lv bo bz bk (E.set i e) :=
 h0.mi.set i hi e d h.one hn h.far h.dv h.hk h.ho (by rw [hf]; exact h.opn) ⟨kl, h.cnt, hd, hm⟩ hN
def EvKeep (w w' : World) : Prop := ∀ k, Ty w k 123 → w'.heap[k]? = w.heap[k]?
theorem Ty.lt {w : World} {k : Nat} {t : TypeId} (h : Ty w k t) : k < w.heap.size := by
 obtain ⟨cs, fz, h⟩ := h
 exact (Array.getElem?_eq_some_iff.1 h).1
theorem Ty.at {w w' : World} {k : Nat} {t : TypeId} (h : Ty w k t) (e : w'.heap[k]? = w.heap[k]?) : Ty w' k t := by
 obtain ⟨cs, fz, h⟩ := h
 exact ⟨cs, fz, e.trans h⟩
theorem EvKeep.below {w w' : World} (h : Below w.heap.size w w') : EvKeep w w' := fun k hk => h.block k hk.lt
theorem EvKeep.trans {a b c : World} (h : EvKeep a b) (h' : EvKeep b c) : EvKeep a c := fun k hk => (h' k (hk.at (h k hk))).trans (h k hk)
theorem MidB.ev {w0 w3 w : World} {B gm N bo bz bk gx g n : Nat} {L : List DraftM} {lv lv' : Value} {E : List EntM} {x : EventM} (h0 : StB w0 w3 B gm N bo bz bk gx L lv E x) (h : MidB w0 w3 w B gm bo bz bk gx g n lv lv' E x) : EvKeep w0 w := fun k hk => by
 have e3 := h0.bel.block k hk.lt
 have hk3 := hk.at e3
 obtain ⟨ks, c1, -⟩ := h0.mi.ses
 exact (h.far k hk3.lt (hk3.ne h0.mi.bx.ty (by decide)) (fun e => (hk3.ne (owns_ty h0.mi.row e) (by decide)) rfl) (fun e => h0.mi.opn.ty hk3 e.symm) (fun e => c1.ty hk3 e.symm)).trans e3
theorem MidO.ev {w0 w3 w : World} {B gm N N' bo bz bk gx i : Nat} {L : List DraftM} {lv : Value} {E : List EntM} {f : List UInt8 → Option Nat} {kl : List (List UInt8)} {e : EntM} {d : DraftM} {x : EventM} (h0 : StB w0 w3 B gm N bo bz bk gx L lv E x) (hi : i < L.length) (h : MidO w0 w3 w B bo bk gx N' f kl (E.getD i noEn) e d x) : EvKeep w0 w := fun k hk => by
 have e3 := h0.bel.block k hk.lt
 have hk3 := hk.at e3
 obtain ⟨ks, c1, -⟩ := h0.mi.key
 have d0 := h0.mi.dr i hi
 exact (h.far k hk3.lt (hk3.ne d0.blk.ty (by decide)) (fun e => (hk3.ne (owns_ty d0.ks e) (by decide)) rfl) (fun e => (hk3.ne (owns_ty d0.ops e) (by decide)) rfl) (fun e => h0.mi.opn.ty hk3 e.symm) (fun e => c1.ty hk3 e.symm)).trans e3
end
section
open Go.RowKit
section
variable {P : Program} {ops : Array Oper} {Q : Exit → Act → World → Prop} {md : Region.Mode} {S : World → Prop} {late : List Nat}
def wpAnyM (P : Program) (md : Region.Mode) (ops : Array Oper) (Q : Exit → Act → World → Prop) (S : World → Prop) (late : List Nat) : Nat → Array Bool → Act → World → Prop
 | 0, listed, a, w => Region.ready md ops listed = [] ∧ Q .normal a w
 | fuel + 1, listed, a, w =>
  (Region.ready md ops listed = [] → Q .normal a w) ∧
  ∀ i ∈ Region.ready md ops listed, wpOp P ops Q i (fun a' w' => (late.contains i = false → S w → S w') ∧ wpAnyM P md ops Q S late fuel (listed.setIfInBounds i true) a' w') a w
theorem wpAny_of_keep : ∀ (fuel : Nat) (listed : Array Bool) (a : Act) (w : World), wpAnyM P md ops Q S late fuel listed a w → wpAny P md ops Q fuel listed a w
 | 0, _, _, _, h => h
 | fuel + 1, _, _, _, h => ⟨h.1, fun i hi => wpOp_mono (fun a' w' h' => wpAny_of_keep fuel _ a' w' h'.2) (h.2 i hi)⟩
def waitsN' (md : Region.Mode) (ops : Array Oper) : Nat → Nat → Nat → Bool
 | 0, _, _ => false
 | n + 1, l, i => match ops[l]? with
  | some o => o.after.any fun e => Region.binds md e && (e.on == i || waitsN' md ops n e.on i)
  | none => false
def closedB' (md : Region.Mode) (ops : Array Oper) (listed : Array Bool) : Bool := (List.range ops.size).all fun j => !listed.getD j true || match ops[j]? with
 | some o => o.after.all fun e => !Region.binds md e || listed.getD e.on true
 | none => true
def ClosedM (md : Region.Mode) (ops : Array Oper) (listed : Array Bool) : Prop := ∀ j o, ops[j]? = some o → listed.getD j true = true → ∀ e ∈ o.after, Region.binds md e = true → listed.getD e.on true = true
theorem closed_of' {listed : Array Bool} (h : closedB' md ops listed = true) : ClosedM md ops listed := by
 intro j o ho hj e he hb
 have hlt : j < ops.size := (Array.getElem?_eq_some_iff.1 ho).1
 have h1 := List.all_eq_true.1 h j (List.mem_range.2 hlt)
 simp only [hj, Bool.not_true, Bool.false_or, ho] at h1
 have h2 := Array.all_eq_true_iff_forall_mem.1 h1 e he
 simpa [hb] using h2
theorem ready_on' {listed : Array Bool} {j : Nat} {o : Oper} (hj : j ∈ Region.ready md ops listed) (ho : ops[j]? = some o) : ∀ e ∈ o.after, Region.binds md e = true → listed.getD e.on true = true := by
 intro e he hb
 obtain ⟨-, o', ho', hall⟩ := mem_ready.1 hj
 obtain rfl := Option.some.inj (ho.symm.trans ho')
 have h1 := hall e he hb
 rcases Nat.lt_or_ge e.on listed.size with h' | h'
 ·simp [h'] at h1 ⊢; exact h1
 ·simp [Array.getElem?_eq_none h'] at h1
theorem ClosedM.next {listed : Array Bool} (h : ClosedM md ops listed) {j : Nat} (hj : j ∈ Region.ready md ops listed) : ClosedM md ops (listed.setIfInBounds j true) := by
 have up : ∀ k, listed.getD k true = true → (listed.setIfInBounds j true).getD k true = true := by
  intro k hk
  by_cases hjk : j = k
  ·subst hjk
   rcases Nat.lt_or_ge j listed.size with h' | h'
   ·simp [h']
   ·simp
  ·rw [getD_set_ne true hjk]; exact hk
 intro k o ho hk e he hb
 apply up
 by_cases hjk : j = k
 ·subst hjk
  exact ready_on' hj ho e he hb
 ·rw [getD_set_ne true hjk] at hk
  exact h k o ho hk e he hb
theorem waits_open' {i : Nat} {listed : Array Bool} (hc : ClosedM md ops listed) (hi : listed.getD i true = false) : ∀ n l, waitsN' md ops n l i = true → listed.getD l true = false ∧ l ∉ Region.ready md ops listed
 | 0, _, h => by cases h
 | n + 1, l, h => by
  unfold waitsN' at h
  split at h
  ·rename_i o ho
   obtain ⟨e, he, hb⟩ := Array.any_eq_true'.1 h
   simp only [Bool.and_eq_true, Bool.or_eq_true, beq_iff_eq] at hb
   have hne : listed.getD e.on true = false := by
    rcases hb.2 with h1 | h1
    ·rw [h1]; exact hi
    ·exact (waits_open' hc hi n e.on h1).1
   constructor
   ·cases hl : listed.getD l true with
    | false => rfl
    | true => rw [hc l o ho hl e he hb.1] at hne; cases hne
   ·intro hr
    rw [ready_on' hr ho e he hb.1] at hne
    cases hne
  ·cases h
theorem wpAnyM_first {i n : Nat} {oi : Oper} {v : Value} (hi : ops[i]? = some oi) (hsel : ∀ (j : Nat) (o : Oper) cs b, ops[j]? = some o → o.op ≠ .select cs b)
  (hQ : ∀ c a w, Q (.panic c) (a.put oi.dst v) w → Q (.panic c) a w) (hw : late.all (fun l => waitsN' md ops n l i) = true) :
  ∀ (fuel : Nat) (listed : Array Bool) (a : Act) (w : World), ClosedM md ops listed →
   (∀ j oj, ops[j]? = some oj → j ≠ i → listed.getD j true = false → (∀ e ∈ oj.after, Region.binds md e = true → e.on ≠ i) → oi.apart ops oj = true) →
   i ∈ Region.ready md ops listed → YieldsIf P ops S oi v a → S w →
   wpAnyM P md ops Q S late fuel (listed.setIfInBounds i true) (a.put oi.dst v) w → wpAnyM P md ops Q S late (fuel + 1) listed a w := by
 intro fuel
 induction fuel with
 | zero =>
  intro listed a w _ _ hr hy hS H
  refine ⟨fun h => (by rw [h] at hr; cases hr), fun j hj => ?_⟩
  by_cases hji : j = i
  ·subst hji; exact hy.wpOp hi hS ⟨fun _ h => h, H⟩
  ·have := ready_mono hj hji
   rw [H.1] at this
   cases this
 | succ fuel ih =>
  intro listed a w hcl hfree hr hy hS H
  refine ⟨fun h => (by rw [h] at hr; cases hr), fun j hj => ?_⟩
  by_cases hji : j = i
  ·subst hji; exact hy.wpOp hi hS ⟨fun _ h => h, H⟩
  ·have hjl : late.contains j = false := by
    cases hc : late.contains j with
    | false => rfl
    | true =>
     have hm : j ∈ late := by simpa using hc
     exact absurd hj (waits_open' hcl (mem_ready.1 hr).1 n j (List.all_eq_true.1 hw j hm)).2
   have h1 := H.2 j (ready_mono hj hji)
   obtain ⟨hjun, oj, hoj, hall⟩ := mem_ready.1 hj
   have hnot : ∀ e ∈ oj.after, Region.binds md e = true → e.on ≠ i := fun e he hb heq => by
    have h1 := hall e he hb
    have h0 := (mem_ready.1 hr).1
    rw [heq] at h1
    rcases Nat.lt_or_ge i listed.size with h' | h'
    ·simp [h'] at h0 h1; rw [h0] at h1; cases h1
    ·simp [Array.getElem?_eq_none h'] at h1
   have h2 := wpOp_putIf hoj (hfree j oj hoj hji hjun hnot) (fun cs b => hsel i oi cs b hi) (fun cs b => hsel j oj cs b hoj) hQ hy h1
   have hfree' : ∀ k ok, ops[k]? = some ok → k ≠ i → (listed.setIfInBounds j true).getD k true = false →
     (∀ e ∈ ok.after, Region.binds md e = true → e.on ≠ i) → oi.apart ops ok = true := fun k ok hk hki hun hno => by
    refine hfree k ok hk hki ?_ hno
    by_cases hjk : j = k
    ·subst hjk; exact hjun
    ·rw [getD_set_ne true hjk] at hun; exact hun
   refine wpOp_mono (fun a' w' h3 => ⟨fun _ => h3.2.1 hjl, ih (listed.setIfInBounds j true) a' w' (hcl.next hj) hfree' (ready_mono hr (Ne.symm hji)) h3.1 (h3.2.1 hjl hS) ?_⟩) h2
   rw [Array.setIfInBounds_comm _ _ hji]
   exact h3.2.2
theorem wpAnyM_loose {i : Nat} {oi : Oper} {v : Value} (hi : ops[i]? = some oi) (hsel : ∀ (j : Nat) (o : Oper) cs b, ops[j]? = some o → o.op ≠ .select cs b)
  (hQ : ∀ c a w, Q (.panic c) (a.put oi.dst v) w → Q (.panic c) a w) :
  ∀ (fuel : Nat) (listed : Array Bool) (a : Act) (w : World),
   (∀ j oj, ops[j]? = some oj → j ≠ i → listed.getD j true = false → (∀ e ∈ oj.after, Region.binds md e = true → e.on ≠ i) → oi.apart ops oj = true) →
   i ∈ Region.ready md ops listed → YieldsIf P ops (fun _ => True) oi v a →
   wpAnyM P md ops Q S late fuel (listed.setIfInBounds i true) (a.put oi.dst v) w → wpAnyM P md ops Q S late (fuel + 1) listed a w := by
 intro fuel
 induction fuel with
 | zero =>
  intro listed a w _ hr hy H
  refine ⟨fun h => (by rw [h] at hr; cases hr), fun j hj => ?_⟩
  by_cases hji : j = i
  ·subst hji; exact hy.wpOp hi trivial ⟨fun _ h => h, H⟩
  ·have := ready_mono hj hji
   rw [H.1] at this
   cases this
 | succ fuel ih =>
  intro listed a w hfree hr hy H
  refine ⟨fun h => (by rw [h] at hr; cases hr), fun j hj => ?_⟩
  by_cases hji : j = i
  ·subst hji; exact hy.wpOp hi trivial ⟨fun _ h => h, H⟩
  ·have h1 := H.2 j (ready_mono hj hji)
   obtain ⟨hjun, oj, hoj, hall⟩ := mem_ready.1 hj
   have hnot : ∀ e ∈ oj.after, Region.binds md e = true → e.on ≠ i := fun e he hb heq => by
    have h1 := hall e he hb
    have h0 := (mem_ready.1 hr).1
    rw [heq] at h1
    rcases Nat.lt_or_ge i listed.size with h' | h'
    ·simp [h'] at h0 h1; rw [h0] at h1; cases h1
    ·simp [Array.getElem?_eq_none h'] at h1
   have h2 := wpOp_putIf hoj (hfree j oj hoj hji hjun hnot) (fun cs b => hsel i oi cs b hi) (fun cs b => hsel j oj cs b hoj) hQ hy h1
   have hfree' : ∀ k ok, ops[k]? = some ok → k ≠ i → (listed.setIfInBounds j true).getD k true = false →
     (∀ e ∈ ok.after, Region.binds md e = true → e.on ≠ i) → oi.apart ops ok = true := fun k ok hk hki hun hno => by
    refine hfree k ok hk hki ?_ hno
    by_cases hjk : j = k
    ·subst hjk; exact hjun
    ·rw [getD_set_ne true hjk] at hun; exact hun
   refine wpOp_mono (fun a' w' h3 => ⟨h3.2.1, ih (listed.setIfInBounds j true) a' w' hfree' (ready_mono hr (Ne.symm hji)) h3.1 ?_⟩) h2
   rw [Array.setIfInBounds_comm _ _ hji]
   exact h3.2.2
theorem wpAnyM_free (i : Nat) {d : Tmp} {op : Op} {ty : TypeId} {pos : String} {aft : Array Edge} {gd : Option (Nat × Bool)} {v : Value} {fuel : Nat} {listed : Array Bool} {a : Act} {w : World} (hi : ops[i]? = some ⟨some d, op, ty, pos, aft, gd⟩)
  (hs : Region.noSelect ops = true) (hf : Region.free md ops listed i = true) (hr : (Region.ready md ops listed).contains i = true)
  (hQ : ∀ c a w, Q (.panic c) (a.put (some d) v) w → Q (.panic c) a w) (hy : YieldsIf P ops (fun _ => True) ⟨some d, op, ty, pos, aft, gd⟩ v a)
  (h : wpAnyM P md ops Q S late fuel (listed.setIfInBounds i true) (a.put (some d) v) w) : wpAnyM P md ops Q S late (fuel + 1) listed a w :=
 wpAnyM_loose hi (Region.noSelect_spec hs) hQ fuel listed a w (Region.free_spec hi hf) (by simpa using hr) hy h
theorem wpAnyM_take (i n : Nat) {d : Tmp} {op : Op} {ty : TypeId} {pos : String} {aft : Array Edge} {gd : Option (Nat × Bool)} {v : Value} {fuel : Nat} {listed : Array Bool} {a : Act} {w : World} (hi : ops[i]? = some ⟨some d, op, ty, pos, aft, gd⟩)
  (hs : Region.noSelect ops = true) (hf : Region.free md ops listed i = true) (hr : (Region.ready md ops listed).contains i = true) (hw : late.all (fun l => waitsN' md ops n l i) = true) (hcl : closedB' md ops listed = true)
  (hQ : ∀ c a w, Q (.panic c) (a.put (some d) v) w → Q (.panic c) a w) (hy : YieldsIf P ops S ⟨some d, op, ty, pos, aft, gd⟩ v a) (hS : S w)
  (h : wpAnyM P md ops Q S late fuel (listed.setIfInBounds i true) (a.put (some d) v) w) : wpAnyM P md ops Q S late (fuel + 1) listed a w :=
 wpAnyM_first hi (Region.noSelect_spec hs) hQ hw fuel listed a w (closed_of' hcl) (Region.free_spec hi hf) (by simpa using hr) hy hS h
theorem wpAnyM_one (i : Nat) {d : Option Tmp} {op : Op} {ty : TypeId} {pos : String} {aft : Array Edge} {gd : Option (Nat × Bool)} {fuel : Nat} {listed : Array Bool} {a : Act} {w : World} (ho : ops[i]? = some ⟨d, op, ty, pos, aft, gd⟩) (hr : Region.ready md ops listed = [i])
  (h : ∀ K : Act → World → Prop, RowKit.Hid (∀ a' w', (late.contains i = false → S w → S w') → wpAnyM P md ops Q S late fuel (listed.setIfInBounds i true) a' w' → K a' w') → if Region.wanted ⟨d, op, ty, pos, aft, gd⟩ (yielded ops a.tmps) = true then Oper.wp P ⟨d, op, ty, pos, aft, gd⟩ a w K Q else K (a.put d undef) w) : wpAnyM P md ops Q S late (fuel + 1) listed a w := by
 refine ⟨fun h0 => (by rw [hr] at h0; cases h0), fun j hj => ?_⟩
 rw [hr] at hj
 obtain rfl : j = i := by simpa using hj
 exact wpOp_step ho (fun K hK => h K (Lib.hid (fun a' w' h1 h2 => hK a' w' ⟨h1, h2⟩)))
theorem wfr (i : Nat) {d : Tmp} {op : Op} {ty : TypeId} {pos : String} {aft : Array Edge} {gd : Option (Nat × Bool)} {v : Value} {fuel : Nat} {listed : Array Bool} {a : Act} {w : World} (hi : ops[i]? = some ⟨some d, op, ty, pos, aft, gd⟩)
  (hy : ∀ w, True → (execOp a.eval ⟨some d, op, ty, pos, aft, gd⟩).run P w = .ok (.value v) w) (h : wpAnyM P md ops Q S late fuel (listed.setIfInBounds i true) (a.put (some d) v) w)
  (hs : Region.noSelect ops = true := by kernel_rfl) (hf : Region.free md ops listed i = true := by kernel_rfl) (hr : (Region.ready md ops listed).contains i = true := by kernel_rfl)
  (hQ : ∀ c a w, Q (.panic c) (a.put (some d) v) w → Q (.panic c) a w := by exact fun _ _ _ h => h) (hw : Region.wanted ⟨some d, op, ty, pos, aft, gd⟩ (yielded ops a.tmps) = true := by rfl) :
  wpAnyM P md ops Q S late (fuel + 1) listed a w := wpAnyM_free i hi hs hf hr hQ (Or.inl ⟨hw, hy⟩) h
theorem wtk (i n : Nat) {d : Tmp} {op : Op} {ty : TypeId} {pos : String} {aft : Array Edge} {gd : Option (Nat × Bool)} {v : Value} {fuel : Nat} {listed : Array Bool} {a : Act} {w : World} (hi : ops[i]? = some ⟨some d, op, ty, pos, aft, gd⟩)
  (hy : ∀ w, S w → (execOp a.eval ⟨some d, op, ty, pos, aft, gd⟩).run P w = .ok (.value v) w) (hS : S w) (h : wpAnyM P md ops Q S late fuel (listed.setIfInBounds i true) (a.put (some d) v) w)
  (hs : Region.noSelect ops = true := by kernel_rfl) (hf : Region.free md ops listed i = true := by kernel_rfl) (hr : (Region.ready md ops listed).contains i = true := by kernel_rfl)
  (hl : late.all (fun l => waitsN' md ops n l i) = true := by kernel_rfl) (hcl : closedB' md ops listed = true := by kernel_rfl)
  (hQ : ∀ c a w, Q (.panic c) (a.put (some d) v) w → Q (.panic c) a w := by exact fun _ _ _ h => h) (hw : Region.wanted ⟨some d, op, ty, pos, aft, gd⟩ (yielded ops a.tmps) = true := by rfl) :
  wpAnyM P md ops Q S late (fuel + 1) listed a w := wpAnyM_take i n hi hs hf hr hl hcl hQ (Or.inl ⟨hw, hy⟩) hS h
theorem won (i : Nat) {d : Option Tmp} {op : Op} {ty : TypeId} {pos : String} {aft : Array Edge} {gd : Option (Nat × Bool)} {fuel : Nat} {listed : Array Bool} {a : Act} {w : World} (ho : ops[i]? = some ⟨d, op, ty, pos, aft, gd⟩)
  (h : ∀ K : Act → World → Prop, RowKit.Hid (∀ a' w', (late.contains i = false → S w → S w') → wpAnyM P md ops Q S late fuel (listed.setIfInBounds i true) a' w' → K a' w') → if Region.wanted ⟨d, op, ty, pos, aft, gd⟩ (yielded ops a.tmps) = true then Oper.wp P ⟨d, op, ty, pos, aft, gd⟩ a w K Q else K (a.put d undef) w)
  (hr : Region.ready md ops listed = [i] := by kernel_rfl) : wpAnyM P md ops Q S late (fuel + 1) listed a w := wpAnyM_one i ho hr h
theorem wpAnyM_done {listed : Array Bool} {a : Act} {w : World} (hr : Region.ready md ops listed = []) (h : Q .normal a w) : ∀ fuel, wpAnyM P md ops Q S late fuel listed a w
 | 0 => ⟨hr, h⟩
 | _ + 1 => ⟨fun _ => h, by rw [hr]; simp⟩
theorem wp_region_keep (S : World → Prop) (late : List Nat) {id : Nat} {a : Act} {w : World} (hm : P.follows .mixedOrders = true)
  (h : wpAnyM P .any ops Q S late ops.size (Array.replicate ops.size false) a w.drew) : (Code.region id ops true).wp P Q a w :=
 wp_region_any hm (wpAny_of_keep _ _ _ _ h)
end
end
end Go.Proofs.YtmgchjddpmmglaaGreatDoor
