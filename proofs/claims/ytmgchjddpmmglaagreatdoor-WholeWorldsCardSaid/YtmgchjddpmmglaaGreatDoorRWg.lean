/-
  Slices of events: what one holds; a row of the call's own as one. No conditions.
  Blocks of cells known whole: made, kept, stored into; rows of a call's own against them. No conditions.
  The walk of layer 8 (log): what a text is read as. Conditions: unicode/utf8's two tables, and event.words, hold what their initialisers lay, internal/bytealg.MaxLen holds a number; texts of at most 1,000,000 bytes.
  Maps of the call's own keyed by texts, in plain words: counts; pointers. No conditions.
  Slices of structs, whatever the struct: what one holds; a row of the call's own as one, and as an argument. No conditions.
  Layer 10 (pair): what the program's maker holds, as memory of the call's own. No conditions.
-/
import Derived.Test.YtmgchjddpmmglaaGreatDoorRxEvR
import Derived.Laws.OwnMore
import Derived.Maps.OwnSet
namespace Go.Proofs.YtmgchjddpmmglaaGreatDoor
section
open Go.RowKit
def evc (x : EventM) : List Value := [.int .i64 x.1, .string (bs x.2.1), .string (bs x.2.2.1), .int .i64 x.2.2.2.1, .int .i64 x.2.2.2.2.1, .int .i64 x.2.2.2.2.2]
def evcs (L : List EventM) : List Value := L.flatMap evc
theorem evcs_snoc (L : List EventM) (x : EventM) : evcs L ++ evc x = evcs (L ++ [x]) := by simp [evcs]
def EvsS (w : World) (v : Value) (L : List EventM) : Prop := ∃ p cap, v = .slice p L.length cap ∧ ∀ j, j < L.length → ∃ g, p = some ⟨g, 0, none⟩ ∧ ∀ i u, (evc (L.getD j noEv))[i]? = some u → w.cell? ⟨g, j * 6 + i, none⟩ = some u
theorem EvsS.below {w w' : World} {v : Value} {L : List EventM} (h : EvsS w v L) (hb : Below w.heap.size w w') : EvsS w' v L := by
 obtain ⟨p, cap, hv, hc⟩ := h
 refine ⟨p, cap, hv, fun j hj => ?_⟩
 obtain ⟨g, hp, h1⟩ := hc j hj
 exact ⟨g, hp, fun i u hu => cell_later hb (h1 i u hu)⟩
theorem evs_none (w : World) : EvsS w (.slice none 0 0) [] := ⟨none, 0, rfl, fun j hj => absurd hj (Nat.not_lt_zero j)⟩
theorem evcs_get : ∀ (L : List EventM) (j i : Nat), j < L.length → i < 6 → (evcs L)[j * 6 + i]? = (evc (L.getD j noEv))[i]?
 | [], j, _, hj, _ => absurd hj (Nat.not_lt_zero j)
 | x :: L, 0, i, _, hi => by
  have e : evcs (x :: L) = evc x ++ evcs L := by simp [evcs]
  rw [e, Nat.zero_mul, Nat.zero_add, List.getElem?_append_left (by simp [evc]; omega)]
  rfl
 | x :: L, j + 1, i, hj, hi => by
  have e : evcs (x :: L) = evc x ++ evcs L := by simp [evcs]
  have h6 : (evc x).length = 6 := rfl
  rw [e, List.getElem?_append_right (by rw [h6]; omega), h6, show (j + 1) * 6 + i - 6 = j * 6 + i by omega, evcs_get L j i (by simpa using hj) hi]
  rfl
theorem own_evs {w : World} {B : Nat} {e : TypeId} {v : Value} {L : List EventM} (h : w.ownsRow B e 6 v L.length (evcs L)) : EvsS w v L := by
 obtain ⟨-, ⟨h0, hn⟩ | ⟨g, cap, cur, hv, -, hw, -, -, -, ht⟩⟩ := h
 ·have : L = [] := List.eq_nil_of_length_eq_zero hn
  subst this h0
  exact evs_none w
 ·refine ⟨_, cap, hv, fun j hj => ⟨g, rfl, fun i u hu => ?_⟩⟩
  have hi : i < 6 := (List.getElem?_eq_some_iff.1 hu).1
  have h1 := congrArg (fun x : List Value => x[j * 6 + i]?) ht
  simp only [List.getElem?_take, show j * 6 + i < L.length * 6 by omega, if_true, Array.getElem?_toList] at h1
  rw [cell_of_row w g (j * 6 + i) _ _ (0, 0) hw, h1, evcs_get L j i hj hi]
  exact hu
theorem info_ev : (Tryz.prog.info? 123).map (fun i => (i.zero, i.size, i.bytes)) = some (some (.agg #[.int .i64 0, .string ByteArray.empty, .string ByteArray.empty, .int .i64 0, .int .i64 0, .int .i64 0]), 6, 64) := by kernel_rfl
theorem ones_ev (k vk n ln : Int) (s key : ByteArray) : ∀ u ∈ ([.int .i64 k, .string s, .string key, .int .i64 vk, .int .i64 n, .int .i64 ln] : List Value), u.oneCell' = true := by
 intro u hu
 simp at hu
 rcases hu with rfl | rfl | rfl | rfl | rfl | rfl <;> rfl
end
section
open Go.RowKit
def Blk (w : World) (B : Nat) (t : TypeId) (cs : List Value) : Prop := w.heap[B]? = some (.cells cs.toArray t (0, 0))
theorem Blk.lt {w : World} {B : Nat} {t : TypeId} {cs : List Value} (h : Blk w B t cs) : B < w.heap.size := (Array.getElem?_eq_some_iff.1 h).1
theorem Blk.cell {w : World} {B : Nat} {t : TypeId} {cs : List Value} (h : Blk w B t cs) (i : Nat) {v : Value} (hi : cs[i]? = some v) : w.cell? ⟨B, i, none⟩ = some v := by
 rw [cell_of_row w B i cs.toArray t (0, 0) h]
 simpa using hi
theorem Blk.frozen {w : World} {B : Nat} {t : TypeId} {cs : List Value} (h : Blk w B t cs) (i : Nat) : w.frozen? ⟨B, i, none⟩ = false := by
 have h' : w.heap[B]? = some (.cells cs.toArray t (0, 0)) := h
 simp [World.frozen?, h']
theorem Blk.new (w : World) (t : TypeId) (cs : List Value) : Blk (w.alloc (.cells cs.toArray t)) w.heap.size t cs := heap_alloc_new w _
theorem Blk.kept {w w' : World} {row : Option Nat} {B : Nat} {t : TypeId} {cs : List Value} (h : Blk w B t cs) (hg : w.grownBy w' row) (hne : some B ≠ row) : Blk w' B t cs := (hg.block B h.lt hne).trans h
theorem Blk.alloc {w : World} {B : Nat} {t : TypeId} {cs : List Value} (h : Blk w B t cs) (o : Obj) : Blk (w.alloc o) B t cs := h.kept (World.grownBy_alloc w o none) (by simp)
theorem Blk.drew {w : World} {B : Nat} {t : TypeId} {cs : List Value} (h : Blk w B t cs) : Blk w.drew B t cs := h
theorem Blk.drewN {w : World} {B : Nat} {t : TypeId} {cs : List Value} (h : Blk w B t cs) (n : Nat) : Blk (w.drewN n) B t cs := h
theorem Blk.below {w w' : World} {B n : Nat} {t : TypeId} {cs : List Value} (h : Blk w B t cs) (hb : Below n w w') (hn : B < n) : Blk w' B t cs := (hb.block B hn).trans h
theorem Blk.later {w w' : World} {B : Nat} {t : TypeId} {cs : List Value} (h : Blk w B t cs) (hb : Below w.heap.size w w') : Blk w' B t cs := h.below hb h.lt
theorem Blk.far {w : World} {B : Nat} {t : TypeId} {cs : List Value} (h : Blk w B t cs) {a : Addr} (hne : B ≠ a.block) (v : Value) : Blk (w.setCell a v) B t cs := (Below.heap_setCell w a v B hne).trans h
theorem Blk.set {w : World} {B : Nat} {t : TypeId} {cs : List Value} (h : Blk w B t cs) (i : Nat) (v : Value) : Blk (w.setCell ⟨B, i, none⟩ v) B t (cs.set i v) := by
 have h' : w.heap[B]? = some (.cells cs.toArray t (0, 0)) := h
 simp [Blk, World.setCell, Array.getElem?_modify, h']
theorem owns_far {w : World} {base size n : Nat} {e : TypeId} {v : Value} {xs : List Value} (h : w.ownsRow base e size v n xs) {a : Addr} (ha : a.block < base) (u : Value) : (w.setCell a u).ownsRow base e size v n xs := by
 obtain ⟨h1, h2⟩ := h
 refine ⟨h1, ?_⟩
 rcases h2 with h2 | ⟨g, cap, cur, e1, hb, hw, r⟩
 ·exact .inl h2
 ·exact .inr ⟨g, cap, cur, e1, hb, (Below.heap_setCell w a u g (by omega)).trans hw, r⟩
theorem owns_keep {w w' : World} {base size n m : Nat} {e : TypeId} {v : Value} {xs : List Value} (h : w.ownsRow base e size v n xs) (hb : Below m w w') (hm : ∀ k, v.ownBlock = some k → k < m) : w'.ownsRow base e size v n xs := by
 obtain ⟨h1, h2⟩ := h
 refine ⟨h1, ?_⟩
 rcases h2 with h2 | ⟨g, cap, cur, e1, hg, hw, r⟩
 ·exact .inl h2
 ·exact .inr ⟨g, cap, cur, e1, hg, (hb.block g (hm g (by subst e1; rfl))).trans hw, r⟩
theorem owns_later {w w' : World} {base size n : Nat} {e : TypeId} {v : Value} {xs : List Value} (h : w.ownsRow base e size v n xs) (hb : Below w.heap.size w w') : w'.ownsRow base e size v n xs := owns_keep h hb (fun k hk => (h.lt k hk).2)
theorem owns_other {w w' : World} {base base' size size' n n' : Nat} {e e' : TypeId} {v v' : Value} {xs xs' : List Value} (h : w.ownsRow base e size v n xs) (h' : w.ownsRow base' e' size' v' n' xs') (hne : e ≠ e') (hg : w.grownBy w' v'.ownBlock) : w'.ownsRow base e size v n xs := by
 refine h.kept hg ?_
 rcases h.2 with ⟨rfl, -⟩ | ⟨g, cap, cur, rfl, -, hw, -⟩
 ·exact .inl rfl
 ·refine .inr fun he => ?_
  rcases h'.2 with ⟨rfl, -⟩ | ⟨g', cap', cur', rfl, -, hw', -⟩
  ·cases he
  ·have e1 : g = g' := by simpa [Value.ownBlock] using he
   subst e1
   rw [hw] at hw'
   injection hw' with hw'
   injection hw' with _ hw'
   exact hne hw'
theorem Blk.grown {w w' : World} {B base size n : Nat} {t e : TypeId} {cs : List Value} {v : Value} {xs : List Value} (h : Blk w B t cs) (ho : w.ownsRow base e size v n xs) (hB : B < base) (hg : w.grownBy w' v.ownBlock) : Blk w' B t cs :=
 h.kept hg (fun he => by have := (ho.lt B he.symm).1; omega)
theorem below_own {w w' : World} {a : World} {B base size n : Nat} {e : TypeId} {v : Value} {xs : List Value} (hb : Below B a w) (hB : B ≤ base) (hs : B ≤ w.heap.size) (ho : w.ownsRow base e size v n xs) (hg : w.grownBy w' v.ownBlock) : Below B a w' :=
 hb.grown hg hs (fun k hk => Nat.le_trans hB (ho.lt k hk).1)
theorem below_own2 {w w' : World} {a : World} {B base size n : Nat} {e : TypeId} {v : Value} {xs : List Value} (hb : Below B a w) (hB : B ≤ base) (hs : B ≤ a.heap.size) (ho : w.ownsRow base e size v n xs) (hg : w.grownBy w' v.ownBlock) : Below B a w' :=
 below_own hb hB (Nat.le_trans hs hb.size) ho hg
theorem owns_some {w : World} {base size k : Nat} {e : TypeId} {v : Value} {xs : List Value} (h : w.ownsRow base e size v (k + 1) xs) : ∃ g cap, v = .slice (some ⟨g, 0, none⟩) (k + 1) cap := by
 rcases h.2 with ⟨-, h2⟩ | ⟨g, cap, cur, rfl, -⟩
 ·cases h2
 ·exact ⟨g, cap, rfl⟩
theorem owns_store {w : World} {base size n B : Nat} {e t : TypeId} {v : Value} {xs cs : List Value} (h : w.ownsRow base e size v n xs) (hB : Blk w B t cs) (hne : e ≠ t) (i : Nat) (u : Value) : (w.setCell ⟨B, i, none⟩ u).ownsRow base e size v n xs := by
 obtain ⟨h1, h2⟩ := h
 refine ⟨h1, ?_⟩
 rcases h2 with h2 | ⟨g, cap, cur, e1, hg, hw, r⟩
 ·exact .inl h2
 ·refine .inr ⟨g, cap, cur, e1, hg, (Below.heap_setCell w _ u g fun he => ?_).trans hw, r⟩
  have he' : g = B := he
  subst he'
  have hB' : w.heap[g]? = some (.cells cs.toArray t (0, 0)) := hB
  rw [hw] at hB'
  injection hB' with hB'
  injection hB' with _ hB'
  exact hne hB'
theorem news_lit (w : World) (cs : List Value) (e : TypeId) (n : Nat) (hn : n = w.heap.size) : ∀ (j : Nat) (u : Value), cs[j]? = some u → (w.alloc (.cells cs.toArray e)).cell? ((⟨n, 0, none⟩ : Addr).add j) = some u := by
 intro j u hj
 subst hn
 rw [Addr.add_lit, Nat.zero_add]
 exact (Blk.new w e cs).cell j hj
theorem owns_apart {w w' : World} {b1 N s1 s2 n1 n2 : Nat} {e1 e2 : TypeId} {v1 v2 : Value} {xs1 xs2 : List Value} (h : w.ownsRow b1 e1 s1 v1 n1 xs1) (hN : ∀ k, v1.ownBlock = some k → k < N) (h2 : w.ownsRow N e2 s2 v2 n2 xs2) (hg : w.grownBy w' v2.ownBlock) : w'.ownsRow b1 e1 s1 v1 n1 xs1 := by
 refine h.kept hg ?_
 cases hb : v1.ownBlock with
 | none => exact .inl rfl
 | some k =>
  refine .inr fun he => ?_
  have := (h2.lt k he.symm).1
  have := hN k hb
  omega
theorem owns_form {w : World} {base size n : Nat} {e : TypeId} {v : Value} {xs : List Value} (h : w.ownsRow base e size v n xs) : ∃ p cap, v = .slice p n cap := by
 rcases h.2 with ⟨rfl, rfl⟩ | ⟨g, cap, cur, rfl, -⟩
 ·exact ⟨_, _, rfl⟩
 ·exact ⟨_, _, rfl⟩
theorem owns_base {w : World} {base base' size n : Nat} {e : TypeId} {v : Value} {xs : List Value} (h : w.ownsRow base e size v n xs) (hb : base' ≤ base) : w.ownsRow base' e size v n xs := by
 obtain ⟨h1, h2⟩ := h
 refine ⟨h1, ?_⟩
 rcases h2 with h2 | ⟨g, cap, cur, e1, hg, r⟩
 ·exact .inl h2
 ·exact .inr ⟨g, cap, cur, e1, Nat.le_trans hb hg, r⟩
end
section
open Go.RowKit Go.Lib
theorem go_err (t : List UInt8) (r : List (List UInt8)) (i : Nat) (out : List EventM) (x : EventM) (b : Bool) (e : Int) (h : parseE t = (x, b, e)) (he : e ≠ 0) : logGo (t :: r) i out = ([], ((i + 1 : Nat) : Int), e) := by
 unfold logGo
 rw [h, if_pos he]
theorem go_skip' (t : List UInt8) (r : List (List UInt8)) (i : Nat) (out : List EventM) (x : EventM) (h : parseE t = (x, false, 0)) : logGo (t :: r) i out = logGo r (i + 1) out := by
 rw [logGo]
 rw [h, if_neg (by simp), if_pos rfl]
theorem go_full (t : List UInt8) (r : List (List UInt8)) (i : Nat) (out : List EventM) (x : EventM) (h : parseE t = (x, true, 0)) (hl : out.length = 1000) : logGo (t :: r) i out = ([], ((i + 1 : Nat) : Int), 7) := by
 unfold logGo
 rw [h, if_neg (by simp), if_neg (by simp), if_pos hl]
theorem go_more (t : List UInt8) (r : List (List UInt8)) (i : Nat) (out : List EventM) (x : EventM) (h : parseE t = (x, true, 0)) (hl : out.length ≠ 1000) : logGo (t :: r) i out = logGo r (i + 1) (out ++ [onLine x ((i + 1 : Nat) : Int)]) := by
 rw [logGo]
 rw [h, if_neg (by simp), if_neg (by simp), if_neg hl]
theorem parse_cases (t : List UInt8) : (∃ x e, parseE t = (x, false, e) ∧ (e != 0) = true) ∨ (∃ x, parseE t = (x, false, 0)) ∨ (∃ x, parseE t = (x, true, 0)) := by
 obtain ⟨⟨x, b, e⟩, h⟩ : ∃ y, parseE t = y := ⟨_, rfl⟩
 have hm := parse_may t
 rw [h] at hm ⊢
 cases b with
 | false =>
  by_cases he : e = 0
  ·subst he; exact .inr (.inl ⟨x, rfl⟩)
  ·exact .inl ⟨x, e, rfl, by simpa using he⟩
 | true =>
  have := (hm rfl).1
  simp only at this
  subst this
  exact .inr (.inr ⟨x, rfl⟩)
theorem line_short (l : List UInt8) (j : Nat) : ((ofL l).1.getD j []).length ≤ l.length := by
 by_cases h : j < (ofL l).1.length
 ·have hm : (ofL l).1.getD j [] ∈ (ofL l).1 := by simp [h]
  generalize (ofL l).1.getD j [] = x at *
  have key : ∀ (full : List (List UInt8)) (r : List (List UInt8)) (n : Nat), x ∈ (resGo full n r).1 → x ∈ full := by
   intro full r
   induction r with
   | nil => intro n hx; exact hx
   | cons y r ih =>
    intro n hx
    unfold resGo at hx
    split at hx
    ·exact ih _ hx
    ·cases hx
  unfold ofL at hm
  split at hm
  ·cases hm
  ·have h1 := key _ _ _ hm
   have lines : ∀ (t cur : List UInt8), ∀ y ∈ linesAux cur t, y.length ≤ cur.length + t.length := by
    intro t
    induction t with
    | nil =>
     intro cur y hy
     unfold linesAux at hy
     split at hy
     ·cases hy
     ·obtain rfl : y = cur := by simpa using hy
      simp
    | cons b t ih =>
     intro cur y hy
     unfold linesAux at hy
     split at hy
     ·rcases List.mem_cons.1 hy with rfl | hy
      ·omega
      ·have := ih [] y hy
       simp at this ⊢
       omega
     ·have := ih _ y hy
      simp at this ⊢
      omega
   have := lines l [] x h1
   simpa using this
 ·have : (ofL l).1.getD j [] = [] := by simp [h]
  rw [this]
  exact Nat.zero_le _
set_option maxRecDepth 100000 in
set_option maxHeartbeats 8000000 in
theorem log_any (l : List UInt8) (hl : l.length ≤ 1000000) (w : World) (hT : Lib.Utf8Tabs 1 2 w) (hm : HasMax w) (hE : EvTab w) :
  Calls Tryz.prog 69 #[.string (bs l)] w fun e w' => ∃ v, e = .returned (.tuple #[v, .int .i64 (readL l).2.1, .int .i64 (readL l).2.2]) ∧ EvsS w' v (readL l).1 ∧ Below w.heap.size w w' := by
 have HO := Lib.hid (lof_any l hl w hm)
 have HP := Lib.hid (fun t (ht : t.length ≤ 1000000) w' (h : Below w.heap.size w w') => eparse_any t ht w' (Utf8Tabs_below hT h) (hm.below h) (hE.below h))
 have HLs := Lib.hid (fun j => Nat.le_trans (line_short l j) hl)
 have hlen : (ofL l).1.length ≤ 1000001 := by
  unfold ofL
  split
  ·simp
  ·by_cases h : (resGo (linesL l) 0 (linesL l)).2.2 = 0
   ·rw [(resGo_full _ _ _ h).1]
    have := lines_len l []
    unfold linesL
    omega
   ·rw [(resGo_bad _ _ _ h).1]; simp
 clear hT hm hE
 have hre : readL l = if (ofL l).2.2 ≠ 0 then ([], ((ofL l).2.1 : Int), ((ofL l).2.2 : Int)) else logGo (ofL l).1 0 [] := rfl
 obtain ⟨⟨lns, en, ee⟩, hof⟩ : ∃ y, ofL l = y := ⟨_, rfl⟩
 rw [hof] at HO HLs hlen hre
 simp only at HO HLs hlen hre
 generalize readL l = R at *
 clear hof hl
 by_cases he : ee = 0
 ·subst he
  rw [if_neg (by simp)] at hre
  have HRe := Lib.hid hre
  clear hre
  obtain ⟨i0, hi, hz0, hz1, hz2⟩ := info_parts info_ev
  go_enter Tryz.func69, Tryz.ntmps69
  go_wp2_with fail
  refine HO.out.mono ?_
  rintro e w1 ⟨v1, rfl, hv1, hb1⟩
  obtain ⟨p, cap, rfl, hc⟩ := hv1
  have HC := Lib.hid hc
  have HB1 := Lib.hid hb1
  clear hc hb1
  go_wp2_with fail
  go_loopw [8, 26] (fun v8 i wr => ∃ (k : Nat) (out : List EventM), k ≤ lns.length ∧ out.length ≤ k ∧ i = .int .i64 k ∧ wr.ownsRow w1.heap.size 123 6 v8 out.length (evcs out) ∧ RowKit.Hid (logGo (lns.drop k) k out = R) ∧ Below w1.heap.size w1 wr) (fun _ i _ => lns.length - (RowKit.intOf i).toNat)
  case atStart => exact ⟨0, [], Nat.zero_le _, Nat.le_refl _, rfl, World.ownsRow_nil _ _ _ _, Lib.hid (by rw [List.drop_zero]; exact HRe.out.symm), Below.refl _ _⟩
  case round =>
   obtain ⟨k, out, hk, hol, rfl, hown, HG, hbw⟩ := hrel
   by_cases hlt : k < lns.length
   ·obtain ⟨g, rfl, hcell⟩ := HC.out k hlt
    have hc1 := cell_later hbw hcell
    have hd : lns.drop k = lns.getD k [] :: lns.drop (k + 1) := by
     rw [List.drop_eq_getElem_cons hlt]
     simp [hlt]
    have HG2 := Lib.hid HG.out
    rw [hd] at HG2
    have htl := HLs.out k
    have HPk := Lib.hid (HP.out (lns.getD k []) htl)
    generalize lns.getD k [] = t at *
    have HB := Lib.hid (below_next HB1.out hbw)
    have HBw := Lib.hid hbw
    have HOw := Lib.hid hown
    clear HG hd hcell hown hbw htl
    rcases parse_cases t with ⟨x, e, hp, he⟩ | ⟨x, hp⟩ | ⟨x, hp⟩
    ·rw [hp] at HPk
     have HR : RowKit.Hid (R = ([], ((k + 1 : Nat) : Int), e)) := Lib.hid (by rw [← HG2.out]; exact go_err _ _ _ _ _ _ _ hp (by simpa using he))
     clear hp HG2
     obtain ⟨x1, x2, x3, x4, x5, x6⟩ := x
     unfold evV at HPk
     dsimp only at HPk
     go_wp2_with fail
     refine (HPk.out _ HB.out).mono ?_
     rintro e2 w2 ⟨rfl, hb2⟩
     have hf2 := below_next HB.out hb2
     go_wp2_with fail
     go_ret3
     exact ⟨_, by rw [HR.out]; rfl, by rw [HR.out]; exact evs_none _, hf2.alloc hf2.size _⟩
    ·rw [hp] at HPk
     have HR : RowKit.Hid (logGo (lns.drop (k + 1)) (k + 1) out = R) := Lib.hid (by rw [← HG2.out]; exact (go_skip' _ _ _ _ _ hp).symm)
     clear hp HG2
     obtain ⟨x1, x2, x3, x4, x5, x6⟩ := x
     unfold evV at HPk
     dsimp only at HPk
     go_wp2_with fail
     refine (HPk.out _ HB.out).mono ?_
     rintro e2 w2 ⟨rfl, hb2⟩
     have hf2 := below_next HBw.out hb2
     have ho2 := (owns_later HOw.out hb2)
     go_wp2_with fail
     go_roundw
     case rel => exact ⟨k + 1, out, by omega, by omega, by go_num, ho2.alloc _, HR, hf2.alloc hf2.size _⟩
     case measure => simp [RowKit.intOf]; omega
    ·rw [hp] at HPk
     obtain ⟨x1, x2, x3, x4, x5, x6⟩ := x
     obtain ⟨p8, c8, rfl⟩ := owns_form HOw.out
     by_cases hfull : out.length = 1000
     ·have HR : RowKit.Hid (R = ([], ((k + 1 : Nat) : Int), 7)) := Lib.hid (by rw [← HG2.out]; exact go_full _ _ _ _ _ hp hfull)
      have hfb : ((out.length : Int) == 1000) = true := by simp; omega
      clear hp HG2 hfull
      unfold evV at HPk
      dsimp only at HPk
      go_wp2_with fail
      refine (HPk.out _ HB.out).mono ?_
      rintro e2 w2 ⟨rfl, hb2⟩
      have hf2 := below_next HB.out hb2
      go_wp2_with fail
      go_ret3
      exact ⟨_, by rw [HR.out]; rfl, by rw [HR.out]; exact evs_none _, hf2.alloc hf2.size _⟩
     ·have HR : RowKit.Hid (logGo (lns.drop (k + 1)) (k + 1) (out ++ [(x1, x2, x3, x4, x5, (k : Int) + 1)]) = R) := Lib.hid (by rw [← HG2.out]; exact (go_more _ _ _ _ _ hp hfull).symm)
      have hfb : ((out.length : Int) == 1000) = false := by rw [beq_eq_false_iff_ne]; omega
      clear hp HG2 hfull
      unfold evV at HPk
      dsimp only at HPk
      go_wp2_with fail
      refine (HPk.out _ HB.out).mono ?_
      rintro e2 w2 ⟨rfl, hb2⟩
      have hbx := below_next HBw.out hb2
      have ho2 := owns_later HOw.out hb2
      have hz := hbx.size
      clear hb2
      go_wp2_with (at_builtin; refine wpList_append_own _ rfl (.tmp 52) (.tmp 54) 82 rfl w1.heap.size 123 i0 (.agg #[.int .i64 0, .string ByteArray.empty, .string ByteArray.empty, .int .i64 0, .int .i64 0, .int .i64 0]) 6 64 Tryz.underlying82 hi hz0 hz1 hz2 rfl (by decide) _ _ _ rfl ((ho2.alloc _).alloc _) ⟨w2.heap.size + 1, 0, none⟩ 1 1 [.int .i64 x1, .string (bs x2), .string (bs x3), .int .i64 x4, .int .i64 x5, .int .i64 ((k : Int) + 1)] rfl rfl (news_lit _ _ _ _ (by simp)) (ones_ev _ _ _ _ _ _) (by unfold maxLen; omega) (by omega) (by simp; omega) ?_)
      intro v4 w4 hown4 hgrow hnil
      have hb4 : Below w1.heap.size w1 w4 := ((hbx.alloc hz _).alloc (by simp; omega) _).grown hgrow (by simp; omega) (fun k hk => (ho2.lt k hk).1)
      have HO4 : RowKit.Hid (w4.ownsRow w1.heap.size 123 6 v4 (out ++ [(x1, x2, x3, x4, x5, (k : Int) + 1)]).length (evcs (out ++ [(x1, x2, x3, x4, x5, (k : Int) + 1)]))) := Lib.hid (by rw [← evcs_snoc, List.length_append]; exact hown4)
      clear hown4 hgrow hnil ho2 hbx
      go_wp2_with fail
      go_roundw
      case rel => exact ⟨k + 1, _, by omega, by simp; omega, by go_num, HO4.out, HR, hb4⟩
      case measure => simp [RowKit.intOf]; omega
   ·have hke : k = lns.length := by omega
    subst hke
    have HR : RowKit.Hid (R = (out, 0, 0)) := Lib.hid (by rw [← HG.out, List.drop_length]; rfl)
    have HOw := Lib.hid (own_evs hown)
    clear hown HG
    go_wp2_with fail
    go_ret3
    exact ⟨_, by rw [HR.out]; rfl, by rw [HR.out]; exact HOw.out, below_next HB1.out hbw⟩
 ·have hd : (((ee : Nat) : Int) != 0) = true := by simp; omega
  rw [if_pos he] at hre
  have HRe := Lib.hid hre
  clear hre he
  go_enter Tryz.func69, Tryz.ntmps69
  go_wp2_with fail
  refine HO.out.mono ?_
  rintro e w1 ⟨v1, rfl, hv1, hb1⟩
  go_wp2_with fail
  go_ret3
  exact ⟨_, by rw [HRe.out]; rfl, by rw [HRe.out]; exact evs_none _, hb1⟩
end
section
open Go.RowKit Go.Lib Go.Maps Go.WideMaps
theorem heap_kept (w : World) (o : Obj) {r : Nat} (h : r < w.heap.size) : (w.alloc o).heap[r]? = w.heap[r]? := by
 show (w.heap.push o)[r]? = _
 rw [Array.getElem?_push, if_neg (by omega)]
theorem owns_cap {w : World} {base size n m c : Nat} {e : TypeId} {v : Value} {xs : List Value} {p : Option Addr} (h : w.ownsRow base e size v n xs) (hv : v = .slice p m c) : n ≤ c := by
 rcases h.2 with ⟨rfl, rfl⟩ | ⟨g, cap, cur, rfl, -, -, hc, -⟩
 ·exact Nat.zero_le _
 ·injection hv with _ _ hv
  rw [← hv]
  exact hc
theorem keyStr : Keyed Tryz.prog 9 := string_keyed Tryz.underlying9
theorem key_of (l : List UInt8) (h : l.length ≤ 9223372036854775807) : keyOf Tryz.prog 9 (.string (bs l)) = some (.string l) := by
 have h1 := keyOf_string_mk Tryz.underlying9 (s := bs l) (by rw [bs_size]; unfold maxLen; exact h)
 rw [h1]
 simp [bs]
theorem ownsMap_at {H : Type} {w w' : World} {P : Program} {k : TypeId} {R : Value → Option (DataW H × List MemPlace)} {b n : Nat} {D : DataW H} (h : w.ownsMap P k R b n D) (e : w'.heap[b]? = w.heap[b]?) : w'.ownsMap P k R b n D := by
 obtain ⟨es, clock, hb, r⟩ := h
 exact ⟨es, clock, e.trans hb, r⟩
theorem ownsMap_tight {H : Type} {w : World} {P : Program} {k : TypeId} {R : Value → Option (DataW H × List MemPlace)} {b n : Nat} {D : DataW H} (h : w.ownsMap P k R b n D) : w.ownsMap P k R b (Maps.size D) D := by
 obtain ⟨es, clock, hb, F, _, rfl⟩ := h
 exact ⟨es, clock, hb, F, by simp [Maps.size, length_sorted], rfl⟩
def CntM (w : World) (b : Nat) (ks : List (List UInt8)) (N : Nat) : Prop :=
 ∃ D : DataW Unit, w.ownsMap Tryz.prog 9 (plainElem Tryz.prog 3) b (Maps.size D) D ∧ Maps.size D = ks.length ∧ (∀ l, Maps.has D (.string l) = decide (l ∈ ks)) ∧
  ∀ l, ∃ c : Int, (∀ z, l ∈ ks → D.atKey (.string l) z = .lit (.int .i64 c)) ∧ (l ∈ ks → 1 ≤ c ∧ c ≤ N)
theorem CntM.at {w w' : World} {b : Nat} {ks : List (List UInt8)} {N : Nat} (h : CntM w b ks N) (e : w'.heap[b]? = w.heap[b]?) : CntM w' b ks N := by
 obtain ⟨D, h1, h2⟩ := h
 exact ⟨D, ownsMap_at h1 e, h2⟩
theorem CntM.lt {w : World} {b : Nat} {ks : List (List UInt8)} {N : Nat} (h : CntM w b ks N) : b < w.heap.size := by
 obtain ⟨D, h1, h2⟩ := h
 exact h1.lt
theorem cnt_new (w : World) : CntM (w.alloc (.map #[] 0)) w.heap.size [] 0 :=
 ⟨.map [], ownsMap_tight (World.ownsMap_made w _ _ _), rfl, fun l => by simp [Maps.has], fun l => ⟨0, fun _ h => (by cases h), fun h => (by cases h)⟩⟩
theorem zero_cnt (w : World) : (zeroValue 3).run Tryz.prog w = .ok (.int .i64 0) w := by kernel_rfl
set_option maxRecDepth 10000 in
theorem cnt_look {w : World} {b : Nat} {ks : List (List UInt8)} {N : Nat} (h : CntM w b ks N) (hN : ks.length ≤ 1000000 ∧ N ≤ 1000000) (l : List UInt8) (hl : l.length ≤ 9223372036854775807) :
  ∃ c : Int, (c = 0 ↔ l ∉ ks) ∧ 0 ≤ c ∧ c ≤ N ∧ ∀ w1 : World, w1.heap[b]? = w.heap[b]? → (Instr.lookup 132 (.map (some b)) (.string (bs l)) false).run Tryz.prog w1 = .ok (.int .i64 c) w1 ∧
   ∃ w', (Instr.mapUpdate 132 (.map (some b)) (.string (bs l)) (.int .i64 (c + 1))).run Tryz.prog w1 = .ok () w' ∧ CntM w' b (if l ∈ ks then ks else ks ++ [l]) (N + 1) ∧ w1.mapTurned w' b := by
 obtain ⟨D, h1, h2, h3, h4⟩ := h
 obtain ⟨c, -, hat, -⟩ := h1.lookup_int keyStr Tryz.underlying132 Tryz.underlying3 (zero_cnt w) (key_of l hl)
 have hat0 := hat
 have hc : (c = 0 ↔ l ∉ ks) ∧ 0 ≤ c ∧ c ≤ N := by
  by_cases hk : l ∈ ks
  ·obtain ⟨c', e1, e2⟩ := h4 l
   rw [e1 _ hk] at hat
   have e : c' = c := by injection hat with hat; injection hat
   have := e2 hk
   subst e
   exact ⟨⟨fun h => by omega, fun h => absurd hk h⟩, by omega, by omega⟩
  ·have e := atKey_of_not_has (D := D) (k := .string l) (by rw [h3]; exact decide_eq_false hk) (.lit (.int .i64 0))
   rw [e] at hat
   have e : 0 = c := by injection hat with hat; injection hat
   subst e
   exact ⟨⟨fun _ => hk, fun _ => rfl⟩, Int.le_refl _, by omega⟩
 have hsz : Maps.size D < maxLen := by unfold maxLen; omega
 refine ⟨c, hc.1, hc.2.1, hc.2.2, fun w1 hw1 => ?_⟩
 replace h1 := ownsMap_at h1 hw1
 obtain ⟨c', hrun, hat', -⟩ := h1.lookup_int keyStr Tryz.underlying132 Tryz.underlying3 (zero_cnt w1) (key_of l hl)
 have ecc : c' = c := by rw [hat0] at hat'; injection hat' with hat'; injection hat' with _ hat'; exact hat'.symm
 subst ecc
 obtain ⟨w', r1, r2, r3⟩ := h1.store keyStr Tryz.underlying132 hsz (key_of l hl) (plainElem_int Tryz.underlying3 (WalkArith.wf_i64 (n := c' + 1) (by omega)))
 refine ⟨hrun, w', r1, ⟨D.put (.string l) (.lit (.int .i64 (c' + 1))), ownsMap_tight r2, ?_, fun k => ?_, fun k => ?_⟩, r3⟩
 ·rw [size_put (h1.tidy keyStr), h3, h2]
  by_cases hk : l ∈ ks
  ·rw [if_pos (decide_eq_true hk), if_pos hk]
  ·rw [if_neg (by simpa using hk), if_neg hk]; simp
 ·by_cases e : k = l
  ·subst e
   rw [has_put_same h1.isMap (show WideAt.IsKeyLit (.string k) from trivial)]
   by_cases hk : k ∈ ks
   ·simp [hk]
   ·simp [hk]
  ·rw [has_put_other (by simpa using e), h3]
   by_cases hk : l ∈ ks
   ·simp [hk]
   ·simp [hk, e]
 ·by_cases e : k = l
  ·subst e
   refine ⟨c' + 1, fun z _ => atKey_put_same h1.isMap (show WideAt.IsKeyLit (.string k) from trivial) _ _, fun _ => ⟨by omega, by omega⟩⟩
  ·obtain ⟨c2, e1, e2⟩ := h4 k
   have hm : k ∈ (if l ∈ ks then ks else ks ++ [l]) → k ∈ ks := by
    by_cases hk : l ∈ ks
    ·rw [if_pos hk]; exact id
    ·rw [if_neg hk]; simp [e]
   exact ⟨c2, fun z h => by rw [atKey_put_other (by simpa using e)]; exact e1 z (hm h), fun h => by have := e2 (hm h); omega⟩
theorem cnt_len {w : World} {b : Nat} {ks : List (List UInt8)} {N : Nat} (h : CntM w b ks N) (ty : TypeId) : (Builtin.len_ #[132] ty #[.map (some b)]).run Tryz.prog w = .ok (.int .i64 ks.length) w := by
 obtain ⟨D, h1, h2, -⟩ := h
 rw [← h2]
 exact h1.len Tryz.underlying132 ty
def ptrElem : Value → Option (DataW Unit × List MemPlace)
 | .pointer none => some (.lit (.int .i64 (-1)), [])
 | .pointer (some ⟨g, 0, none⟩) => some (.lit (.int .i64 g), [])
 | _ => none
def ptrAt : Option Nat → Value
 | none => .pointer none
 | some g => .pointer (some ⟨g, 0, none⟩)
def numAt : Option Nat → Int
 | none => -1
 | some g => g
theorem ptr_elem (o : Option Nat) : ptrElem (ptrAt o) = some (.lit (.int .i64 (numAt o)), []) := by cases o <;> rfl
theorem ptr_inv {v : Value} {o : Option Nat} {ps : List MemPlace} (h : ptrElem v = some (.lit (.int .i64 (numAt o)), ps)) : v = ptrAt o := by
 have lit : ∀ (a b : Int) (q q' : List MemPlace), (some ((.lit (.int .i64 a) : DataW Unit), q) = some ((.lit (.int .i64 b) : DataW Unit), q')) → a = b := fun a b q q' e => by
  simpa using (Prod.mk.inj (Option.some.inj e)).1
 unfold ptrElem at h
 split at h
 ·have e := lit _ _ _ _ h
  cases o with
  | none => rfl
  | some g => simp only [numAt] at e; omega
 ·have e := lit _ _ _ _ h
  cases o with
  | none => simp only [numAt] at e; omega
  | some g =>
   simp only [numAt] at e
   rename_i g'
   have e2 : g' = g := by omega
   rw [e2]; rfl
 ·cases h
def updF (f : List UInt8 → Option Nat) (l : List UInt8) (o : Option Nat) (k : List UInt8) : Option Nat := if k = l then o else f k
theorem upd_same (f : List UInt8 → Option Nat) (l : List UInt8) (o : Option Nat) : updF f l o l = o := if_pos rfl
theorem upd_other (f : List UInt8 → Option Nat) (l : List UInt8) (o : Option Nat) {k : List UInt8} (h : k ≠ l) : updF f l o k = f k := if_neg h
def OpnM (w : World) (b : Nat) (f : List UInt8 → Option Nat) (n : Nat) : Prop :=
 ∃ D : DataW Unit, w.ownsMap Tryz.prog 9 ptrElem b n D ∧ (∀ l, Maps.has D (.string l) = (f l).isSome) ∧ ∀ l z, (f l).isSome = true → D.atKey (.string l) z = .lit (.int .i64 (numAt (f l)))
theorem OpnM.at {w w' : World} {b n : Nat} {f : List UInt8 → Option Nat} (h : OpnM w b f n) (e : w'.heap[b]? = w.heap[b]?) : OpnM w' b f n := by
 obtain ⟨D, h1, h2⟩ := h
 exact ⟨D, ownsMap_at h1 e, h2⟩
theorem OpnM.lt {w : World} {b n : Nat} {f : List UInt8 → Option Nat} (h : OpnM w b f n) : b < w.heap.size := by
 obtain ⟨D, h1, h2⟩ := h
 exact h1.lt
theorem opn_new (w : World) : OpnM (w.alloc (.map #[] 0)) w.heap.size (fun _ => none) 0 :=
 ⟨.map [], World.ownsMap_made w _ _ _, fun l => by simp [Maps.has], fun l z h => (by cases h)⟩
theorem zero_ptr (w : World) : (zeroValue 135).run Tryz.prog w = .ok (.pointer none) w := by kernel_rfl
theorem opn_look {w : World} {b n : Nat} {f : List UInt8 → Option Nat} (h : OpnM w b f n) (l : List UInt8) (hl : l.length ≤ 9223372036854775807) :
  (Instr.lookup 131 (.map (some b)) (.string (bs l)) false).run Tryz.prog w = .ok (ptrAt (f l)) w := by
 obtain ⟨D, h1, h2, h3⟩ := h
 obtain ⟨v, ps, hrun, hv⟩ := h1.lookup keyStr Tryz.underlying131 (zero_ptr w) (zd := .lit (.int .i64 (-1))) (zp := []) rfl (key_of l hl)
 have e : D.atKey (.string l) (.lit (.int .i64 (-1))) = .lit (.int .i64 (numAt (f l))) := by
  cases hf : f l with
  | some g =>
   have h4 := h3 l (.lit (.int .i64 (-1))) (by rw [hf]; rfl)
   rw [hf] at h4
   exact h4
  | none => exact atKey_of_not_has (by rw [h2, hf]; rfl) _
 rw [e] at hv
 rw [hrun, ptr_inv hv]
theorem opn_put {w : World} {b n : Nat} {f : List UInt8 → Option Nat} (h : OpnM w b f n) (hn : n ≤ 1000000) (l : List UInt8) (hl : l.length ≤ 9223372036854775807) (g : Nat) :
  ∃ w', (Instr.mapUpdate 131 (.map (some b)) (.string (bs l)) (.pointer (some ⟨g, 0, none⟩))).run Tryz.prog w = .ok () w' ∧ OpnM w' b (updF f l (some g)) (n + 1) ∧ w.mapTurned w' b := by
 obtain ⟨D, h1, h2, h3⟩ := h
 obtain ⟨w', r1, r2, r3⟩ := h1.store keyStr Tryz.underlying131 (by unfold maxLen; omega) (key_of l hl) (ptr_elem (some g))
 refine ⟨w', r1, ⟨_, r2, fun k => ?_, fun k z hk => ?_⟩, r3⟩
 ·by_cases e : k = l
  ·subst e
   rw [has_put_same h1.isMap (show WideAt.IsKeyLit (.string k) from trivial), upd_same]; rfl
  ·rw [has_put_other (by simpa using e), upd_other _ _ _ e, h2]
 ·by_cases e : k = l
  ·subst e
   rw [atKey_put_same h1.isMap (show WideAt.IsKeyLit (.string k) from trivial), upd_same]
  ·rw [upd_other _ _ _ e] at hk ⊢
   rw [atKey_put_other (by simpa using e)]
   exact h3 k z hk
theorem opn_del {w : World} {b n : Nat} {f : List UInt8 → Option Nat} (h : OpnM w b f n) (l : List UInt8) (hl : l.length ≤ 9223372036854775807) (ty : TypeId) :
  ∃ w', (Builtin.delete_ #[131, 9] ty #[.map (some b), .string (bs l)]).run Tryz.prog w = .ok (.tuple #[]) w' ∧ OpnM w' b (updF f l none) n ∧ w.mapTurned w' b := by
 obtain ⟨D, h1, h2, h3⟩ := h
 obtain ⟨w', r1, r2, r3⟩ := h1.drop keyStr Tryz.underlying131 (key_of l hl) ty
 refine ⟨w', r1, ⟨_, r2, fun k => ?_, fun k z hk => ?_⟩, r3⟩
 ·by_cases e : k = l
  ·subst e
   rw [has_del_same, upd_same]; rfl
  ·rw [has_del_other (by simpa using e), upd_other _ _ _ e, h2]
 ·by_cases e : k = l
  ·subst e
   rw [upd_same] at hk; cases hk
  ·rw [upd_other _ _ _ e] at hk ⊢
   rw [atKey_del_other (by simpa using e)]
   exact h3 k z hk
end
section
open Go.RowKit
theorem flat_at {α : Type} (f : α → List Value) (s : Nat) (hf : ∀ x, (f x).length = s) (d : α) : ∀ (L : List α) (j i : Nat), j < L.length → i < s → (L.flatMap f)[j * s + i]? = (f (L.getD j d))[i]?
 | [], j, _, hj, _ => absurd hj (Nat.not_lt_zero j)
 | x :: L, 0, i, _, hi => by
  rw [List.flatMap_cons, Nat.zero_mul, Nat.zero_add, List.getElem?_append_left (by rw [hf]; exact hi)]
  rfl
 | x :: L, j + 1, i, hj, hi => by
  rw [List.flatMap_cons, List.getElem?_append_right (by rw [hf, Nat.add_mul]; omega), hf, show (j + 1) * s + i - s = j * s + i by rw [Nat.add_mul]; omega]
  rw [flat_at f s hf d L j i (by simpa using hj) hi]
  rfl
theorem flat_len {α : Type} (f : α → List Value) (s : Nat) (hf : ∀ x, (f x).length = s) (L : List α) : (L.flatMap f).length = L.length * s := by
 induction L with
 | nil => simp
 | cons x L ih => rw [List.flatMap_cons, List.length_append, ih, hf, List.length_cons, Nat.add_mul]; omega
theorem flat_set {α : Type} (f : α → List Value) (s : Nat) (hf : ∀ x, (f x).length = s) (A B : List α) (x y : α) (i : Nat) (u : Value) (hi : i < s) (hy : f y = (f x).set i u) : ((A ++ x :: B).flatMap f).set (A.length * s + i) u = (A ++ y :: B).flatMap f := by
 rw [List.flatMap_append, List.flatMap_append, List.flatMap_cons, List.flatMap_cons, List.set_append_right _ _ (by rw [flat_len f s hf]; omega), flat_len f s hf, show A.length * s + i - A.length * s = i by omega, List.set_append_left _ _ (by rw [hf]; exact hi), hy]
theorem flat_snoc {α : Type} (f : α → List Value) (L : List α) (x : α) : L.flatMap f ++ f x = (L ++ [x]).flatMap f := by simp
def SlS {α : Type} (f : α → List Value) (s : Nat) (d : α) (w : World) (v : Value) (L : List α) : Prop := ∃ p cap, v = .slice p L.length cap ∧ ∀ j, j < L.length → ∃ g, p = some ⟨g, 0, none⟩ ∧ ∀ i u, (f (L.getD j d))[i]? = some u → w.cell? ⟨g, j * s + i, none⟩ = some u
theorem SlS.below {α : Type} {f : α → List Value} {s : Nat} {d : α} {w w' : World} {v : Value} {L : List α} (h : SlS f s d w v L) (hb : Below w.heap.size w w') : SlS f s d w' v L := by
 obtain ⟨p, cap, hv, hc⟩ := h
 refine ⟨p, cap, hv, fun j hj => ?_⟩
 obtain ⟨g, hp, h1⟩ := hc j hj
 exact ⟨g, hp, fun i u hu => cell_later hb (h1 i u hu)⟩
theorem sls_none {α : Type} (f : α → List Value) (s : Nat) (d : α) (w : World) : SlS f s d w (.slice none 0 0) [] := ⟨none, 0, rfl, fun j hj => absurd hj (Nat.not_lt_zero j)⟩
theorem own_sls {α : Type} {f : α → List Value} {s : Nat} (d : α) (hf : ∀ x, (f x).length = s) {w : World} {B : Nat} {e : TypeId} {v : Value} {L : List α} (h : w.ownsRow B e s v L.length (L.flatMap f)) : SlS f s d w v L := by
 obtain ⟨-, ⟨h0, hn⟩ | ⟨g, cap, cur, hv, -, hw, -, -, -, ht⟩⟩ := h
 ·have : L = [] := List.eq_nil_of_length_eq_zero hn
  subst this h0
  exact sls_none f s d w
 ·refine ⟨_, cap, hv, fun j hj => ⟨g, rfl, fun i u hu => ?_⟩⟩
  have hi : i < s := by
   have := (List.getElem?_eq_some_iff.1 hu).1
   rw [hf] at this
   exact this
  have hjs : j * s + i < L.length * s := by
   have : (j + 1) * s ≤ L.length * s := Nat.mul_le_mul_right s hj
   rw [Nat.add_mul] at this
   omega
  have h1 := congrArg (fun x : List Value => x[j * s + i]?) ht
  simp only [List.getElem?_take, hjs, if_true, Array.getElem?_toList] at h1
  rw [cell_of_row w g (j * s + i) _ _ (0, 0) hw, h1, flat_at f s hf d L j i hj hi]
  exact hu
end
section
open Go.RowKit Go.Lib Go.Maps
theorem owns_at {w w' : World} {base size n : Nat} {e : TypeId} {v : Value} {xs : List Value} (h : w.ownsRow base e size v n xs) (hb : ∀ k, v.ownBlock = some k → w'.heap[k]? = w.heap[k]?) : w'.ownsRow base e size v n xs := by
 obtain ⟨h1, h2⟩ := h
 refine ⟨h1, ?_⟩
 rcases h2 with h2 | ⟨g, cap, cur, e1, hg, hw, r⟩
 ·exact .inl h2
 ·exact .inr ⟨g, cap, cur, e1, hg, (hb g (by subst e1; rfl)).trans hw, r⟩
theorem Blk.at {w w' : World} {B : Nat} {t : TypeId} {cs : List Value} (h : Blk w B t cs) (e : w'.heap[B]? = w.heap[B]?) : Blk w' B t cs := e.trans h
def Ty (w : World) (g : Nat) (t : TypeId) : Prop := ∃ cs fz, w.heap[g]? = some (.cells cs t fz)
theorem Ty.ne {w : World} {g g' : Nat} {t t' : TypeId} (h : Ty w g t) (h' : Ty w g' t') (hne : t ≠ t') : g ≠ g' := by
 rintro rfl
 obtain ⟨_, _, h⟩ := h
 obtain ⟨_, _, h'⟩ := h'
 rw [h] at h'
 injection h' with h'
 injection h' with _ h'
 exact hne h'
theorem Blk.ty {w : World} {B : Nat} {t : TypeId} {cs : List Value} (h : Blk w B t cs) : Ty w B t := ⟨_, _, h⟩
theorem owns_ty {w : World} {base size n : Nat} {e : TypeId} {v : Value} {xs : List Value} (h : w.ownsRow base e size v n xs) {g : Nat} (hg : v.ownBlock = some g) : Ty w g e := by
 rcases h.2 with ⟨rfl, -⟩ | ⟨g', cap, cur, rfl, -, hw, -⟩
 ·cases hg
 ·have : g' = g := by simpa [Value.ownBlock] using hg
  subst this
  exact ⟨_, _, hw⟩
theorem map_ty {H : Type} {w : World} {P : Program} {k t : TypeId} {R : Value → Option (DataW H × List MemPlace)} {b n g : Nat} {D : DataW H} (h : w.ownsMap P k R b n D) (h' : Ty w g t) : b ≠ g := by
 rintro rfl
 obtain ⟨es, clock, hb, -⟩ := h
 obtain ⟨_, _, h'⟩ := h'
 rw [hb] at h'
 cases h'
theorem OpnM.ty {w : World} {b n g : Nat} {t : TypeId} {f : List UInt8 → Option Nat} (h : OpnM w b f n) (h' : Ty w g t) : b ≠ g := by
 obtain ⟨D, h1, -⟩ := h
 exact map_ty h1 h'
theorem CntM.ty {w : World} {b n g : Nat} {t : TypeId} {ks : List (List UInt8)} (h : CntM w b ks n) (h' : Ty w g t) : b ≠ g := by
 obtain ⟨D, h1, -⟩ := h
 exact map_ty h1 h'
def opc (o : OpM) : List Value := [.bool o.1, .int .i64 o.2.1, .int .i64 o.2.2.1, .int .i64 o.2.2.2]
theorem opc_len (o : OpM) : (opc o).length = 4 := rfl
def nmc (l : List UInt8) : List Value := [.string (bs l)]
abbrev EntM := Nat × Value × Value
def noEn : EntM := (0, .slice none 0 0, .slice none 0 0)
def drc (d : DraftM) (e : EntM) : List Value := [.string (bs d.nm), e.2.1, .int .i64 d.ln, .int .i64 0, .int .i64 d.fate, e.2.2]
structure DraftV (w : World) (B : Nat) (e : EntM) (d : DraftM) : Prop where
 base : B ≤ e.1
 blk : Blk w e.1 137 (drc d e)
 ks : w.ownsRow B 9 1 e.2.1 d.ks.length (d.ks.flatMap nmc)
 ops : w.ownsRow B 51 4 e.2.2 d.ops.length (d.ops.flatMap opc)
theorem DraftV.at {w w' : World} {B : Nat} {e : EntM} {d : DraftM} (h : DraftV w B e d) (h1 : w'.heap[e.1]? = w.heap[e.1]?) (h2 : ∀ k, e.2.1.ownBlock = some k → w'.heap[k]? = w.heap[k]?) (h3 : ∀ k, e.2.2.ownBlock = some k → w'.heap[k]? = w.heap[k]?) : DraftV w' B e d :=
 ⟨h.base, h.blk.at h1, owns_at h.ks h2, owns_at h.ops h3⟩
def ptc (e : EntM) : List Value := [.pointer (some ⟨e.1, 0, none⟩)]
def openF (L : List DraftM) (E : List EntM) (l : List UInt8) : Option Nat := if atD L l < L.length then some (E.getD (atD L l) noEn).1 else none
structure MkI (w : World) (B gm : Nat) (L : List DraftM) (N : Nat) (lv : Value) (bo bz bk : Nat) (E : List EntM) : Prop where
 bx : Blk w gm 134 [lv, .map (some bo), .map (some bz), .map (some bk)]
 base : B ≤ gm ∧ B ≤ bo ∧ B ≤ bz ∧ B ≤ bk
 maps : bo ≠ bz ∧ bo ≠ bk ∧ bz ≠ bk
 row : w.ownsRow B 135 1 lv E.length (E.flatMap ptc)
 len : E.length = L.length
 opn : OpnM w bo (openF L E) N
 ses : ∃ ks, CntM w bz ks N ∧ ks.Nodup ∧ ∀ x, x ∈ ks ↔ x ∈ namesD L
 key : ∃ ks, CntM w bk ks N ∧ ks.Nodup ∧ ∀ x, x ∈ ks ↔ x ∈ keysD L
 dr : ∀ i, i < L.length → DraftV w B (E.getD i noEn) (L.getD i noD)
 ne : ∀ i j, i < j → j < L.length → (E.getD i noEn).1 ≠ (E.getD j noEn).1
 nek : ∀ i j, i < j → j < L.length → ∀ g, (E.getD i noEn).2.1.ownBlock = some g → (E.getD j noEn).2.1.ownBlock ≠ some g
 neo : ∀ i j, i < j → j < L.length → ∀ g, (E.getD i noEn).2.2.ownBlock = some g → (E.getD j noEn).2.2.ownBlock ≠ some g
theorem own_lt {w : World} {base size n : Nat} {e : TypeId} {v : Value} {xs : List Value} (h : w.ownsRow base e size v n xs) {k : Nat} (hk : v.ownBlock = some k) : k < w.heap.size := (h.lt k hk).2
theorem MkI.zlt {w : World} {B gm N bo bz bk : Nat} {L : List DraftM} {lv : Value} {E : List EntM} (h : MkI w B gm L N lv bo bz bk E) : bz < w.heap.size := by
 obtain ⟨ks, c1, -⟩ := h.ses
 exact c1.lt
theorem MkI.below {w w' : World} {B gm N bo bz bk : Nat} {L : List DraftM} {lv : Value} {E : List EntM} (h : MkI w B gm L N lv bo bz bk E) (hb : Below w.heap.size w w') : MkI w' B gm L N lv bo bz bk E := by
 have k : ∀ g, g < w.heap.size → w'.heap[g]? = w.heap[g]? := fun g hg => hb.block g hg
 obtain ⟨k1, c1, n1, m1⟩ := h.ses
 obtain ⟨k2, c2, n2, m2⟩ := h.key
 exact ⟨h.bx.at (k _ h.bx.lt), h.base, h.maps, owns_at h.row (fun g hg => k g (own_lt h.row hg)), h.len, h.opn.at (k _ h.opn.lt), ⟨k1, c1.at (k _ c1.lt), n1, m1⟩, ⟨k2, c2.at (k _ c2.lt), n2, m2⟩,
  fun i hi => (h.dr i hi).at (k _ (h.dr i hi).blk.lt) (fun g hg => k g (own_lt (h.dr i hi).ks hg)) (fun g hg => k g (own_lt (h.dr i hi).ops hg)), h.ne, h.nek, h.neo⟩
theorem getD_snoc_lt (E : List EntM) (e : EntM) (i : Nat) (h : i < E.length) : (E ++ [e]).getD i noEn = E.getD i noEn := by simp [List.getElem?_append_left h]
theorem getD_snoc_eq (E : List EntM) (e : EntM) : (E ++ [e]).getD E.length noEn = e := by simp
theorem getD_snoc_lt' (E : List DraftM) (e : DraftM) (i : Nat) (h : i < E.length) : (E ++ [e]).getD i noD = E.getD i noD := by simp [List.getElem?_append_left h]
theorem getD_snoc_eq' (E : List DraftM) (e : DraftM) : (E ++ [e]).getD E.length noD = e := by simp
theorem atD_snoc (L : List DraftM) (d : DraftM) (s : List UInt8) : atD (L ++ [d]) s = if atD L s < L.length then atD L s else if isAt s d = true then L.length else L.length + 1 := by
 unfold atD
 rw [List.findIdx_append]
 by_cases h : List.findIdx (isAt s) L < L.length
 ·rw [if_pos h, if_pos h]
 ·rw [if_neg h, if_neg h, List.findIdx_singleton]
  by_cases e : isAt s d = true
  ·rw [if_pos e, if_pos e, Nat.zero_add]
  ·rw [if_neg e, if_neg e, Nat.add_comm]
theorem CntM.mono {w : World} {b N N' : Nat} {ks : List (List UInt8)} (h : CntM w b ks N) (hN : N ≤ N') : CntM w b ks N' := by
 obtain ⟨D, h1, h2, h3, h4⟩ := h
 refine ⟨D, h1, h2, h3, fun l => ?_⟩
 obtain ⟨c, e1, e2⟩ := h4 l
 exact ⟨c, e1, fun hk => by have := e2 hk; omega⟩
theorem OpnM.mono {w : World} {b n n' : Nat} {f : List UInt8 → Option Nat} (h : OpnM w b f n) (hn : n ≤ n') : OpnM w b f n' := by
 obtain ⟨D, h1, h2⟩ := h
 exact ⟨D, h1.mono hn, h2⟩
theorem names_add {s : List UInt8} {ks M : List (List UInt8)} (hd : ks.Nodup) (hm : ∀ x, x ∈ ks ↔ x ∈ M) : (if s ∈ ks then ks else ks ++ [s]).Nodup ∧ ∀ x, x ∈ (if s ∈ ks then ks else ks ++ [s]) ↔ x ∈ M ++ [s] := by
 by_cases h : s ∈ ks
 ·rw [if_pos h]
  refine ⟨hd, fun x => ?_⟩
  rw [hm, List.mem_append, List.mem_singleton]
  exact ⟨fun h => .inl h, fun h' => h'.elim id (fun e => by rw [e]; exact (hm s).1 h)⟩
 ·rw [if_neg h]
  refine ⟨List.nodup_append.2 ⟨hd, by simp, fun a ha b hb => ?_⟩, fun x => by rw [List.mem_append, List.mem_append, hm]⟩
  rw [List.mem_singleton] at hb
  subst hb
  intro e
  subst e
  exact h ha
theorem MkI.mono {w : World} {B gm N N' bo bz bk : Nat} {L : List DraftM} {lv : Value} {E : List EntM} (h : MkI w B gm L N lv bo bz bk E) (hN : N ≤ N') : MkI w B gm L N' lv bo bz bk E := by
 obtain ⟨k1, c1, n1, m1⟩ := h.ses
 obtain ⟨k2, c2, n2, m2⟩ := h.key
 exact ⟨h.bx, h.base, h.maps, h.row, h.len, h.opn.mono hN, ⟨k1, c1.mono hN, n1, m1⟩, ⟨k2, c2.mono hN, n2, m2⟩, h.dr, h.ne, h.nek, h.neo⟩
theorem MkI.begin {w w' : World} {B gm N N' bo bz bk g : Nat} {L : List DraftM} {lv lv' : Value} {E : List EntM} (s : List UInt8) (ln : Int) (h : MkI w B gm L N lv bo bz bk E) (hno : ¬ atD L s < L.length) (hg : w.heap.size ≤ g) (hB : B ≤ g)
  (hs : ∀ k, k < w.heap.size → k ≠ gm → lv.ownBlock ≠ some k → k ≠ bo → k ≠ bz → w'.heap[k]? = w.heap[k]?) (hm : Blk w' gm 134 [lv', .map (some bo), .map (some bz), .map (some bk)])
  (hr : w'.ownsRow B 135 1 lv' (E.length + 1) (E.flatMap ptc ++ [.pointer (some ⟨g, 0, none⟩)])) (hd : Blk w' g 137 [.string (bs s), .slice none 0 0, .int .i64 ln, .int .i64 0, .int .i64 0, .slice none 0 0])
  (ho : OpnM w' bo (updF (openF L E) s (some g)) N') (hz : ∃ ks, CntM w' bz ks N' ∧ ks.Nodup ∧ ∀ x, x ∈ ks ↔ x ∈ namesD L ++ [s]) (hN : N ≤ N') : MkI w' B gm (L ++ [⟨s, [], ln, 0, [], true⟩]) N' lv' bo bz bk (E ++ [(g, .slice none 0 0, .slice none 0 0)]) := by
 obtain ⟨k1, c1, -⟩ := h.ses
 obtain ⟨k2, c2, n2, m2⟩ := h.key
 have hl := h.len
 -- what is none of the turned blocks
 have far : ∀ k t, k < w.heap.size → Ty w k t → t ≠ 134 → t ≠ 135 → w'.heap[k]? = w.heap[k]? := fun k t hk ht e1 e2 =>
  hs k hk (ht.ne h.bx.ty e1) (fun e => (ht.ne (owns_ty h.row e) e2) rfl) (fun e => h.opn.ty ht e.symm) (fun e => c1.ty ht e.symm)
 have lt : ∀ i, i < L.length → (E.getD i noEn).1 < w.heap.size := fun i hi => (h.dr i hi).blk.lt
 refine ⟨hm, h.base, h.maps, ?_, by rw [List.length_append, List.length_append, hl]; rfl, ?_, by rw [names_snoc]; exact hz, ⟨k2, (c2.at (hs bk c2.lt (c2.ty h.bx.ty) (fun e => c2.ty (owns_ty h.row e) rfl) (Ne.symm h.maps.2.1) (Ne.symm h.maps.2.2))).mono hN, n2, fun x => by rw [keys_snoc, List.append_nil]; exact m2 x⟩, fun i hi => ?_, fun i j hij hj => ?_, fun i j hij hj k hk => ?_, fun i j hij hj k hk => ?_⟩
 ·rw [List.length_append, List.flatMap_append]; exact hr
 ·have e : openF (L ++ [⟨s, [], ln, 0, [], true⟩]) (E ++ [(g, .slice none 0 0, .slice none 0 0)]) = updF (openF L E) s (some g) := by
   funext x
   unfold openF updF
   rw [atD_snoc]
   by_cases hx : x = s
   ·subst hx
    have e2 : isAt x (⟨x, [], ln, 0, [], true⟩ : DraftM) = true := by simp [isAt]
    rw [if_neg hno, if_pos e2, if_pos rfl, if_pos (by simp), ← hl, getD_snoc_eq]
   ·have e2 : ¬ isAt x (⟨s, [], ln, 0, [], true⟩ : DraftM) = true := by simp [isAt, Ne.symm hx]
    rw [if_neg e2, if_neg hx]
    by_cases h3 : atD L x < L.length
    ·rw [if_pos h3, if_pos (by simp; omega), getD_snoc_lt _ _ _ (by omega)]; exact (if_pos h3).symm
    ·rw [if_neg h3, if_neg (by simp)]; exact (if_neg h3).symm
  rw [e]; exact ho
 ·rw [List.length_append] at hi
  have hi' : i < L.length ∨ i = L.length := by simp at hi; omega
  rcases hi' with hi' | rfl
  ·rw [getD_snoc_lt _ _ _ (by omega), getD_snoc_lt' _ _ _ hi']
   have d := h.dr i hi'
   exact d.at (far _ _ d.blk.lt d.blk.ty (by decide) (by decide)) (fun k hk => far k _ (own_lt d.ks hk) (owns_ty d.ks hk) (by decide) (by decide)) (fun k hk => far k _ (own_lt d.ops hk) (owns_ty d.ops hk) (by decide) (by decide))
  ·rw [getD_snoc_eq', ← hl, getD_snoc_eq]
   exact ⟨hB, hd, World.ownsRow_nil _ _ _ _, World.ownsRow_nil _ _ _ _⟩
 all_goals
  rw [List.length_append] at hj
  have hj' : j < L.length ∨ j = L.length := by simp at hj; omega
 ·rcases hj' with hj' | rfl
  ·rw [getD_snoc_lt _ _ _ (by omega), getD_snoc_lt _ _ _ (by omega)]
   exact h.ne i j hij hj'
  ·have := lt i hij
   rw [getD_snoc_lt _ _ _ (by omega), ← hl, getD_snoc_eq]
   simp only
   omega
 ·rcases hj' with hj' | rfl
  ·rw [getD_snoc_lt _ _ _ (by omega)] at hk ⊢
   exact h.nek i j hij hj' k hk
  ·rw [← hl, getD_snoc_eq]
   simp [Value.ownBlock]
 ·rcases hj' with hj' | rfl
  ·rw [getD_snoc_lt _ _ _ (by omega)] at hk ⊢
   exact h.neo i j hij hj' k hk
  ·rw [← hl, getD_snoc_eq]
   simp [Value.ownBlock]
theorem getD_setE (E : List EntM) (i j : Nat) (e : EntM) (hi : i < E.length) : (E.set i e).getD j noEn = if i = j then e else E.getD j noEn := by
 by_cases h : i = j
 ·subst h; simp [hi]
 ·rw [if_neg h]; simp [List.getElem?_set_ne h]
theorem flat_ptc (E : List EntM) (i : Nat) (e : EntM) (hi : i < E.length) (h : e.1 = (E.getD i noEn).1) : (E.set i e).flatMap ptc = E.flatMap ptc := by
 rw [List.flatMap_def, List.flatMap_def]
 congr 1
 apply List.ext_getElem
 ·simp
 ·intro j h1 h2
  simp only [List.length_map] at h2
  rw [List.getElem_map, List.getElem_map, List.getElem_set]
  by_cases e2 : i = j
  ·subst e2
   have e3 : E.getD i noEn = E[i] := by simp [hi]
   rw [if_pos rfl]; unfold ptc; rw [h, e3]
  ·rw [if_neg e2]
theorem MkI.set {w w' : World} {B gm N N' bo bz bk : Nat} {L : List DraftM} {lv : Value} {E : List EntM} (h : MkI w B gm L N lv bo bz bk E) (i : Nat) (hi : i < L.length) (e : EntM) (d : DraftM) (he : e.1 = (E.getD i noEn).1) (hn : d.nm = (L.getD i noD).nm)
  (hs : ∀ k, k < w.heap.size → k ≠ (E.getD i noEn).1 → (E.getD i noEn).2.1.ownBlock ≠ some k → (E.getD i noEn).2.2.ownBlock ≠ some k → k ≠ bo → k ≠ bk → w'.heap[k]? = w.heap[k]?) (hd : DraftV w' B e d)
  (hk : e.2.1.ownBlock = (E.getD i noEn).2.1.ownBlock ∨ ∃ g, e.2.1.ownBlock = some g ∧ w.heap.size ≤ g) (ho : e.2.2.ownBlock = (E.getD i noEn).2.2.ownBlock ∨ ∃ g, e.2.2.ownBlock = some g ∧ w.heap.size ≤ g)
  (hp : OpnM w' bo (openF (L.set i d) (E.set i e)) N') (hy : ∃ ks, CntM w' bk ks N' ∧ ks.Nodup ∧ ∀ x, x ∈ ks ↔ x ∈ keysD (L.set i d)) (hN : N ≤ N') : MkI w' B gm (L.set i d) N' lv bo bz bk (E.set i e) := by
 obtain ⟨k1, c1, n1, m1⟩ := h.ses
 obtain ⟨k2, c2, n2, m2⟩ := h.key
 have hl := h.len
 have hiE : i < E.length := by omega
 have di := h.dr i hi
 have far : ∀ k t, k < w.heap.size → Ty w k t → t ≠ 137 → t ≠ 9 → t ≠ 51 → w'.heap[k]? = w.heap[k]? := fun k t hk ht e1 e2 e3 =>
  hs k hk (ht.ne di.blk.ty e1) (fun e => (ht.ne (owns_ty di.ks e) e2) rfl) (fun e => (ht.ne (owns_ty di.ops e) e3) rfl) (fun e => h.opn.ty ht e.symm) (fun e => c2.ty ht e.symm)
 have near : ∀ j, j < L.length → j ≠ i → DraftV w' B (E.getD j noEn) (L.getD j noD) := fun j hj hji => by
  have dj := h.dr j hj
  have q1 : (E.getD j noEn).1 ≠ (E.getD i noEn).1 := by
   rcases Nat.lt_or_gt_of_ne hji with h1 | h1
   ·exact h.ne j i h1 hi
   ·exact (h.ne i j h1 hj).symm
  have q2 : ∀ k, (E.getD j noEn).2.1.ownBlock = some k → (E.getD i noEn).2.1.ownBlock ≠ some k := fun k h3 h4 => by
   rcases Nat.lt_or_gt_of_ne hji with h1 | h1
   ·exact h.nek j i h1 hi k h3 h4
   ·exact h.nek i j h1 hj k h4 h3
  have q3 : ∀ k, (E.getD j noEn).2.2.ownBlock = some k → (E.getD i noEn).2.2.ownBlock ≠ some k := fun k h3 h4 => by
   rcases Nat.lt_or_gt_of_ne hji with h1 | h1
   ·exact h.neo j i h1 hi k h3 h4
   ·exact h.neo i j h1 hj k h4 h3
  refine dj.at (hs _ dj.blk.lt q1 (fun e => (dj.blk.ty.ne (owns_ty di.ks e) (by decide)) rfl) (fun e => (dj.blk.ty.ne (owns_ty di.ops e) (by decide)) rfl) (fun e => h.opn.ty dj.blk.ty e.symm) (fun e => c2.ty dj.blk.ty e.symm)) (fun k hk => ?_) (fun k hk => ?_)
  ·have t := owns_ty dj.ks hk
   exact hs k (own_lt dj.ks hk) (t.ne di.blk.ty (by decide)) (q2 k hk) (fun e => (t.ne (owns_ty di.ops e) (by decide)) rfl) (fun e => h.opn.ty t e.symm) (fun e => c2.ty t e.symm)
  ·have t := owns_ty dj.ops hk
   exact hs k (own_lt dj.ops hk) (t.ne di.blk.ty (by decide)) (fun e => (t.ne (owns_ty di.ks e) (by decide)) rfl) (q3 k hk) (fun e => h.opn.ty t e.symm) (fun e => c2.ty t e.symm)
 refine ⟨h.bx.at (far _ _ h.bx.lt h.bx.ty (by decide) (by decide) (by decide)), h.base, h.maps, ?_, by rw [List.length_set, List.length_set]; exact hl, hp, ⟨k1, (c1.at (hs bz c1.lt (c1.ty di.blk.ty) (fun e => c1.ty (owns_ty di.ks e) rfl) (fun e => c1.ty (owns_ty di.ops e) rfl) (Ne.symm h.maps.1) h.maps.2.2)).mono hN, n1, fun x => by rw [names_set L i d hi hn]; exact m1 x⟩, hy, fun j hj => ?_, fun a b hab hb => ?_, fun a b hab hb k h3 h4 => ?_, fun a b hab hb k h3 h4 => ?_⟩
 ·rw [List.length_set, flat_ptc E i e hiE he]
  exact owns_at h.row (fun k hk => far k _ (own_lt h.row hk) (owns_ty h.row hk) (by decide) (by decide) (by decide))
 ·rw [List.length_set] at hj
  rw [getD_setE E i j e hiE, getD_setD L i j d hi]
  by_cases q : i = j
  ·rw [if_pos q, if_pos q]; exact hd
  ·rw [if_neg q, if_neg q]; exact near j hj (fun e => q e.symm)
 all_goals rw [List.length_set] at hb
 ·rw [getD_setE E i a e hiE, getD_setE E i b e hiE]
  have q1 : (if i = a then e else E.getD a noEn).1 = (E.getD a noEn).1 := by
   by_cases q : i = a
   ·rw [if_pos q, he, q]
   ·rw [if_neg q]
  have q2 : (if i = b then e else E.getD b noEn).1 = (E.getD b noEn).1 := by
   by_cases q : i = b
   ·rw [if_pos q, he, q]
   ·rw [if_neg q]
  rw [q1, q2]
  exact h.ne a b hab hb
 ·rw [getD_setE E i a e hiE] at h3
  rw [getD_setE E i b e hiE] at h4
  by_cases qa : i = a
  ·rw [if_pos qa] at h3
   rw [if_neg (by omega)] at h4
   rcases hk with hk | ⟨g, hk, hg⟩
   ·rw [hk, qa] at h3; exact h.nek a b hab hb k h3 h4
   ·rw [hk] at h3
    have := own_lt (h.dr b hb).ks h4
    injection h3 with h3
    omega
  ·rw [if_neg qa] at h3
   by_cases qb : i = b
   ·rw [if_pos qb] at h4
    rcases hk with hk | ⟨g, hk, hg⟩
    ·rw [hk, qb] at h4; exact h.nek a b hab hb k h3 h4
    ·rw [hk] at h4
     have := own_lt (h.dr a (by omega)).ks h3
     injection h4 with h4
     omega
   ·rw [if_neg qb] at h4; exact h.nek a b hab hb k h3 h4
 ·rw [getD_setE E i a e hiE] at h3
  rw [getD_setE E i b e hiE] at h4
  by_cases qa : i = a
  ·rw [if_pos qa] at h3
   rw [if_neg (by omega)] at h4
   rcases ho with hk | ⟨g, hk, hg⟩
   ·rw [hk, qa] at h3; exact h.neo a b hab hb k h3 h4
   ·rw [hk] at h3
    have := own_lt (h.dr b hb).ops h4
    injection h3 with h3
    omega
  ·rw [if_neg qa] at h3
   by_cases qb : i = b
   ·rw [if_pos qb] at h4
    rcases ho with hk | ⟨g, hk, hg⟩
    ·rw [hk, qb] at h4; exact h.neo a b hab hb k h3 h4
    ·rw [hk] at h4
     have := own_lt (h.dr a (by omega)).ops h3
     injection h4 with h4
     omega
   ·rw [if_neg qb] at h4; exact h.neo a b hab hb k h3 h4
theorem findIdx_congr {α : Type} (p q : α → Bool) : ∀ (A B : List α), A.length = B.length → (∀ i (h1 : i < A.length) (h2 : i < B.length), p A[i] = q B[i]) → A.findIdx p = B.findIdx q
 | [], [], _, _ => rfl
 | [], b :: B, h, _ => by cases h
 | a :: A, [], h, _ => by cases h
 | a :: A, b :: B, h, hp => by
  rw [List.findIdx_cons, List.findIdx_cons]
  have h0 := hp 0 (by simp) (by simp)
  simp only [List.getElem_cons_zero] at h0
  rw [h0, findIdx_congr p q A B (by simpa using h) (fun i h1 h2 => hp (i + 1) (Nat.succ_lt_succ h1) (Nat.succ_lt_succ h2))]
theorem openF_more (L : List DraftM) (E : List EntM) (i : Nat) (d : DraftM) (e : EntM) (hi : i < L.length) (hl : E.length = L.length) (hn : d.nm = (L.getD i noD).nm) (ho : d.op = (L.getD i noD).op) (he : e.1 = (E.getD i noEn).1) : openF (L.set i d) (E.set i e) = openF L E := by
 funext s
 have h1 : atD (L.set i d) s = atD L s := by
  refine findIdx_congr _ _ _ _ (by simp) (fun j g1 g2 => ?_)
  rw [List.getElem_set]
  by_cases q : i = j
  ·subst q
   rw [if_pos rfl]
   have e3 : L.getD i noD = L[i] := by simp [hi]
   unfold isAt; rw [hn, ho, e3]
  ·rw [if_neg q]
 unfold openF
 rw [h1, List.length_set, getD_setE E i _ e (by omega)]
 by_cases q : i = atD L s
 ·rw [if_pos q, he, q]
 ·rw [if_neg q]
theorem openF_end (L : List DraftM) (E : List EntM) (hL : GoodL L) (s : List UInt8) (d : DraftM) (e : EntM) (hi : atD L s < L.length) (hl : E.length = L.length) (ho : d.op = false) : openF (L.set (atD L s) d) (E.set (atD L s) e) = updF (openF L E) s none := by
 obtain ⟨o1, o2⟩ := atD_spec L s hi
 funext x
 unfold openF updF
 by_cases hx : x = s
 ·subst hx
  rw [if_pos rfl]
  refine if_neg ?_
  rw [List.length_set]
  intro h9
  have h8 : atD (L.set (atD L x) d) x < (L.set (atD L x) d).length := by rw [List.length_set]; exact h9
  obtain ⟨p1, p2⟩ := atD_spec _ x h8
  rw [getD_setD L _ _ d hi] at p1 p2
  by_cases q : atD L x = atD (L.set (atD L x) d) x
  ·rw [if_pos q, ho] at p1; cases p1
  ·rw [if_neg q] at p1 p2
   rcases Nat.lt_or_gt_of_ne q with h1 | h1
   ·exact hL.one _ _ h1 h9 o1 p1 (by rw [o2, p2])
   ·exact hL.one _ _ h1 hi p1 o1 (by rw [o2, p2])
 ·rw [if_neg hx]
  have h1 : atD (L.set (atD L s) d) x = atD L x := by
   refine findIdx_congr _ _ _ _ (by simp) (fun j g1 g2 => ?_)
   rw [List.getElem_set]
   by_cases q : atD L s = j
   ·rw [if_pos q]
    have e3 : L.getD j noD = L[j] := by simp [g2]
    have e4 : L[j].nm = s := by rw [← e3, ← q]; exact o2
    unfold isAt
    rw [ho, e4, decide_eq_false (Ne.symm hx)]
    simp
   ·rw [if_neg q]
  rw [h1, List.length_set, getD_setE E _ _ e (by omega)]
  by_cases q : atD L s = atD L x
  ·by_cases h2 : atD L x < L.length
   ·have := (atD_spec L x h2).2
    rw [← q, o2] at this
    exact absurd this.symm hx
   ·rw [if_neg h2]; exact (if_neg h2).symm
  ·rw [if_neg q]
end
end Go.Proofs.YtmgchjddpmmglaaGreatDoor
