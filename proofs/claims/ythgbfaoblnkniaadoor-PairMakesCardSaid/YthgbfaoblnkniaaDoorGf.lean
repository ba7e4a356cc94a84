/-
  Slices of events: what one holds; a row of the call's own as one. No conditions.
  Layer 10 (pair): made, walked. Conditions: unicode/utf8's two tables hold what their initialisers lay; names of at most 1,000,000 bytes.
  DERIVED: THE SHELF's CONTRACTS AT THIS DUMP, IN PLAIN WORDS (tools/lay-plain.mjs out of 'TrydShelfO4.lean', which tools/lay-shelf.mjs wrote): THE SAME DECLARATIONS UNDER THE SAME NAMES: 'import', 'namespace', 'open', 'def', 'theorem' AND NOTHING ELSE: no command of the shelf's: FOR A HAND-IN. Each laying: the table of numbers ('.._ren') and one theorem, a field a fact of the dump's own or the kernel's comparison; each contract: ONE APPLICATION.
  The walk of layer 2 (name): texts' names in order, in the program. No conditions but that unicode/utf8's two tables are as their initialisers lay them.
  The walk of layer 2 (name): texts' names in order, in the program. No conditions but that unicode/utf8's two tables are as their initialisers lay them.
  Rows of texts of a call's own; append to a row of one's own as one step of a region that draws. No conditions.
-/
import Derived.Test.YthgbfaoblnkniaaDoorGa
import Derived.Laws.AppendOwn
import Derived.WalkKit
import Derived.Test.YthgbfaoblnkniaaDoorGxPaQ
import Derived.Shelf.SlGeneric
import Derived.Ground.NamesProg
import Derived.Ground.SlsfProg
import Derived.Shelf.LaysM
import Derived.Shelf.SlLaysF
import Derived.Shelf.SlLaysF0
import Derived.Shelf.SlSortCmp.NoneTotal
import Derived.Shelf.Slices.CompactS
import Derived.Test.YthgbfaoblnkniaaDoorProg
import Derived.Test.YthgbfaoblnkniaaDoorGb
import Derived.Test.YthgbfaoblnkniaaDoorGe
import Derived.Lib.RowBridge
import Derived.Deep.RegionHeld3
import Derived.Deep.AppendLies
import Derived.OwnWalk
namespace Go.Proofs.YthgbfaoblnkniaaDoor
open Go.RowKit
def evc (x : EventM) : List Value := [.int .i64 x.1, .string (bs x.2.1), .string (bs x.2.2.1), .int .i64 x.2.2.2.1, .int .i64 x.2.2.2.2.1, .int .i64 x.2.2.2.2.2]
def evcs (L : List EventM) : List Value := L.flatMap evc
theorem evcs_snoc (L : List EventM) (x : EventM) : evcs L ++ evc x = evcs (L ++ [x]) := by simp [evcs]
def EvsS (w : World) (v : Value) (L : List EventM) : Prop := ∃ p cap, v = .slice p L.length cap ∧ ∀ j, j < L.length → ∃ g, p = some ⟨g, 0, none⟩ ∧ ∀ i u, (evc (L.getD j noEv))[i]? = some u → w.cell? ⟨g, j * 6 + i, none⟩ = some u
theorem EvsS.below {w w' : World} {v : Value} {L : List EventM} (h : EvsS w v L) (hb : Below w.heap.size w w') : EvsS w' v L := by
 obtain ⟨p, cap, hv, hc⟩ := h
 refine ⟨p, cap, hv, fun j hj => ?_⟩
 obtain ⟨g, hp, h1⟩ := hc j hj
 exact ⟨g, hp, fun i u hu => cell_later hb (h1 i u hu)⟩
theorem evs_none (w : World) : EvsS w (.slice none 0 0) [] := ⟨none, 0, rfl, fun j hj => absurd hj (Nat.not_lt_zero j)⟩
theorem evcs_get : ∀ (L : List EventM) (j i : Nat), j < L.length → i < 6 → (evcs L)[j * 6 + i]? = (evc (L.getD j noEv))[i]?
 | [], j, _, hj, _ => absurd hj (Nat.not_lt_zero j)
 | x :: L, 0, i, _, hi => by
  have e : evcs (x :: L) = evc x ++ evcs L := by simp [evcs]
  rw [e, Nat.zero_mul, Nat.zero_add, List.getElem?_append_left (by simp [evc]; omega)]
  rfl
 | x :: L, j + 1, i, hj, hi => by
  have e : evcs (x :: L) = evc x ++ evcs L := by simp [evcs]
  have h6 : (evc x).length = 6 := rfl
  rw [e, List.getElem?_append_right (by rw [h6]; omega), h6, show (j + 1) * 6 + i - 6 = j * 6 + i by omega, evcs_get L j i (by simpa using hj) hi]
  rfl
theorem own_evs {w : World} {B : Nat} {e : TypeId} {v : Value} {L : List EventM} (h : w.ownsRow B e 6 v L.length (evcs L)) : EvsS w v L := by
 obtain ⟨-, ⟨h0, hn⟩ | ⟨g, cap, cur, hv, -, hw, -, -, -, ht⟩⟩ := h
 ·have : L = [] := List.eq_nil_of_length_eq_zero hn
  subst this h0
  exact evs_none w
 ·refine ⟨_, cap, hv, fun j hj => ⟨g, rfl, fun i u hu => ?_⟩⟩
  have hi : i < 6 := (List.getElem?_eq_some_iff.1 hu).1
  have h1 := congrArg (fun x : List Value => x[j * 6 + i]?) ht
  simp only [List.getElem?_take, show j * 6 + i < L.length * 6 by omega, if_true, Array.getElem?_toList] at h1
  rw [cell_of_row w g (j * 6 + i) _ _ (0, 0) hw, h1, evcs_get L j i hj hi]
  exact hu
theorem info_ev : (Tryd.prog.info? 28).map (fun i => (i.zero, i.size, i.bytes)) = some (some (.agg #[.int .i64 0, .string ByteArray.empty, .string ByteArray.empty, .int .i64 0, .int .i64 0, .int .i64 0]), 6, 64) := by kernel_rfl
theorem ones_ev (k vk n ln : Int) (s key : ByteArray) : ∀ u ∈ ([.int .i64 k, .string s, .string key, .int .i64 vk, .int .i64 n, .int .i64 ln] : List Value), u.oneCell' = true := by
 intro u hu
 simp at hu
 rcases hu with rfl | rfl | rfl | rfl | rfl | rfl <;> rfl
end Go.Proofs.YthgbfaoblnkniaaDoor

namespace Go.Proofs.YthgbfaoblnkniaaDoor
open Go.RowKit Go.Lib Go.Maps
theorem openF_nil : openF [] [] = fun _ => none := by
 funext l
 unfold openF
 exact if_neg (by simp)
theorem mk_new (w : World) : MkI ((((w.alloc (.map #[] 0)).alloc (.map #[] 0)).alloc (.map #[] 0)).alloc (.cells #[.slice none 0 0, .map (some w.heap.size), .map (some (w.heap.size + 1)), .map (some (w.heap.size + 2))] 54)) w.heap.size (w.heap.size + 3) [] 0 (.slice none 0 0) w.heap.size (w.heap.size + 1) (w.heap.size + 2) [] := by
 have s1 : (w.alloc (.map #[] 0)).heap.size = w.heap.size + 1 := by simp
 have s2 : ((w.alloc (.map #[] 0)).alloc (.map #[] 0)).heap.size = w.heap.size + 2 := by simp
 have s3 : (((w.alloc (.map #[] 0)).alloc (.map #[] 0)).alloc (.map #[] 0)).heap.size = w.heap.size + 3 := by simp
 have a1 := opn_new w
 have a2 := cnt_new (w.alloc (.map #[] 0))
 have a3 := cnt_new ((w.alloc (.map #[] 0)).alloc (.map #[] 0))
 have a4 := Blk.new (((w.alloc (.map #[] 0)).alloc (.map #[] 0)).alloc (.map #[] 0)) 54 [.slice none 0 0, .map (some w.heap.size), .map (some (w.heap.size + 1)), .map (some (w.heap.size + 2))]
 rw [s1] at a2
 rw [s2] at a3
 rw [s3] at a4
 refine ⟨a4, ⟨by omega, by omega, by omega, by omega⟩, ⟨by omega, by omega, by omega⟩, World.ownsRow_nil _ _ _ _, rfl, ?_, ⟨[], a2.at ?_, List.nodup_nil, fun x => by simp [namesD]⟩, ⟨[], a3.at ?_, List.nodup_nil, fun x => by simp [keysD]⟩, fun i h => absurd h (Nat.not_lt_zero i), fun i j _ h => absurd h (Nat.not_lt_zero j), fun i j _ h => absurd h (Nat.not_lt_zero j), fun i j _ h => absurd h (Nat.not_lt_zero j)⟩
 ·rw [openF_nil]
  refine a1.at ?_
  rw [heap_alloc_old _ _ (by simp; omega), heap_alloc_old _ _ (by simp; try omega), heap_alloc_old _ _ (by simp)]
 ·rw [heap_alloc_old _ _ (by simp; try omega), heap_alloc_old _ _ (by simp)]
 ·rw [heap_alloc_old _ _ (by simp)]
theorem made_step (L : List EventM) (k : Nat) (hk : k < L.length) (Lk : List DraftM) : madeP (L.drop k) Lk = if (putP Lk (L.getD k noEv)).2 = 0 then madeP (L.drop (k + 1)) (putP Lk (L.getD k noEv)).1 else ((putP Lk (L.getD k noEv)).1, (L.getD k noEv).2.2.2.2.2, (putP Lk (L.getD k noEv)).2) := by
 have e : L.drop k = L.getD k noEv :: L.drop (k + 1) := by rw [List.drop_eq_getElem_cons hk]; simp [hk]
 rw [e]
 rfl
set_option maxRecDepth 100000 in
set_option maxHeartbeats 4000000 in
theorem made10_any {w : World} (v : Value) (L : List EventM) (hv : EvsS w v L) (hL : L.length ≤ 1000) (hM : ∀ x ∈ L, x.2.1.length ≤ 1000000 ∧ x.2.2.1.length ≤ 1000000) (hT : Lib.Utf8Tabs 0 1 w) :
  Calls Tryd.prog 15 #[v] w fun e w' => ∃ gm lv bo bz bk E, e = .returned (.tuple #[.pointer (some ⟨gm, 0, none⟩), .int .i64 (madeP L []).2.1, .int .i64 (madeP L []).2.2]) ∧ MkI w' w.heap.size gm (madeP L []).1 L.length lv bo bz bk E ∧ Below w.heap.size w w' := by
 obtain ⟨p, c, rfl, hp⟩ := hv
 have HX := Lib.hid hp
 have HM := Lib.hid (fun k (hk : k < L.length) => hM _ (show L.getD k noEv ∈ L by rw [show L.getD k noEv = L[k] by simp [hk]]; exact List.getElem_mem hk))
 have HT := Lib.hid hT
 have HN := Lib.hid (mk_new w)
 have HB := Lib.hid ((((((Below.refl w.heap.size w).alloc (Nat.le_refl _) (.map #[] 0)).alloc (by simp) (.map #[] 0)).alloc (by simp; omega) (.map #[] 0))).alloc (by simp; omega) (.cells #[.slice none 0 0, .map (some w.heap.size), .map (some (w.heap.size + 1)), .map (some (w.heap.size + 2))] 54))
 clear hp hT hM
 obtain ⟨B, hBe⟩ : ∃ B, w.heap.size = B := ⟨_, rfl⟩
 have hmm := @run_makeMap Tryd.prog
 go_enter Tryd.func15, Tryd.ntmps15
 go_wp2_with fail
 rw [hBe] at HN HB
 try simp only [hBe]
 obtain ⟨gm, hgm⟩ : ∃ g, B + 3 = g := ⟨_, rfl⟩
 obtain ⟨bz, hbz⟩ : ∃ g, B + 1 = g := ⟨_, rfl⟩
 obtain ⟨bk, hbk⟩ : ∃ g, B + 2 = g := ⟨_, rfl⟩
 rw [hgm, hbz, hbk] at HN
 rw [hbz, hbk] at HB
 have hbk2 : bz + 1 = bk := by omega
 have hgm2 : bk + 1 = gm := by omega
 try simp only [hbz, hbk2, hgm2]
 clear hmm
 generalize (((w.alloc (.map #[] 0)).alloc (.map #[] 0)).alloc (.map #[] 0)).alloc (.cells #[.slice none 0 0, .map (some B), .map (some bz), .map (some bk)] 54) = W at *
 go_loopw [16] (fun i wr => ∃ (k : Nat) (lv : Value) (E : List EntM) (Lk : List DraftM), k ≤ L.length ∧ i = .int .i64 k ∧ MkI wr B gm Lk k lv B bz bk E ∧ GoodL Lk ∧ madeP L [] = madeP (L.drop k) Lk ∧ Below B w wr) (fun i _ => L.length - (RowKit.intOf i).toNat)
 case atStart => exact ⟨0, _, _, _, Nat.zero_le _, rfl, HN.out, good_nil, rfl, HB.out⟩
 case round =>
  obtain ⟨k, lv, E, Lk, hk, rfl, hmi, hG, hP, hbw⟩ := hrel
  have hbz' := hbw.size
  by_cases hk1 : k < L.length
  ·obtain ⟨g, rfl, hcell⟩ := HX.out k hk1
   obtain ⟨q1, q2⟩ := HM.out k hk1
   rw [made_step L k hk1] at hP
   obtain ⟨t, ht⟩ : ∃ t, L.getD k noEv = t := ⟨_, rfl⟩
   rw [ht] at hP hcell q1 q2
   obtain ⟨x1, x2, x3, x4, x5, x6⟩ := t
   have hbw' : Below w.heap.size w wr := by rw [hBe]; exact hbw
   have a0 := cell_later hbw' (hcell 0 _ rfl)
   have a1 := cell_later hbw' (hcell 1 _ rfl)
   have a2 := cell_later hbw' (hcell 2 _ rfl)
   have a3 := cell_later hbw' (hcell 3 _ rfl)
   have a4 := cell_later hbw' (hcell 4 _ rfl)
   have a5 := cell_later hbw' (hcell 5 _ rfl)
   simp only [Nat.add_zero] at a0
   obtain ⟨⟨L', f⟩, hp⟩ : ∃ r, putP Lk (x1, x2, x3, x4, x5, x6) = r := ⟨_, rfl⟩
   have hG' := put_good hG (x1, x2, x3, x4, x5, x6)
   rw [hp] at hP hG'
   dsimp only at hP hG' q1 q2
   have hal := (Below.refl wr.heap.size wr).alloc (Nat.le_refl _) (.cells #[.int .i64 x1, .string (bs x2), .string (bs x3), .int .i64 x4, .int .i64 x5, .int .i64 x6] 28)
   have HPut := Lib.hid (put10_any (w := wr.alloc (.cells #[.int .i64 x1, .string (bs x2), .string (bs x3), .int .i64 x4, .int .i64 x5, .int .i64 x6] 28)) x1 x4 x5 x6 x2 x3 (hmi.below hal) hG (by omega) q1 q2 (by simp; omega) (Utf8Tabs_below HT.out (by rw [hBe]; exact hbw.trans (hal.mono (by omega)))))
   rw [hp] at HPut
   have hty : Ty (wr.alloc (.cells #[.int .i64 x1, .string (bs x2), .string (bs x3), .int .i64 x4, .int .i64 x5, .int .i64 x6] 28)) wr.heap.size 28 := (Blk.new wr _ [.int .i64 x1, .string (bs x2), .string (bs x3), .int .i64 x4, .int .i64 x5, .int .i64 x6]).ty
   have HBW := Lib.hid (hbw.trans (hal.mono (by omega)))
   clear ht hp hcell q1 q2 hbw' hG hmi hal
   go_wp2_with fail
   refine HPut.out.mono ?_
   rintro e w3 ⟨lv', E', rfl, hmi', hb3, hev⟩
   have hx5 : w3.cell? ⟨wr.heap.size, 5, none⟩ = some (.int .i64 x6) := ((Blk.new wr 28 [.int .i64 x1, .string (bs x2), .string (bs x3), .int .i64 x4, .int .i64 x5, .int .i64 x6]).at (hev _ hty)).cell 5 rfl
   have hb03 := HBW.out.trans hb3
   clear HPut hty hev HBW hb3 a0 a1 a2 a3 a4 a5
   dsimp only at hmi' ⊢
   by_cases hf : f = 0
   ·subst hf
    rw [if_pos rfl] at hP
    go_wp2_with fail
    go_roundw
    case rel => exact ⟨k + 1, lv', E', L', by omega, by go_num, hmi', hG', hP, hb03⟩
    case measure => simp [RowKit.intOf]; omega
   ·have hfb : (f != 0) = true := by simpa using hf
    rw [if_neg hf] at hP
    have HP := Lib.hid hP
    clear hP hf
    go_wp2_with fail
    obtain ⟨gy, hgy⟩ : ∃ g, wr.heap.size = g := ⟨_, rfl⟩
    rw [hgy] at hx5
    try simp only [hgy]
    have HS : RowKit.Hid (∀ w', Below w3.heap.size w3 w' → (w'.cell? ⟨gy, 5, none⟩ = some (.int .i64 x6) ∧ Below w3.heap.size w3 w')) := Lib.hid (fun w' hb => ⟨cell_later hb hx5, hb⟩)
    refine wp_region_keep (fun w' => w'.cell? ⟨gy, 5, none⟩ = some (.int .i64 x6) ∧ Below w3.heap.size w3 w') [] (by kernel_rfl) ?_
    have hB0 : Below (w3).heap.size (w3) (w3).drew := Below.drew (Below.refl _ _)
    have hS0 := HS.out _ hB0
    refine wpAnyM_free 0 (v := ?_) rfl (by kernel_rfl) (by kernel_rfl) (by kernel_rfl) (fun _ _ _ h => h) (Or.inl ⟨by rfl, ?_⟩) ?_
    rotate_left
    ·intro w' hw';go_simp;try with_reducible rfl
    try simp only [Act.put, sq0, sq1, sq2]
    refine wpAnyM_free 1 (v := ?_) rfl (by kernel_rfl) (by kernel_rfl) (by kernel_rfl) (fun _ _ _ h => h) (Or.inl ⟨by rfl, ?_⟩) ?_
    rotate_left
    ·intro w' hw';go_simp;try with_reducible rfl
    try simp only [Act.put, sq0, sq1, sq2]
    refine wpAnyM_take 2 7 (v := ?_) rfl (by kernel_rfl) (by kernel_rfl) (by kernel_rfl) (by kernel_rfl) (by kernel_rfl) (fun _ _ _ h => h) (Or.inl ⟨by rfl, ?_⟩) hS0 ?_
    rotate_left
    ·intro w' hw';(try dsimp only at hw');go_simp;try with_reducible rfl
    try simp only [Act.put, sq0, sq1, sq2]
    refine wpAnyM_free 3 (v := ?_) rfl (by kernel_rfl) (by kernel_rfl) (by kernel_rfl) (fun _ _ _ h => h) (Or.inl ⟨by rfl, ?_⟩) ?_
    rotate_left
    ·intro w' hw';go_simp;try with_reducible rfl
    try simp only [Act.put, sq0, sq1, sq2]
    refine wpAnyM_one 4 rfl (by kernel_rfl) (fun K hK => ?_)
    go_simp
    refine hK.out _ _ (fun _ _ => hS0) ?_
    clear hK K
    try simp only [Act.put, sq0, sq1, sq2]
    refine wpAnyM_one 5 rfl (by kernel_rfl) (fun K hK => ?_)
    go_simp
    refine hK.out _ _ (fun _ _ => hS0) ?_
    clear hK K
    try simp only [Act.put, sq0, sq1, sq2]
    refine wpAnyM_one 6 rfl (by kernel_rfl) (fun K hK => ?_)
    go_simp
    refine hK.out _ _ (fun _ _ => hS0) ?_
    clear hK K
    try simp only [Act.put, sq0, sq1, sq2]
    refine wpAnyM_done (by kernel_rfl) ?_ _
    try simp only [Act.put, sq0, sq1, sq2]
    go_wp2_with fail
    go_ret3
    rw [HP.out]
    rw [hBe]
    exact ⟨gm, lv', B, bz, bk, E', rfl, (hmi'.mono (show k + 1 ≤ L.length by omega)).below hB0, hb03.trans (hB0.mono (by have := hb03.size; omega))⟩
  ·have hke : k = L.length := by omega
   subst hke
   rw [List.drop_length] at hP
   have HP := Lib.hid (show madeP L [] = (Lk, 0, 0) from hP)
   clear hP
   go_wp2_with fail
   go_ret3
   rw [HP.out]
   rw [hBe]
   exact ⟨gm, lv, B, bz, bk, E, rfl, hmi, hbw⟩
end Go.Proofs.YthgbfaoblnkniaaDoor

namespace Go.Proofs
open Go.Shelf
def Tryd.laysSort_ren : Go.Shelf.Ren := ⟨fun | 6 => 44 | 15 => 56 | 14 => 55 | 28 => 69 | 29 => 70 | 20 => 61 | 21 => 62 | 22 => 63 | 23 => 64 | 24 => 65 | 25 => 66 | 26 => 67 | 27 => 68 | 46 => 72 | 47 => 73 | 48 => 74 | 49 => 75 | 50 => 76 | 57 => 78 | n => n, fun | 22 => 29 | 24 => 9 | 25 => 84 | 3 => 3 | 39 => 92 | 0 => 0 | 53 => 113 | 55 => 115 | 4 => 4 | 46 => 107 | 45 => 106 | 50 => 58 | 5 => 5 | 9 => 9 | 66 => 119 | 70 => 123 | 76 => 125 | 77 => 88 | n => n, fun | n => n⟩
theorem Tryd.laysSort : Go.Proofs.SlLaysF.n6 Tryd.prog Tryd.laysSort_ren := {
 mixed := by kernel_rfl
 f6 := ⟨Tryd.f44.name, by decide, Tryd.func44.trans (congrArg some (by kernel_rfl))⟩
 f14 := ⟨Tryd.f55.name, by decide, Tryd.func55.trans (congrArg some (by kernel_rfl))⟩
 f15 := Tryd.func56.trans (congrArg some (by kernel_rfl))
 f20 := ⟨Tryd.f61.name, by decide, Tryd.func61.trans (congrArg some (by kernel_rfl))⟩
 f21 := ⟨Tryd.f62.name, by decide, Tryd.func62.trans (congrArg some (by kernel_rfl))⟩
 f22 := ⟨Tryd.f63.name, by decide, Tryd.func63.trans (congrArg some (by kernel_rfl))⟩
 f23 := ⟨Tryd.f64.name, by decide, Tryd.func64.trans (congrArg some (by kernel_rfl))⟩
 f24 := ⟨Tryd.f65.name, by decide, Tryd.func65.trans (congrArg some (by kernel_rfl))⟩
 f25 := ⟨Tryd.f66.name, by decide, Tryd.func66.trans (congrArg some (by kernel_rfl))⟩
 f26 := ⟨Tryd.f67.name, by decide, Tryd.func67.trans (congrArg some (by kernel_rfl))⟩
 f27 := ⟨Tryd.f68.name, by decide, Tryd.func68.trans (congrArg some (by kernel_rfl))⟩
 f28 := Tryd.func69.trans (congrArg some (by kernel_rfl))
 f29 := Tryd.func70.trans (congrArg some (by kernel_rfl))
 f46 := ⟨Tryd.f72.name, by decide, Tryd.func72.trans (congrArg some (by kernel_rfl))⟩
 f47 := Tryd.func73.trans (congrArg some (by kernel_rfl))
 f48 := Tryd.func74.trans (congrArg some (by kernel_rfl))
 f49 := ⟨Tryd.f75.name, by decide, Tryd.func75.trans (congrArg some (by kernel_rfl))⟩
 f50 := ⟨Tryd.f76.name, by decide, Tryd.func76.trans (congrArg some (by kernel_rfl))⟩
 f57 := ⟨Tryd.f78.name, by decide, Tryd.func78.trans (congrArg some (by kernel_rfl))⟩
 t0 := Tryd.underlying0
 a0 := Tryd.isAgg0
 z0 := Tryd.sizeOf0
 v0 := Tryd.zeroValue0
 t3 := Tryd.underlying3
 a3 := Tryd.isAgg3
 z3 := Tryd.sizeOf3
 v3 := Tryd.zeroValue3
 t4 := Tryd.underlying4
 a4 := Tryd.isAgg4
 z4 := Tryd.sizeOf4
 v4 := Tryd.zeroValue4
 t5 := Tryd.underlying5
 a5 := Tryd.isAgg5
 z5 := Tryd.sizeOf5
 v5 := Tryd.zeroValue5
 t9 := Tryd.underlying9
 a9 := Tryd.isAgg9
 z9 := Tryd.sizeOf9
 v9 := Tryd.zeroValue9
 t22 := Tryd.underlying29
 a22 := Tryd.isAgg29
 z22 := Tryd.sizeOf29
 v22 := Tryd.zeroValue29
 a24 := Tryd.isAgg9
 z24 := Tryd.sizeOf9
 t25 := Tryd.underlying84
 a25 := Tryd.isAgg84
 z25 := Tryd.sizeOf84
 v25 := Tryd.zeroValue84
 t39 := Tryd.underlying92
 a39 := Tryd.isAgg92
 z39 := Tryd.sizeOf92
 v39 := Tryd.zeroValue92
 t45 := Tryd.underlying106
 a45 := Tryd.isAgg106
 z45 := Tryd.sizeOf106
 v45 := Tryd.zeroValue106
 t46 := Tryd.underlying107
 a46 := Tryd.isAgg107
 z46 := Tryd.sizeOf107
 v46 := Tryd.zeroValue107
 t50 := Tryd.underlying58
 a50 := Tryd.isAgg58
 z50 := Tryd.sizeOf58
 v50 := Tryd.zeroValue58
 t53 := Tryd.underlying113
 a53 := Tryd.isAgg113
 z53 := Tryd.sizeOf113
 v53 := Tryd.zeroValue113
 t55 := Tryd.underlying115
 a55 := Tryd.isAgg115
 z55 := Tryd.sizeOf115
 v55 := Tryd.zeroValue115
 t66 := Tryd.underlying119
 a66 := Tryd.isAgg119
 z66 := Tryd.sizeOf119
 v66 := Tryd.zeroValue119
 t70 := Tryd.underlying123
 a70 := Tryd.isAgg123
 z70 := Tryd.sizeOf123
 v70 := Tryd.zeroValue123
 t76 := Tryd.underlying125
 a76 := Tryd.isAgg125
 z76 := Tryd.sizeOf125
 v76 := Tryd.zeroValue125
 t77 := Tryd.underlying88
 a77 := Tryd.isAgg88
 z77 := Tryd.sizeOf88
 v77 := Tryd.zeroValue88 }
def Tryd.laysSort0_ren : Go.Shelf.Ren := ⟨fun | 6 => 44 | 15 => 56 | 14 => 55 | 28 => 69 | 29 => 70 | 20 => 61 | 21 => 62 | 22 => 63 | 23 => 64 | 24 => 65 | 25 => 66 | 26 => 67 | 27 => 68 | 46 => 72 | 47 => 73 | 48 => 74 | 49 => 75 | 50 => 76 | 57 => 78 | n => n, fun | 22 => 29 | 24 => 9 | 25 => 84 | 3 => 3 | 39 => 92 | 0 => 0 | 53 => 113 | 55 => 115 | 4 => 4 | 46 => 107 | 45 => 106 | 50 => 58 | 5 => 5 | 9 => 9 | 66 => 119 | 70 => 123 | 76 => 125 | 77 => 88 | n => n, fun | n => n⟩
theorem Tryd.laysSort0 : Go.Proofs.SlLaysF0.n6 Tryd.prog Tryd.laysSort0_ren := {
 mixed := by kernel_rfl
 f6 := ⟨Tryd.f44.name, by decide, Tryd.func44.trans (congrArg some (by kernel_rfl))⟩
 f14 := ⟨Tryd.f55.name, by decide, Tryd.func55.trans (congrArg some (by kernel_rfl))⟩
 f15 := Tryd.func56.trans (congrArg some (by kernel_rfl))
 f20 := ⟨Tryd.f61.name, by decide, Tryd.func61.trans (congrArg some (by kernel_rfl))⟩
 f21 := ⟨Tryd.f62.name, by decide, Tryd.func62.trans (congrArg some (by kernel_rfl))⟩
 f22 := ⟨Tryd.f63.name, by decide, Tryd.func63.trans (congrArg some (by kernel_rfl))⟩
 f23 := ⟨Tryd.f64.name, by decide, Tryd.func64.trans (congrArg some (by kernel_rfl))⟩
 f24 := ⟨Tryd.f65.name, by decide, Tryd.func65.trans (congrArg some (by kernel_rfl))⟩
 f25 := ⟨Tryd.f66.name, by decide, Tryd.func66.trans (congrArg some (by kernel_rfl))⟩
 f26 := ⟨Tryd.f67.name, by decide, Tryd.func67.trans (congrArg some (by kernel_rfl))⟩
 f27 := ⟨Tryd.f68.name, by decide, Tryd.func68.trans (congrArg some (by kernel_rfl))⟩
 f28 := Tryd.func69.trans (congrArg some (by kernel_rfl))
 f29 := Tryd.func70.trans (congrArg some (by kernel_rfl))
 f46 := ⟨Tryd.f72.name, by decide, Tryd.func72.trans (congrArg some (by kernel_rfl))⟩
 f47 := Tryd.func73.trans (congrArg some (by kernel_rfl))
 f48 := Tryd.func74.trans (congrArg some (by kernel_rfl))
 f49 := ⟨Tryd.f75.name, by decide, Tryd.func75.trans (congrArg some (by kernel_rfl))⟩
 f50 := ⟨Tryd.f76.name, by decide, Tryd.func76.trans (congrArg some (by kernel_rfl))⟩
 f57 := ⟨Tryd.f78.name, by decide, Tryd.func78.trans (congrArg some (by kernel_rfl))⟩
 t0 := Tryd.underlying0
 a0 := Tryd.isAgg0
 z0 := Tryd.sizeOf0
 v0 := Tryd.zeroValue0
 t3 := Tryd.underlying3
 a3 := Tryd.isAgg3
 z3 := Tryd.sizeOf3
 v3 := Tryd.zeroValue3
 t4 := Tryd.underlying4
 a4 := Tryd.isAgg4
 z4 := Tryd.sizeOf4
 v4 := Tryd.zeroValue4
 t5 := Tryd.underlying5
 a5 := Tryd.isAgg5
 z5 := Tryd.sizeOf5
 v5 := Tryd.zeroValue5
 t9 := Tryd.underlying9
 a9 := Tryd.isAgg9
 z9 := Tryd.sizeOf9
 v9 := Tryd.zeroValue9
 t22 := Tryd.underlying29
 a22 := Tryd.isAgg29
 z22 := Tryd.sizeOf29
 v22 := Tryd.zeroValue29
 t25 := Tryd.underlying84
 a25 := Tryd.isAgg84
 z25 := Tryd.sizeOf84
 v25 := Tryd.zeroValue84
 t39 := Tryd.underlying92
 a39 := Tryd.isAgg92
 z39 := Tryd.sizeOf92
 v39 := Tryd.zeroValue92
 t45 := Tryd.underlying106
 a45 := Tryd.isAgg106
 z45 := Tryd.sizeOf106
 v45 := Tryd.zeroValue106
 t46 := Tryd.underlying107
 a46 := Tryd.isAgg107
 z46 := Tryd.sizeOf107
 v46 := Tryd.zeroValue107
 t50 := Tryd.underlying58
 a50 := Tryd.isAgg58
 z50 := Tryd.sizeOf58
 v50 := Tryd.zeroValue58
 t53 := Tryd.underlying113
 a53 := Tryd.isAgg113
 z53 := Tryd.sizeOf113
 v53 := Tryd.zeroValue113
 t55 := Tryd.underlying115
 a55 := Tryd.isAgg115
 z55 := Tryd.sizeOf115
 v55 := Tryd.zeroValue115
 t66 := Tryd.underlying119
 a66 := Tryd.isAgg119
 z66 := Tryd.sizeOf119
 v66 := Tryd.zeroValue119
 t70 := Tryd.underlying123
 a70 := Tryd.isAgg123
 z70 := Tryd.sizeOf123
 v70 := Tryd.zeroValue123
 t76 := Tryd.underlying125
 a76 := Tryd.isAgg125
 z76 := Tryd.sizeOf125
 v76 := Tryd.zeroValue125
 t77 := Tryd.underlying88
 a77 := Tryd.isAgg88
 z77 := Tryd.sizeOf88
 v77 := Tryd.zeroValue88 }
def Tryd.laysCompact_ren : Go.Shelf.Ren := ⟨fun | 194 => 46 | n => n, fun | 31 => 29 | 9 => 9 | 3 => 3 | 4 => 4 | 0 => 0 | n => n, fun | n => n⟩
theorem Tryd.laysCompact : Go.Proofs.Lays.n194 Tryd.prog Tryd.laysCompact_ren := {
 mixed := by kernel_rfl
 f194 := Tryd.func46.trans (congrArg some (by kernel_rfl))
 t0 := Tryd.underlying0
 a0 := Tryd.isAgg0
 z0 := Tryd.sizeOf0
 v0 := Tryd.zeroValue0
 t3 := Tryd.underlying3
 a3 := Tryd.isAgg3
 z3 := Tryd.sizeOf3
 v3 := Tryd.zeroValue3
 t4 := Tryd.underlying4
 a4 := Tryd.isAgg4
 z4 := Tryd.sizeOf4
 v4 := Tryd.zeroValue4
 t9 := Tryd.underlying9
 a9 := Tryd.isAgg9
 z9 := Tryd.sizeOf9
 v9 := Tryd.zeroValue9
 t31 := Tryd.underlying29
 a31 := Tryd.isAgg29
 z31 := Tryd.sizeOf29
 v31 := Tryd.zeroValue29 }
end Go.Proofs

namespace Go.Proofs.YthgbfaoblnkniaaDoor
open Go.RowKit Go.Lib Go.Sort
theorem two_allocs (w : World) (A B : Obj) : ((w.alloc A).alloc B).drew.drew = grow (w.drewN 2) #[A, B] := by
 have e : (w.heap.push A).push B = w.heap ++ #[A, B] := by
  apply Array.ext'
  simp [Array.toList_push]
 unfold grow World.alloc World.drew World.drewN
 simp only [e]
set_option maxRecDepth 100000 in
set_option maxHeartbeats 1000000 in
theorem ncompare_grows (a b : List UInt8) (ha : a.length ≤ 1000000) (hb : b.length ≤ 1000000) (w : World) :
  Calls Tryd.prog 45 #[.string (bs a), .string (bs b)] w fun e w' => e = .returned (.int .i64 (lexCmp (runesU a) (runesU b))) ∧ ∃ q os, w' = grow (w.drewN q) os := by
 have hca := conv_runes a ha
 have hcb := conv_runes b hb
 go_enter Tryd.func45, Tryd.ntmps45
 go_wp2_with fail
 refine (compare_any (runesU a) (runesU b) _ _ _ _ _ ?_ ?_ (by have := runesU_length a; omega)).mono ?_
 ·intro j hj
  exact cell_past _ (cell_drew (rowR_cell w w.drew a j hj))
 ·intro j hj
  have h := rowR_cell (w.alloc (.cells (rowR w a) 21)).drew (w.alloc (.cells (rowR w a) 21)) b j hj
  rw [show (w.alloc (.cells (rowR w a) 21)).heap.size = w.heap.size + 1 by simp] at h
  exact cell_drew (cell_drew h)
 ·rintro e w1 ⟨rfl, rfl⟩
  go_wp2_with fail
  go_ret
  exact ⟨rfl, 2, _, two_allocs _ _ _⟩
abbrev NameT := { l : List UInt8 // nameL l = true }
instance : Inhabited NameT := ⟨⟨[97], by decide +kernel⟩⟩
def encN (x : NameT) : Value := .string (bs x.1)
theorem encN_one : OneCell encN := fun _ => rfl
def cmpN (x y : NameT) : Int := lexCmp (runesU x.1) (runesU y.1)
theorem lt_cmpN (x y : NameT) : ltOf cmpN x y = ltN x.1 y.1 := (lexCmp_less _ _).symm
theorem swo_cmpN : SWO (ltOf cmpN) where
 irrefl x := by rw [lt_cmpN]; exact ltN_irrefl _
 trans x y z h1 h2 := by rw [lt_cmpN] at *; exact ltN_trans _ _ _ h1 h2
 ntrans x y z h1 h2 := by rw [lt_cmpN] at *; exact lexLess_ntrans _ _ _ h1 h2
theorem name_len (l : List UInt8) (h : nameL l = true) : l.length ≤ 1000000 := by
 have hv := textU_runes _ l (Nat.le_refl _) (name_valid l h)
 unfold nameL word at h
 simp only [Bool.and_eq_true, decide_eq_true_eq] at h
 have := textU_len (runesU l)
 rw [hv] at this
 omega
theorem compare_enters : ∀ args w, (callFunc 45 args).run Tryd.prog w = .ok (.enter 45 args) w := enters_of Tryd.func45 (by kernel_rfl) rfl
theorem sort_names (g cap : Nat) (d : Array NameT) (w : World) (hH : Holds encN w g 0 d) (hg : g < w.heap.size) (hsz : d.size < 4611686018427387904) :
  Calls Tryd.prog 44 #[.slice (some ⟨g, 0, none⟩) d.size cap, .func (.func 45) #[] #[]] w fun e w' =>
   e = .returned (.tuple #[]) ∧ ∃ n os, w' = sortWorld encN w g 0 n (d.toList.mergeSort fun x y => !(ltOf cmpN) y x).toArray os :=
 Any.slices_SortFunc_total Tryd.laysSort encN encN_one cmpN swo_cmpN 45 #[] g 0 cap d w compare_enters
  (fun m os dk _ x y => ncompare_grows x.1 y.1 (name_len _ x.2) (name_len _ y.2) _) hH hg hsz
  (fun x y h1 h2 => by rw [lt_cmpN] at h1 h2; exact Subtype.ext (ltN_total _ _ x.2 y.2 h1 h2))
theorem compact_names (g cap : Nat) (S : List (List UInt8)) (w : World) (hH : Holds Go.Proofs.encStr w g 0 S.toArray) (hsz : S.length ≤ 9223372036854775807) (hcap : S.length ≤ cap) :
  Calls Tryd.prog 46 #[.slice (some ⟨g, 0, none⟩) S.length cap] w fun e w' => e = .returned (.slice (some ⟨g, 0, none⟩) (compact S).length cap) ∧
   ∃ q, w' = putRow Go.Proofs.encStr (Sort.ahead w q) g 0 (compact S ++ List.replicate (S.length - (compact S).length) []).toArray :=
 Any.slices_Compact_string Tryd.laysCompact g 0 cap S w hH hsz hcap
def leN (x y : NameT) : Bool := !(ltOf cmpN) y x
theorem leN_trans (a b c : NameT) (h1 : leN a b = true) (h2 : leN b c = true) : leN a c = true := by
 unfold leN at *
 simp only [Bool.not_eq_true'] at *
 exact swo_cmpN.ntrans c b a h2 h1
theorem leN_total (a b : NameT) : (leN a b || leN b a) = true := by
 unfold leN
 simp only [lt_cmpN]
 cases h1 : ltN b.1 a.1 with
 | false => rfl
 | true =>
  cases h2 : ltN a.1 b.1 with
  | false => rfl
  | true =>
   have := ltN_trans _ _ _ h1 h2
   rw [ltN_irrefl] at this
   exact absurd this (by decide)
theorem sort_spec (d : List NameT) (L : List (List UInt8)) (h : ∀ y, y ∈ d.map (·.1) ↔ y ∈ L ∧ nameL y = true) : compact ((d.mergeSort leN).map (·.1)) = sortedN L := by
 refine compact_sorted _ L (fun y => ?_) ?_
 ·rw [← h, List.mem_map, List.mem_map]
  constructor
  ·rintro ⟨x, hx, e⟩
   exact ⟨x, (List.mergeSort_perm d leN).mem_iff.1 hx, e⟩
  ·rintro ⟨x, hx, e⟩
   exact ⟨x, (List.mergeSort_perm d leN).mem_iff.2 hx, e⟩
 ·rw [List.pairwise_map]
  refine (List.pairwise_mergeSort leN_trans leN_total d).imp fun {a b} hab => ?_
  unfold leN at hab
  rw [lt_cmpN] at hab
  simpa using hab
theorem lift_names : ∀ M : List (List UInt8), (∀ x ∈ M, nameL x = true) → ∃ d : List NameT, d.map (·.1) = M
 | [], _ => ⟨[], rfl⟩
 | x :: M, h => by
  obtain ⟨d, hd⟩ := lift_names M (fun y hy => h y (List.mem_cons_of_mem _ hy))
  exact ⟨⟨x, h x (List.mem_cons_self ..)⟩ :: d, by simp [hd]⟩
theorem filter_next (L : List (List UInt8)) (k : Nat) (hk : k < L.length) : (L.take (k + 1)).filter nameL = (L.take k).filter nameL ++ (if nameL (L.getD k []) then [L.getD k []] else []) := by
 have e : L.take (k + 1) = L.take k ++ [L.getD k []] := by
  rw [List.take_add_one]
  simp [hk]
 rw [e, List.filter_append]
 congr 1
 simp only [List.filter_cons, List.filter_nil]
theorem below_sortWorld {a w : World} {g n : Nat} {dk : Array NameT} {os : Array Obj} (h : Below a.heap.size a w) (hg : a.heap.size ≤ g) : Below a.heap.size a (sortWorld encN w g 0 n dk os) := by
 refine ⟨h.os, h.tape, h.output, ?_, fun k hk => ?_⟩
 ·have := h.size
  show a.heap.size ≤ (grow (putRow encN (Sort.ahead w n) g 0 dk) os).heap.size
  unfold grow
  simp only [Array.size_append]
  rw [size_putRow]
  show _ ≤ w.heap.size + _
  omega
 ·have hkw : k < w.heap.size := Nat.lt_of_lt_of_le hk h.size
  rw [← h.block k hk]
  have hne : g ≠ k := by omega
  show ((putRow encN (Sort.ahead w n) g 0 dk).heap ++ os)[k]? = _
  rw [Array.getElem?_append_left (by rw [size_putRow]; exact hkw)]
  simp only [putRow, mapBlock, Array.getElem?_modify, if_neg hne]
  rfl
theorem below_putRow {a w : World} {g q : Nat} {dk : Array (List UInt8)} (h : Below a.heap.size a w) (hg : a.heap.size ≤ g) : Below a.heap.size a (putRow Go.Proofs.encStr (Sort.ahead w q) g 0 dk) := by
 refine ⟨h.os, h.tape, h.output, ?_, fun k hk => ?_⟩
 ·rw [size_putRow]
  exact h.size
 ·have hkw : k < w.heap.size := Nat.lt_of_lt_of_le hk h.size
  rw [← h.block k hk]
  have hne : g ≠ k := by omega
  simp only [putRow, mapBlock, Array.getElem?_modify, if_neg hne]
  rfl
end Go.Proofs.YthgbfaoblnkniaaDoor

namespace Go.Proofs.YthgbfaoblnkniaaDoor
open Go.RowKit Go.Lib Go.Sort
theorem news_txt (w : World) (x : ByteArray) (e : TypeId) : ∀ (j : Nat) (u : Value), ([.string x] : List Value)[j]? = some u → (w.alloc (.cells #[.string x] e)).cell? ((⟨w.heap.size, 0, none⟩ : Addr).add j) = some u := by
 intro j u hj
 match j, hj with
 | 0, hj => simp at hj; subst hj; simp [Addr.add]
theorem ones_txt (x : ByteArray) : ∀ u ∈ ([.string x] : List Value), u.oneCell' = true := by
 intro u hu
 simp at hu
 subst hu
 rfl
theorem holds_own {w : World} {g cap : Nat} {cur : Array Value} {M : List (List UInt8)} {d : List NameT} (hd : d.map (·.1) = M) (hw : w.heap[g]? = some (.cells cur 9 (0, 0))) (ht : cur.toList.take (M.length * 1) = strs M) (hc : M.length ≤ cap) : Holds encN w g 0 d.toArray := by
 intro j hj
 have hj' : j < d.length := by simpa using hj
 have hjM : j < M.length := by rw [← hd]; simpa using hj'
 refine ⟨?_, ?_⟩
 ·have h1 := congrArg (fun x : List Value => x[j]?) ht
  simp only [Nat.mul_one, List.getElem?_take, hjM, if_true, Array.getElem?_toList] at h1
  rw [Nat.zero_add, cell_of_row w g j _ _ (0, 0) hw, h1]
  subst hd
  simp [strs, hj', encN]
 ·rw [Nat.zero_add]
  exact frozen_of_row w g j cur _ hw
theorem owns_below {w w1 : World} {B size n : Nat} {e : TypeId} {v : Value} {xs : List Value} (h : w.ownsRow B e size v n xs) (hb : Below w.heap.size w w1) : w1.ownsRow B e size v n xs := by
 obtain ⟨h1, h2 | ⟨g, cap, cur, hv, hB, hw, hrest⟩⟩ := h
 ·exact ⟨h1, .inl h2⟩
 ·exact ⟨h1, .inr ⟨g, cap, cur, hv, hB, by rw [hb.block g (Array.getElem?_eq_some_iff.1 hw).1]; exact hw, hrest⟩⟩
theorem holds_str {w : World} {g : Nat} (d : List NameT) (h : Holds encN w g 0 d.toArray) : Holds Go.Proofs.encStr w g 0 (d.map (·.1)).toArray := by
 intro j hj
 have hj' : j < d.length := by simpa using hj
 obtain ⟨h1, h2⟩ := h j (by simpa using hj')
 refine ⟨?_, h2⟩
 rw [h1]
 simp [hj', encN, bs]
theorem texts_put {w : World} {g q : Nat} {S C : List (List UInt8)} (hC : C.length ≤ S.length) (hH : Holds Go.Proofs.encStr w g 0 S.toArray) :
  HasTexts (putRow Go.Proofs.encStr (Sort.ahead w q) g 0 (C ++ List.replicate (S.length - C.length) []).toArray) (some ⟨g, 0, none⟩) C := by
 have h2 := holds_putRow Go.Proofs.encStr (Sort.ahead w q) g 0 S.toArray (C ++ List.replicate (S.length - C.length) []).toArray hH (by simp; omega)
 intro j hj
 have hjs : j < (C ++ List.replicate (S.length - C.length) ([] : List UInt8)).toArray.size := by simp; omega
 have := (h2 j hjs).1
 refine ⟨g, rfl, ?_⟩
 rw [Nat.zero_add] at this
 rw [this]
 have e : (C ++ List.replicate (S.length - C.length) ([] : List UInt8)).toArray[j]! = C.getD j [] := by
  rw [getElem!_pos _ j hjs]
  simp [hj]
 rw [e]
 rfl
def NewV (B : Nat) (v : Value) : Prop := ∀ g, v.ownBlock = some g → B ≤ g
set_option maxRecDepth 100000 in
set_option maxHeartbeats 2000000 in
theorem nsorted_new (w : World) (v : Value) (L : List (List UInt8)) (h : Texts w v L) (hL : L.length ≤ 100000) (hs : ∀ x ∈ L, x.length ≤ 1000000) (hT : Lib.Utf8Tabs 0 1 w) :
  Calls Tryd.prog 33 #[v] w fun e w' => ∃ v', e = .returned v' ∧ Texts w' v' (sortedN L) ∧ NewV w.heap.size v' ∧ Below w.heap.size w w' := by
 obtain ⟨p, cap, rfl, ht⟩ := h
 have HX := Lib.hid ht
 have HS := Lib.hid hs
 have HT := Lib.hid hT
 clear ht hs hT
 obtain ⟨R, hR⟩ : ∃ R, sortedN L = R := ⟨_, rfl⟩
 rw [hR]
 have HR := Lib.hid hR
 clear hR
 obtain ⟨i0, hi, hz0, hz1, hz2⟩ := info_parts info_str
 go_enter Tryd.func33, Tryd.ntmps33
 go_wp2_with fail
 go_loopw [3, 8] (fun out i wr => ∃ k : Nat, k ≤ L.length ∧ i = .int .i64 k ∧ wr.ownsRow w.heap.size 9 1 out ((L.take k).filter nameL).length (strs ((L.take k).filter nameL)) ∧ Below w.heap.size w wr) (fun _ i _ => L.length - (RowKit.intOf i).toNat)
 case atStart => exact ⟨0, Nat.zero_le _, rfl, World.ownsRow_nil _ _ _ _, Below.refl _ _⟩
 case round =>
  obtain ⟨k, hk, rfl, hown, hbw⟩ := hrel
  have hflen : ((L.take k).filter nameL).length ≤ 100000 := by
   have h1 := List.length_filter_le nameL (L.take k)
   rw [List.length_take] at h1
   omega
  by_cases hlt : k < L.length
  ·obtain ⟨gl, rfl, hc⟩ := HX.out k hlt
   have hc' := cell_later hbw hc
   have hnx := filter_next L k hlt
   have hxl : (L.getD k []).length ≤ 1000000 := HS.out _ (by
    have : L.getD k [] = L[k] := by simp [hlt]
    rw [this]
    exact List.getElem_mem hlt)
   have HTr := Lib.hid (Utf8Tabs_below HT.out hbw)
   have HI := Lib.hid (nis_any (L.getD k []) hxl)
   obtain ⟨x, hx⟩ : ∃ x, L.getD k [] = x := ⟨_, rfl⟩
   rw [hx] at hc' hnx HI
   obtain ⟨M, hM⟩ : ∃ M, (L.take k).filter nameL = M := ⟨_, rfl⟩
   rw [hM] at hown hnx hflen
   clear hc hx hxl hM
   cases hn : nameL x with
   | false =>
    rw [hn] at hnx HI
    simp only [Bool.false_eq_true, if_false, List.append_nil] at hnx
    have HN := Lib.hid hnx
    clear hnx hn
    go_wp2_with fail
    refine (HI.out _ HTr.out).mono ?_
    rintro e w1 ⟨rfl, hb1⟩
    go_wp2_with fail
    go_roundw
    case rel => exact ⟨k + 1, by omega, by go_num, by rw [HN.out]; exact owns_below hown hb1, below_next hbw hb1⟩
    case measure => simp [RowKit.intOf]; omega
   | true =>
    rw [hn] at hnx HI
    simp only [if_true] at hnx
    have HN := Lib.hid hnx
    clear hnx hn
    go_wp2_with fail
    refine (HI.out _ HTr.out).mono ?_
    rintro e w1 ⟨rfl, hb1⟩
    have hown1 := owns_below hown hb1
    have hbw1 := below_next hbw hb1
    clear hown hb1 hbw
    go_wp2_with (at_builtin; refine wpList_append_own _ rfl _ _ 29 rfl w.heap.size 9 i0 (.string ByteArray.empty) 1 16 Tryd.underlying29 hi hz0 hz1 hz2 rfl (by decide) _ _ _ rfl (hown1.alloc _) ⟨w1.heap.size, 0, none⟩ 1 1 [.string (bs x)] rfl rfl (news_txt _ _ _) (ones_txt _) (by unfold maxLen; omega) (by omega) (by have := hbw1.size; simp; omega) ?_)
    intro v' w4 hown4 hgrow hnil
    have hb4 : Below w.heap.size w w4 := (hbw1.alloc hbw1.size _).grown hgrow (by have := hbw1.size; simp; omega) (fun k hk => (hown1.lt k hk).1)
    have HO : RowKit.Hid (w4.ownsRow w.heap.size 9 1 v' (M ++ [x]).length (strs (M ++ [x]))) := Lib.hid (by
     rw [← strs_snoc, List.length_append]
     exact hown4)
    clear hown4 hgrow hnil hown1 hbw1
    go_wp2_with fail
    go_roundw
    case rel => exact ⟨k + 1, by omega, by go_num, by rw [HN.out]; exact HO.out, hb4⟩
    case measure => simp [RowKit.intOf]; omega
  ·have hke : k = L.length := by omega
   subst hke
   rw [List.take_length] at hown hflen
   have hmem : ∀ y, y ∈ L.filter nameL ↔ y ∈ L ∧ nameL y = true := fun y => List.mem_filter
   obtain ⟨M, hM⟩ : ∃ M, L.filter nameL = M := ⟨_, rfl⟩
   rw [hM] at hown hflen hmem
   clear hM
   obtain ⟨d, hd⟩ := lift_names M (fun x hx => ((hmem x).1 hx).2)
   have hspec := sort_spec d L (by rw [hd]; exact hmem)
   by_cases hM0 : M = []
   ·subst hM0
    have hd0 : d = [] := by
     cases d with
     | nil => rfl
     | cons a t => exact absurd hd (by simp)
    subst hd0
    have hnw : NewV w.heap.size _ := fun g e => (hown.lt g e).1
    obtain ⟨q, cq, hv, -⟩ := own_texts hown
    subst hv
    have hsn : R = [] := by rw [← HR.out, ← hspec]; simp [compact, compactUpTo]
    have H1 := Lib.hid (AnyF.slices_SortFunc_none Tryd.laysSort0 q cq (.func (.func 45) #[] #[]))
    have H2 := Lib.hid (Any.slices_Compact_string_empty Tryd.laysCompact q cq)
    clear hspec hown hmem
    go_wp2_with fail
    refine (H1.out _).mono ?_
    rintro e w1 ⟨rfl, rfl⟩
    go_wp2_with fail
    refine (H2.out _).mono ?_
    rintro e w1 ⟨rfl, rfl⟩
    go_wp2_with fail
    go_ret
    rw [hsn]
    exact ⟨_, rfl, ⟨q, cq, rfl, fun j hj => absurd hj (Nat.not_lt_zero j)⟩, hnw, hbw⟩
   ·obtain ⟨-, ⟨-, hn⟩ | ⟨g, cq, cur, rfl, hgB, hcur, hcq, -, hcsz, htk⟩⟩ := id hown
    ·exact absurd (List.eq_nil_of_length_eq_zero hn) hM0
    ·have hH := holds_own hd hcur htk hcq
     have hg := (Array.getElem?_eq_some_iff.1 hcur).1
     have hsz : d.toArray.size = M.length := by rw [← hd]; simp
     have H1 := Lib.hid (sort_names g cq d.toArray wr hH hg (by rw [hsz]; omega))
     rw [hsz] at H1
     have HS2 := Lib.hid hspec
     clear hown hcur htk hcsz hspec
     go_wp2_with fail
     refine H1.out.mono ?_
     rintro e w1 ⟨rfl, nn, os, hw1⟩
     have hH1 : Holds encN w1 g 0 (d.mergeSort leN).toArray := by
      rw [hw1]
      exact holds_sortWorld encN wr g 0 nn d.toArray _ os hg hH (by simp [List.length_mergeSort])
     have hB1 : Below w.heap.size w w1 := by
      rw [hw1]
      exact below_sortWorld hbw hgB
     have hH2 := holds_str (d.mergeSort leN) hH1
     have hSl : ((d.mergeSort leN).map (·.1)).length = M.length := by
      rw [List.length_map, List.length_mergeSort, ← hd, List.length_map]
     have hcl : (compact ((d.mergeSort leN).map (·.1))).length ≤ ((d.mergeSort leN).map (·.1)).length := compact_length_le _
     have H2 := Lib.hid (compact_names g cq _ w1 hH2 (by omega) (by omega))
     rw [hSl] at H2
     clear hw1 hH1
     go_wp2_with fail
     refine H2.out.mono ?_
     rintro e w2 ⟨rfl, q2, hw2⟩
     have hB2 : Below w.heap.size w w2 := by
      rw [hw2]
      exact below_putRow hB1 hgB
     have hT2 := texts_put (q := q2) hcl hH2
     rw [hSl, ← hw2] at hT2
     rw [HS2.out, HR.out] at hT2 ⊢
     clear hw2 hH2 hB1 hbw H2 H1
     go_wp2_with fail
     go_ret
     exact ⟨_, rfl, ⟨_, cq, rfl, hT2⟩, (fun g' e => by simp [Value.ownBlock] at e; omega), hB2⟩
end Go.Proofs.YthgbfaoblnkniaaDoor

namespace Go.Proofs.YthgbfaoblnkniaaDoor
open Go.RowKit Go.Lib
theorem getD_mem (L : List (List UInt8)) (k : Nat) (h : k < L.length) : L.getD k [] ∈ L := by
 have : L.getD k [] = L[k] := by simp [h]
 rw [this]
 exact List.getElem_mem h
def TextsS (w : World) (v : Value) (L : List (List UInt8)) : Prop := ∃ g cap, v = .slice (some ⟨g, 0, none⟩) L.length cap ∧ L.length ≤ cap ∧ ∀ j, j < L.length → w.cell? ⟨g, j, none⟩ = some (.string (bs (L.getD j [])))
theorem TextsS.below {w w' : World} {v : Value} {L : List (List UInt8)} (h : TextsS w v L) (hb : Below w.heap.size w w') : TextsS w' v L := by
 obtain ⟨g, cap, hv, hc, ht⟩ := h
 exact ⟨g, cap, hv, hc, fun j hj => cell_later hb (ht j hj)⟩
theorem own_textsS {w : World} {B : Nat} {e : TypeId} {v : Value} {L : List (List UInt8)} (h : w.ownsRow B e 1 v L.length (strs L)) (hn : v ≠ .slice none 0 0) : TextsS w v L := by
 obtain ⟨-, ⟨h0, -⟩ | ⟨g, cap, cur, hv, -, hw, hc, -, -, ht⟩⟩ := h
 ·exact absurd h0 hn
 ·refine ⟨g, cap, hv, hc, fun j hj => ?_⟩
  have h1 := congrArg (fun x : List Value => x[j]?) ht
  simp only [Nat.mul_one, List.getElem?_take, hj, if_true, Array.getElem?_toList] at h1
  rw [cell_of_row w g j _ _ (0, 0) hw, h1]
  simp [strs, hj]
theorem step_append_own {P : Program} {w : World} {ops : Array Oper} {o : Oper} {a : Act} {K : Act → World → Prop} {Q : Exit → Act → World → Prop} {E : Prop} (hgd : o.guard = none) (s x : Operand) (t : TypeId)
  (ho : o.op = .call { callee := .builtin .append, args := #[s, x], argTypes := #[t, t] })
  (base : Nat) (e : TypeId) (i : TypeInfo) (z : Value) (size bytes : Nat) (ht : P.underlying t = some (.slice e)) (hi : P.info? e = some i) (hz : i.zero = some z)
  (hsize : i.size = size) (hby : i.bytes = bytes) (hzs : z.cells.size = size) (hsz : 0 < size)
  (v : Value) (n : Nat) (xs : List Value) (hs : a.eval s = v) (hown : w.ownsRow base e size v n xs)
  (ad : Addr) (m c : Nat) (news : List Value) (hx : a.eval x = .slice (some ad) m c) (hl : news.length = m * size) (hnews : ∀ j u, news[j]? = some u → w.cell? (ad.add j) = some u) (h1 : ∀ u ∈ news, u.oneCell' = true)
  (h63 : n + m ≤ maxLen) (hbytes : (n + m) * bytes ≤ 140737488355328) (hbase : base ≤ w.heap.size)
  (h : ∀ v' w', w'.ownsRow base e size v' (n + m) (xs ++ news) → w.grownBy w' v.ownBlock → (v' = .slice none 0 0 ↔ v = .slice none 0 0 ∧ m = 0) → K (a.put o.dst v') w') :
  if Region.wanted o (yielded ops a.tmps) = true then Oper.wp P o a w K Q else E := by
 have hw : Region.wanted o (yielded ops a.tmps) = true := by simp [Region.wanted, hgd]
 rw [if_pos hw]
 exact wp_append_own w s x t ho base e i z size bytes ht hi hz hsize hby hzs hsz v n xs hs hown ad m c news hx hl hnews h1 h63 hbytes hbase h
theorem news_str' (w : World) (x : ByteArray) (e : TypeId) : ∀ (j : Nat) (u : Value), ([.string x] : List Value)[j]? = some u → (w.alloc (.cells #[.string x] e)).cell? ((⟨w.heap.size, 0, none⟩ : Addr).add j) = some u := by
 intro j u hj
 match j, hj with
 | 0, hj => simp at hj; subst hj; simp [Addr.add]
theorem own_empty {w : World} {b B : Nat} (h : w.heap[b]? = some (.cells #[] 9 (0, 0))) (hb : B ≤ b) : w.ownsRow B 9 1 (.slice (some ⟨b, 0, none⟩) 0 0) 0 [] :=
 ⟨rfl, .inr ⟨b, 0, #[], rfl, hb, h, Nat.le_refl _, Nat.zero_le _, rfl, rfl⟩⟩
theorem heap2_new (w : World) (A B : Obj) : ((w.alloc A).alloc B).heap[w.heap.size + 1]? = some B := by
 have h := heap_alloc_new (w.alloc A) B
 rwa [show (w.alloc A).heap.size = w.heap.size + 1 by simp] at h
theorem heap2_old (w : World) (A B : Obj) : ((w.alloc A).alloc B).heap[w.heap.size]? = some A := by
 rw [heap_alloc_old (w.alloc A) B (by simp)]
 exact heap_alloc_new w A
theorem news_block {w : World} {b : Nat} {x : ByteArray} {e : TypeId} (h : w.heap[b]? = some (.cells #[.string x] e (0, 0))) : ∀ (j : Nat) (u : Value), ([.string x] : List Value)[j]? = some u → w.cell? ((⟨b, 0, none⟩ : Addr).add j) = some u := by
 intro j u hj
 rw [Addr.add_lit, Nat.zero_add, cell_of_row w b j _ _ (0, 0) h]
 simpa using hj
theorem ones_one (x : ByteArray) : ∀ u ∈ ([.string x] : List Value), u.oneCell' = true := by
 intro u hu
 simp at hu
 subst hu
 rfl
theorem keep_alloc {a W : World} (h : Below a.heap.size a W) (o : Obj) : Below a.heap.size a (W.alloc o) := h.alloc h.size o
theorem keep_grown {a W W' : World} {v : Value} {n : Nat} {xs : List Value} {e : TypeId} {z : Nat} (h : Below a.heap.size a W) (hown : W.ownsRow a.heap.size e z v n xs) (hg : W.grownBy W' v.ownBlock) : Below a.heap.size a W' :=
 h.grown hg h.size (fun k hk => (hown.lt k hk).1)
theorem cells_from (W : World) (g o : Nat) (S : List (List UInt8)) (h : ∀ q, q < S.length → W.cell? ⟨g, o + q, none⟩ = some (.string (bs (S.getD q [])))) : ∀ (j : Nat) (u : Value), (strs S)[j]? = some u → W.cell? ((⟨g, o, none⟩ : Addr).add j) = some u := by
 intro j u hj
 have hjl : j < S.length := by
  have := (List.getElem?_eq_some_iff.1 hj).1
  simpa [strs] using this
 rw [Addr.add_lit, h j hjl, ← hj]
 simp [strs, hjl]
theorem ones_strs (S : List (List UInt8)) : ∀ u ∈ strs S, u.oneCell' = true := by
 intro u hu
 obtain ⟨x, -, rfl⟩ := List.mem_map.1 hu
 rfl
end Go.Proofs.YthgbfaoblnkniaaDoor
