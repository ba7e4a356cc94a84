/-
  Layer 10 (pair): made, walked. Conditions: unicode/utf8's two tables hold what their initialisers lay; names of at most 1,000,000 bytes.
  DERIVED: THE SHELF's CONTRACTS AT THIS DUMP, IN PLAIN WORDS (tools/lay-plain.mjs out of 'TrydShelfO4.lean', which tools/lay-shelf.mjs wrote): THE SAME DECLARATIONS UNDER THE SAME NAMES: 'import', 'namespace', 'open', 'def', 'theorem' AND NOTHING ELSE: no command of the shelf's: FOR A HAND-IN. Each laying: the table of numbers ('.._ren') and one theorem, a field a fact of the dump's own or the kernel's comparison; each contract: ONE APPLICATION.
  The walk of layer 2 (name): texts' names in order, in the program. No conditions but that unicode/utf8's two tables are as their initialisers lay them.
  The walk of layer 2 (name): texts' names in order, in the program. No conditions but that unicode/utf8's two tables are as their initialisers lay them.
  Rows of texts of a call's own; append to a row of one's own as one step of a region that draws. No conditions.
  The walks of layer 9 (table), the program: a table or not, where a text stands, a copy, a name put in. No conditions but that unicode/utf8's two tables are as their initialisers lay them.
  The walks of layer 9 (table), the program: a table made, a name found, a name put in. No conditions but that unicode/utf8's two tables are as their initialisers lay them.
  Layer 10 (pair): the table of what a map has: names; a range over a map of texts. Conditions: unicode/utf8's two tables hold what their initialisers lay.
-/
import Derived.Test.YtmgchjddpmmglaaGreatDoorRxPaQ
import Derived.Ground.SlsfProg
import Derived.Shelf.SlLaysF
import Derived.Shelf.SlLaysF0
import Derived.Shelf.SlSortCmp.NoneTotal
import Derived.Shelf.Slices.CompactS
import Derived.Lib.RowBridge
import Derived.OwnWalk
import Derived.SliceStrings
import Derived.Lib.SliceRun
import Derived.Maps.StringElems
import Derived.StringKeys
namespace Go.Proofs.YtmgchjddpmmglaaGreatDoor
open Go.RowKit Go.Lib Go.Maps
theorem openF_nil : openF [] [] = fun _ => none := by
 funext l
 unfold openF
 exact if_neg (by simp)
theorem mk_new (w : World) : MkI ((((w.alloc (.map #[] 0)).alloc (.map #[] 0)).alloc (.map #[] 0)).alloc (.cells #[.slice none 0 0, .map (some w.heap.size), .map (some (w.heap.size + 1)), .map (some (w.heap.size + 2))] 134)) w.heap.size (w.heap.size + 3) [] 0 (.slice none 0 0) w.heap.size (w.heap.size + 1) (w.heap.size + 2) [] := by
 have s1 : (w.alloc (.map #[] 0)).heap.size = w.heap.size + 1 := by simp
 have s2 : ((w.alloc (.map #[] 0)).alloc (.map #[] 0)).heap.size = w.heap.size + 2 := by simp
 have s3 : (((w.alloc (.map #[] 0)).alloc (.map #[] 0)).alloc (.map #[] 0)).heap.size = w.heap.size + 3 := by simp
 have a1 := opn_new w
 have a2 := cnt_new (w.alloc (.map #[] 0))
 have a3 := cnt_new ((w.alloc (.map #[] 0)).alloc (.map #[] 0))
 have a4 := Blk.new (((w.alloc (.map #[] 0)).alloc (.map #[] 0)).alloc (.map #[] 0)) 134 [.slice none 0 0, .map (some w.heap.size), .map (some (w.heap.size + 1)), .map (some (w.heap.size + 2))]
 rw [s1] at a2
 rw [s2] at a3
 rw [s3] at a4
 refine ⟨a4, ⟨by omega, by omega, by omega, by omega⟩, ⟨by omega, by omega, by omega⟩, World.ownsRow_nil _ _ _ _, rfl, ?_, ⟨[], a2.at ?_, List.nodup_nil, fun x => by simp [namesD]⟩, ⟨[], a3.at ?_, List.nodup_nil, fun x => by simp [keysD]⟩, fun i h => absurd h (Nat.not_lt_zero i), fun i j _ h => absurd h (Nat.not_lt_zero j), fun i j _ h => absurd h (Nat.not_lt_zero j), fun i j _ h => absurd h (Nat.not_lt_zero j)⟩
 ·rw [openF_nil]
  refine a1.at ?_
  rw [heap_kept _ _ (by simp; omega), heap_kept _ _ (by simp; try omega), heap_kept _ _ (by simp)]
 ·rw [heap_kept _ _ (by simp; try omega), heap_kept _ _ (by simp)]
 ·rw [heap_kept _ _ (by simp)]
theorem made_step (L : List EventM) (k : Nat) (hk : k < L.length) (Lk : List DraftM) : madeP (L.drop k) Lk = if (putP Lk (L.getD k noEv)).2 = 0 then madeP (L.drop (k + 1)) (putP Lk (L.getD k noEv)).1 else ((putP Lk (L.getD k noEv)).1, (L.getD k noEv).2.2.2.2.2, (putP Lk (L.getD k noEv)).2) := by
 have e : L.drop k = L.getD k noEv :: L.drop (k + 1) := by rw [List.drop_eq_getElem_cons hk]; simp [hk]
 rw [e]
 rfl
set_option maxRecDepth 100000 in
set_option maxHeartbeats 4000000 in
theorem made10_any {w : World} (v : Value) (L : List EventM) (hv : EvsS w v L) (hL : L.length ≤ 1000) (hM : ∀ x ∈ L, x.2.1.length ≤ 1000000 ∧ x.2.2.1.length ≤ 1000000) (hT : Lib.Utf8Tabs 1 2 w) :
  Calls Tryz.prog 117 #[v] w fun e w' => ∃ gm lv bo bz bk E, e = .returned (.tuple #[.pointer (some ⟨gm, 0, none⟩), .int .i64 (madeP L []).2.1, .int .i64 (madeP L []).2.2]) ∧ MkI w' w.heap.size gm (madeP L []).1 L.length lv bo bz bk E ∧ Below w.heap.size w w' := by
 obtain ⟨p, c, rfl, hp⟩ := hv
 have HX := Lib.hid hp
 have HM := Lib.hid (fun k (hk : k < L.length) => hM _ (show L.getD k noEv ∈ L by rw [show L.getD k noEv = L[k] by simp [hk]]; exact List.getElem_mem hk))
 have HT := Lib.hid hT
 have HN := Lib.hid (mk_new w)
 have HB := Lib.hid ((((((Below.refl w.heap.size w).alloc (Nat.le_refl _) (.map #[] 0)).alloc (by simp) (.map #[] 0)).alloc (by simp; omega) (.map #[] 0))).alloc (by simp; omega) (.cells #[.slice none 0 0, .map (some w.heap.size), .map (some (w.heap.size + 1)), .map (some (w.heap.size + 2))] 134))
 clear hp hT hM
 obtain ⟨B, hBe⟩ : ∃ B, w.heap.size = B := ⟨_, rfl⟩
 have hmm := @run_makeMap Tryz.prog
 go_enter Tryz.func117, Tryz.ntmps117
 go_wp2_with fail
 rw [hBe] at HN HB
 try simp only [hBe]
 obtain ⟨gm, hgm⟩ : ∃ g, B + 3 = g := ⟨_, rfl⟩
 obtain ⟨bz, hbz⟩ : ∃ g, B + 1 = g := ⟨_, rfl⟩
 obtain ⟨bk, hbk⟩ : ∃ g, B + 2 = g := ⟨_, rfl⟩
 rw [hgm, hbz, hbk] at HN
 rw [hbz, hbk] at HB
 have hbk2 : bz + 1 = bk := by omega
 have hgm2 : bk + 1 = gm := by omega
 try simp only [hbz, hbk2, hgm2]
 clear hmm
 generalize (((w.alloc (.map #[] 0)).alloc (.map #[] 0)).alloc (.map #[] 0)).alloc (.cells #[.slice none 0 0, .map (some B), .map (some bz), .map (some bk)] 134) = W at *
 go_loopw [16] (fun i wr => ∃ (k : Nat) (lv : Value) (E : List EntM) (Lk : List DraftM), k ≤ L.length ∧ i = .int .i64 k ∧ MkI wr B gm Lk k lv B bz bk E ∧ GoodL Lk ∧ madeP L [] = madeP (L.drop k) Lk ∧ Below B w wr) (fun i _ => L.length - (RowKit.intOf i).toNat)
 case atStart => exact ⟨0, _, _, _, Nat.zero_le _, rfl, HN.out, good_nil, rfl, HB.out⟩
 case round =>
  obtain ⟨k, lv, E, Lk, hk, rfl, hmi, hG, hP, hbw⟩ := hrel
  have hbz' := hbw.size
  by_cases hk1 : k < L.length
  ·obtain ⟨g, rfl, hcell⟩ := HX.out k hk1
   obtain ⟨q1, q2⟩ := HM.out k hk1
   rw [made_step L k hk1] at hP
   obtain ⟨t, ht⟩ : ∃ t, L.getD k noEv = t := ⟨_, rfl⟩
   rw [ht] at hP hcell q1 q2
   obtain ⟨x1, x2, x3, x4, x5, x6⟩ := t
   have hbw' : Below w.heap.size w wr := by rw [hBe]; exact hbw
   have a0 := cell_later hbw' (hcell 0 _ rfl)
   have a1 := cell_later hbw' (hcell 1 _ rfl)
   have a2 := cell_later hbw' (hcell 2 _ rfl)
   have a3 := cell_later hbw' (hcell 3 _ rfl)
   have a4 := cell_later hbw' (hcell 4 _ rfl)
   have a5 := cell_later hbw' (hcell 5 _ rfl)
   simp only [Nat.add_zero] at a0
   obtain ⟨⟨L', f⟩, hp⟩ : ∃ r, putP Lk (x1, x2, x3, x4, x5, x6) = r := ⟨_, rfl⟩
   have hG' := put_good hG (x1, x2, x3, x4, x5, x6)
   rw [hp] at hP hG'
   dsimp only at hP hG' q1 q2
   have hal := (Below.refl wr.heap.size wr).alloc (Nat.le_refl _) (.cells #[.int .i64 x1, .string (bs x2), .string (bs x3), .int .i64 x4, .int .i64 x5, .int .i64 x6] 123)
   have HPut := Lib.hid (put10_any (w := wr.alloc (.cells #[.int .i64 x1, .string (bs x2), .string (bs x3), .int .i64 x4, .int .i64 x5, .int .i64 x6] 123)) x1 x4 x5 x6 x2 x3 (hmi.below hal) hG (by omega) q1 q2 (by simp; omega) (Utf8Tabs_below HT.out (by rw [hBe]; exact hbw.trans (hal.mono (by omega)))))
   rw [hp] at HPut
   have hty : Ty (wr.alloc (.cells #[.int .i64 x1, .string (bs x2), .string (bs x3), .int .i64 x4, .int .i64 x5, .int .i64 x6] 123)) wr.heap.size 123 := (Blk.new wr _ [.int .i64 x1, .string (bs x2), .string (bs x3), .int .i64 x4, .int .i64 x5, .int .i64 x6]).ty
   have HBW := Lib.hid (hbw.trans (hal.mono (by omega)))
   clear ht hp hcell q1 q2 hbw' hG hmi hal
   go_wp2_with fail
   refine HPut.out.mono ?_
   rintro e w3 ⟨lv', E', rfl, hmi', hb3, hev⟩
   have hx5 : w3.cell? ⟨wr.heap.size, 5, none⟩ = some (.int .i64 x6) := ((Blk.new wr 123 [.int .i64 x1, .string (bs x2), .string (bs x3), .int .i64 x4, .int .i64 x5, .int .i64 x6]).at (hev _ hty)).cell 5 rfl
   have hb03 := HBW.out.trans hb3
   clear HPut hty hev HBW hb3 a0 a1 a2 a3 a4 a5
   dsimp only at hmi' ⊢
   by_cases hf : f = 0
   ·subst hf
    rw [if_pos rfl] at hP
    go_wp2_with fail
    go_roundw
    case rel => exact ⟨k + 1, lv', E', L', by omega, by go_num, hmi', hG', hP, hb03⟩
    case measure => simp [RowKit.intOf]; omega
   ·have hfb : (f != 0) = true := by simpa using hf
    rw [if_neg hf] at hP
    have HP := Lib.hid hP
    clear hP hf
    go_wp2_with fail
    obtain ⟨gy, hgy⟩ : ∃ g, wr.heap.size = g := ⟨_, rfl⟩
    rw [hgy] at hx5
    try simp only [hgy]
    have HS : RowKit.Hid (∀ w', Below w3.heap.size w3 w' → (w'.cell? ⟨gy, 5, none⟩ = some (.int .i64 x6) ∧ Below w3.heap.size w3 w')) := Lib.hid (fun w' hb => ⟨cell_later hb hx5, hb⟩)
    refine wp_region_keep (fun w' => w'.cell? ⟨gy, 5, none⟩ = some (.int .i64 x6) ∧ Below w3.heap.size w3 w') [] (by kernel_rfl) ?_
    have hB0 : Below (w3).heap.size (w3) (w3).drew := Below.drew (Below.refl _ _)
    have hS0 := HS.out _ hB0
    refine wfr 0 (v := ?_) rfl ?_ ?_
    rotate_left
    ·intro w' hw';go_simp;try with_reducible rfl
    try simp only [Act.put, sq]
    refine wfr 1 (v := ?_) rfl ?_ ?_
    rotate_left
    ·intro w' hw';go_simp;try with_reducible rfl
    try simp only [Act.put, sq]
    refine wtk 2 7 (v := ?_) rfl ?_ hS0 ?_
    rotate_left
    ·intro w' hw';(try dsimp only at hw');go_simp;try with_reducible rfl
    try simp only [Act.put, sq]
    refine wfr 3 (v := ?_) rfl ?_ ?_
    rotate_left
    ·intro w' hw';go_simp;try with_reducible rfl
    try simp only [Act.put, sq]
    refine won 4 rfl fun K hK => ?_
    go_simp
    refine hK.out _ _ (fun _ _ => hS0) ?_
    clear hK K
    try simp only [Act.put, sq]
    refine won 5 rfl fun K hK => ?_
    go_simp
    refine hK.out _ _ (fun _ _ => hS0) ?_
    clear hK K
    try simp only [Act.put, sq]
    refine won 6 rfl fun K hK => ?_
    go_simp
    refine hK.out _ _ (fun _ _ => hS0) ?_
    clear hK K
    try simp only [Act.put, sq]
    refine wpAnyM_done (by kernel_rfl) ?_ _
    try simp only [Act.put, sq]
    go_wp2_with fail
    go_ret3
    rw [HP.out]
    rw [hBe]
    exact ⟨gm, lv', B, bz, bk, E', rfl, (hmi'.mono (show k + 1 ≤ L.length by omega)).below hB0, hb03.trans (hB0.mono (by have := hb03.size; omega))⟩
  ·have hke : k = L.length := by omega
   subst hke
   rw [List.drop_length] at hP
   have HP := Lib.hid (show madeP L [] = (Lk, 0, 0) from hP)
   clear hP
   go_wp2_with fail
   go_ret3
   rw [HP.out]
   rw [hBe]
   exact ⟨gm, lv, B, bz, bk, E, rfl, hmi, hbw⟩
end Go.Proofs.YtmgchjddpmmglaaGreatDoor

namespace Go.Proofs
open Go.Shelf
def Tryz.laysSort_ren : Go.Shelf.Ren := ⟨fun | 6 => 230 | 15 => 239 | 14 => 247 | 28 => 258 | 29 => 259 | 20 => 268 | 21 => 269 | 22 => 270 | 23 => 271 | 24 => 272 | 25 => 273 | 26 => 274 | 27 => 275 | 46 => 285 | 47 => 279 | 48 => 280 | 49 => 286 | 50 => 287 | 57 => 291 | n => n, fun | 22 => 22 | 24 => 9 | 25 => 238 | 3 => 3 | 39 => 244 | 0 => 0 | 53 => 276 | 55 => 259 | 4 => 4 | 46 => 270 | 45 => 269 | 50 => 138 | 5 => 5 | 9 => 9 | 66 => 286 | 70 => 290 | 76 => 297 | 77 => 233 | n => n, fun | n => n⟩
theorem Tryz.laysSort : Go.Proofs.SlLaysF.n6 Tryz.prog Tryz.laysSort_ren := {
 mixed := by kernel_rfl
 f6 := ⟨Tryz.f230.name, by decide, Tryz.func230.trans (congrArg some (by kernel_rfl))⟩
 f14 := ⟨Tryz.f247.name, by decide, Tryz.func247.trans (congrArg some (by kernel_rfl))⟩
 f15 := Tryz.func239.trans (congrArg some (by kernel_rfl))
 f20 := ⟨Tryz.f268.name, by decide, Tryz.func268.trans (congrArg some (by kernel_rfl))⟩
 f21 := ⟨Tryz.f269.name, by decide, Tryz.func269.trans (congrArg some (by kernel_rfl))⟩
 f22 := ⟨Tryz.f270.name, by decide, Tryz.func270.trans (congrArg some (by kernel_rfl))⟩
 f23 := ⟨Tryz.f271.name, by decide, Tryz.func271.trans (congrArg some (by kernel_rfl))⟩
 f24 := ⟨Tryz.f272.name, by decide, Tryz.func272.trans (congrArg some (by kernel_rfl))⟩
 f25 := ⟨Tryz.f273.name, by decide, Tryz.func273.trans (congrArg some (by kernel_rfl))⟩
 f26 := ⟨Tryz.f274.name, by decide, Tryz.func274.trans (congrArg some (by kernel_rfl))⟩
 f27 := ⟨Tryz.f275.name, by decide, Tryz.func275.trans (congrArg some (by kernel_rfl))⟩
 f28 := Tryz.func258.trans (congrArg some (by kernel_rfl))
 f29 := Tryz.func259.trans (congrArg some (by kernel_rfl))
 f46 := ⟨Tryz.f285.name, by decide, Tryz.func285.trans (congrArg some (by kernel_rfl))⟩
 f47 := Tryz.func279.trans (congrArg some (by kernel_rfl))
 f48 := Tryz.func280.trans (congrArg some (by kernel_rfl))
 f49 := ⟨Tryz.f286.name, by decide, Tryz.func286.trans (congrArg some (by kernel_rfl))⟩
 f50 := ⟨Tryz.f287.name, by decide, Tryz.func287.trans (congrArg some (by kernel_rfl))⟩
 f57 := ⟨Tryz.f291.name, by decide, Tryz.func291.trans (congrArg some (by kernel_rfl))⟩
 t0 := Tryz.underlying0
 a0 := Tryz.isAgg0
 z0 := Tryz.sizeOf0
 v0 := Tryz.zeroValue0
 t3 := Tryz.underlying3
 a3 := Tryz.isAgg3
 z3 := Tryz.sizeOf3
 v3 := Tryz.zeroValue3
 t4 := Tryz.underlying4
 a4 := Tryz.isAgg4
 z4 := Tryz.sizeOf4
 v4 := Tryz.zeroValue4
 t5 := Tryz.underlying5
 a5 := Tryz.isAgg5
 z5 := Tryz.sizeOf5
 v5 := Tryz.zeroValue5
 t9 := Tryz.underlying9
 a9 := Tryz.isAgg9
 z9 := Tryz.sizeOf9
 v9 := Tryz.zeroValue9
 t22 := Tryz.underlying22
 a22 := Tryz.isAgg22
 z22 := Tryz.sizeOf22
 v22 := Tryz.zeroValue22
 a24 := Tryz.isAgg9
 z24 := Tryz.sizeOf9
 t25 := Tryz.underlying238
 a25 := Tryz.isAgg238
 z25 := Tryz.sizeOf238
 v25 := Tryz.zeroValue238
 t39 := Tryz.underlying244
 a39 := Tryz.isAgg244
 z39 := Tryz.sizeOf244
 v39 := Tryz.zeroValue244
 t45 := Tryz.underlying269
 a45 := Tryz.isAgg269
 z45 := Tryz.sizeOf269
 v45 := Tryz.zeroValue269
 t46 := Tryz.underlying270
 a46 := Tryz.isAgg270
 z46 := Tryz.sizeOf270
 v46 := Tryz.zeroValue270
 t50 := Tryz.underlying138
 a50 := Tryz.isAgg138
 z50 := Tryz.sizeOf138
 v50 := Tryz.zeroValue138
 t53 := Tryz.underlying276
 a53 := Tryz.isAgg276
 z53 := Tryz.sizeOf276
 v53 := Tryz.zeroValue276
 t55 := Tryz.underlying259
 a55 := Tryz.isAgg259
 z55 := Tryz.sizeOf259
 v55 := Tryz.zeroValue259
 t66 := Tryz.underlying286
 a66 := Tryz.isAgg286
 z66 := Tryz.sizeOf286
 v66 := Tryz.zeroValue286
 t70 := Tryz.underlying290
 a70 := Tryz.isAgg290
 z70 := Tryz.sizeOf290
 v70 := Tryz.zeroValue290
 t76 := Tryz.underlying297
 a76 := Tryz.isAgg297
 z76 := Tryz.sizeOf297
 v76 := Tryz.zeroValue297
 t77 := Tryz.underlying233
 a77 := Tryz.isAgg233
 z77 := Tryz.sizeOf233
 v77 := Tryz.zeroValue233 }
def Tryz.laysSort0_ren : Go.Shelf.Ren := ⟨fun | 6 => 230 | 15 => 239 | 14 => 247 | 28 => 258 | 29 => 259 | 20 => 268 | 21 => 269 | 22 => 270 | 23 => 271 | 24 => 272 | 25 => 273 | 26 => 274 | 27 => 275 | 46 => 285 | 47 => 279 | 48 => 280 | 49 => 286 | 50 => 287 | 57 => 291 | n => n, fun | 22 => 22 | 24 => 9 | 25 => 238 | 3 => 3 | 39 => 244 | 0 => 0 | 53 => 276 | 55 => 259 | 4 => 4 | 46 => 270 | 45 => 269 | 50 => 138 | 5 => 5 | 9 => 9 | 66 => 286 | 70 => 290 | 76 => 297 | 77 => 233 | n => n, fun | n => n⟩
theorem Tryz.laysSort0 : Go.Proofs.SlLaysF0.n6 Tryz.prog Tryz.laysSort0_ren := {
 mixed := by kernel_rfl
 f6 := ⟨Tryz.f230.name, by decide, Tryz.func230.trans (congrArg some (by kernel_rfl))⟩
 f14 := ⟨Tryz.f247.name, by decide, Tryz.func247.trans (congrArg some (by kernel_rfl))⟩
 f15 := Tryz.func239.trans (congrArg some (by kernel_rfl))
 f20 := ⟨Tryz.f268.name, by decide, Tryz.func268.trans (congrArg some (by kernel_rfl))⟩
 f21 := ⟨Tryz.f269.name, by decide, Tryz.func269.trans (congrArg some (by kernel_rfl))⟩
 f22 := ⟨Tryz.f270.name, by decide, Tryz.func270.trans (congrArg some (by kernel_rfl))⟩
 f23 := ⟨Tryz.f271.name, by decide, Tryz.func271.trans (congrArg some (by kernel_rfl))⟩
 f24 := ⟨Tryz.f272.name, by decide, Tryz.func272.trans (congrArg some (by kernel_rfl))⟩
 f25 := ⟨Tryz.f273.name, by decide, Tryz.func273.trans (congrArg some (by kernel_rfl))⟩
 f26 := ⟨Tryz.f274.name, by decide, Tryz.func274.trans (congrArg some (by kernel_rfl))⟩
 f27 := ⟨Tryz.f275.name, by decide, Tryz.func275.trans (congrArg some (by kernel_rfl))⟩
 f28 := Tryz.func258.trans (congrArg some (by kernel_rfl))
 f29 := Tryz.func259.trans (congrArg some (by kernel_rfl))
 f46 := ⟨Tryz.f285.name, by decide, Tryz.func285.trans (congrArg some (by kernel_rfl))⟩
 f47 := Tryz.func279.trans (congrArg some (by kernel_rfl))
 f48 := Tryz.func280.trans (congrArg some (by kernel_rfl))
 f49 := ⟨Tryz.f286.name, by decide, Tryz.func286.trans (congrArg some (by kernel_rfl))⟩
 f50 := ⟨Tryz.f287.name, by decide, Tryz.func287.trans (congrArg some (by kernel_rfl))⟩
 f57 := ⟨Tryz.f291.name, by decide, Tryz.func291.trans (congrArg some (by kernel_rfl))⟩
 t0 := Tryz.underlying0
 a0 := Tryz.isAgg0
 z0 := Tryz.sizeOf0
 v0 := Tryz.zeroValue0
 t3 := Tryz.underlying3
 a3 := Tryz.isAgg3
 z3 := Tryz.sizeOf3
 v3 := Tryz.zeroValue3
 t4 := Tryz.underlying4
 a4 := Tryz.isAgg4
 z4 := Tryz.sizeOf4
 v4 := Tryz.zeroValue4
 t5 := Tryz.underlying5
 a5 := Tryz.isAgg5
 z5 := Tryz.sizeOf5
 v5 := Tryz.zeroValue5
 t9 := Tryz.underlying9
 a9 := Tryz.isAgg9
 z9 := Tryz.sizeOf9
 v9 := Tryz.zeroValue9
 t22 := Tryz.underlying22
 a22 := Tryz.isAgg22
 z22 := Tryz.sizeOf22
 v22 := Tryz.zeroValue22
 t25 := Tryz.underlying238
 a25 := Tryz.isAgg238
 z25 := Tryz.sizeOf238
 v25 := Tryz.zeroValue238
 t39 := Tryz.underlying244
 a39 := Tryz.isAgg244
 z39 := Tryz.sizeOf244
 v39 := Tryz.zeroValue244
 t45 := Tryz.underlying269
 a45 := Tryz.isAgg269
 z45 := Tryz.sizeOf269
 v45 := Tryz.zeroValue269
 t46 := Tryz.underlying270
 a46 := Tryz.isAgg270
 z46 := Tryz.sizeOf270
 v46 := Tryz.zeroValue270
 t50 := Tryz.underlying138
 a50 := Tryz.isAgg138
 z50 := Tryz.sizeOf138
 v50 := Tryz.zeroValue138
 t53 := Tryz.underlying276
 a53 := Tryz.isAgg276
 z53 := Tryz.sizeOf276
 v53 := Tryz.zeroValue276
 t55 := Tryz.underlying259
 a55 := Tryz.isAgg259
 z55 := Tryz.sizeOf259
 v55 := Tryz.zeroValue259
 t66 := Tryz.underlying286
 a66 := Tryz.isAgg286
 z66 := Tryz.sizeOf286
 v66 := Tryz.zeroValue286
 t70 := Tryz.underlying290
 a70 := Tryz.isAgg290
 z70 := Tryz.sizeOf290
 v70 := Tryz.zeroValue290
 t76 := Tryz.underlying297
 a76 := Tryz.isAgg297
 z76 := Tryz.sizeOf297
 v76 := Tryz.zeroValue297
 t77 := Tryz.underlying233
 a77 := Tryz.isAgg233
 z77 := Tryz.sizeOf233
 v77 := Tryz.zeroValue233 }
def Tryz.laysCompact_ren : Go.Shelf.Ren := ⟨fun | 194 => 232 | n => n, fun | 31 => 22 | 9 => 9 | 3 => 3 | 4 => 4 | 0 => 0 | n => n, fun | n => n⟩
theorem Tryz.laysCompact : Go.Proofs.Lays.n194 Tryz.prog Tryz.laysCompact_ren := {
 mixed := by kernel_rfl
 f194 := Tryz.func232.trans (congrArg some (by kernel_rfl))
 t0 := Tryz.underlying0
 a0 := Tryz.isAgg0
 z0 := Tryz.sizeOf0
 v0 := Tryz.zeroValue0
 t3 := Tryz.underlying3
 a3 := Tryz.isAgg3
 z3 := Tryz.sizeOf3
 v3 := Tryz.zeroValue3
 t4 := Tryz.underlying4
 a4 := Tryz.isAgg4
 z4 := Tryz.sizeOf4
 v4 := Tryz.zeroValue4
 t9 := Tryz.underlying9
 a9 := Tryz.isAgg9
 z9 := Tryz.sizeOf9
 v9 := Tryz.zeroValue9
 t31 := Tryz.underlying22
 a31 := Tryz.isAgg22
 z31 := Tryz.sizeOf22
 v31 := Tryz.zeroValue22 }
end Go.Proofs

namespace Go.Proofs.YtmgchjddpmmglaaGreatDoor
open Go.RowKit Go.Lib Go.Sort
theorem two_allocs (w : World) (A B : Obj) : ((w.alloc A).alloc B).drew.drew = grow (w.drewN 2) #[A, B] := by
 have e : (w.heap.push A).push B = w.heap ++ #[A, B] := by
  apply Array.ext'
  simp [Array.toList_push]
 unfold grow World.alloc World.drew World.drewN
 simp only [e]
set_option maxRecDepth 100000 in
set_option maxHeartbeats 1000000 in
theorem ncompare_grows (a b : List UInt8) (ha : a.length ≤ 1000000) (hb : b.length ≤ 1000000) (w : World) :
  Calls Tryz.prog 231 #[.string (bs a), .string (bs b)] w fun e w' => e = .returned (.int .i64 (lexCmp (runesU a) (runesU b))) ∧ ∃ q os, w' = grow (w.drewN q) os := by
 have hca := conv_runes a ha
 have hcb := conv_runes b hb
 go_enter Tryz.func231, Tryz.ntmps231
 go_wp2_with fail
 refine (compare_any (runesU a) (runesU b) _ _ _ _ _ ?_ ?_ (by have := runesU_length a; omega)).mono ?_
 ·intro j hj
  exact cell_past _ (cell_drew (rowR_cell w w.drew a j hj))
 ·intro j hj
  have h := rowR_cell (w.alloc (.cells (rowR w a) 21)).drew (w.alloc (.cells (rowR w a) 21)) b j hj
  rw [show (w.alloc (.cells (rowR w a) 21)).heap.size = w.heap.size + 1 by simp] at h
  exact cell_drew (cell_drew h)
 ·rintro e w1 ⟨rfl, rfl⟩
  go_wp2_with fail
  go_ret
  exact ⟨rfl, 2, _, two_allocs _ _ _⟩
abbrev NameT := { l : List UInt8 // nameL l = true }
instance : Inhabited NameT := ⟨⟨[97], by decide +kernel⟩⟩
def encN (x : NameT) : Value := .string (bs x.1)
theorem encN_one : OneCell encN := fun _ => rfl
def cmpN (x y : NameT) : Int := lexCmp (runesU x.1) (runesU y.1)
theorem lt_cmpN (x y : NameT) : ltOf cmpN x y = ltN x.1 y.1 := (lexCmp_less _ _).symm
theorem swo_cmpN : SWO (ltOf cmpN) where
 irrefl x := by rw [lt_cmpN]; exact ltN_irrefl _
 trans x y z h1 h2 := by rw [lt_cmpN] at *; exact ltN_trans _ _ _ h1 h2
 ntrans x y z h1 h2 := by rw [lt_cmpN] at *; exact lexLess_ntrans _ _ _ h1 h2
theorem name_len (l : List UInt8) (h : nameL l = true) : l.length ≤ 1000000 := by
 have hv := textU_runes _ l (Nat.le_refl _) (name_valid l h)
 unfold nameL word at h
 simp only [Bool.and_eq_true, decide_eq_true_eq] at h
 have := textU_len (runesU l)
 rw [hv] at this
 omega
theorem compare_enters : ∀ args w, (callFunc 231 args).run Tryz.prog w = .ok (.enter 231 args) w := enters_of Tryz.func231 (by kernel_rfl) rfl
theorem sort_names (g cap : Nat) (d : Array NameT) (w : World) (hH : Holds encN w g 0 d) (hg : g < w.heap.size) (hsz : d.size < 4611686018427387904) :
  Calls Tryz.prog 230 #[.slice (some ⟨g, 0, none⟩) d.size cap, .func (.func 231) #[] #[]] w fun e w' =>
   e = .returned (.tuple #[]) ∧ ∃ n os, w' = sortWorld encN w g 0 n (d.toList.mergeSort fun x y => !(ltOf cmpN) y x).toArray os :=
 Any.slices_SortFunc_total Tryz.laysSort encN encN_one cmpN swo_cmpN 231 #[] g 0 cap d w compare_enters
  (fun m os dk _ x y => ncompare_grows x.1 y.1 (name_len _ x.2) (name_len _ y.2) _) hH hg hsz
  (fun x y h1 h2 => by rw [lt_cmpN] at h1 h2; exact Subtype.ext (ltN_total _ _ x.2 y.2 h1 h2))
theorem compact_names (g cap : Nat) (S : List (List UInt8)) (w : World) (hH : Holds Go.Proofs.encStr w g 0 S.toArray) (hsz : S.length ≤ 9223372036854775807) (hcap : S.length ≤ cap) :
  Calls Tryz.prog 232 #[.slice (some ⟨g, 0, none⟩) S.length cap] w fun e w' => e = .returned (.slice (some ⟨g, 0, none⟩) (compact S).length cap) ∧
   ∃ q, w' = putRow Go.Proofs.encStr (Sort.ahead w q) g 0 (compact S ++ List.replicate (S.length - (compact S).length) []).toArray :=
 Any.slices_Compact_string Tryz.laysCompact g 0 cap S w hH hsz hcap
def leN (x y : NameT) : Bool := !(ltOf cmpN) y x
theorem leN_trans (a b c : NameT) (h1 : leN a b = true) (h2 : leN b c = true) : leN a c = true := by
 unfold leN at *
 simp only [Bool.not_eq_true'] at *
 exact swo_cmpN.ntrans c b a h2 h1
theorem leN_total (a b : NameT) : (leN a b || leN b a) = true := by
 unfold leN
 simp only [lt_cmpN]
 cases h1 : ltN b.1 a.1 with
 | false => rfl
 | true =>
  cases h2 : ltN a.1 b.1 with
  | false => rfl
  | true =>
   have := ltN_trans _ _ _ h1 h2
   rw [ltN_irrefl] at this
   exact absurd this (by decide)
theorem sort_spec (d : List NameT) (L : List (List UInt8)) (h : ∀ y, y ∈ d.map (·.1) ↔ y ∈ L ∧ nameL y = true) : compact ((d.mergeSort leN).map (·.1)) = sortedN L := by
 refine compact_sorted _ L (fun y => ?_) ?_
 ·rw [← h, List.mem_map, List.mem_map]
  constructor
  ·rintro ⟨x, hx, e⟩
   exact ⟨x, (List.mergeSort_perm d leN).mem_iff.1 hx, e⟩
  ·rintro ⟨x, hx, e⟩
   exact ⟨x, (List.mergeSort_perm d leN).mem_iff.2 hx, e⟩
 ·rw [List.pairwise_map]
  refine (List.pairwise_mergeSort leN_trans leN_total d).imp fun {a b} hab => ?_
  unfold leN at hab
  rw [lt_cmpN] at hab
  simpa using hab
theorem lift_names : ∀ M : List (List UInt8), (∀ x ∈ M, nameL x = true) → ∃ d : List NameT, d.map (·.1) = M
 | [], _ => ⟨[], rfl⟩
 | x :: M, h => by
  obtain ⟨d, hd⟩ := lift_names M (fun y hy => h y (List.mem_cons_of_mem _ hy))
  exact ⟨⟨x, h x (List.mem_cons_self ..)⟩ :: d, by simp [hd]⟩
theorem filter_next (L : List (List UInt8)) (k : Nat) (hk : k < L.length) : (L.take (k + 1)).filter nameL = (L.take k).filter nameL ++ (if nameL (L.getD k []) then [L.getD k []] else []) := by
 have e : L.take (k + 1) = L.take k ++ [L.getD k []] := by
  rw [List.take_add_one]
  simp [hk]
 rw [e, List.filter_append]
 congr 1
 simp only [List.filter_cons, List.filter_nil]
theorem below_sortWorld {a w : World} {g n : Nat} {dk : Array NameT} {os : Array Obj} (h : Below a.heap.size a w) (hg : a.heap.size ≤ g) : Below a.heap.size a (sortWorld encN w g 0 n dk os) := by
 refine ⟨h.os, h.tape, h.output, ?_, fun k hk => ?_⟩
 ·have := h.size
  show a.heap.size ≤ (grow (putRow encN (Sort.ahead w n) g 0 dk) os).heap.size
  unfold grow
  simp only [Array.size_append]
  rw [size_putRow]
  show _ ≤ w.heap.size + _
  omega
 ·have hkw : k < w.heap.size := Nat.lt_of_lt_of_le hk h.size
  rw [← h.block k hk]
  have hne : g ≠ k := by omega
  show ((putRow encN (Sort.ahead w n) g 0 dk).heap ++ os)[k]? = _
  rw [Array.getElem?_append_left (by rw [size_putRow]; exact hkw)]
  simp only [putRow, mapBlock, Array.getElem?_modify, if_neg hne]
  rfl
theorem below_putRow {a w : World} {g q : Nat} {dk : Array (List UInt8)} (h : Below a.heap.size a w) (hg : a.heap.size ≤ g) : Below a.heap.size a (putRow Go.Proofs.encStr (Sort.ahead w q) g 0 dk) := by
 refine ⟨h.os, h.tape, h.output, ?_, fun k hk => ?_⟩
 ·rw [size_putRow]
  exact h.size
 ·have hkw : k < w.heap.size := Nat.lt_of_lt_of_le hk h.size
  rw [← h.block k hk]
  have hne : g ≠ k := by omega
  simp only [putRow, mapBlock, Array.getElem?_modify, if_neg hne]
  rfl
end Go.Proofs.YtmgchjddpmmglaaGreatDoor

namespace Go.Proofs.YtmgchjddpmmglaaGreatDoor
open Go.RowKit Go.Lib Go.Sort
theorem news_txt (w : World) (x : ByteArray) (e : TypeId) : ∀ (j : Nat) (u : Value), ([.string x] : List Value)[j]? = some u → (w.alloc (.cells #[.string x] e)).cell? ((⟨w.heap.size, 0, none⟩ : Addr).add j) = some u := by
 intro j u hj
 match j, hj with
 | 0, hj => simp at hj; subst hj; simp [Addr.add]
theorem ones_txt (x : ByteArray) : ∀ u ∈ ([.string x] : List Value), u.oneCell' = true := by
 intro u hu
 simp at hu
 subst hu
 rfl
theorem holds_own {w : World} {g cap : Nat} {cur : Array Value} {M : List (List UInt8)} {d : List NameT} (hd : d.map (·.1) = M) (hw : w.heap[g]? = some (.cells cur 9 (0, 0))) (ht : cur.toList.take (M.length * 1) = strs M) (hc : M.length ≤ cap) : Holds encN w g 0 d.toArray := by
 intro j hj
 have hj' : j < d.length := by simpa using hj
 have hjM : j < M.length := by rw [← hd]; simpa using hj'
 refine ⟨?_, ?_⟩
 ·have h1 := congrArg (fun x : List Value => x[j]?) ht
  simp only [Nat.mul_one, List.getElem?_take, hjM, if_true, Array.getElem?_toList] at h1
  rw [Nat.zero_add, cell_of_row w g j _ _ (0, 0) hw, h1]
  subst hd
  simp [strs, hj', encN]
 ·rw [Nat.zero_add]
  exact frozen_of_row w g j cur _ hw
theorem owns_below {w w1 : World} {B size n : Nat} {e : TypeId} {v : Value} {xs : List Value} (h : w.ownsRow B e size v n xs) (hb : Below w.heap.size w w1) : w1.ownsRow B e size v n xs := by
 obtain ⟨h1, h2 | ⟨g, cap, cur, hv, hB, hw, hrest⟩⟩ := h
 ·exact ⟨h1, .inl h2⟩
 ·exact ⟨h1, .inr ⟨g, cap, cur, hv, hB, by rw [hb.block g (Array.getElem?_eq_some_iff.1 hw).1]; exact hw, hrest⟩⟩
theorem holds_str {w : World} {g : Nat} (d : List NameT) (h : Holds encN w g 0 d.toArray) : Holds Go.Proofs.encStr w g 0 (d.map (·.1)).toArray := by
 intro j hj
 have hj' : j < d.length := by simpa using hj
 obtain ⟨h1, h2⟩ := h j (by simpa using hj')
 refine ⟨?_, h2⟩
 rw [h1]
 simp [hj', encN, bs]
theorem texts_put {w : World} {g q : Nat} {S C : List (List UInt8)} (hC : C.length ≤ S.length) (hH : Holds Go.Proofs.encStr w g 0 S.toArray) :
  HasTexts (putRow Go.Proofs.encStr (Sort.ahead w q) g 0 (C ++ List.replicate (S.length - C.length) []).toArray) (some ⟨g, 0, none⟩) C := by
 have h2 := holds_putRow Go.Proofs.encStr (Sort.ahead w q) g 0 S.toArray (C ++ List.replicate (S.length - C.length) []).toArray hH (by simp; omega)
 intro j hj
 have hjs : j < (C ++ List.replicate (S.length - C.length) ([] : List UInt8)).toArray.size := by simp; omega
 have := (h2 j hjs).1
 refine ⟨g, rfl, ?_⟩
 rw [Nat.zero_add] at this
 rw [this]
 have e : (C ++ List.replicate (S.length - C.length) ([] : List UInt8)).toArray[j]! = C.getD j [] := by
  rw [getElem!_pos _ j hjs]
  simp [hj]
 rw [e]
 rfl
def NewV (B : Nat) (v : Value) : Prop := ∀ g, v.ownBlock = some g → B ≤ g
set_option maxRecDepth 100000 in
set_option maxHeartbeats 2000000 in
theorem nsorted_new (w : World) (v : Value) (L : List (List UInt8)) (h : Texts w v L) (hL : L.length ≤ 100000) (hs : ∀ x ∈ L, x.length ≤ 1000000) (hT : Lib.Utf8Tabs 1 2 w) :
  Calls Tryz.prog 203 #[v] w fun e w' => ∃ v', e = .returned v' ∧ Texts w' v' (sortedN L) ∧ NewV w.heap.size v' ∧ Below w.heap.size w w' := by
 obtain ⟨p, cap, rfl, ht⟩ := h
 have HX := Lib.hid ht
 have HS := Lib.hid hs
 have HT := Lib.hid hT
 clear ht hs hT
 obtain ⟨R, hR⟩ : ∃ R, sortedN L = R := ⟨_, rfl⟩
 rw [hR]
 have HR := Lib.hid hR
 clear hR
 obtain ⟨i0, hi, hz0, hz1, hz2⟩ := info_parts info_str
 go_enter Tryz.func203, Tryz.ntmps203
 go_wp2_with fail
 go_loopw [3, 8] (fun out i wr => ∃ k : Nat, k ≤ L.length ∧ i = .int .i64 k ∧ wr.ownsRow w.heap.size 9 1 out ((L.take k).filter nameL).length (strs ((L.take k).filter nameL)) ∧ Below w.heap.size w wr) (fun _ i _ => L.length - (RowKit.intOf i).toNat)
 case atStart => exact ⟨0, Nat.zero_le _, rfl, World.ownsRow_nil _ _ _ _, Below.refl _ _⟩
 case round =>
  obtain ⟨k, hk, rfl, hown, hbw⟩ := hrel
  have hflen : ((L.take k).filter nameL).length ≤ 100000 := by
   have h1 := List.length_filter_le nameL (L.take k)
   rw [List.length_take] at h1
   omega
  by_cases hlt : k < L.length
  ·obtain ⟨gl, rfl, hc⟩ := HX.out k hlt
   have hc' := cell_later hbw hc
   have hnx := filter_next L k hlt
   have hxl : (L.getD k []).length ≤ 1000000 := HS.out _ (by
    have : L.getD k [] = L[k] := by simp [hlt]
    rw [this]
    exact List.getElem_mem hlt)
   have HTr := Lib.hid (Utf8Tabs_below HT.out hbw)
   have HI := Lib.hid (nis_any (L.getD k []) hxl)
   obtain ⟨x, hx⟩ : ∃ x, L.getD k [] = x := ⟨_, rfl⟩
   rw [hx] at hc' hnx HI
   obtain ⟨M, hM⟩ : ∃ M, (L.take k).filter nameL = M := ⟨_, rfl⟩
   rw [hM] at hown hnx hflen
   clear hc hx hxl hM
   cases hn : nameL x with
   | false =>
    rw [hn] at hnx HI
    simp only [Bool.false_eq_true, if_false, List.append_nil] at hnx
    have HN := Lib.hid hnx
    clear hnx hn
    go_wp2_with fail
    refine (HI.out _ HTr.out).mono ?_
    rintro e w1 ⟨rfl, hb1⟩
    go_wp2_with fail
    go_roundw
    case rel => exact ⟨k + 1, by omega, by go_num, by rw [HN.out]; exact owns_below hown hb1, below_next hbw hb1⟩
    case measure => simp [RowKit.intOf]; omega
   | true =>
    rw [hn] at hnx HI
    simp only [if_true] at hnx
    have HN := Lib.hid hnx
    clear hnx hn
    go_wp2_with fail
    refine (HI.out _ HTr.out).mono ?_
    rintro e w1 ⟨rfl, hb1⟩
    have hown1 := owns_below hown hb1
    have hbw1 := below_next hbw hb1
    clear hown hb1 hbw
    go_wp2_with (at_builtin; refine wpList_append_own _ rfl _ _ 22 rfl w.heap.size 9 i0 (.string ByteArray.empty) 1 16 Tryz.underlying22 hi hz0 hz1 hz2 rfl (by decide) _ _ _ rfl (hown1.alloc _) ⟨w1.heap.size, 0, none⟩ 1 1 [.string (bs x)] rfl rfl (news_txt _ _ _) (ones_txt _) (by unfold maxLen; omega) (by omega) (by have := hbw1.size; simp; omega) ?_)
    intro v' w4 hown4 hgrow hnil
    have hb4 : Below w.heap.size w w4 := (hbw1.alloc hbw1.size _).grown hgrow (by have := hbw1.size; simp; omega) (fun k hk => (hown1.lt k hk).1)
    have HO : RowKit.Hid (w4.ownsRow w.heap.size 9 1 v' (M ++ [x]).length (strs (M ++ [x]))) := Lib.hid (by
     rw [← strs_snoc, List.length_append]
     exact hown4)
    clear hown4 hgrow hnil hown1 hbw1
    go_wp2_with fail
    go_roundw
    case rel => exact ⟨k + 1, by omega, by go_num, by rw [HN.out]; exact HO.out, hb4⟩
    case measure => simp [RowKit.intOf]; omega
  ·have hke : k = L.length := by omega
   subst hke
   rw [List.take_length] at hown hflen
   have hmem : ∀ y, y ∈ L.filter nameL ↔ y ∈ L ∧ nameL y = true := fun y => List.mem_filter
   obtain ⟨M, hM⟩ : ∃ M, L.filter nameL = M := ⟨_, rfl⟩
   rw [hM] at hown hflen hmem
   clear hM
   obtain ⟨d, hd⟩ := lift_names M (fun x hx => ((hmem x).1 hx).2)
   have hspec := sort_spec d L (by rw [hd]; exact hmem)
   by_cases hM0 : M = []
   ·subst hM0
    have hd0 : d = [] := by
     cases d with
     | nil => rfl
     | cons a t => exact absurd hd (by simp)
    subst hd0
    have hnw : NewV w.heap.size _ := fun g e => (hown.lt g e).1
    obtain ⟨q, cq, hv, -⟩ := own_texts hown
    subst hv
    have hsn : R = [] := by rw [← HR.out, ← hspec]; simp [compact, compactUpTo]
    have H1 := Lib.hid (AnyF.slices_SortFunc_none Tryz.laysSort0 q cq (.func (.func 231) #[] #[]))
    have H2 := Lib.hid (Any.slices_Compact_string_empty Tryz.laysCompact q cq)
    clear hspec hown hmem
    go_wp2_with fail
    refine (H1.out _).mono ?_
    rintro e w1 ⟨rfl, rfl⟩
    go_wp2_with fail
    refine (H2.out _).mono ?_
    rintro e w1 ⟨rfl, rfl⟩
    go_wp2_with fail
    go_ret
    rw [hsn]
    exact ⟨_, rfl, ⟨q, cq, rfl, fun j hj => absurd hj (Nat.not_lt_zero j)⟩, hnw, hbw⟩
   ·obtain ⟨-, ⟨-, hn⟩ | ⟨g, cq, cur, rfl, hgB, hcur, hcq, -, hcsz, htk⟩⟩ := id hown
    ·exact absurd (List.eq_nil_of_length_eq_zero hn) hM0
    ·have hH := holds_own hd hcur htk hcq
     have hg := (Array.getElem?_eq_some_iff.1 hcur).1
     have hsz : d.toArray.size = M.length := by rw [← hd]; simp
     have H1 := Lib.hid (sort_names g cq d.toArray wr hH hg (by rw [hsz]; omega))
     rw [hsz] at H1
     have HS2 := Lib.hid hspec
     clear hown hcur htk hcsz hspec
     go_wp2_with fail
     refine H1.out.mono ?_
     rintro e w1 ⟨rfl, nn, os, hw1⟩
     have hH1 : Holds encN w1 g 0 (d.mergeSort leN).toArray := by
      rw [hw1]
      exact holds_sortWorld encN wr g 0 nn d.toArray _ os hg hH (by simp [List.length_mergeSort])
     have hB1 : Below w.heap.size w w1 := by
      rw [hw1]
      exact below_sortWorld hbw hgB
     have hH2 := holds_str (d.mergeSort leN) hH1
     have hSl : ((d.mergeSort leN).map (·.1)).length = M.length := by
      rw [List.length_map, List.length_mergeSort, ← hd, List.length_map]
     have hcl : (compact ((d.mergeSort leN).map (·.1))).length ≤ ((d.mergeSort leN).map (·.1)).length := compact_length_le _
     have H2 := Lib.hid (compact_names g cq _ w1 hH2 (by omega) (by omega))
     rw [hSl] at H2
     clear hw1 hH1
     go_wp2_with fail
     refine H2.out.mono ?_
     rintro e w2 ⟨rfl, q2, hw2⟩
     have hB2 : Below w.heap.size w w2 := by
      rw [hw2]
      exact below_putRow hB1 hgB
     have hT2 := texts_put (q := q2) hcl hH2
     rw [hSl, ← hw2] at hT2
     rw [HS2.out, HR.out] at hT2 ⊢
     clear hw2 hH2 hB1 hbw H2 H1
     go_wp2_with fail
     go_ret
     exact ⟨_, rfl, ⟨_, cq, rfl, hT2⟩, (fun g' e => by simp [Value.ownBlock] at e; omega), hB2⟩
end Go.Proofs.YtmgchjddpmmglaaGreatDoor

namespace Go.Proofs.YtmgchjddpmmglaaGreatDoor
open Go.RowKit Go.Lib
theorem getD_mem (L : List (List UInt8)) (k : Nat) (h : k < L.length) : L.getD k [] ∈ L := by
 have : L.getD k [] = L[k] := by simp [h]
 rw [this]
 exact List.getElem_mem h
theorem step_append_own {P : Program} {w : World} {ops : Array Oper} {o : Oper} {a : Act} {K : Act → World → Prop} {Q : Exit → Act → World → Prop} {E : Prop} (hgd : o.guard = none) (s x : Operand) (t : TypeId)
  (ho : o.op = .call { callee := .builtin .append, args := #[s, x], argTypes := #[t, t] })
  (base : Nat) (e : TypeId) (i : TypeInfo) (z : Value) (size bytes : Nat) (ht : P.underlying t = some (.slice e)) (hi : P.info? e = some i) (hz : i.zero = some z)
  (hsize : i.size = size) (hby : i.bytes = bytes) (hzs : z.cells.size = size) (hsz : 0 < size)
  (v : Value) (n : Nat) (xs : List Value) (hs : a.eval s = v) (hown : w.ownsRow base e size v n xs)
  (ad : Addr) (m c : Nat) (news : List Value) (hx : a.eval x = .slice (some ad) m c) (hl : news.length = m * size) (hnews : ∀ j u, news[j]? = some u → w.cell? (ad.add j) = some u) (h1 : ∀ u ∈ news, u.oneCell' = true)
  (h63 : n + m ≤ maxLen) (hbytes : (n + m) * bytes ≤ 140737488355328) (hbase : base ≤ w.heap.size)
  (h : ∀ v' w', w'.ownsRow base e size v' (n + m) (xs ++ news) → w.grownBy w' v.ownBlock → (v' = .slice none 0 0 ↔ v = .slice none 0 0 ∧ m = 0) → K (a.put o.dst v') w') :
  if Region.wanted o (yielded ops a.tmps) = true then Oper.wp P o a w K Q else E := by
 have hw : Region.wanted o (yielded ops a.tmps) = true := by simp [Region.wanted, hgd]
 rw [if_pos hw]
 exact wp_append_own w s x t ho base e i z size bytes ht hi hz hsize hby hzs hsz v n xs hs hown ad m c news hx hl hnews h1 h63 hbytes hbase h
theorem news_str' (w : World) (x : ByteArray) (e : TypeId) : ∀ (j : Nat) (u : Value), ([.string x] : List Value)[j]? = some u → (w.alloc (.cells #[.string x] e)).cell? ((⟨w.heap.size, 0, none⟩ : Addr).add j) = some u := by
 intro j u hj
 match j, hj with
 | 0, hj => simp at hj; subst hj; simp [Addr.add]
theorem ones_one (x : ByteArray) : ∀ u ∈ ([.string x] : List Value), u.oneCell' = true := by
 intro u hu
 simp at hu
 subst hu
 rfl
theorem ones_strs (S : List (List UInt8)) : ∀ u ∈ strs S, u.oneCell' = true := by
 intro u hu
 obtain ⟨x, -, rfl⟩ := List.mem_map.1 hu
 rfl
end Go.Proofs.YtmgchjddpmmglaaGreatDoor

namespace Go.Proofs.YtmgchjddpmmglaaGreatDoor
open Go.RowKit Go.Lib
set_option maxRecDepth 100000 in
set_option maxHeartbeats 1000000 in
theorem index_any (w : World) (v : Value) (L : List (List UInt8)) (s : List UInt8) (hv : Texts w v L) (hL : L.length ≤ 1000000) :
  Calls Tryz.prog 162 #[v, .string (bs s)] w fun e w' => e = .returned (.int .i64 (idxI L s)) ∧ w = w' := by
 obtain ⟨p, c, rfl, hp⟩ := hv
 have HX := Lib.hid hp
 have HA := Lib.hid (idxI_at L s)
 have HZ := Lib.hid (idxI_none L s)
 obtain ⟨R, hR⟩ : ∃ R, idxI L s = R := ⟨_, rfl⟩
 rw [hR] at HA HZ ⊢
 clear hp hR
 go_enter Tryz.func162, Tryz.ntmps162
 go_wp2_with fail
 go_loopw [8] (fun i wr => ∃ k : Nat, k ≤ L.length ∧ i = .int .i64 k ∧ wr = w ∧ ∀ j, j < k → L.getD j [] ≠ s) (fun i _ => L.length - (RowKit.intOf i).toNat)
 case atStart => exact ⟨0, Nat.zero_le _, rfl, rfl, fun j hj => absurd hj (Nat.not_lt_zero j)⟩
 case round =>
  obtain ⟨k, hk, rfl, rfl, hn⟩ := hrel
  have HN := Lib.hid hn
  clear hn
  by_cases hlt : k < L.length
  ·obtain ⟨g, rfl, hc⟩ := HX.out k hlt
   by_cases he : L.getD k [] = s
   ·have H1 := Lib.hid (HA.out k hlt he HN.out)
    rw [he] at hc
    clear he
    go_wp2_with fail
    go_ret
    exact ⟨by rw [H1.out]; rfl, rfl⟩
   ·obtain ⟨x, hx⟩ : ∃ x, L.getD k [] = x := ⟨_, rfl⟩
    have he0 : L.getD k [] ≠ s := he
    have H1 : RowKit.Hid (∀ j, j < k + 1 → L.getD j [] ≠ s) := Lib.hid (by
     intro j hj
     by_cases hjk : j < k
     ·exact HN.out j hjk
     ·obtain rfl : j = k := by omega
      exact he0)
    rw [hx] at hc he
    have e1 : (s == x) = false := beq_eq_false_iff_ne.2 fun e => he e.symm
    clear he0 he hx
    go_wp2_with fail
    go_roundw
    case rel => exact ⟨k + 1, by omega, by go_num, trivial, H1.out⟩
    case measure => simp [RowKit.intOf]; omega
  ·have hke : k = L.length := by omega
   subst hke
   have H1 := Lib.hid (HZ.out HN.out)
   go_wp2_with fail
   go_ret
   exact ⟨by rw [H1.out]; rfl, rfl⟩
theorem good_len (L : List (List UInt8)) (k : Nat) (hs : ∀ x ∈ L, x.length ≤ 1000000) : (L.getD k []).length ≤ 1000000 := by
 by_cases h : k < L.length
 ·exact hs _ (getD_mem L k h)
 ·rw [List.getD_eq_getElem?_getD, List.getElem?_eq_none (by omega)]
  simp
set_option maxRecDepth 100000 in
set_option maxHeartbeats 2000000 in
theorem tis_any (w : World) (v : Value) (L : List (List UInt8)) (hv : Texts w v L) (hL : L.length ≤ 1000000) (hs : ∀ x ∈ L, x.length ≤ 1000000) (hT : Lib.Utf8Tabs 1 2 w) :
  Calls Tryz.prog 161 #[v] w fun e w' => e = .returned (.bool (isT L)) ∧ Below w.heap.size w w' := by
 obtain ⟨p, c, rfl, hp⟩ := hv
 have HX := Lib.hid hp
 have HS := Lib.hid hs
 have HT := Lib.hid hT
 have HA := Lib.hid (isT_no L)
 have HZ := Lib.hid (isT_yes L)
 obtain ⟨R, hR⟩ : ∃ R, isT L = R := ⟨_, rfl⟩
 rw [hR] at HA HZ ⊢
 clear hp hs hT hR
 go_enter Tryz.func161, Tryz.ntmps161
 go_wp2_with fail
 go_loopw [7] (fun i wr => ∃ k : Nat, k ≤ L.length ∧ i = .int .i64 k ∧ (∀ j, j < k → goodT L j = true) ∧ Below w.heap.size w wr) (fun i _ => L.length - (RowKit.intOf i).toNat)
 case atStart => exact ⟨0, Nat.zero_le _, rfl, fun j hj => absurd hj (Nat.not_lt_zero j), Below.refl _ _⟩
 case round =>
  obtain ⟨k, hk, rfl, hn, hbw⟩ := hrel
  have HN := Lib.hid hn
  clear hn
  by_cases hlt : k < L.length
  ·have HTr := Lib.hid (Utf8Tabs_below HT.out hbw)
   have hstep : goodT L k = true → ∀ j, j < k + 1 → goodT L j = true := fun hg j hj => by
    by_cases hjk : j < k
    ·exact HN.out j hjk
    ·obtain rfl : j = k := by omega
     exact hg
   have HStep := Lib.hid hstep
   have HNo := Lib.hid (HA.out k hlt)
   clear hstep
   cases k with
   | zero =>
    obtain ⟨g, rfl, hc⟩ := HX.out 0 hlt
    have hc' := cell_later hbw hc
    have HI := Lib.hid (nis_any (L.getD 0 []) (good_len L 0 HS.out))
    have hg0 := good_first L
    obtain ⟨x, hx⟩ : ∃ x, L.getD 0 [] = x := ⟨_, rfl⟩
    rw [hx] at hc' HI hg0
    clear hc hx
    cases hnx : nameL x with
    | false =>
     rw [hnx] at HI hg0
     have H1 := Lib.hid (HNo.out hg0)
     clear hnx hg0
     go_wp2_with fail
     refine (HI.out _ HTr.out).mono ?_
     rintro e w1 ⟨rfl, hb1⟩
     go_wp2_with fail
     go_ret
     exact ⟨by rw [H1.out]; rfl, below_next hbw hb1⟩
    | true =>
     rw [hnx] at HI hg0
     have H1 := Lib.hid (HStep.out hg0)
     clear hnx hg0
     go_wp2_with fail
     refine (HI.out _ HTr.out).mono ?_
     rintro e w1 ⟨rfl, hb1⟩
     go_wp2_with fail
     go_roundw
     case rel => exact ⟨1, by omega, rfl, H1.out, below_next hbw hb1⟩
     case measure => simp [RowKit.intOf]; omega
   | succ q =>
    obtain ⟨g, rfl, hc⟩ := HX.out (q + 1) hlt
    obtain ⟨g', hg', hd⟩ := HX.out q (by omega)
    obtain rfl : g = g' := by simpa using hg'
    have hc' := cell_later hbw hc
    have HI := Lib.hid (nis_any (L.getD (q + 1) []) (good_len L (q + 1) HS.out))
    have HL := Lib.hid (nless_any (L.getD q []) (L.getD (q + 1) []) (good_len L q HS.out) (good_len L (q + 1) HS.out))
    have hg0 := good_next L q
    have hlt0 : ltN (L.getD q []) (L.getD (q + 1) []) = lexLess (runesU (L.getD q [])) (runesU (L.getD (q + 1) [])) := rfl
    obtain ⟨x, hx⟩ : ∃ x, L.getD (q + 1) [] = x := ⟨_, rfl⟩
    obtain ⟨y, hy⟩ : ∃ y, L.getD q [] = y := ⟨_, rfl⟩
    rw [hx] at hc' HI HL hg0 hlt0
    rw [hy] at hd HL hg0 hlt0
    rw [← hlt0] at HL
    have hd' := cell_later hbw hd
    have c3 : (0 : Int) < (q : Int) + 1 := by omega
    clear hc hx hy hlt0 hg'
    cases hnx : nameL x with
    | false =>
     rw [hnx] at HI hg0
     have H1 := Lib.hid (HNo.out hg0)
     clear hnx hg0
     go_wp2_with fail
     refine (HI.out _ HTr.out).mono ?_
     rintro e w1 ⟨rfl, hb1⟩
     go_wp2_with fail
     go_ret
     exact ⟨by rw [H1.out]; rfl, below_next hbw hb1⟩
    | true =>
     rw [hnx, Bool.true_and] at hg0
     rw [hnx] at HI
     cases hl : ltN y x with
     | false =>
      rw [hl] at HL hg0
      have H1 := Lib.hid (HNo.out hg0)
      clear hnx hg0 hl
      go_wp2_with fail
      refine (HI.out _ HTr.out).mono ?_
      rintro e w1 ⟨rfl, hb1⟩
      have hb2 := below_next hbw hb1
      have hd2 := cell_later hb2 hd
      clear hd' hc' hd hb1
      go_wp2_with fail
      refine (HL.out _).mono ?_
      rintro e w2 ⟨rfl, hb3⟩
      go_wp2_with fail
      go_ret
      exact ⟨by rw [H1.out]; rfl, below_next hb2 hb3⟩
     | true =>
      rw [hl] at HL hg0
      have H1 := Lib.hid (HStep.out hg0)
      clear hnx hg0 hl
      go_wp2_with fail
      refine (HI.out _ HTr.out).mono ?_
      rintro e w1 ⟨rfl, hb1⟩
      have hb2 := below_next hbw hb1
      have hd2 := cell_later hb2 hd
      clear hd' hc' hd hb1
      go_wp2_with fail
      refine (HL.out _).mono ?_
      rintro e w2 ⟨rfl, hb3⟩
      go_wp2_with fail
      go_roundw
      case rel => exact ⟨q + 1 + 1, by omega, by go_num, H1.out, below_next hb2 hb3⟩
      case measure => simp [RowKit.intOf]; omega
  ·have hke : k = L.length := by omega
   subst hke
   have H1 := Lib.hid (HZ.out HN.out)
   go_wp2_with fail
   go_ret
   exact ⟨by rw [H1.out]; rfl, hbw⟩
end Go.Proofs.YtmgchjddpmmglaaGreatDoor

namespace Go.Proofs.YtmgchjddpmmglaaGreatDoor
open Go.RowKit Go.Lib
set_option maxRecDepth 100000 in
set_option maxHeartbeats 1000000 in
theorem make_new (w : World) (v : Value) (L : List (List UInt8)) (h : Texts w v L) (hL : L.length ≤ 100000) (hs : ∀ x ∈ L, x.length ≤ 1000000) (hT : Lib.Utf8Tabs 1 2 w) :
  Calls Tryz.prog 160 #[v] w fun e w' => ∃ v', e = .returned v' ∧ Texts w' v' (sortedN L) ∧ NewV w.heap.size v' ∧ Below w.heap.size w w' := by
 have H1 := Lib.hid (nsorted_new w v L h hL hs hT)
 clear h hL hs hT
 obtain ⟨R, hR⟩ : ∃ R, sortedN L = R := ⟨_, rfl⟩
 rw [hR] at H1 ⊢
 clear hR
 go_enter Tryz.func160, Tryz.ntmps160
 go_wp2_with fail
 refine H1.out.mono ?_
 rintro e w1 ⟨v1, rfl, ht, hn, hb⟩
 go_wp2_with fail
 go_ret
 exact ⟨_, rfl, ht, hn, hb⟩
set_option maxRecDepth 100000 in
set_option maxHeartbeats 1000000 in
theorem find_any (w : World) (v : Value) (L : List (List UInt8)) (s : List UInt8) (hv : Texts w v L) (hL : L.length ≤ 1000000) (hs : ∀ x ∈ L, x.length ≤ 1000000) (hT : Lib.Utf8Tabs 1 2 w) :
  Calls Tryz.prog 119 #[v, .string (bs s)] w fun e w' => e = .returned (.tuple #[.int .i64 ((findT L s).1 : Nat), .bool (findT L s).2]) ∧ Below w.heap.size w w' := by
 have H1 := Lib.hid (tis_any w v L hv hL hs hT)
 have H2 := Lib.hid (fun w' (h : Texts w' v L) => index_any w' v L s h hL)
 have HV := Lib.hid hv
 obtain ⟨r1, r2⟩ := idxI_range L s
 cases ht : isT L with
 | false =>
  rw [ht] at H1
  have HF := Lib.hid (find_not L s ht)
  generalize findT L s = F at *
  clear hv hL hs hT ht r1 r2
  go_enter Tryz.func119, Tryz.ntmps119
  go_wp2_with fail
  refine H1.out.mono ?_
  rintro e w1 ⟨rfl, hb⟩
  go_wp2_with fail
  go_ret2
  exact ⟨by rw [HF.out]; rfl, hb⟩
 | true =>
  rw [ht] at H1
  have hF := find_idx L s ht
  generalize findT L s = F at *
  generalize idxI L s = I at *
  subst hF
  clear hv hs hT ht
  by_cases h0 : 0 ≤ I
  ·have e1 : decide (0 ≤ I) = true := decide_eq_true h0
   have e2 : (max I 0 : Int) = I := by omega
   have e3 : ((max I 0).toNat : Int) = I := by omega
   simp only [e3, e1]
   clear e1 e3
   go_enter Tryz.func119, Tryz.ntmps119
   go_wp2_with fail
   refine H1.out.mono ?_
   rintro e w1 ⟨rfl, hb⟩
   have HV1 := Lib.hid (HV.out.below hb)
   go_wp2_with fail
   refine (H2.out _ HV1.out).mono ?_
   rintro e w2 ⟨rfl, rfl⟩
   go_wp2_with fail
   go_ret2
   exact ⟨rfl, hb⟩
  ·have e1 : decide (0 ≤ I) = false := decide_eq_false h0
   have e2 : (max I 0 : Int) = 0 := by omega
   have e3 : ((max I 0).toNat : Int) = 0 := by omega
   simp only [e3, e1]
   have E1 := Lib.hid e1
   clear e1 e3
   go_enter Tryz.func119, Tryz.ntmps119
   go_wp2_with fail
   refine H1.out.mono ?_
   rintro e w1 ⟨rfl, hb⟩
   have HV1 := Lib.hid (HV.out.below hb)
   go_wp2_with fail
   refine (H2.out _ HV1.out).mono ?_
   rintro e w2 ⟨rfl, rfl⟩
   go_wp2_with fail
   go_ret2
   refine ⟨?_, hb⟩
   show Ending.returned (.tuple #[.int .i64 0, .bool (decide (0 ≤ I))]) = _
   rw [E1.out]
end Go.Proofs.YtmgchjddpmmglaaGreatDoor

namespace Go.Proofs.YtmgchjddpmmglaaGreatDoor
open Go.RowKit Go.Lib Go.Maps Go.WideMaps
theorem key_inv {key : Value} {kl : Lit} (h : keyOf Tryz.prog 9 key = some kl) : ∃ l, key = .string (bs l) ∧ kl = .string l := by
 obtain ⟨s, rfl, rfl, _⟩ := string_of_keyOf Tryz.underlying9 h
 exact ⟨s.data.toList, by simp [bs], rfl⟩
theorem bs_inj' {a b : List UInt8} (h : bs a = bs b) : a = b := by
 simpa [bs] using h
section
variable {w : World} {ops : Array Oper} {rest : List Oper} {o : Oper} {a : Act} {Q : Exit → Act → World → Prop}
theorem wpList_next_str {β : Type} (hg : o.guard = none) (it : Operand) (hop : o.op = Op.next it false) (R : Value → Option (DataW Unit × List MemPlace)) (mkV : β → Value) (invV : ∀ v y, R v = some y → ∃ c, v = mkV c) (b r n : Nat) (D : DataW Unit) (left : Lit → Bool) (cnt : Nat)
  (hit : a.eval it = .pointer (some ⟨r, 0, none⟩)) (h : w.ranges Tryz.prog 9 R b r n D left cnt)
  (hDone : cnt = 0 → (∀ kl, left kl = false) → wpList Tryz.prog ops Q rest (a.put o.dst (.tuple #[.bool false])) w)
  (hMore : ∀ (l : List UInt8) (c : β) (w' : World) (cnt' : Nat), left (.string l) = true → w'.ranges Tryz.prog 9 R b r n D (fun z => left z && !z.sameKey (.string l)) cnt' → cnt' < cnt →
   w.grownBy w' (some r) → w'.heap.size = w.heap.size → (Instr.entry (.pointer (some ⟨r, 0, none⟩))).run Tryz.prog w' = .ok (.tuple #[.string (bs l), mkV c]) w' → wpList Tryz.prog ops Q rest (a.put o.dst (.tuple #[.bool true, .string (bs l), mkV c])) w') :
  wpList Tryz.prog ops Q (o :: rest) a w :=
 wpList_next_ranges w hg it hop 9 keyStr R (fun l => .string (bs l)) mkV (fun key kl hk => by obtain ⟨l, h1, _⟩ := key_inv hk; exact ⟨l, h1⟩) invV b r n D left cnt hit h hDone
  (fun l c kl y w' cnt' hkey hlk _ _ hrg hlt hgr hsz hen => by
   obtain ⟨l', e1, rfl⟩ := key_inv hkey
   injection e1 with e1
   obtain rfl := bs_inj' e1
   exact hMore l c w' cnt' hlk hrg hlt hgr hsz hen)
end
theorem same_str (a b : List UInt8) : (Lit.string a).sameKey (.string b) = decide (a = b) := by
 by_cases h : a = b
 ·subst h; rw [WideAt.sameKey_self (show WideAt.IsKeyLit (.string a) from trivial), decide_eq_true rfl]
 ·rw [Maps.sameKey_ne (by simpa using h), decide_eq_false h]
def LeftK (ks done : List (List UInt8)) (left : Lit → Bool) : Prop := ∀ l, left (.string l) = decide (l ∈ ks ∧ l ∉ done)
theorem left_start {D : DataW Unit} {ks : List (List UInt8)} (h : ∀ l, Maps.has D (.string l) = decide (l ∈ ks)) : LeftK ks [] (Maps.has D) := fun l => by rw [h]; simp
theorem left_next {ks done : List (List UInt8)} {left : Lit → Bool} (h : LeftK ks done left) (l : List UInt8) (hl : left (.string l) = true) : LeftK ks (done ++ [l]) (fun z => left z && !z.sameKey (.string l)) ∧ l ∈ ks ∧ l ∉ done := by
 rw [h l] at hl
 refine ⟨fun x => ?_, of_decide_eq_true hl⟩
 show (left (.string x) && !(Lit.string x).sameKey (.string l)) = _
 rw [h x, same_str]
 by_cases e : x = l
 ·subst e; simp
 ·simp [e]
theorem left_done {ks done : List (List UInt8)} {left : Lit → Bool} (h : LeftK ks done left) (h0 : ∀ kl, left kl = false) (hd : ∀ x ∈ done, x ∈ ks) (x : List UInt8) : x ∈ done ↔ x ∈ ks := by
 refine ⟨hd x, fun hx => ?_⟩
 have h1 := h x
 rw [h0] at h1
 have h2 := of_decide_eq_false h1.symm
 exact Decidable.byContradiction fun h3 => h2 ⟨hx, h3⟩
theorem nodup_snoc {done : List (List UInt8)} {l : List UInt8} (h : done.Nodup) (hl : l ∉ done) : (done ++ [l]).Nodup :=
 List.nodup_append.2 ⟨h, by simp, fun a ha b hb e => by rw [List.mem_singleton] at hb; subst hb; subst e; exact hl ha⟩
theorem texts_news (w : World) (l : List UInt8) (e : TypeId) : ∀ (j : Nat) (u : Value), ([.string (bs l)] : List Value)[j]? = some u → (w.alloc (.cells #[.string (bs l)] e)).cell? ((⟨w.heap.size, 0, none⟩ : Addr).add j) = some u := by
 intro j u hj
 match j, hj with
 | 0, hj => simp at hj; subst hj; simp [Addr.add]
theorem ones_s (l : List UInt8) : ∀ u ∈ ([.string (bs l)] : List Value), u.oneCell' = true := by
 intro u hu
 simp at hu
 subst hu
 rfl
set_option maxRecDepth 100000 in
set_option maxHeartbeats 2000000 in
theorem names_any {w : World} {b N : Nat} {ks : List (List UInt8)} (M : List (List UInt8)) (h : CntM w b ks N) (hd : ks.Nodup) (hm : ∀ x, x ∈ ks ↔ x ∈ M) (hN : ks.length ≤ 1000) (hs : ∀ x ∈ ks, x.length ≤ 1000000) (hT : Lib.Utf8Tabs 1 2 w) :
  Calls Tryz.prog 118 #[.map (some b)] w fun e w' => ∃ v', e = .returned v' ∧ Texts w' v' (sortedN M) ∧ NewV w.heap.size v' ∧ Below w.heap.size w w' := by
 obtain ⟨D, h1, h2, h3, -⟩ := h
 have HO := Lib.hid h1
 have HL := Lib.hid (left_start h3)
 have HD := Lib.hid hd
 have HM := Lib.hid hm
 have HS := Lib.hid hs
 have HT := Lib.hid hT
 obtain ⟨i0, hi, hz0, hz1, hz2⟩ := info_parts info_str
 clear h1 h2 h3 hd hm hs hT
 go_enter Tryz.func118, Tryz.ntmps118
 go_wp2_with (first | (at_range; refine wpList_range_own _ rfl _ 132 rfl 9 3 keyStr Tryz.underlying132 (plainElem Tryz.prog 3) b _ D rfl HO.out ?_; intro w0 hrg0 hg0 hs0) | go_in)
 go_frame
 obtain ⟨r, hr⟩ : ∃ r, w.heap.size = r := ⟨_, rfl⟩
 rw [hr] at hrg0 hs0
 try simp only [hr]
 go_loopw [3] (fun v wr => ∃ (left : Lit → Bool) (cnt : Nat) (done : List (List UInt8)), wr.ranges Tryz.prog 9 (plainElem Tryz.prog 3) b r (Maps.size D) D left cnt ∧ LeftK ks done left ∧ done.Nodup ∧ (∀ x ∈ done, x ∈ ks) ∧ wr.ownsRow (r + 1) 9 1 v done.length (strs done) ∧ Below r w wr ∧ r + 1 ≤ wr.heap.size) (fun _ wr => wr.rangeLeft b r)
 case atStart => exact ⟨_, _, [], hrg0, HL.out, List.nodup_nil, fun x hx => (by cases hx), World.ownsRow_nil _ _ _ _, (Below.refl r w).grown hg0 (by omega) (fun k hk => by cases hk), by omega⟩
 case round =>
  obtain ⟨left, cnt, done, hrg, hlf, hdn, hdk, hown, hbw, hsz⟩ := hrel
  have hcount := nodup_le done ks hdn hdk
  go_wp2_with (first | (at_next; refine wpList_next_str rfl _ rfl (plainElem Tryz.prog 3) (Value.int .i64) (fun v y hv => by obtain ⟨c, rfl, _⟩ := plainElem_int_inv Tryz.underlying3 hv; exact ⟨c, rfl⟩) b r _ D left cnt rfl hrg ?_ ?_) | go_in)
  ·intro _ hl0
   have HE := Lib.hid (sortedN_same done M (fun y => (left_done hlf hl0 hdk y).trans (HM.out y)))
   have HX := Lib.hid (own_texts hown)
   have HK := Lib.hid hdk
   have HB := Lib.hid hbw
   clear hrg hlf hdn hdk hown hl0 hbw
   go_wp2_with fail
   refine (make_new wr _ done HX.out (by omega) (fun x hx => HS.out x (HK.out x hx)) (Utf8Tabs_below HT.out (by rw [hr]; exact HB.out))).mono ?_
   rintro e w4 ⟨v', rfl, ht, hn4, hb4⟩
   go_wp2_with fail
   go_ret
   exact ⟨v', rfl, by rw [← HE.out]; exact ht, (fun g e => Nat.le_trans (by omega) (hn4 g e)), (by rw [hr]; exact HB.out.trans (hb4.mono (by omega)))⟩
  ·intro l c w1 cnt1 hll hrg1 hlt hg1 hs1 hen
   obtain ⟨hlf1, hlk, hld⟩ := left_next hlf l hll
   have hdn1 := nodup_snoc hdn hld
   have hlen := nodup_le _ ks hdn1 (fun x hx => by rw [List.mem_append, List.mem_singleton] at hx; exact hx.elim (hdk x) (fun e => by rw [e]; exact hlk))
   rw [List.length_append, List.length_singleton] at hlen
   have hown1 := owns_at hown (fun q hq => hg1.block q (own_lt hown hq) (fun e => by have := (hown.lt q hq).1; injection e with e; omega))
   have hb1 : Below r w w1 := hbw.grown hg1 (by omega) (fun k hk => by injection hk with hk; omega)
   have hrlt := hrg1.lt
   have hsz1 : r + 1 ≤ w1.heap.size := by omega
   clear hg1 hown hbw hll hs1
   go_wp2_with (at_builtin; refine wpList_append_own _ rfl _ _ 22 rfl (r + 1) 9 i0 (.string ByteArray.empty) 1 16 Tryz.underlying22 hi hz0 hz1 hz2 rfl (by decide) _ done.length (strs done) rfl (hown1.alloc _) ⟨w1.heap.size, 0, none⟩ 1 1 [.string (bs l)] rfl rfl (texts_news _ _ _) (ones_s _) (by unfold maxLen; omega) (by omega) (by simp; omega) ?_)
   intro v4 w4 hown4 hgrow4 hnil4
   have hne : some r ≠ Value.ownBlock _ := fun e => by have := (hown1.lt r e.symm).1; omega
   have hrg4 := (hrg1.alloc _).kept hgrow4 (fun e => (map_ty hrg1.owns (owns_ty hown1 e.symm)) rfl) hne
   have hb4 : Below r w w4 := (hb1.alloc (by omega) _).grown hgrow4 (by simp; omega) (fun k hk => by have := (hown1.lt k hk).1; omega)
   have hsz4 : r + 1 ≤ w4.heap.size := Nat.le_trans (by simp; omega) hgrow4.size
   rw [strs_snoc] at hown4
   go_wp2_with fail
   go_roundw
   case rel => exact ⟨_, cnt1, done ++ [l], hrg4, hlf1, hdn1, (fun x hx => by rw [List.mem_append, List.mem_singleton] at hx; exact hx.elim (hdk x) (fun e => by rw [e]; exact hlk)), by rw [List.length_append]; exact hown4, hb4, hsz4⟩
   case measure => rw [hrg4.left_eq, hrg.left_eq]; omega
end Go.Proofs.YtmgchjddpmmglaaGreatDoor
