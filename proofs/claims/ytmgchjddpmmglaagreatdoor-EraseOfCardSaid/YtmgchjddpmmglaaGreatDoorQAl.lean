/-
  Layer 10 (pair): made, walked. Conditions: unicode/utf8's two tables hold what their initialisers lay; names of at most 1,000,000 bytes.
  Layer 10 (pair): the table of what a map has: names; a range over a map of texts. Conditions: unicode/utf8's two tables hold what their initialisers lay.
  Layer 10 (pair): what History's loop leaves in memory, the walk apart. No conditions.
-/
import Derived.Test.YtmgchjddpmmglaaGreatDoorQxPaQ
import Derived.Maps.StringElems
import Derived.StringKeys
namespace Go.Proofs.YtmgchjddpmmglaaGreatDoor
section
open Go.RowKit Go.Lib Go.Maps
theorem openF_nil : openF [] [] = fun _ => none := by
 funext l
 unfold openF
 exact if_neg (by simp)
theorem mk_new (w : World) : MkI ((((w.alloc (.map #[] 0)).alloc (.map #[] 0)).alloc (.map #[] 0)).alloc (.cells #[.slice none 0 0, .map (some w.heap.size), .map (some (w.heap.size + 1)), .map (some (w.heap.size + 2))] 134)) w.heap.size (w.heap.size + 3) [] 0 (.slice none 0 0) w.heap.size (w.heap.size + 1) (w.heap.size + 2) [] := by
 have s1 : (w.alloc (.map #[] 0)).heap.size = w.heap.size + 1 := by simp
 have s2 : ((w.alloc (.map #[] 0)).alloc (.map #[] 0)).heap.size = w.heap.size + 2 := by simp
 have s3 : (((w.alloc (.map #[] 0)).alloc (.map #[] 0)).alloc (.map #[] 0)).heap.size = w.heap.size + 3 := by simp
 have a1 := opn_new w
 have a2 := cnt_new (w.alloc (.map #[] 0))
 have a3 := cnt_new ((w.alloc (.map #[] 0)).alloc (.map #[] 0))
 have a4 := Blk.new (((w.alloc (.map #[] 0)).alloc (.map #[] 0)).alloc (.map #[] 0)) 134 [.slice none 0 0, .map (some w.heap.size), .map (some (w.heap.size + 1)), .map (some (w.heap.size + 2))]
 rw [s1] at a2
 rw [s2] at a3
 rw [s3] at a4
 refine ⟨a4, ⟨by omega, by omega, by omega, by omega⟩, ⟨by omega, by omega, by omega⟩, World.ownsRow_nil _ _ _ _, rfl, ?_, ⟨[], a2.at ?_, List.nodup_nil, fun x => by simp [namesD]⟩, ⟨[], a3.at ?_, List.nodup_nil, fun x => by simp [keysD]⟩, fun i h => absurd h (Nat.not_lt_zero i), fun i j _ h => absurd h (Nat.not_lt_zero j), fun i j _ h => absurd h (Nat.not_lt_zero j), fun i j _ h => absurd h (Nat.not_lt_zero j)⟩
 ·rw [openF_nil]
  refine a1.at ?_
  rw [heap_kept _ _ (by simp; omega), heap_kept _ _ (by simp; try omega), heap_kept _ _ (by simp)]
 ·rw [heap_kept _ _ (by simp; try omega), heap_kept _ _ (by simp)]
 ·rw [heap_kept _ _ (by simp)]
theorem made_step (L : List EventM) (k : Nat) (hk : k < L.length) (Lk : List DraftM) : madeP (L.drop k) Lk = if (putP Lk (L.getD k noEv)).2 = 0 then madeP (L.drop (k + 1)) (putP Lk (L.getD k noEv)).1 else ((putP Lk (L.getD k noEv)).1, (L.getD k noEv).2.2.2.2.2, (putP Lk (L.getD k noEv)).2) := by
 have e : L.drop k = L.getD k noEv :: L.drop (k + 1) := by rw [List.drop_eq_getElem_cons hk]; simp [hk]
 rw [e]
 rfl
set_option maxRecDepth 100000 in
set_option maxHeartbeats 4000000 in
theorem made10_any {w : World} (v : Value) (L : List EventM) (hv : EvsS w v L) (hL : L.length ≤ 1000) (hM : ∀ x ∈ L, x.2.1.length ≤ 1000000 ∧ x.2.2.1.length ≤ 1000000) (hT : Lib.Utf8Tabs 1 2 w) :
  Calls Tryz.prog 117 #[v] w fun e w' => ∃ gm lv bo bz bk E, e = .returned (.tuple #[.pointer (some ⟨gm, 0, none⟩), .int .i64 (madeP L []).2.1, .int .i64 (madeP L []).2.2]) ∧ MkI w' w.heap.size gm (madeP L []).1 L.length lv bo bz bk E ∧ Below w.heap.size w w' := by
 obtain ⟨p, c, rfl, hp⟩ := hv
 have HX := Lib.hid hp
 have HM := Lib.hid (fun k (hk : k < L.length) => hM _ (show L.getD k noEv ∈ L by rw [show L.getD k noEv = L[k] by simp [hk]]; exact List.getElem_mem hk))
 have HT := Lib.hid hT
 have HN := Lib.hid (mk_new w)
 have HB := Lib.hid ((((((Below.refl w.heap.size w).alloc (Nat.le_refl _) (.map #[] 0)).alloc (by simp) (.map #[] 0)).alloc (by simp; omega) (.map #[] 0))).alloc (by simp; omega) (.cells #[.slice none 0 0, .map (some w.heap.size), .map (some (w.heap.size + 1)), .map (some (w.heap.size + 2))] 134))
 clear hp hT hM
 obtain ⟨B, hBe⟩ : ∃ B, w.heap.size = B := ⟨_, rfl⟩
 have hmm := @run_makeMap Tryz.prog
 go_enter Tryz.func117, Tryz.ntmps117
 go_wp2_with fail
 rw [hBe] at HN HB
 try simp only [hBe]
 obtain ⟨gm, hgm⟩ : ∃ g, B + 3 = g := ⟨_, rfl⟩
 obtain ⟨bz, hbz⟩ : ∃ g, B + 1 = g := ⟨_, rfl⟩
 obtain ⟨bk, hbk⟩ : ∃ g, B + 2 = g := ⟨_, rfl⟩
 rw [hgm, hbz, hbk] at HN
 rw [hbz, hbk] at HB
 have hbk2 : bz + 1 = bk := by omega
 have hgm2 : bk + 1 = gm := by omega
 try simp only [hbz, hbk2, hgm2]
 clear hmm
 generalize (((w.alloc (.map #[] 0)).alloc (.map #[] 0)).alloc (.map #[] 0)).alloc (.cells #[.slice none 0 0, .map (some B), .map (some bz), .map (some bk)] 134) = W at *
 go_loopw [16] (fun i wr => ∃ (k : Nat) (lv : Value) (E : List EntM) (Lk : List DraftM), k ≤ L.length ∧ i = .int .i64 k ∧ MkI wr B gm Lk k lv B bz bk E ∧ GoodL Lk ∧ madeP L [] = madeP (L.drop k) Lk ∧ Below B w wr) (fun i _ => L.length - (RowKit.intOf i).toNat)
 case atStart => exact ⟨0, _, _, _, Nat.zero_le _, rfl, HN.out, good_nil, rfl, HB.out⟩
 case round =>
  obtain ⟨k, lv, E, Lk, hk, rfl, hmi, hG, hP, hbw⟩ := hrel
  have hbz' := hbw.size
  by_cases hk1 : k < L.length
  ·obtain ⟨g, rfl, hcell⟩ := HX.out k hk1
   obtain ⟨q1, q2⟩ := HM.out k hk1
   rw [made_step L k hk1] at hP
   obtain ⟨t, ht⟩ : ∃ t, L.getD k noEv = t := ⟨_, rfl⟩
   rw [ht] at hP hcell q1 q2
   obtain ⟨x1, x2, x3, x4, x5, x6⟩ := t
   have hbw' : Below w.heap.size w wr := by rw [hBe]; exact hbw
   have a0 := cell_later hbw' (hcell 0 _ rfl)
   have a1 := cell_later hbw' (hcell 1 _ rfl)
   have a2 := cell_later hbw' (hcell 2 _ rfl)
   have a3 := cell_later hbw' (hcell 3 _ rfl)
   have a4 := cell_later hbw' (hcell 4 _ rfl)
   have a5 := cell_later hbw' (hcell 5 _ rfl)
   simp only [Nat.add_zero] at a0
   obtain ⟨⟨L', f⟩, hp⟩ : ∃ r, putP Lk (x1, x2, x3, x4, x5, x6) = r := ⟨_, rfl⟩
   have hG' := put_good hG (x1, x2, x3, x4, x5, x6)
   rw [hp] at hP hG'
   dsimp only at hP hG' q1 q2
   have hal := (Below.refl wr.heap.size wr).alloc (Nat.le_refl _) (.cells #[.int .i64 x1, .string (bs x2), .string (bs x3), .int .i64 x4, .int .i64 x5, .int .i64 x6] 123)
   have HPut := Lib.hid (put10_any (w := wr.alloc (.cells #[.int .i64 x1, .string (bs x2), .string (bs x3), .int .i64 x4, .int .i64 x5, .int .i64 x6] 123)) x1 x4 x5 x6 x2 x3 (hmi.below hal) hG (by omega) q1 q2 (by simp; omega) (Utf8Tabs_below HT.out (by rw [hBe]; exact hbw.trans (hal.mono (by omega)))))
   rw [hp] at HPut
   have hty : Ty (wr.alloc (.cells #[.int .i64 x1, .string (bs x2), .string (bs x3), .int .i64 x4, .int .i64 x5, .int .i64 x6] 123)) wr.heap.size 123 := (Blk.new wr _ [.int .i64 x1, .string (bs x2), .string (bs x3), .int .i64 x4, .int .i64 x5, .int .i64 x6]).ty
   have HBW := Lib.hid (hbw.trans (hal.mono (by omega)))
   clear ht hp hcell q1 q2 hbw' hG hmi hal
   go_wp2_with fail
   refine HPut.out.mono ?_
   rintro e w3 ⟨lv', E', rfl, hmi', hb3, hev⟩
   have hx5 : w3.cell? ⟨wr.heap.size, 5, none⟩ = some (.int .i64 x6) := ((Blk.new wr 123 [.int .i64 x1, .string (bs x2), .string (bs x3), .int .i64 x4, .int .i64 x5, .int .i64 x6]).at (hev _ hty)).cell 5 rfl
   have hb03 := HBW.out.trans hb3
   clear HPut hty hev HBW hb3 a0 a1 a2 a3 a4 a5
   dsimp only at hmi' ⊢
   by_cases hf : f = 0
   ·subst hf
    rw [if_pos rfl] at hP
    go_wp2_with fail
    go_roundw
    case rel => exact ⟨k + 1, lv', E', L', by omega, by go_num, hmi', hG', hP, hb03⟩
    case measure => simp [RowKit.intOf]; omega
   ·have hfb : (f != 0) = true := by simpa using hf
    rw [if_neg hf] at hP
    have HP := Lib.hid hP
    clear hP hf
    go_wp2_with fail
    obtain ⟨gy, hgy⟩ : ∃ g, wr.heap.size = g := ⟨_, rfl⟩
    rw [hgy] at hx5
    try simp only [hgy]
    have HS : RowKit.Hid (∀ w', Below w3.heap.size w3 w' → (w'.cell? ⟨gy, 5, none⟩ = some (.int .i64 x6) ∧ Below w3.heap.size w3 w')) := Lib.hid (fun w' hb => ⟨cell_later hb hx5, hb⟩)
    refine wp_region_keep (fun w' => w'.cell? ⟨gy, 5, none⟩ = some (.int .i64 x6) ∧ Below w3.heap.size w3 w') [] (by kernel_rfl) ?_
    have hB0 : Below (w3).heap.size (w3) (w3).drew := Below.drew (Below.refl _ _)
    have hS0 := HS.out _ hB0
    refine wfr 0 (v := ?_) rfl ?_ ?_
    rotate_left
    ·intro w' hw';go_simp;try with_reducible rfl
    try simp only [Act.put, sq]
    refine wfr 1 (v := ?_) rfl ?_ ?_
    rotate_left
    ·intro w' hw';go_simp;try with_reducible rfl
    try simp only [Act.put, sq]
    refine wtk 2 7 (v := ?_) rfl ?_ hS0 ?_
    rotate_left
    ·intro w' hw';(try dsimp only at hw');go_simp;try with_reducible rfl
    try simp only [Act.put, sq]
    refine wfr 3 (v := ?_) rfl ?_ ?_
    rotate_left
    ·intro w' hw';go_simp;try with_reducible rfl
    try simp only [Act.put, sq]
    refine won 4 rfl fun K hK => ?_
    go_simp
    refine hK.out _ _ (fun _ _ => hS0) ?_
    clear hK K
    try simp only [Act.put, sq]
    refine won 5 rfl fun K hK => ?_
    go_simp
    refine hK.out _ _ (fun _ _ => hS0) ?_
    clear hK K
    try simp only [Act.put, sq]
    refine won 6 rfl fun K hK => ?_
    go_simp
    refine hK.out _ _ (fun _ _ => hS0) ?_
    clear hK K
    try simp only [Act.put, sq]
    refine wpAnyM_done (by kernel_rfl) ?_ _
    try simp only [Act.put, sq]
    go_wp2_with fail
    go_ret3
    rw [HP.out]
    rw [hBe]
    exact ⟨gm, lv', B, bz, bk, E', rfl, (hmi'.mono (show k + 1 ≤ L.length by omega)).below hB0, hb03.trans (hB0.mono (by have := hb03.size; omega))⟩
  ·have hke : k = L.length := by omega
   subst hke
   rw [List.drop_length] at hP
   have HP := Lib.hid (show madeP L [] = (Lk, 0, 0) from hP)
   clear hP
   go_wp2_with fail
   go_ret3
   rw [HP.out]
   rw [hBe]
   exact ⟨gm, lv, B, bz, bk, E, rfl, hmi, hbw⟩
end
section
open Go.RowKit Go.Lib Go.Maps Go.WideMaps
theorem key_inv {key : Value} {kl : Lit} (h : keyOf Tryz.prog 9 key = some kl) : ∃ l, key = .string (bs l) ∧ kl = .string l := by
 obtain ⟨s, rfl, rfl, _⟩ := string_of_keyOf Tryz.underlying9 h
 exact ⟨s.data.toList, by simp [bs], rfl⟩
theorem bs_inj' {a b : List UInt8} (h : bs a = bs b) : a = b := by
 simpa [bs] using h
section
variable {w : World} {ops : Array Oper} {rest : List Oper} {o : Oper} {a : Act} {Q : Exit → Act → World → Prop}
theorem wpList_next_str {β : Type} (hg : o.guard = none) (it : Operand) (hop : o.op = Op.next it false) (R : Value → Option (DataW Unit × List MemPlace)) (mkV : β → Value) (invV : ∀ v y, R v = some y → ∃ c, v = mkV c) (b r n : Nat) (D : DataW Unit) (left : Lit → Bool) (cnt : Nat)
  (hit : a.eval it = .pointer (some ⟨r, 0, none⟩)) (h : w.ranges Tryz.prog 9 R b r n D left cnt)
  (hDone : cnt = 0 → (∀ kl, left kl = false) → wpList Tryz.prog ops Q rest (a.put o.dst (.tuple #[.bool false])) w)
  (hMore : ∀ (l : List UInt8) (c : β) (w' : World) (cnt' : Nat), left (.string l) = true → w'.ranges Tryz.prog 9 R b r n D (fun z => left z && !z.sameKey (.string l)) cnt' → cnt' < cnt →
   w.grownBy w' (some r) → w'.heap.size = w.heap.size → (Instr.entry (.pointer (some ⟨r, 0, none⟩))).run Tryz.prog w' = .ok (.tuple #[.string (bs l), mkV c]) w' → wpList Tryz.prog ops Q rest (a.put o.dst (.tuple #[.bool true, .string (bs l), mkV c])) w') :
  wpList Tryz.prog ops Q (o :: rest) a w :=
 wpList_next_ranges w hg it hop 9 keyStr R (fun l => .string (bs l)) mkV (fun key kl hk => by obtain ⟨l, h1, _⟩ := key_inv hk; exact ⟨l, h1⟩) invV b r n D left cnt hit h hDone
  (fun l c kl y w' cnt' hkey hlk _ _ hrg hlt hgr hsz hen => by
   obtain ⟨l', e1, rfl⟩ := key_inv hkey
   injection e1 with e1
   obtain rfl := bs_inj' e1
   exact hMore l c w' cnt' hlk hrg hlt hgr hsz hen)
end
theorem same_str (a b : List UInt8) : (Lit.string a).sameKey (.string b) = decide (a = b) := by
 by_cases h : a = b
 ·subst h; rw [WideAt.sameKey_self (show WideAt.IsKeyLit (.string a) from trivial), decide_eq_true rfl]
 ·rw [Maps.sameKey_ne (by simpa using h), decide_eq_false h]
def LeftK (ks done : List (List UInt8)) (left : Lit → Bool) : Prop := ∀ l, left (.string l) = decide (l ∈ ks ∧ l ∉ done)
theorem left_start {D : DataW Unit} {ks : List (List UInt8)} (h : ∀ l, Maps.has D (.string l) = decide (l ∈ ks)) : LeftK ks [] (Maps.has D) := fun l => by rw [h]; simp
theorem left_next {ks done : List (List UInt8)} {left : Lit → Bool} (h : LeftK ks done left) (l : List UInt8) (hl : left (.string l) = true) : LeftK ks (done ++ [l]) (fun z => left z && !z.sameKey (.string l)) ∧ l ∈ ks ∧ l ∉ done := by
 rw [h l] at hl
 refine ⟨fun x => ?_, of_decide_eq_true hl⟩
 show (left (.string x) && !(Lit.string x).sameKey (.string l)) = _
 rw [h x, same_str]
 by_cases e : x = l
 ·subst e; simp
 ·simp [e]
theorem left_done {ks done : List (List UInt8)} {left : Lit → Bool} (h : LeftK ks done left) (h0 : ∀ kl, left kl = false) (hd : ∀ x ∈ done, x ∈ ks) (x : List UInt8) : x ∈ done ↔ x ∈ ks := by
 refine ⟨hd x, fun hx => ?_⟩
 have h1 := h x
 rw [h0] at h1
 have h2 := of_decide_eq_false h1.symm
 exact Decidable.byContradiction fun h3 => h2 ⟨hx, h3⟩
theorem nodup_snoc {done : List (List UInt8)} {l : List UInt8} (h : done.Nodup) (hl : l ∉ done) : (done ++ [l]).Nodup :=
 List.nodup_append.2 ⟨h, by simp, fun a ha b hb e => by rw [List.mem_singleton] at hb; subst hb; subst e; exact hl ha⟩
theorem texts_news (w : World) (l : List UInt8) (e : TypeId) : ∀ (j : Nat) (u : Value), ([.string (bs l)] : List Value)[j]? = some u → (w.alloc (.cells #[.string (bs l)] e)).cell? ((⟨w.heap.size, 0, none⟩ : Addr).add j) = some u := by
 intro j u hj
 match j, hj with
 | 0, hj => simp at hj; subst hj; simp [Addr.add]
theorem ones_s (l : List UInt8) : ∀ u ∈ ([.string (bs l)] : List Value), u.oneCell' = true := by
 intro u hu
 simp at hu
 subst hu
 rfl
set_option maxRecDepth 100000 in
set_option maxHeartbeats 2000000 in
theorem names_any {w : World} {b N : Nat} {ks : List (List UInt8)} (M : List (List UInt8)) (h : CntM w b ks N) (hd : ks.Nodup) (hm : ∀ x, x ∈ ks ↔ x ∈ M) (hN : ks.length ≤ 1000) (hs : ∀ x ∈ ks, x.length ≤ 1000000) (hT : Lib.Utf8Tabs 1 2 w) :
  Calls Tryz.prog 118 #[.map (some b)] w fun e w' => ∃ v', e = .returned v' ∧ Texts w' v' (sortedN M) ∧ NewV w.heap.size v' ∧ Below w.heap.size w w' := by
 obtain ⟨D, h1, h2, h3, -⟩ := h
 have HO := Lib.hid h1
 have HL := Lib.hid (left_start h3)
 have HD := Lib.hid hd
 have HM := Lib.hid hm
 have HS := Lib.hid hs
 have HT := Lib.hid hT
 obtain ⟨i0, hi, hz0, hz1, hz2⟩ := info_parts info_str
 clear h1 h2 h3 hd hm hs hT
 go_enter Tryz.func118, Tryz.ntmps118
 go_wp2_with (first | (at_range; refine wpList_range_own _ rfl _ 132 rfl 9 3 keyStr Tryz.underlying132 (plainElem Tryz.prog 3) b _ D rfl HO.out ?_; intro w0 hrg0 hg0 hs0) | go_in)
 go_frame
 obtain ⟨r, hr⟩ : ∃ r, w.heap.size = r := ⟨_, rfl⟩
 rw [hr] at hrg0 hs0
 try simp only [hr]
 go_loopw [3] (fun v wr => ∃ (left : Lit → Bool) (cnt : Nat) (done : List (List UInt8)), wr.ranges Tryz.prog 9 (plainElem Tryz.prog 3) b r (Maps.size D) D left cnt ∧ LeftK ks done left ∧ done.Nodup ∧ (∀ x ∈ done, x ∈ ks) ∧ wr.ownsRow (r + 1) 9 1 v done.length (strs done) ∧ Below r w wr ∧ r + 1 ≤ wr.heap.size) (fun _ wr => wr.rangeLeft b r)
 case atStart => exact ⟨_, _, [], hrg0, HL.out, List.nodup_nil, fun x hx => (by cases hx), World.ownsRow_nil _ _ _ _, (Below.refl r w).grown hg0 (by omega) (fun k hk => by cases hk), by omega⟩
 case round =>
  obtain ⟨left, cnt, done, hrg, hlf, hdn, hdk, hown, hbw, hsz⟩ := hrel
  have hcount := nodup_le done ks hdn hdk
  go_wp2_with (first | (at_next; refine wpList_next_str rfl _ rfl (plainElem Tryz.prog 3) (Value.int .i64) (fun v y hv => by obtain ⟨c, rfl, _⟩ := plainElem_int_inv Tryz.underlying3 hv; exact ⟨c, rfl⟩) b r _ D left cnt rfl hrg ?_ ?_) | go_in)
  ·intro _ hl0
   have HE := Lib.hid (sortedN_same done M (fun y => (left_done hlf hl0 hdk y).trans (HM.out y)))
   have HX := Lib.hid (own_texts hown)
   have HK := Lib.hid hdk
   have HB := Lib.hid hbw
   clear hrg hlf hdn hdk hown hl0 hbw
   go_wp2_with fail
   refine (make_new wr _ done HX.out (by omega) (fun x hx => HS.out x (HK.out x hx)) (Utf8Tabs_below HT.out (by rw [hr]; exact HB.out))).mono ?_
   rintro e w4 ⟨v', rfl, ht, hn4, hb4⟩
   go_wp2_with fail
   go_ret
   exact ⟨v', rfl, by rw [← HE.out]; exact ht, (fun g e => Nat.le_trans (by omega) (hn4 g e)), (by rw [hr]; exact HB.out.trans (hb4.mono (by omega)))⟩
  ·intro l c w1 cnt1 hll hrg1 hlt hg1 hs1 hen
   obtain ⟨hlf1, hlk, hld⟩ := left_next hlf l hll
   have hdn1 := nodup_snoc hdn hld
   have hlen := nodup_le _ ks hdn1 (fun x hx => by rw [List.mem_append, List.mem_singleton] at hx; exact hx.elim (hdk x) (fun e => by rw [e]; exact hlk))
   rw [List.length_append, List.length_singleton] at hlen
   have hown1 := owns_at hown (fun q hq => hg1.block q (own_lt hown hq) (fun e => by have := (hown.lt q hq).1; injection e with e; omega))
   have hb1 : Below r w w1 := hbw.grown hg1 (by omega) (fun k hk => by injection hk with hk; omega)
   have hrlt := hrg1.lt
   have hsz1 : r + 1 ≤ w1.heap.size := by omega
   clear hg1 hown hbw hll hs1
   go_wp2_with (at_builtin; refine wpList_append_own _ rfl _ _ 22 rfl (r + 1) 9 i0 (.string ByteArray.empty) 1 16 Tryz.underlying22 hi hz0 hz1 hz2 rfl (by decide) _ done.length (strs done) rfl (hown1.alloc _) ⟨w1.heap.size, 0, none⟩ 1 1 [.string (bs l)] rfl rfl (texts_news _ _ _) (ones_s _) (by unfold maxLen; omega) (by omega) (by simp; omega) ?_)
   intro v4 w4 hown4 hgrow4 hnil4
   have hne : some r ≠ Value.ownBlock _ := fun e => by have := (hown1.lt r e.symm).1; omega
   have hrg4 := (hrg1.alloc _).kept hgrow4 (fun e => (map_ty hrg1.owns (owns_ty hown1 e.symm)) rfl) hne
   have hb4 : Below r w w4 := (hb1.alloc (by omega) _).grown hgrow4 (by simp; omega) (fun k hk => by have := (hown1.lt k hk).1; omega)
   have hsz4 : r + 1 ≤ w4.heap.size := Nat.le_trans (by simp; omega) hgrow4.size
   rw [strs_snoc] at hown4
   go_wp2_with fail
   go_roundw
   case rel => exact ⟨_, cnt1, done ++ [l], hrg4, hlf1, hdn1, (fun x hx => by rw [List.mem_append, List.mem_singleton] at hx; exact hx.elim (hdk x) (fun e => by rw [e]; exact hlk)), by rw [List.length_append]; exact hown4, hb4, hsz4⟩
   case measure => rw [hrg4.left_eq, hrg.left_eq]; omega
end
section
open Go.RowKit Go.Lib Go.Maps Go.WideMaps
def midO (K : List (List UInt8)) (d : DraftM) (j : Nat) : List OpM := (d.ops.take j).zipWith (opK K) (d.ks.take j) ++ d.ops.drop j
theorem midO_none (K : List (List UInt8)) (d : DraftM) : midO K d 0 = d.ops := by simp [midO]
theorem midO_all (K : List (List UInt8)) (d : DraftM) (h : d.ks.length = d.ops.length) : midO K d d.ops.length = d.ops.zipWith (opK K) d.ks := by
 unfold midO
 rw [List.take_length, ← h, List.take_length, h, List.drop_length, List.append_nil]
theorem midO_len (K : List (List UInt8)) (d : DraftM) (h : d.ks.length = d.ops.length) (j : Nat) (hj : j ≤ d.ops.length) : (midO K d j).length = d.ops.length := by
 simp [midO]
 omega
theorem midO_next (K : List (List UInt8)) (d : DraftM) (h : d.ks.length = d.ops.length) (j : Nat) (hj : j < d.ops.length) :
  ((midO K d j).flatMap opc).set (j * 4 + 1) (.int .i64 ((findT K (d.ks.getD j [])).1 : Int)) = (midO K d (j + 1)).flatMap opc := by
 have hj2 : j < d.ks.length := by omega
 have e1 : d.ops.drop j = d.ops[j] :: d.ops.drop (j + 1) := List.drop_eq_getElem_cons hj
 have e2 : d.ops.take (j + 1) = d.ops.take j ++ [d.ops[j]] := by rw [List.take_succ_eq_append_getElem hj]
 have e3 : d.ks.take (j + 1) = d.ks.take j ++ [d.ks[j]] := by rw [List.take_succ_eq_append_getElem hj2]
 have e4 : d.ks.getD j [] = d.ks[j] := by simp [hj2]
 have hl : (d.ops.take j).length = (d.ks.take j).length := by simp; omega
 unfold midO
 rw [e1, e2, e3, e4, List.zipWith_append hl]
 have h1 := flat_set opc 4 opc_len ((d.ops.take j).zipWith (opK K) (d.ks.take j)) (d.ops.drop (j + 1)) d.ops[j] (opK K d.ops[j] d.ks[j]) 1 (.int .i64 ((findT K d.ks[j]).1 : Int)) (by decide) rfl
 have hz : ((d.ops.take j).zipWith (opK K) (d.ks.take j)).length = j := by simp; omega
 rw [hz] at h1
 rw [h1]
 simp
theorem key_found {L : List DraftM} (hG : GoodL L) (i : Nat) (hi : i < L.length) (k : List UInt8) (hk : k ∈ (L.getD i noD).ks) : numT (sortedN (keysD L)) k = ((findT (sortedN (keysD L)) k).1 : Int) := by
 have h1 : (findT (sortedN (keysD L)) k).2 = true := by
  unfold findT
  rw [if_pos ⟨sorted_isT _, ((sortedN_spec _).2 k).2 ⟨(keys_mem L k).2 ⟨i, hi, hk⟩, (hG.all _ (getD_memD L i hi)).ks k hk⟩⟩]
 unfold numT
 rw [if_pos h1]
theorem open_iff {L : List DraftM} {E : List EntM} (hG : GoodL L) (_hl : E.length = L.length) (hne : ∀ i j, i < j → j < L.length → (E.getD i noEn).1 ≠ (E.getD j noEn).1) (i : Nat) (hi : i < L.length) :
  ((L.getD i noD).op = true → openF L E (L.getD i noD).nm = some (E.getD i noEn).1) ∧ ((L.getD i noD).op = false → openF L E (L.getD i noD).nm ≠ some (E.getD i noEn).1) := by
 refine ⟨fun ho => ?_, fun ho => ?_⟩
 ·have hlt : atD L (L.getD i noD).nm < L.length := by
   refine Decidable.byContradiction fun h => ?_
   have := atD_none L _ h i hi
   unfold isAt at this
   rw [ho] at this
   simp at this
  obtain ⟨o1, o2⟩ := atD_spec L _ hlt
  have e : atD L (L.getD i noD).nm = i := by
   rcases Nat.lt_trichotomy (atD L (L.getD i noD).nm) i with h | h | h
   ·exact absurd o2 (hG.one _ _ h hi o1 ho)
   ·exact h
   ·exact absurd o2.symm (hG.one _ _ h hlt ho o1)
  unfold openF
  rw [if_pos hlt, e]
 ·unfold openF
  by_cases hlt : atD L (L.getD i noD).nm < L.length
  ·rw [if_pos hlt]
   obtain ⟨o1, o2⟩ := atD_spec L _ hlt
   intro e
   injection e with e
   rcases Nat.lt_trichotomy (atD L (L.getD i noD).nm) i with h | h | h
   ·exact hne _ _ h hi e
   ·rw [h] at o1; rw [o1] at ho; cases ho
   ·exact hne _ _ h hlt e.symm
  ·rw [if_neg hlt]
   intro e
   cases e
def txc (S : List (List UInt8)) (p : DraftM × EntM) : List Value := [.int .i64 ((findT S p.1.nm).1 : Int), .int .i64 p.1.fate, p.2.2.2]
theorem txc_len (S : List (List UInt8)) (p : DraftM × EntM) : (txc S p).length = 3 := rfl
def noP : DraftM × EntM := (noD, noEn)
theorem zip_at (L : List DraftM) (E : List EntM) (hl : E.length = L.length) (i : Nat) (hi : i < L.length) : (L.zip E).getD i noP = (L.getD i noD, E.getD i noEn) := by
 have h2 : i < E.length := by omega
 have h3 : i < (L.zip E).length := by simp; omega
 have e : (L.zip E).getD i noP = (L.zip E)[i] := by simp [List.getD, List.getElem?_eq_getElem h3]
 rw [e, List.getElem_zip]
 simp [hi, h2]
theorem zip_take (L : List DraftM) (E : List EntM) (hl : E.length = L.length) (i : Nat) (hi : i < L.length) : (L.zip E).take (i + 1) = (L.zip E).take i ++ [(L.getD i noD, E.getD i noEn)] := by
 have h3 : i < (L.zip E).length := by simp; omega
 have e : (L.zip E).getD i noP = (L.zip E)[i] := by simp [List.getD, List.getElem?_eq_getElem h3]
 rw [List.take_succ_eq_append_getElem h3, ← zip_at L E hl i hi, e]
def TextsOff (w : World) (v : Value) (T : List (List UInt8)) (gh n0 : Nat) : Prop := ∀ w', (∀ k, n0 ≤ k → k ≠ gh → k < w.heap.size → w'.heap[k]? = w.heap[k]?) → Texts w' v T
theorem textsOff {wi w : World} {v : Value} {T : List (List UInt8)} {gh n0 nb : Nat} (h : Texts wi v T) (hn : NewV nb v) (hgh : gh < nb ∨ wi.heap.size ≤ gh) (h0 : n0 ≤ nb) (hb : ∀ k, k < wi.heap.size → k ≠ gh → w.heap[k]? = wi.heap[k]?) (hs : wi.heap.size ≤ w.heap.size) : TextsOff w v T gh n0 := by
 intro w' hw
 obtain ⟨p, c, rfl, ht⟩ := h
 refine ⟨p, c, rfl, fun j hj => ?_⟩
 obtain ⟨g, rfl, hc⟩ := ht j hj
 refine ⟨g, rfl, ?_⟩
 have hg := hn g rfl
 have hlt : g < wi.heap.size := by
  refine Decidable.byContradiction fun h => ?_
  rw [World.cell?] at hc
  simp [Array.getElem?_eq_none (by omega : wi.heap.size ≤ g)] at hc
 have hne : g ≠ gh := by omega
 have e : w'.heap[g]? = wi.heap[g]? := (hw g (by omega) hne (by omega)).trans (hb g hlt hne)
 rw [World.cell?_of_block (a := ⟨g, j, none⟩) e]
 exact hc
structure HLoop (w1 w5 w : World) (B gh i : Nat) (L : List DraftM) (E : List EntM) (S K : List (List UInt8)) (sv kv vt : Value) : Prop where
 far : ∀ k, k < w5.heap.size → k ≠ gh → (∀ j, j < i → k ≠ (E.getD j noEn).1 ∧ (E.getD j noEn).2.2.ownBlock ≠ some k) → w.heap[k]? = w5.heap[k]?
 sz : w5.heap.size ≤ w.heap.size
 ops : ∀ j, j < i → w.ownsRow B 51 4 (E.getD j noEn).2.2 (L.getD j noD).ops.length ((midO K (L.getD j noD) (L.getD j noD).ops.length).flatMap opc)
 hb : Blk w gh 25 [sv, kv, vt]
 row : w.ownsRow B 47 3 vt i (((L.zip E).take i).flatMap (txc S))
 bel : Below B w1 w
 shut : ∀ j, j < i → (L.getD j noD).op = false
theorem HLoop.below {w1 w5 w w' : World} {B gh i : Nat} {L : List DraftM} {E : List EntM} {S K : List (List UInt8)} {sv kv vt : Value} (h : HLoop w1 w5 w B gh i L E S K sv kv vt) (hb : Below w.heap.size w w') (hB : B ≤ w1.heap.size) : HLoop w1 w5 w' B gh i L E S K sv kv vt :=
 ⟨fun k hk h1 h2 => (hb.block k (Nat.lt_of_lt_of_le hk h.sz)).trans (h.far k hk h1 h2), Nat.le_trans h.sz hb.size, fun j hj => owns_later (h.ops j hj) hb, h.hb.later hb, owns_later h.row hb, h.bel.trans (hb.mono (Nat.le_trans hB h.bel.size)), h.shut⟩
structure HMid (w1 w5 w : World) (B gh i : Nat) (L : List DraftM) (E : List EntM) (S K : List (List UInt8)) (sv kv vt : Value) (s : Int) (j : Nat) : Prop where
 far : ∀ k, k < w5.heap.size → k ≠ gh → (∀ j, j < i + 1 → k ≠ (E.getD j noEn).1 ∧ (E.getD j noEn).2.2.ownBlock ≠ some k) → w.heap[k]? = w5.heap[k]?
 sz : w5.heap.size ≤ w.heap.size
 ops : ∀ j, j < i → w.ownsRow B 51 4 (E.getD j noEn).2.2 (L.getD j noD).ops.length ((midO K (L.getD j noD) (L.getD j noD).ops.length).flatMap opc)
 hb : Blk w gh 25 [sv, kv, vt]
 row : w.ownsRow B 47 3 vt i (((L.zip E).take i).flatMap (txc S))
 bel : Below B w1 w
 shut : ∀ j, j < i → (L.getD j noD).op = false
 dr : Blk w (E.getD i noEn).1 137 [.string (bs (L.getD i noD).nm), (E.getD i noEn).2.1, .int .i64 (L.getD i noD).ln, .int .i64 s, .int .i64 (L.getD i noD).fate, (E.getD i noEn).2.2]
 opi : w.ownsRow B 51 4 (E.getD i noEn).2.2 (L.getD i noD).ops.length ((midO K (L.getD i noD) j).flatMap opc)
theorem HMid.below {w1 w5 w w' : World} {B gh i j : Nat} {s : Int} {L : List DraftM} {E : List EntM} {S K : List (List UInt8)} {sv kv vt : Value} (h : HMid w1 w5 w B gh i L E S K sv kv vt s j) (hb : Below w.heap.size w w') (hB : B ≤ w1.heap.size) : HMid w1 w5 w' B gh i L E S K sv kv vt s j :=
 ⟨fun k hk h1 h2 => (hb.block k (Nat.lt_of_lt_of_le hk h.sz)).trans (h.far k hk h1 h2), Nat.le_trans h.sz hb.size, fun j hj => owns_later (h.ops j hj) hb, h.hb.later hb, owns_later h.row hb, h.bel.trans (hb.mono (Nat.le_trans hB h.bel.size)), h.shut, h.dr.later hb, owns_later h.opi hb⟩
structure Apart (w5 : World) (B gm gh N bo bz bk : Nat) (L : List DraftM) (lv : Value) (E : List EntM) : Prop where
 mi : MkI w5 B gm L N lv bo bz bk E
 gh : Ty w5 gh 25
theorem Apart.e1 {w5 : World} {B gm gh N bo bz bk : Nat} {L : List DraftM} {lv : Value} {E : List EntM} (h : Apart w5 B gm gh N bo bz bk L lv E) (i j : Nat) (hij : i ≠ j) (hi : i < L.length) (hj : j < L.length) : (E.getD i noEn).1 ≠ (E.getD j noEn).1 := by
 rcases Nat.lt_or_gt_of_ne hij with h1 | h1
 ·exact h.mi.ne i j h1 hj
 ·exact (h.mi.ne j i h1 hi).symm
theorem Apart.e2 {w5 : World} {B gm gh N bo bz bk : Nat} {L : List DraftM} {lv : Value} {E : List EntM} (h : Apart w5 B gm gh N bo bz bk L lv E) (i j : Nat) (hij : i ≠ j) (hi : i < L.length) (hj : j < L.length) (g : Nat) (h1 : (E.getD i noEn).2.2.ownBlock = some g) : (E.getD j noEn).2.2.ownBlock ≠ some g := by
 rcases Nat.lt_or_gt_of_ne hij with h2 | h2
 ·exact h.mi.neo i j h2 hj g h1
 ·exact fun h3 => h.mi.neo j i h2 hi g h3 h1
theorem Apart.ty {w5 : World} {B gm gh N bo bz bk : Nat} {L : List DraftM} {lv : Value} {E : List EntM} (h : Apart w5 B gm gh N bo bz bk L lv E) {k : Nat} {t : TypeId} (hk : Ty w5 k t) (h1 : t ≠ 137) (h2 : t ≠ 51) (n : Nat) (hn : n ≤ L.length) : ∀ j, j < n → k ≠ (E.getD j noEn).1 ∧ (E.getD j noEn).2.2.ownBlock ≠ some k := fun j hj => by
 have d := h.mi.dr j (by omega)
 exact ⟨hk.ne d.blk.ty h1, fun e => (hk.ne (owns_ty d.ops e) h2) rfl⟩
theorem HLoop.mid {w1 w5 w : World} {B gm gh i N bo bz bk : Nat} {L : List DraftM} {lv : Value} {E : List EntM} {S K : List (List UInt8)} {sv kv vt : Value} (ha : Apart w5 B gm gh N bo bz bk L lv E) (h : HLoop w1 w5 w B gh i L E S K sv kv vt) (hi : i < L.length) : HMid w1 w5 w B gh i L E S K sv kv vt 0 0 := by
 have d := ha.mi.dr i hi
 refine ⟨fun k hk h1 h2 => h.far k hk h1 (fun j hj => h2 j (by omega)), h.sz, h.ops, h.hb, h.row, h.bel, h.shut, d.blk.at (h.far _ d.blk.lt (d.blk.ty.ne ha.gh (by decide)) (fun j hj => ⟨ha.e1 i j (by omega) hi (by omega), fun e => (d.blk.ty.ne (owns_ty (ha.mi.dr j (by omega)).ops e) (by decide)) rfl⟩)), ?_⟩
 rw [midO_none]
 exact owns_at d.ops (fun k hk => h.far k (own_lt d.ops hk) ((owns_ty d.ops hk).ne ha.gh (by decide)) (fun j hj => ⟨(owns_ty d.ops hk).ne (ha.mi.dr j (by omega)).blk.ty (by decide), ha.e2 i j (by omega) hi (by omega) k hk⟩))
theorem HMid.sess {w1 w5 w : World} {B gm gh i j N bo bz bk : Nat} {s : Int} {L : List DraftM} {lv : Value} {E : List EntM} {S K : List (List UInt8)} {sv kv vt : Value} (ha : Apart w5 B gm gh N bo bz bk L lv E) (h : HMid w1 w5 w B gh i L E S K sv kv vt s j) (hi : i < L.length) (u : Int) :
  HMid w1 w5 (w.setCell ⟨(E.getD i noEn).1, 3, none⟩ (.int .i64 u)) B gh i L E S K sv kv vt u j := by
 have d := ha.mi.dr i hi
 have old : ∀ k, k ≠ (E.getD i noEn).1 → (w.setCell ⟨(E.getD i noEn).1, 3, none⟩ (.int .i64 u)).heap[k]? = w.heap[k]? := fun k h1 => Below.heap_setCell _ _ _ _ h1
 refine ⟨fun k hk h1 h2 => (old k (h2 i (by omega)).1).trans (h.far k hk h1 h2), by rw [set_size]; exact h.sz, fun j hj => owns_store (h.ops j hj) h.dr (by decide) 3 _, h.hb.at (old gh (h.hb.ty.ne h.dr.ty (by decide))), owns_store h.row h.dr (by decide) 3 _, h.bel.setCell d.base _, h.shut, h.dr.set 3 _, owns_store h.opi h.dr (by decide) 3 _⟩
theorem HMid.op {w1 w5 w : World} {B gm gh i j N bo bz bk go cp : Nat} {s : Int} {L : List DraftM} {lv : Value} {E : List EntM} {S K : List (List UInt8)} {sv kv vt : Value} (ha : Apart w5 B gm gh N bo bz bk L lv E) (h : HMid w1 w5 w B gh i L E S K sv kv vt s j) (hi : i < L.length)
  (hv : (E.getD i noEn).2.2 = .slice (some ⟨go, 0, none⟩) (L.getD i noD).ops.length cp) (hl : (L.getD i noD).ks.length = (L.getD i noD).ops.length) (hj : j < (L.getD i noD).ops.length) :
  HMid w1 w5 (w.setCell ⟨go, j * 4 + 1, none⟩ (.int .i64 ((findT K ((L.getD i noD).ks.getD j [])).1 : Int))) B gh i L E S K sv kv vt s (j + 1) := by
 have d := ha.mi.dr i hi
 have hown : (E.getD i noEn).2.2.ownBlock = some go := by rw [hv]; rfl
 have hty := owns_ty h.opi hown
 have old : ∀ k, k ≠ go → (w.setCell ⟨go, j * 4 + 1, none⟩ (.int .i64 ((findT K ((L.getD i noD).ks.getD j [])).1 : Int))).heap[k]? = w.heap[k]? := fun k h1 => Below.heap_setCell _ _ _ _ h1
 have hst := h.opi
 rw [hv] at hst
 have hst2 := (hst.stored (j * 4 + 1) (.int .i64 ((findT K ((L.getD i noD).ks.getD j [])).1 : Int))).1
 rw [midO_next K _ hl j hj] at hst2
 refine ⟨fun k hk h1 h2 => (old k (fun e => (h2 i (by omega)).2 (by rw [e]; exact hown))).trans (h.far k hk h1 h2), by rw [set_size]; exact h.sz, fun q hq => owns_at (h.ops q hq) (fun k hk => old k (fun e => ?_)), h.hb.at (old gh (h.hb.ty.ne hty (by decide))), owns_at h.row (fun k hk => old k ((owns_ty h.row hk).ne hty (by decide))), h.bel.setCell (d.ops.lt go hown).1 _, h.shut, h.dr.at (old _ (h.dr.ty.ne hty (by decide))), by rw [hv]; exact hst2⟩
 subst e
 exact ha.e2 i q (by omega) hi (by omega) k hown hk
theorem HMid.done {w1 w5 w w4 : World} {B gm gh i N bo bz bk : Nat} {L : List DraftM} {lv : Value} {E : List EntM} {S K : List (List UInt8)} {sv kv vt v4 : Value} {ob : Obj} (_ha : Apart w5 B gm gh N bo bz bk L lv E) (hlen : E.length = L.length) (h : HMid w1 w5 w B gh i L E S K sv kv vt ((findT S (L.getD i noD).nm).1 : Int) (L.getD i noD).ops.length) (hi : i < L.length)
  (ho : (L.getD i noD).op = false) (hg5 : B ≤ gh) (hB : B ≤ w1.heap.size) (hvt : ∀ k, vt.ownBlock = some k → w5.heap.size ≤ k)
  (hown : w4.ownsRow B 47 3 v4 (i + 1) (((L.zip E).take i).flatMap (txc S) ++ txc S (L.getD i noD, E.getD i noEn))) (hg : (w.alloc ob).grownBy w4 vt.ownBlock) (hat : v4.ownBlock = vt.ownBlock ∨ v4.ownBlock = some (w.alloc ob).heap.size) :
  Blk w4 gh 25 [sv, kv, vt] ∧ HLoop w1 w5 (w4.setCell ⟨gh, 2, none⟩ v4) B gh (i + 1) L E S K sv kv v4 ∧ ∀ k, v4.ownBlock = some k → w5.heap.size ≤ k := by
 have old : ∀ k, k < w.heap.size → vt.ownBlock ≠ some k → w4.heap[k]? = w.heap[k]? := fun k hk hne => by
  rw [hg.block k (by simp; omega) (fun e => hne e.symm), heap_kept _ _ hk]
 have hb4 := h.hb.at (old gh h.hb.lt (fun e => (h.hb.ty.ne (owns_ty h.row e) (by decide)) rfl))
 have old5 : ∀ k, k < w.heap.size → vt.ownBlock ≠ some k → k ≠ gh → (w4.setCell ⟨gh, 2, none⟩ v4).heap[k]? = w.heap[k]? := fun k hk hne h1 => by
  rw [Below.heap_setCell _ _ _ _ h1]
  exact old k hk hne
 have hsz : w.heap.size ≤ w4.heap.size := Nat.le_trans (by simp) hg.size
 have keep : ∀ {n : Nat} {v : Value} {xs : List Value}, w.ownsRow B 51 4 v n xs → (w4.setCell ⟨gh, 2, none⟩ v4).ownsRow B 51 4 v n xs := fun hv => owns_at hv (fun k hk => old5 k (own_lt hv hk) (fun e => ((owns_ty hv hk).ne (owns_ty h.row e) (by decide)) rfl) ((owns_ty hv hk).ne h.hb.ty (by decide)))
 refine ⟨hb4, ⟨fun k hk h1 h2 => (old5 k (Nat.lt_of_lt_of_le hk h.sz) (fun e => by have := hvt k e; omega) h1).trans (h.far k hk h1 h2), by rw [set_size]; exact Nat.le_trans h.sz hsz, fun j hj => ?_, hb4.set 2 v4, ?_, ?_, fun j hj => ?_⟩, fun k hk => ?_⟩
 ·rcases Nat.lt_or_ge j i with h1 | h1
  ·exact keep (h.ops j h1)
  ·have e : j = i := by omega
   subst e
   exact keep h.opi
 ·rw [zip_take L E hlen i hi, ← flat_snoc]
  exact owns_store hown hb4 (by decide) 2 v4
 ·have hBw := Nat.le_trans hB h.bel.size
  exact ((h.bel.alloc hBw ob).grown hg (by simp; omega) (fun k hk => (h.row.lt k hk).1)).setCell hg5 _
 ·rcases Nat.lt_or_ge j i with h1 | h1
  ·exact h.shut j h1
  ·have e : j = i := by omega
   subst e
   exact ho
 ·rcases hat with hat | hat
  ·rw [hat] at hk; exact hvt k hk
  ·rw [hat] at hk; injection hk with hk; simp at hk; have := h.sz; omega
theorem HLoop.start {w1 w5 : World} {B gh : Nat} {L : List DraftM} {E : List EntM} {S K : List (List UInt8)} {sv kv : Value} (hb : Blk w5 gh 25 [sv, kv, .slice none 0 0]) (hw : Below B w1 w5) : HLoop w1 w5 w5 B gh 0 L E S K sv kv (.slice none 0 0) :=
 ⟨fun _ _ _ _ => rfl, Nat.le_refl _, fun j hj => absurd hj (Nat.not_lt_zero j), hb, by rw [List.take_zero]; exact World.ownsRow_nil _ _ _ _, hw, fun j hj => absurd hj (Nat.not_lt_zero j)⟩
theorem HLoop.ptrs {w1 w5 w : World} {B gm gh i N bo bz bk : Nat} {L : List DraftM} {lv : Value} {E : List EntM} {S K : List (List UInt8)} {sv kv vt : Value} (ha : Apart w5 B gm gh N bo bz bk L lv E) (h : HLoop w1 w5 w B gh i L E S K sv kv vt) (hi : i ≤ L.length) : SlS ptc 1 noEn w lv E :=
 own_sls (f := ptc) (s := 1) noEn (fun _ => rfl) (owns_at (w' := w) ha.mi.row (fun q hq => h.far q (own_lt ha.mi.row hq) ((owns_ty ha.mi.row hq).ne ha.gh (by decide)) (ha.ty (owns_ty ha.mi.row hq) (by decide) (by decide) i hi)))
theorem HLoop.bx {w1 w5 w : World} {B gm gh i N bo bz bk : Nat} {L : List DraftM} {lv : Value} {E : List EntM} {S K : List (List UInt8)} {sv kv vt : Value} (ha : Apart w5 B gm gh N bo bz bk L lv E) (h : HLoop w1 w5 w B gh i L E S K sv kv vt) (hi : i ≤ L.length) : Blk w gm 134 [lv, .map (some bo), .map (some bz), .map (some bk)] :=
 ha.mi.bx.at (h.far gm ha.mi.bx.lt (ha.mi.bx.ty.ne ha.gh (by decide)) (ha.ty ha.mi.bx.ty (by decide) (by decide) i hi))
theorem HLoop.opn {w1 w5 w : World} {B gm gh i N bo bz bk : Nat} {L : List DraftM} {lv : Value} {E : List EntM} {S K : List (List UInt8)} {sv kv vt : Value} (ha : Apart w5 B gm gh N bo bz bk L lv E) (h : HLoop w1 w5 w B gh i L E S K sv kv vt) (hi : i ≤ L.length) : OpnM w bo (openF L E) N :=
 ha.mi.opn.at (h.far bo ha.mi.opn.lt (ha.mi.opn.ty ha.gh) (fun j hj => ⟨ha.mi.opn.ty (ha.mi.dr j (by omega)).blk.ty, fun e => ha.mi.opn.ty (owns_ty (ha.mi.dr j (by omega)).ops e) rfl⟩))
theorem HLoop.other {w1 w5 w : World} {B gm gh i N bo bz bk g' : Nat} {L : List DraftM} {lv : Value} {E : List EntM} {S K : List (List UInt8)} {sv kv vt : Value} (ha : Apart w5 B gm gh N bo bz bk L lv E) (h : HLoop w1 w5 w B gh i L E S K sv kv vt) (_hi : i < L.length) (ho : (L.getD i noD).op = false) (hF : openF L E (L.getD i noD).nm = some g') : ∃ cs, Blk w g' 137 cs := by
 unfold openF at hF
 by_cases hlt : atD L (L.getD i noD).nm < L.length
 ·rw [if_pos hlt] at hF
  injection hF with hF
  obtain ⟨o1, o2⟩ := atD_spec L _ hlt
  have hgt : i < atD L (L.getD i noD).nm := by
   rcases Nat.lt_trichotomy (atD L (L.getD i noD).nm) i with h1 | h1 | h1
   ·rw [h.shut _ h1] at o1; cases o1
   ·rw [h1, ho] at o1; cases o1
   ·exact h1
  have d := ha.mi.dr _ hlt
  rw [← hF]
  exact ⟨_, d.blk.at (h.far _ d.blk.lt (d.blk.ty.ne ha.gh (by decide)) (fun j hj => ⟨ha.e1 _ j (by omega) hlt (by omega), fun e => (d.blk.ty.ne (owns_ty (ha.mi.dr j (by omega)).ops e) (by decide)) rfl⟩))⟩
 ·rw [if_neg hlt] at hF; cases hF
theorem nmc_strs (L : List (List UInt8)) : L.flatMap nmc = strs L := by
 induction L with
 | nil => rfl
 | cons a L ih => rw [List.flatMap_cons, ih]; rfl
theorem HMid.keys {w1 w5 w : World} {B gm gh i j N bo bz bk : Nat} {s : Int} {L : List DraftM} {lv : Value} {E : List EntM} {S K : List (List UInt8)} {sv kv vt : Value} (ha : Apart w5 B gm gh N bo bz bk L lv E) (h : HMid w1 w5 w B gh i L E S K sv kv vt s j) (hi : i < L.length) : Texts w (E.getD i noEn).2.1 (L.getD i noD).ks := by
 have d := ha.mi.dr i hi
 have := owns_at (w' := w) d.ks (fun q hq => h.far q (own_lt d.ks hq) ((owns_ty d.ks hq).ne ha.gh (by decide)) (ha.ty (owns_ty d.ks hq) (by decide) (by decide) (i + 1) hi))
 rw [nmc_strs] at this
 exact own_texts this
def LowE (L : List DraftM) (E : List EntM) (n0 : Nat) : Prop := ∀ j, j < L.length → (E.getD j noEn).1 < n0 ∧ ∀ g, (E.getD j noEn).2.2.ownBlock = some g → g < n0
theorem low_of {w : World} {B gm N bo bz bk : Nat} {L : List DraftM} {lv : Value} {E : List EntM} (h : MkI w B gm L N lv bo bz bk E) : LowE L E w.heap.size := fun j hj => ⟨(h.dr j hj).blk.lt, fun _g hg => own_lt (h.dr j hj).ops hg⟩
theorem texts_at {w w5 : World} {v : Value} {T : List (List UInt8)} {gh n0 i : Nat} {L : List DraftM} {E : List EntM} (h : TextsOff w5 v T gh n0) (hl : LowE L E n0) (hi : i ≤ L.length) (hf : ∀ k, k < w5.heap.size → k ≠ gh → (∀ j, j < i → k ≠ (E.getD j noEn).1 ∧ (E.getD j noEn).2.2.ownBlock ≠ some k) → w.heap[k]? = w5.heap[k]?) : Texts w v T :=
 h w (fun k h0 h1 h2 => hf k h2 h1 (fun j hj => ⟨fun e => by have := (hl j (by omega)).1; omega, fun e => by have := (hl j (by omega)).2 k e; omega⟩))
theorem txns_of {w : World} {B : Nat} {L : List DraftM} {E : List EntM} {S K : List (List UInt8)} {vt : Value} (hr : w.ownsRow B 47 3 vt L.length (((L.zip E).take L.length).flatMap (txc S)))
  (hops : ∀ j, j < L.length → w.ownsRow B 51 4 (E.getD j noEn).2.2 (L.getD j noD).ops.length ((midO K (L.getD j noD) (L.getD j noD).ops.length).flatMap opc)) (hl : E.length = L.length) (hG : GoodL L) : TxnsS w vt (L.map (txnD S K)) := by
 have hz : (L.zip E).length = L.length := by simp; omega
 rw [List.take_of_length_le (by omega)] at hr
 rw [← hz] at hr
 obtain ⟨p, cap, hv, hc⟩ := own_sls noP (txc_len S) hr
 refine ⟨p, cap, by rw [hv]; simp; omega, fun j hj => ?_⟩
 rw [List.length_map] at hj
 obtain ⟨g, hp, h1⟩ := hc j (by omega)
 rw [zip_at L E hl j hj] at h1
 have hd : (L.map (txnD S K)).getD j noTxn = txnD S K (L.getD j noD) := by simp [hj]
 rw [hd]
 refine ⟨g, (E.getD j noEn).2.2, hp, h1 0 _ rfl, h1 1 _ rfl, h1 2 _ rfl, ?_⟩
 have hg := hG.all _ (getD_memD L j hj)
 have ho := hops j hj
 rw [midO_all K _ hg.len] at ho
 have hlo : ((L.getD j noD).ops.zipWith (opK K) (L.getD j noD).ks).length = (L.getD j noD).ops.length := by rw [List.length_zipWith, hg.len, Nat.min_self]
 rw [← hlo] at ho
 obtain ⟨p2, cap2, hv2, hc2⟩ := own_sls noOp opc_len ho
 refine ⟨p2, cap2, hv2, owns_cap ho hv2, fun q hq => ?_⟩
 obtain ⟨g2, hp2, h2⟩ := hc2 q hq
 exact ⟨g2, hp2, h2 0 _ rfl, h2 1 _ rfl, h2 2 _ rfl, h2 3 _ rfl⟩
end
end Go.Proofs.YtmgchjddpmmglaaGreatDoor
