/-
  Layer 18 (bits): sets of small numbers, walked. No conditions but that math/bits's table is as its initialiser lays it (All).
-/
import Derived.Test.YtldcbapjiflblaaDoorPxPtB
import Derived.Test.YtldcbapjiflblaaDoorPPb
import Derived.Laws.BitsAllLaws
import Derived.Shelf.Spec.TrailingZeros
namespace Go.Proofs.YtldcbapjiflblaaDoor
open Go.RowKit Go.Lib
def wordsB (W : List Nat) : List Value := W.map fun (x : Nat) => .int .u64 (x : Int)
theorem wordsB_at (W : List Nat) (d : Nat) (hd : d < W.length) : (wordsB W)[d]? = some (.int .u64 ((W.getD d 0 : Nat) : Int)) := by simp [wordsB, hd]
theorem wordsB_set (W : List Nat) (d x : Nat) : (wordsB W).set d (.int .u64 (x : Int)) = wordsB (W.set d x) := by simp [wordsB, List.map_set]
def SetW (w : World) (b : Nat) (W : List Nat) : Prop := Blk w b 93 (wordsB W) ∧ W.length = 8 ∧ ∀ x ∈ W, x < 18446744073709551616
theorem SetW.kept {w w' : World} {row : Option Nat} {b : Nat} {W : List Nat} (h : SetW w b W) (hg : w.grownBy w' row) (hne : some b ≠ row) : SetW w' b W := ⟨h.1.kept hg hne, h.2⟩
theorem SetW.later {w w' : World} {b : Nat} {W : List Nat} (h : SetW w b W) (hb : Below w.heap.size w w') : SetW w' b W := ⟨h.1.later hb, h.2⟩
set_option maxRecDepth 100000 in
set_option maxHeartbeats 4000000 in
theorem bin_any (n : Nat) (hn : n < 500) (w : World) : Calls Tryd.prog 63 #[.int .i64 (n : Nat)] w fun e w' => e = .returned (.bool true) ∧ w' = w := by
 go_enter Tryd.func63, Tryd.ntmps63
 go_wp2
 go_ret
 exact ⟨by simp; omega, rfl⟩
set_option maxRecDepth 100000 in
set_option maxHeartbeats 4000000 in
theorem bmay_any (b n : Nat) (hn : n < 500) (w : World) : Calls Tryd.prog 55 #[.pointer (some ⟨b, 0, none⟩), .int .i64 (n : Nat)] w fun e w' => e = .returned (.int .i64 0) ∧ w' = w := by
 have HI := Lib.hid (bin_any n hn)
 go_enter Tryd.func55, Tryd.ntmps55
 go_wp2_with fail
 refine (HI.out _).mono ?_
 rintro e w1 ⟨rfl, rfl⟩
 go_wp2_with fail
 go_ret
 exact ⟨rfl, rfl⟩
theorem split64 (n : Nat) : ∃ d r, n = d * 64 + r ∧ r < 64 ∧ n / 64 = d ∧ n % 64 = r := ⟨n / 64, n % 64, by omega, by omega, rfl, rfl⟩
set_option maxRecDepth 100000 in
set_option maxHeartbeats 4000000 in
theorem bput_any (b n : Nat) (W : List Nat) (w : World) (h : SetW w b W) (hn : n < 500) : Calls Tryd.prog 39 #[.pointer (some ⟨b, 0, none⟩), .int .i64 (n : Nat)] w fun e w' => e = .returned (.int .i64 0) ∧ SetW w' b (putB W n) ∧ w.grownBy w' (some b) ∧ w'.heap.size = w.heap.size := by
 have HM := Lib.hid (bmay_any b n hn)
 obtain ⟨hb, hl, hs⟩ := h
 obtain ⟨d, r, hdr, hr, hd1, hr1⟩ := split64 n
 have hd : d < 8 := by omega
 obtain ⟨x, hx⟩ : ∃ x, W.getD d 0 = x := ⟨_, rfl⟩
 have hx2 : x < 18446744073709551616 := by
  rw [← hx, show W.getD d 0 = W[d] by simp [show d < W.length by omega]]
  exact hs _ (List.getElem_mem _)
 have h1 := wordsB_at W d (by omega)
 rw [hx] at h1
 have c0 := hb.cell d h1
 clear h1
 have f0 := hb.frozen d
 have HB := Lib.hid hb
 have HE : RowKit.Hid (putB W n = W.set d (x ||| 2 ^ r)) := Lib.hid (by unfold putB; rw [hd1, hr1, hx])
 have HSm := Lib.hid (putB_small W n hs)
 have hp : 2 ^ r < 18446744073709551616 := by
  have := Nat.pow_lt_pow_right (a := 2) (by decide) hr
  simpa using this
 have hdi : (d : Int) < 8 := by omega
 have e1 : Int.tdiv (n : Int) 64 = (d : Int) := by rw [Int.tdiv_eq_ediv_of_nonneg (by omega)]; omega
 have e2 : Int.tmod (n : Int) 64 = (r : Int) := by rw [Int.tmod_eq_emod_of_nonneg (by omega)]; omega
 have e3 : IntKind.i64.wrap (d : Int) = (d : Int) := by rw [IntKind.wrap_i64]; omega
 have e4 : Op.shift .shl .u64 1 .i64 (r : Int) = pure (.int .u64 ((2 ^ r : Nat) : Int)) := by
  rw [shift_shl_any _ _ _ _ (by omega)]
  have h5 : min (r : Int).toNat IntKind.u64.bits = r := by
   show min (r : Int).toNat 64 = r
   omega
  have h6 : ∀ y : Nat, y < 18446744073709551616 → IntKind.u64.wrap (y : Int) = (y : Int) := fun y hy => by rw [IntKind.wrap_u64]; omega
  have h7 : (1 : Int) * 2 ^ r = ((2 ^ r : Nat) : Int) := by rw [Int.one_mul]; simp
  rw [h5, h7, h6 _ hp]
 have e5 : bits .or .u64 (x : Int) ((2 ^ r : Nat) : Int) = ((x ||| 2 ^ r : Nat) : Int) := u64_or_nat _ _ hx2 hp
 have HLn := Lib.hid hl
 generalize 2 ^ r = y at e4 e5 HE hp
 generalize x ||| y = z at e5 HE
 clear hb hs hx hd1 hr1 hl hdr hx2 hp hr
 go_enter Tryd.func39, Tryd.ntmps39
 go_wp2_with fail
 refine (HM.out _).mono ?_
 rintro e w1 ⟨rfl, hw⟩
 rw [hw]
 clear hw
 have HS : RowKit.Hid (∀ w', Below w.heap.size w w' → w'.cell? ⟨b, d, none⟩ = some (.int .u64 (x : Nat)) ∧ w'.frozen? ⟨b, d, none⟩ = false ∧ Below w.heap.size w w') := Lib.hid (fun w' hb => ⟨cell_later hb c0, (HB.out.later hb).frozen d, hb⟩)
 go_wp2_with fail
 refine wpk HS [14] (by kernel_rfl) fun hB0 hS0 => ?_
 refine wfr 0 (v := ?_) rfl ?_ ?_
 rotate_left
 ·intro w' hw';go_simp;try with_reducible rfl
 try simp only [Act.put, sq]
 refine wfr 1 (v := ?_) rfl ?_ ?_
 rotate_left
 ·intro w' hw';go_simp;try with_reducible rfl
 try simp only [Act.put, sq]
 refine wfr 2 (v := ?_) rfl ?_ ?_
 rotate_left
 ·intro w' hw';go_simp;try with_reducible rfl
 try simp only [Act.put, sq]
 refine wfr 3 (v := ?_) rfl ?_ ?_
 rotate_left
 ·intro w' hw';go_simp;try with_reducible rfl
 try simp only [Act.put, sq]
 refine wfr 4 (v := ?_) rfl ?_ ?_
 rotate_left
 ·intro w' hw';go_simp;try with_reducible rfl
 try simp only [Act.put, sq]
 refine wfr 5 (v := ?_) rfl ?_ ?_
 rotate_left
 ·intro w' hw';go_simp;try with_reducible rfl
 try simp only [Act.put, sq]
 refine wtk 6 15 (v := ?_) rfl ?_ hS0 ?_
 rotate_left
 ·intro w' hw';(try dsimp only at hw');go_simp;try with_reducible rfl
 try simp only [Act.put, sq]
 refine wfr 7 (v := ?_) rfl ?_ ?_
 rotate_left
 ·intro w' hw';go_simp;try with_reducible rfl
 try simp only [Act.put, sq]
 refine wfr 8 (v := ?_) rfl ?_ ?_
 rotate_left
 ·intro w' hw';go_simp;try with_reducible rfl
 try simp only [Act.put, sq]
 refine wfr 9 (v := ?_) rfl ?_ ?_
 rotate_left
 ·intro w' hw';go_simp;try with_reducible rfl
 try simp only [Act.put, sq]
 refine wfr 10 (v := ?_) rfl ?_ ?_
 rotate_left
 ·intro w' hw';go_simp;try with_reducible rfl
 try simp only [Act.put, sq]
 refine won 11 rfl fun K hK => ?_
 go_simp
 refine hK.out _ _ (fun _ h => h) ?_
 clear hK K
 try simp only [Act.put, sq]
 refine won 12 rfl fun K hK => ?_
 go_simp
 refine hK.out _ _ (fun _ h => h) ?_
 clear hK K
 try simp only [Act.put, sq]
 refine won 13 rfl fun K hK => ?_
 go_simp
 refine hK.out _ _ (fun _ h => h) ?_
 clear hK K
 try simp only [Act.put, sq]
 refine won 14 rfl fun K hK => ?_
 go_simp
 refine hK.out _ _ (fun h => absurd h (by decide)) ?_
 clear hK K
 try simp only [Act.put, sq]
 refine wpAnyM_done (by kernel_rfl) ?_ _
 try simp only [Act.put, sq]
 go_wp2_with fail
 go_ret
 exact ⟨rfl, ⟨by rw [HE.out, ← wordsB_set]; exact Blk.set (Blk.drew HB.out) d _, by rw [putB_len]; exact HLn.out, HSm.out⟩, ⟨rfl, rfl, rfl, by simp, fun k hk hne => Below.heap_setCell _ _ _ _ (fun e => hne (congrArg some e))⟩, by simp⟩
set_option maxRecDepth 100000 in
set_option maxHeartbeats 4000000 in
theorem bhas_any (b n : Nat) (W : List Nat) (w : World) (h : SetW w b W) (hn : n < 500) : Calls Tryd.prog 54 #[.pointer (some ⟨b, 0, none⟩), .int .i64 (n : Nat)] w fun e w' => e = .returned (.bool (hasB W n)) ∧ w' = w := by
 have HM := Lib.hid (bmay_any b n hn)
 obtain ⟨hb, hl, hs⟩ := h
 obtain ⟨d, r, hdr, hr, hd1, hr1⟩ := split64 n
 have hd : d < 8 := by omega
 obtain ⟨x, hx⟩ : ∃ x, W.getD d 0 = x := ⟨_, rfl⟩
 have h1 := wordsB_at W d (by omega)
 rw [hx] at h1
 have c0 := hb.cell d h1
 have hx2 : x < 18446744073709551616 := by
  rw [← hx, show W.getD d 0 = W[d] by simp [show d < W.length by omega]]
  exact hs _ (List.getElem_mem _)
 have hdi : (d : Int) < 8 := by omega
 have e1 : Int.tdiv (n : Int) 64 = (d : Int) := by rw [Int.tdiv_eq_ediv_of_nonneg (by omega)]; omega
 have e2 : Int.tmod (n : Int) 64 = (r : Int) := by rw [Int.tmod_eq_emod_of_nonneg (by omega)]; omega
 have e3 : IntKind.i64.wrap (d : Int) = (d : Int) := by rw [IntKind.wrap_i64]; omega
 have e4 : Op.shift .shr .u64 (x : Int) .i64 (r : Int) = pure (.int .u64 ((x / 2 ^ r : Nat) : Int)) := by
  rw [shift_shr_any _ _ _ _ (by omega)]
  have h5 : min (r : Int).toNat IntKind.u64.bits = r := by
   show min (r : Int).toNat 64 = r
   omega
  have h7 : (x : Int) / 2 ^ r = ((x / 2 ^ r : Nat) : Int) := by simp
  rw [h5, h7]
 have hy : x / 2 ^ r < 18446744073709551616 := Nat.lt_of_le_of_lt (Nat.div_le_self _ _) hx2
 have e5 : bits .and .u64 ((x / 2 ^ r : Nat) : Int) 1 = ((x / 2 ^ r % 2 : Nat) : Int) := by
  have h8 := u64_and_nat (x / 2 ^ r) 1 hy (by decide)
  rw [nat_mask1] at h8
  exact h8
 have HH : RowKit.Hid (hasB W n = decide (x / 2 ^ r % 2 = 1)) := Lib.hid (by unfold hasB; rw [hd1, hr1, hx, Nat.testBit_eq_decide_div_mod_eq])
 have h2 : x / 2 ^ r % 2 = 0 ∨ x / 2 ^ r % 2 = 1 := by omega
 generalize x / 2 ^ r % 2 = z at e5 HH h2
 generalize x / 2 ^ r = y at e4 e5
 clear hb hs hx hd1 hr1 hl hdr hx2 hr h1 hy
 rcases h2 with rfl | rfl
 all_goals
  go_enter Tryd.func54, Tryd.ntmps54
  go_wp2_with fail
  refine (HM.out _).mono ?_
  rintro e w1 ⟨rfl, hw⟩
  rw [hw]
  clear hw
  go_wp2_with fail
  go_ret
  exact ⟨by rw [HH.out] <;> rfl, rfl⟩
theorem none_set (w : World) : SetW (w.alloc (.cells (wordsB noB).toArray 93)) w.heap.size noB := ⟨Blk.new w _ _, rfl, by decide⟩
set_option maxRecDepth 100000 in
set_option maxHeartbeats 4000000 in
theorem bnew_any (w : World) : Calls Tryd.prog 35 #[.slice none 0 0] w fun e w' => e = .returned (.pointer (some ⟨w.heap.size, 0, none⟩)) ∧ w' = w.alloc (.cells (wordsB noB).toArray 93) := by
 go_enter Tryd.func35, Tryd.ntmps35
 go_wp2_with fail
 refine wp_loop_rounds 1 ?_
 rw [rounds_succ]
 go_wp2_with fail
 go_ret
 exact ⟨rfl, rfl⟩
end Go.Proofs.YtldcbapjiflblaaDoor
