/-
  The statement ScriptBack of layer 43 (script), walked. Conditions: the tables of words hold what their initialisers lay, internal/bytealg.MaxLen holds a number.
-/
import Derived.Test.YtphhgdgamnogpaaDoorG8t
namespace Go.Proofs.YtphhgdgamnogpaaDoor
open Go.RowKit Go.Lib

theorem writeS_len (L : List CmdM) (hn : ∀ x ∈ L, NumC x) : (writeS L).1.length ≤ 5600 := by
  by_cases h : (writeS L).2 = 0
  · unfold writeS at h ⊢
    by_cases h2 : 200 < L.length
    · rw [if_pos h2]; exact Nat.zero_le _
    · rw [if_neg h2] at h ⊢
      obtain ⟨h3, h4⟩ := put_text L [] h
      have := feed_len L (fun x hx => ⟨h4 x hx, hn x hx⟩)
      rw [h3, List.nil_append]
      omega
  · rw [writeS_err L h]; exact Nat.zero_le _
theorem rising_at {Z : List CmdM} (h : Rising Z) (k : Nat) (hk : k < Z.length) : mayC (Z.getD k noCmd) = true ∧ 1 ≤ (Z.getD k noCmd).1 ∧ ∀ j, k = j + 1 → (Z.getD j noCmd).1 < (Z.getD k noCmd).1 := by
  have e : ∀ i, i < Z.length → Z.getD i noCmd = Z[i]! := fun i hi => by simp [hi]
  have h1 := h.1 (Z.getD k noCmd) (by simp [hk])
  refine ⟨h1.1, h1.2, fun j hj => ?_⟩
  subst hj
  have h2 := List.pairwise_iff_getElem.1 h.2 j (j + 1) (by omega) hk (by omega)
  have e1 : Z.getD j noCmd = Z[j] := by simp [show j < Z.length by omega]
  have e2 : Z.getD (j + 1) noCmd = Z[j + 1] := by simp [hk]
  rw [e1, e2]
  exact h2
set_option maxRecDepth 100000 in
set_option maxHeartbeats 8000000 in
theorem scriptback_any (v : Value) (L : List CmdM) (l : List UInt8) (hs : l.length ≤ 9223372036854775807) (w : World) (hv : CmdsA w v L) (hm : HasMax w) (hS : ScTab w) :
    Calls Tryd.prog 7 #[v, .string (bs l)] w fun e w' => e = .returned (.bool true) ∧ Below w.heap.size w w' := by
  have hMod := cmdsA_mod hv
  have hl : (shortS l).length ≤ 1000000 := by have := shortS_len l; omega
  have HSh := Lib.hid (fun w' => scshort_any l hs w')
  have HPz := Lib.hid (fun w' (h : Below w.heap.size w w') => sparse_any (shortS l) hl w' (hm.below h) (hS.below h))
  have HMa := Lib.hid (fun x1 x2 x3 w' (h : Below w.heap.size w w') => smay_any x1 x2 x3 w' (hS.below h))
  have HRi := Lib.hid (fun k hk => rising_at (readS_rising (shortS l)) k hk)
  have HF : RowKit.Hid (∀ k, k < (readS (shortS l)).1.length → (readS (shortS l)).2.2 = 0) := Lib.hid (fun k hk => by
    by_cases h : (readS (shortS l)).2.2 = 0
    · exact h
    · rw [readS_err _ h] at hk; exact absurd hk (Nat.not_lt_zero k))
  have hZl := readS_len (shortS l)
  obtain ⟨⟨Z, N, F⟩, hR⟩ : ∃ R, readS (shortS l) = R := ⟨_, rfl⟩
  rw [hR] at HPz HRi HF hZl
  simp only at HPz HRi HF hZl
  obtain ⟨M, hMe⟩ : ∃ M, L.take 210 = M := ⟨_, rfl⟩
  have hML : M.length ≤ 210 := by rw [← hMe, List.length_take]; omega
  have hMod2 : ModC M := fun x hx => hMod x (by rw [← hMe] at hx; exact List.mem_of_mem_take hx)
  have HA := Lib.hid hv
  have HGv := Lib.hid (fun w' (h : CmdsA w' v L) => give_any v L w' h)
  rw [hMe] at HGv
  have HPr := Lib.hid (fun v' w' (h : CmdsS w' v' M) (hb : Below w.heap.size w w') => sprint43_any v' M w' h (by omega) hMod2 (hS.below hb))
  have hTl : (writeS M).1.length ≤ 1000000 := Nat.le_trans (writeS_len M hMod2) (by omega)
  have HP2 : RowKit.Hid ((writeS M).2 = 0 → ∀ w', Below w.heap.size w w' → Calls Tryd.prog 15 #[.string (bs (writeS M).1)] w' fun e w'' => ∃ v, e = .returned (.tuple #[v, .int .i64 0, .int .i64 0]) ∧ CmdsS w'' v (rowed M 0) ∧ Below w'.heap.size w' w'') := Lib.hid (fun h w' hb => by
    have h1 := sparse_any (writeS M).1 hTl w' (hm.below hb) (hS.below hb)
    rw [writeS_read M h hMod2] at h1
    exact h1)
  have HW := Lib.hid (scworks_any w hm hS)
  have HRo := Lib.hid (fun k (hk : k < M.length) => rowed_get M 0 k hk)
  have HRl := Lib.hid (rowed_len M 0)
  generalize (writeS M).1 = T1 at *
  generalize (writeS M).2 = E1 at *
  generalize shortS l = SS at *
  clear hm hS hMod hv hMe hl hTl hR hMod2
  go_enter Tryd.func7, Tryd.ntmps7
  go_wp2_with fail
  refine HW.out.mono ?_
  rintro e0 w0 ⟨rfl, hb0⟩
  have HA0 := Lib.hid (HA.out.below hb0)
  have HB0 := Lib.hid hb0
  clear hb0
  go_wp2_with fail
  refine (HGv.out _ HA0.out).mono ?_
  rintro e1 w1 ⟨v1, rfl, ho1, hb1⟩
  have HS1 := Lib.hid (own_sls noCmd cmc_len ho1)
  obtain ⟨p1, c1, rfl⟩ := owns_form ho1
  have HB1 := Lib.hid (below_next HB0.out hb1)
  clear ho1 hb1
  go_wp2_with fail
  refine (HPr.out _ _ HS1.out HB1.out).mono ?_
  rintro e2 w2 ⟨rfl, hb2⟩
  have HB2 := Lib.hid (below_next HB1.out hb2)
  have HS2 := Lib.hid (HS1.out.below hb2)
  clear hb2
  by_cases hE : E1 = 0
  · subst hE
    go_wp2_with fail
    refine (HP2.out (by first | rfl | trivial) _ HB2.out).mono ?_
    rintro e3 w3 ⟨v3, rfl, hv3, hb3⟩
    have HS3 := Lib.hid (HS2.out.below hb3)
    have HB3 := Lib.hid (below_next HB2.out hb3)
    have HV3 := Lib.hid hv3
    obtain ⟨p3, c3, rfl, -⟩ := hv3
    rw [HRl.out] at HV3 ⊢
    clear hb3
    go_wp2_with fail
    go_loopw [11] (fun i wr => ∃ k : Nat, k ≤ M.length ∧ i = .int .i64 k ∧ Below w3.heap.size w3 wr) (fun i _ => M.length - (RowKit.intOf i).toNat)
    case atStart => exact ⟨0, Nat.zero_le _, rfl, Below.refl _ _⟩
    case round =>
      obtain ⟨k, hk, rfl, hbw⟩ := hrel
      have HBr := Lib.hid (below_next HB3.out hbw)
      have hyr := HV3.out.below hbw
      have hxr := HS3.out.below hbw
      by_cases hk1 : k < M.length
      · have HBw := Lib.hid hbw
        obtain ⟨py, cy, ey, hcy⟩ := hyr
        injection ey with ey1 ey1b ey1c
        clear ey1b ey1c
        subst ey1
        obtain ⟨px, cx, ex, hcx⟩ := hxr
        injection ex with ex1 ex1b ex1c
        clear ex1b ex1c
        subst ex1
        obtain ⟨gy, rfl, hy⟩ := hcy k (by rw [HRl.out]; exact hk1)
        obtain ⟨gx, rfl, hx⟩ := hcx k hk1
        rw [HRo.out k hk1] at hy
        generalize M.getD k noCmd = x at hx hy
        obtain ⟨x1, x2, x3⟩ := x
        have y0 := hy 0 _ rfl
        have y1 := hy 1 _ rfl
        have y2 := hy 2 _ rfl
        have x0 := hx 1 _ rfl
        have x9 := hx 2 _ rfl
        simp only [Nat.add_zero, Nat.zero_add, onRow, Int.natCast_add, Int.cast_ofNat_Int] at y0 y1 y2 x0 x9
        clear hcx hcy hx hy hbw
        go_wp2_with fail
        go_quiet (fail)
        go_wp2_with fail
        go_roundw
        case rel => exact ⟨k + 1, by omega, by go_num, Go.below_drewN HBw.out _⟩
        case measure => simp [RowKit.intOf]; omega
      · have hke : k = M.length := by omega
        subst hke
        have HBt := Lib.hid HBr.out
        clear hyr hxr hbw
        go_wp2_with fail
        refine (HSh.out _).mono ?_
        rintro e9 w9 ⟨rfl, rfl⟩
        go_wp2_with fail
        refine (HPz.out _ HBt.out).mono ?_
        rintro e10 w10 ⟨vz, rfl, hvz, hb10⟩
        have HVz := Lib.hid hvz
        have HBz := Lib.hid (below_next HBt.out hb10)
        obtain ⟨pz, cz, rfl, -⟩ := hvz
        clear hb10
        go_wp2_with fail
        go_loopw [15] (fun i wr => ∃ k : Nat, k ≤ Z.length ∧ i = .int .i64 k ∧ Below w10.heap.size w10 wr) (fun i _ => Z.length - (RowKit.intOf i).toNat)
        case atStart => exact ⟨0, Nat.zero_le _, rfl, Below.refl _ _⟩
        case round =>
          obtain ⟨k, hk, rfl, hbw⟩ := hrel
          have hBr := below_next HBz.out hbw
          have hzr := HVz.out.below hbw
          obtain ⟨pz', cz', ez, hcz⟩ := hzr
          injection ez with ez1 ez1b ez1c
          clear ez1b ez1c
          subst ez1
          by_cases hk1 : k < Z.length
          · obtain rfl : F = 0 := HF.out k hk1
            obtain ⟨gz, rfl, hc0⟩ := hcz k hk1
            have HBw := Lib.hid hbw
            have hm0 := HRi.out k hk1
            rcases Nat.eq_zero_or_pos k with rfl | hpos
            · obtain ⟨⟨z1, z2, z3⟩, hZk⟩ : ∃ x, Z.getD 0 noCmd = x := ⟨_, rfl⟩
              rw [hZk] at hc0 hm0
              obtain ⟨hmay, hrow, -⟩ := hm0
              simp only at hrow
              have c0 := hc0 0 _ rfl
              have c1 := hc0 1 _ rfl
              have c2 := hc0 2 _ rfl
              simp only [Nat.add_zero] at c0 c1 c2
              have HMy := Lib.hid (fun w' h => HMa.out z1 z2 z3 w' h)
              unfold cmdV at HMy
              dsimp only at HMy
              rw [hmay] at HMy
              have hdr : decide (z1 < 1) = false := decide_eq_false (by omega)
              have HS : RowKit.Hid (∀ w', Below wr.heap.size wr w' → (w'.cell? ⟨gz, 0 * 3, none⟩ = some (.int .i64 z1) ∧ w'.cell? ⟨gz, 0 * 3 + 1, none⟩ = some (.int .i64 z2) ∧ w'.cell? ⟨gz, 0 * 3 + 2, none⟩ = some (.int .i64 z3) ∧ Below wr.heap.size wr w')) := Lib.hid (fun w' hb => ⟨cell_later hb c0, cell_later hb c1, cell_later hb c2, hb⟩)
              clear hmay hc0 hZk hcz hrow hbw
              go_wp2_with fail
              refine wp_region_keep (fun w' => w'.cell? ⟨gz, 0 * 3, none⟩ = some (.int .i64 z1) ∧ w'.cell? ⟨gz, 0 * 3 + 1, none⟩ = some (.int .i64 z2) ∧ w'.cell? ⟨gz, 0 * 3 + 2, none⟩ = some (.int .i64 z3) ∧ Below wr.heap.size wr w') [] (by kernel_rfl) ?_
              have hB0 : Below (wr).heap.size (wr) (wr).drew := Below.drew (Below.refl _ _)
              have hS0 := HS.out _ hB0
              refine wpAnyM_one 0 rfl (by kernel_rfl) (fun K hK => ?_)
              go_simp
              refine hK.out _ _ (fun _ h => h) ?_
              clear hK K
              try simp only [Act.put, List.setIfInBounds_toArray, List.set_cons_zero, List.set_cons_succ]
              refine wpAnyM_one 1 rfl (by kernel_rfl) (fun K hK => ?_)
              go_simp
              refine hK.out _ _ (fun _ h => h) ?_
              clear hK K
              try simp only [Act.put, List.setIfInBounds_toArray, List.set_cons_zero, List.set_cons_succ]
              refine wpAnyM_one 2 rfl (by kernel_rfl) (fun K hK => ?_)
              go_simp
              refine hK.out _ _ (fun _ h => h) ?_
              clear hK K
              try simp only [Act.put, List.setIfInBounds_toArray, List.set_cons_zero, List.set_cons_succ]
              refine wpAnyM_free 3 (v := ?_) rfl (by kernel_rfl) (by kernel_rfl) (by kernel_rfl) (fun _ _ _ h => h) (Or.inl ⟨by rfl, ?_⟩) ?_
              rotate_left
              · intro w' hw'
                go_simp
                try with_reducible rfl
              try simp only [Act.put, List.setIfInBounds_toArray, List.set_cons_zero, List.set_cons_succ]
              refine wpAnyM_one 4 rfl (by kernel_rfl) (fun K hK => ?_)
              go_simp
              refine hK.out _ _ (fun _ h => h) ?_
              clear hK K
              try simp only [Act.put, List.setIfInBounds_toArray, List.set_cons_zero, List.set_cons_succ]
              refine wpAnyM_one 5 rfl (by kernel_rfl) (fun K hK => ?_)
              go_simp
              refine hK.out _ _ (fun _ h => h) ?_
              clear hK K
              try simp only [Act.put, List.setIfInBounds_toArray, List.set_cons_zero, List.set_cons_succ]
              refine wpAnyM_one 6 rfl (by kernel_rfl) (fun K hK => ?_)
              go_simp
              refine hK.out _ _ (fun _ h => h) ?_
              clear hK K
              try simp only [Act.put, List.setIfInBounds_toArray, List.set_cons_zero, List.set_cons_succ]
              refine wpAnyM_one 7 rfl (by kernel_rfl) (fun K hK => ?_)
              go_simp
              refine (HMy.out _ (below_next hBr hB0)).mono ?_
              rintro e w1 ⟨rfl, hb1⟩
              have hB1 := below_next hB0 hb1
              have hS1 := HS.out _ hB1
              refine hK.out _ _ (fun _ _ => hS1) ?_
              clear hK K hS0
              try simp only [Act.put, List.setIfInBounds_toArray, List.set_cons_zero, List.set_cons_succ]
              refine wpAnyM_one 8 rfl (by kernel_rfl) (fun K hK => ?_)
              go_simp
              refine hK.out _ _ (fun _ h => h) ?_
              clear hK K
              try simp only [Act.put, List.setIfInBounds_toArray, List.set_cons_zero, List.set_cons_succ]
              refine wpAnyM_one 9 rfl (by kernel_rfl) (fun K hK => ?_)
              go_simp
              refine hK.out _ _ (fun _ h => h) ?_
              clear hK K
              try simp only [Act.put, List.setIfInBounds_toArray, List.set_cons_zero, List.set_cons_succ]
              refine wpAnyM_one 10 rfl (by kernel_rfl) (fun K hK => ?_)
              go_simp
              refine hK.out _ _ (fun _ h => h) ?_
              clear hK K
              try simp only [Act.put, List.setIfInBounds_toArray, List.set_cons_zero, List.set_cons_succ]
              refine wpAnyM_free 11 (v := ?_) rfl (by kernel_rfl) (by kernel_rfl) (by kernel_rfl) (fun _ _ _ h => h) (Or.inl ⟨by rfl, ?_⟩) ?_
              rotate_left
              · intro w' hw'
                go_simp
                try with_reducible rfl
              try simp only [Act.put, List.setIfInBounds_toArray, List.set_cons_zero, List.set_cons_succ]
              refine wpAnyM_one 12 rfl (by kernel_rfl) (fun K hK => ?_)
              go_simp
              refine hK.out _ _ (fun _ h => h) ?_
              clear hK K
              try simp only [Act.put, List.setIfInBounds_toArray, List.set_cons_zero, List.set_cons_succ]
              refine wpAnyM_one 13 rfl (by kernel_rfl) (fun K hK => ?_)
              go_simp
              refine hK.out _ _ (fun _ h => h) ?_
              clear hK K
              try simp only [Act.put, List.setIfInBounds_toArray, List.set_cons_zero, List.set_cons_succ]
              refine wpAnyM_one 14 rfl (by kernel_rfl) (fun K hK => ?_)
              go_simp
              refine hK.out _ _ (fun _ h => h) ?_
              clear hK K
              try simp only [Act.put, List.setIfInBounds_toArray, List.set_cons_zero, List.set_cons_succ]
              refine wpAnyM_one 15 rfl (by kernel_rfl) (fun K hK => ?_)
              go_simp
              refine hK.out _ _ (fun _ h => h) ?_
              clear hK K
              try simp only [Act.put, List.setIfInBounds_toArray, List.set_cons_zero, List.set_cons_succ]
              refine wpAnyM_one 16 rfl (by kernel_rfl) (fun K hK => ?_)
              go_simp
              refine hK.out _ _ (fun _ h => h) ?_
              clear hK K
              try simp only [Act.put, List.setIfInBounds_toArray, List.set_cons_zero, List.set_cons_succ]
              refine wpAnyM_one 17 rfl (by kernel_rfl) (fun K hK => ?_)
              go_simp
              refine hK.out _ _ (fun _ h => h) ?_
              clear hK K
              try simp only [Act.put, List.setIfInBounds_toArray, List.set_cons_zero, List.set_cons_succ]
              refine wpAnyM_one 18 rfl (by kernel_rfl) (fun K hK => ?_)
              go_simp
              refine hK.out _ _ (fun _ h => h) ?_
              clear hK K
              try simp only [Act.put, List.setIfInBounds_toArray, List.set_cons_zero, List.set_cons_succ]
              refine wpAnyM_one 19 rfl (by kernel_rfl) (fun K hK => ?_)
              go_simp
              refine hK.out _ _ (fun _ h => h) ?_
              clear hK K
              try simp only [Act.put, List.setIfInBounds_toArray, List.set_cons_zero, List.set_cons_succ]
              refine wpAnyM_one 20 rfl (by kernel_rfl) (fun K hK => ?_)
              go_simp
              refine hK.out _ _ (fun _ h => h) ?_
              clear hK K
              try simp only [Act.put, List.setIfInBounds_toArray, List.set_cons_zero, List.set_cons_succ]
              refine wpAnyM_one 21 rfl (by kernel_rfl) (fun K hK => ?_)
              go_simp
              refine hK.out _ _ (fun _ h => h) ?_
              clear hK K
              try simp only [Act.put, List.setIfInBounds_toArray, List.set_cons_zero, List.set_cons_succ]
              refine wpAnyM_free 22 (v := undef) rfl (by kernel_rfl) (by kernel_rfl) (by kernel_rfl) (fun _ _ _ h => h) (Or.inr ⟨by rfl, rfl⟩) ?_
              try simp only [Act.put, List.setIfInBounds_toArray, List.set_cons_zero, List.set_cons_succ]
              refine wpAnyM_free 23 (v := undef) rfl (by kernel_rfl) (by kernel_rfl) (by kernel_rfl) (fun _ _ _ h => h) (Or.inr ⟨by rfl, rfl⟩) ?_
              try simp only [Act.put, List.setIfInBounds_toArray, List.set_cons_zero, List.set_cons_succ]
              refine wpAnyM_free 24 (v := undef) rfl (by kernel_rfl) (by kernel_rfl) (by kernel_rfl) (fun _ _ _ h => h) (Or.inr ⟨by rfl, rfl⟩) ?_
              try simp only [Act.put, List.setIfInBounds_toArray, List.set_cons_zero, List.set_cons_succ]
              refine wpAnyM_free 25 (v := undef) rfl (by kernel_rfl) (by kernel_rfl) (by kernel_rfl) (fun _ _ _ h => h) (Or.inr ⟨by rfl, rfl⟩) ?_
              try simp only [Act.put, List.setIfInBounds_toArray, List.set_cons_zero, List.set_cons_succ]
              refine wpAnyM_free 26 (v := undef) rfl (by kernel_rfl) (by kernel_rfl) (by kernel_rfl) (fun _ _ _ h => h) (Or.inr ⟨by rfl, rfl⟩) ?_
              try simp only [Act.put, List.setIfInBounds_toArray, List.set_cons_zero, List.set_cons_succ]
              refine wpAnyM_free 27 (v := undef) rfl (by kernel_rfl) (by kernel_rfl) (by kernel_rfl) (fun _ _ _ h => h) (Or.inr ⟨by rfl, rfl⟩) ?_
              try simp only [Act.put, List.setIfInBounds_toArray, List.set_cons_zero, List.set_cons_succ]
              refine wpAnyM_free 28 (v := undef) rfl (by kernel_rfl) (by kernel_rfl) (by kernel_rfl) (fun _ _ _ h => h) (Or.inr ⟨by rfl, rfl⟩) ?_
              try simp only [Act.put, List.setIfInBounds_toArray, List.set_cons_zero, List.set_cons_succ]
              refine wpAnyM_one 29 rfl (by kernel_rfl) (fun K hK => ?_)
              go_simp
              refine hK.out _ _ (fun _ h => h) ?_
              clear hK K
              try simp only [Act.put, List.setIfInBounds_toArray, List.set_cons_zero, List.set_cons_succ]
              refine wpAnyM_one 30 rfl (by kernel_rfl) (fun K hK => ?_)
              go_simp
              refine hK.out _ _ (fun _ h => h) ?_
              clear hK K
              try simp only [Act.put, List.setIfInBounds_toArray, List.set_cons_zero, List.set_cons_succ]
              refine wpAnyM_one 31 rfl (by kernel_rfl) (fun K hK => ?_)
              go_simp
              refine hK.out _ _ (fun _ h => h) ?_
              clear hK K
              try simp only [Act.put, List.setIfInBounds_toArray, List.set_cons_zero, List.set_cons_succ]
              refine wpAnyM_one 32 rfl (by kernel_rfl) (fun K hK => ?_)
              go_simp
              refine hK.out _ _ (fun _ h => h) ?_
              clear hK K
              try simp only [Act.put, List.setIfInBounds_toArray, List.set_cons_zero, List.set_cons_succ]
              refine wpAnyM_one 33 rfl (by kernel_rfl) (fun K hK => ?_)
              go_simp
              refine hK.out _ _ (fun _ h => h) ?_
              clear hK K
              try simp only [Act.put, List.setIfInBounds_toArray, List.set_cons_zero, List.set_cons_succ]
              refine wpAnyM_one 34 rfl (by kernel_rfl) (fun K hK => ?_)
              go_simp
              refine hK.out _ _ (fun _ h => h) ?_
              clear hK K
              try simp only [Act.put, List.setIfInBounds_toArray, List.set_cons_zero, List.set_cons_succ]
              refine wpAnyM_one 35 rfl (by kernel_rfl) (fun K hK => ?_)
              go_simp
              refine hK.out _ _ (fun _ h => h) ?_
              clear hK K
              try simp only [Act.put, List.setIfInBounds_toArray, List.set_cons_zero, List.set_cons_succ]
              refine wpAnyM_done (by kernel_rfl) ?_ _
              try simp only [Act.put, List.setIfInBounds_toArray, List.set_cons_zero, List.set_cons_succ]
              have hbf := below_next HBw.out hB1
              clear hS1 hB1 hb1 hB0
              go_wp2_with fail
              go_roundw
              case rel => exact ⟨1, by omega, by go_num, hbf⟩
              case measure => simp [RowKit.intOf]; omega
            · obtain ⟨j, rfl⟩ : ∃ j, k = j + 1 := ⟨k - 1, by omega⟩
              obtain ⟨gz', eg, hcj⟩ := hcz j (by omega)
              injection eg with eg
              injection eg with eg1
              subst eg1
              obtain ⟨⟨z1, z2, z3⟩, hZk⟩ : ∃ x, Z.getD (j + 1) noCmd = x := ⟨_, rfl⟩
              obtain ⟨⟨y1, y2, y3⟩, hZj⟩ : ∃ x, Z.getD j noCmd = x := ⟨_, rfl⟩
              rw [hZk] at hc0 hm0
              rw [hZj] at hcj
              obtain ⟨hmay, hrow, hris⟩ := hm0
              have hris := hris j rfl
              rw [hZj] at hris
              simp only at hrow hris
              have c0 := hc0 0 _ rfl
              have c1 := hc0 1 _ rfl
              have c2 := hc0 2 _ rfl
              have c3 := hcj 0 _ rfl
              simp only [Nat.add_zero] at c0 c1 c2 c3
              have HMy := Lib.hid (fun w' h => HMa.out z1 z2 z3 w' h)
              unfold cmdV at HMy
              dsimp only at HMy
              rw [hmay] at HMy
              have hdr : decide (z1 < 1) = false := decide_eq_false (by omega)
              have f1 : IntKind.i64.wrap ((j : Int) + 1 - 1) = (j : Int) := by rw [Int.add_sub_cancel]; exact IntWalk.i64_in _ (by omega)
              have f2 : IntKind.i64.wrap ((j : Int)) = (j : Int) := IntWalk.i64_in _ (by omega)
              have f3 : j < Z.length := by omega
              have hdq : decide (z1 ≤ y1) = false := decide_eq_false (by omega)
              have HS : RowKit.Hid (∀ w', Below wr.heap.size wr w' → (w'.cell? ⟨gz, (j + 1) * 3, none⟩ = some (.int .i64 z1) ∧ w'.cell? ⟨gz, (j + 1) * 3 + 1, none⟩ = some (.int .i64 z2) ∧ w'.cell? ⟨gz, (j + 1) * 3 + 2, none⟩ = some (.int .i64 z3) ∧ w'.cell? ⟨gz, j * 3, none⟩ = some (.int .i64 y1) ∧ Below wr.heap.size wr w')) := Lib.hid (fun w' hb => ⟨cell_later hb c0, cell_later hb c1, cell_later hb c2, cell_later hb c3, hb⟩)
              clear hmay hc0 hcj hZk hZj hcz hrow hris hbw
              go_wp2_with fail
              refine wp_region_keep (fun w' => w'.cell? ⟨gz, (j + 1) * 3, none⟩ = some (.int .i64 z1) ∧ w'.cell? ⟨gz, (j + 1) * 3 + 1, none⟩ = some (.int .i64 z2) ∧ w'.cell? ⟨gz, (j + 1) * 3 + 2, none⟩ = some (.int .i64 z3) ∧ w'.cell? ⟨gz, j * 3, none⟩ = some (.int .i64 y1) ∧ Below wr.heap.size wr w') [] (by kernel_rfl) ?_
              have hB0 : Below (wr).heap.size (wr) (wr).drew := Below.drew (Below.refl _ _)
              have hS0 := HS.out _ hB0
              refine wpAnyM_one 0 rfl (by kernel_rfl) (fun K hK => ?_)
              go_simp
              refine hK.out _ _ (fun _ h => h) ?_
              clear hK K
              try simp only [Act.put, List.setIfInBounds_toArray, List.set_cons_zero, List.set_cons_succ]
              refine wpAnyM_one 1 rfl (by kernel_rfl) (fun K hK => ?_)
              go_simp
              refine hK.out _ _ (fun _ h => h) ?_
              clear hK K
              try simp only [Act.put, List.setIfInBounds_toArray, List.set_cons_zero, List.set_cons_succ]
              refine wpAnyM_one 2 rfl (by kernel_rfl) (fun K hK => ?_)
              go_simp
              refine hK.out _ _ (fun _ h => h) ?_
              clear hK K
              try simp only [Act.put, List.setIfInBounds_toArray, List.set_cons_zero, List.set_cons_succ]
              refine wpAnyM_free 3 (v := ?_) rfl (by kernel_rfl) (by kernel_rfl) (by kernel_rfl) (fun _ _ _ h => h) (Or.inl ⟨by rfl, ?_⟩) ?_
              rotate_left
              · intro w' hw'
                go_simp
                try with_reducible rfl
              try simp only [Act.put, List.setIfInBounds_toArray, List.set_cons_zero, List.set_cons_succ]
              refine wpAnyM_one 4 rfl (by kernel_rfl) (fun K hK => ?_)
              go_simp
              refine hK.out _ _ (fun _ h => h) ?_
              clear hK K
              try simp only [Act.put, List.setIfInBounds_toArray, List.set_cons_zero, List.set_cons_succ]
              refine wpAnyM_one 5 rfl (by kernel_rfl) (fun K hK => ?_)
              go_simp
              refine hK.out _ _ (fun _ h => h) ?_
              clear hK K
              try simp only [Act.put, List.setIfInBounds_toArray, List.set_cons_zero, List.set_cons_succ]
              refine wpAnyM_one 6 rfl (by kernel_rfl) (fun K hK => ?_)
              go_simp
              refine hK.out _ _ (fun _ h => h) ?_
              clear hK K
              try simp only [Act.put, List.setIfInBounds_toArray, List.set_cons_zero, List.set_cons_succ]
              refine wpAnyM_one 7 rfl (by kernel_rfl) (fun K hK => ?_)
              go_simp
              refine (HMy.out _ (below_next hBr hB0)).mono ?_
              rintro e w1 ⟨rfl, hb1⟩
              have hB1 := below_next hB0 hb1
              have hS1 := HS.out _ hB1
              refine hK.out _ _ (fun _ _ => hS1) ?_
              clear hK K hS0
              try simp only [Act.put, List.setIfInBounds_toArray, List.set_cons_zero, List.set_cons_succ]
              refine wpAnyM_one 8 rfl (by kernel_rfl) (fun K hK => ?_)
              go_simp
              refine hK.out _ _ (fun _ h => h) ?_
              clear hK K
              try simp only [Act.put, List.setIfInBounds_toArray, List.set_cons_zero, List.set_cons_succ]
              refine wpAnyM_one 9 rfl (by kernel_rfl) (fun K hK => ?_)
              go_simp
              refine hK.out _ _ (fun _ h => h) ?_
              clear hK K
              try simp only [Act.put, List.setIfInBounds_toArray, List.set_cons_zero, List.set_cons_succ]
              refine wpAnyM_one 10 rfl (by kernel_rfl) (fun K hK => ?_)
              go_simp
              refine hK.out _ _ (fun _ h => h) ?_
              clear hK K
              try simp only [Act.put, List.setIfInBounds_toArray, List.set_cons_zero, List.set_cons_succ]
              refine wpAnyM_free 11 (v := ?_) rfl (by kernel_rfl) (by kernel_rfl) (by kernel_rfl) (fun _ _ _ h => h) (Or.inl ⟨by rfl, ?_⟩) ?_
              rotate_left
              · intro w' hw'
                go_simp
                try with_reducible rfl
              try simp only [Act.put, List.setIfInBounds_toArray, List.set_cons_zero, List.set_cons_succ]
              refine wpAnyM_one 12 rfl (by kernel_rfl) (fun K hK => ?_)
              go_simp
              refine hK.out _ _ (fun _ h => h) ?_
              clear hK K
              try simp only [Act.put, List.setIfInBounds_toArray, List.set_cons_zero, List.set_cons_succ]
              refine wpAnyM_one 13 rfl (by kernel_rfl) (fun K hK => ?_)
              go_simp
              refine hK.out _ _ (fun _ h => h) ?_
              clear hK K
              try simp only [Act.put, List.setIfInBounds_toArray, List.set_cons_zero, List.set_cons_succ]
              refine wpAnyM_one 14 rfl (by kernel_rfl) (fun K hK => ?_)
              go_simp
              refine hK.out _ _ (fun _ h => h) ?_
              clear hK K
              try simp only [Act.put, List.setIfInBounds_toArray, List.set_cons_zero, List.set_cons_succ]
              refine wpAnyM_one 15 rfl (by kernel_rfl) (fun K hK => ?_)
              go_simp
              refine hK.out _ _ (fun _ h => h) ?_
              clear hK K
              try simp only [Act.put, List.setIfInBounds_toArray, List.set_cons_zero, List.set_cons_succ]
              refine wpAnyM_one 16 rfl (by kernel_rfl) (fun K hK => ?_)
              go_simp
              refine hK.out _ _ (fun _ h => h) ?_
              clear hK K
              try simp only [Act.put, List.setIfInBounds_toArray, List.set_cons_zero, List.set_cons_succ]
              refine wpAnyM_one 17 rfl (by kernel_rfl) (fun K hK => ?_)
              go_simp
              refine hK.out _ _ (fun _ h => h) ?_
              clear hK K
              try simp only [Act.put, List.setIfInBounds_toArray, List.set_cons_zero, List.set_cons_succ]
              refine wpAnyM_one 18 rfl (by kernel_rfl) (fun K hK => ?_)
              go_simp
              refine hK.out _ _ (fun _ h => h) ?_
              clear hK K
              try simp only [Act.put, List.setIfInBounds_toArray, List.set_cons_zero, List.set_cons_succ]
              refine wpAnyM_one 19 rfl (by kernel_rfl) (fun K hK => ?_)
              go_simp
              refine hK.out _ _ (fun _ h => h) ?_
              clear hK K
              try simp only [Act.put, List.setIfInBounds_toArray, List.set_cons_zero, List.set_cons_succ]
              refine wpAnyM_one 20 rfl (by kernel_rfl) (fun K hK => ?_)
              go_simp
              refine hK.out _ _ (fun _ h => h) ?_
              clear hK K
              try simp only [Act.put, List.setIfInBounds_toArray, List.set_cons_zero, List.set_cons_succ]
              refine wpAnyM_one 21 rfl (by kernel_rfl) (fun K hK => ?_)
              go_simp
              refine hK.out _ _ (fun _ h => h) ?_
              clear hK K
              try simp only [Act.put, List.setIfInBounds_toArray, List.set_cons_zero, List.set_cons_succ]
              refine wpAnyM_free 22 (v := ?_) rfl (by kernel_rfl) (by kernel_rfl) (by kernel_rfl) (fun _ _ _ h => h) (Or.inl ⟨by rfl, ?_⟩) ?_
              rotate_left
              · intro w' hw'
                go_simp
                try with_reducible rfl
              try simp only [Act.put, List.setIfInBounds_toArray, List.set_cons_zero, List.set_cons_succ]
              refine wpAnyM_free 23 (v := ?_) rfl (by kernel_rfl) (by kernel_rfl) (by kernel_rfl) (fun _ _ _ h => h) (Or.inl ⟨by rfl, ?_⟩) ?_
              rotate_left
              · intro w' hw'
                go_simp
                try with_reducible rfl
              try simp only [Act.put, List.setIfInBounds_toArray, List.set_cons_zero, List.set_cons_succ]
              refine wpAnyM_free 24 (v := ?_) rfl (by kernel_rfl) (by kernel_rfl) (by kernel_rfl) (fun _ _ _ h => h) (Or.inl ⟨by rfl, ?_⟩) ?_
              rotate_left
              · intro w' hw'
                go_simp
                try with_reducible rfl
              try simp only [Act.put, List.setIfInBounds_toArray, List.set_cons_zero, List.set_cons_succ]
              refine wpAnyM_free 25 (v := ?_) rfl (by kernel_rfl) (by kernel_rfl) (by kernel_rfl) (fun _ _ _ h => h) (Or.inl ⟨by rfl, ?_⟩) ?_
              rotate_left
              · intro w' hw'
                go_simp
                try with_reducible rfl
              try simp only [Act.put, List.setIfInBounds_toArray, List.set_cons_zero, List.set_cons_succ]
              refine wpAnyM_free 26 (v := ?_) rfl (by kernel_rfl) (by kernel_rfl) (by kernel_rfl) (fun _ _ _ h => h) (Or.inl ⟨by rfl, ?_⟩) ?_
              rotate_left
              · intro w' hw'
                go_simp
                try with_reducible rfl
              try simp only [Act.put, List.setIfInBounds_toArray, List.set_cons_zero, List.set_cons_succ]
              refine wpAnyM_take 27 36 (v := ?_) rfl (by kernel_rfl) (by kernel_rfl) (by kernel_rfl) (by kernel_rfl) (by kernel_rfl) (fun _ _ _ h => h) (Or.inl ⟨by rfl, ?_⟩) hS1 ?_
              rotate_left
              · intro w' hw'
                try dsimp only at hw'
                go_simp
                try with_reducible rfl
              try simp only [Act.put, List.setIfInBounds_toArray, List.set_cons_zero, List.set_cons_succ]
              refine wpAnyM_free 28 (v := ?_) rfl (by kernel_rfl) (by kernel_rfl) (by kernel_rfl) (fun _ _ _ h => h) (Or.inl ⟨by rfl, ?_⟩) ?_
              rotate_left
              · intro w' hw'
                go_simp
                try with_reducible rfl
              try simp only [Act.put, List.setIfInBounds_toArray, List.set_cons_zero, List.set_cons_succ]
              refine wpAnyM_one 29 rfl (by kernel_rfl) (fun K hK => ?_)
              go_simp
              refine hK.out _ _ (fun _ h => h) ?_
              clear hK K
              try simp only [Act.put, List.setIfInBounds_toArray, List.set_cons_zero, List.set_cons_succ]
              refine wpAnyM_one 30 rfl (by kernel_rfl) (fun K hK => ?_)
              go_simp
              refine hK.out _ _ (fun _ h => h) ?_
              clear hK K
              try simp only [Act.put, List.setIfInBounds_toArray, List.set_cons_zero, List.set_cons_succ]
              refine wpAnyM_one 31 rfl (by kernel_rfl) (fun K hK => ?_)
              go_simp
              refine hK.out _ _ (fun _ h => h) ?_
              clear hK K
              try simp only [Act.put, List.setIfInBounds_toArray, List.set_cons_zero, List.set_cons_succ]
              refine wpAnyM_one 32 rfl (by kernel_rfl) (fun K hK => ?_)
              go_simp
              refine hK.out _ _ (fun _ h => h) ?_
              clear hK K
              try simp only [Act.put, List.setIfInBounds_toArray, List.set_cons_zero, List.set_cons_succ]
              refine wpAnyM_one 33 rfl (by kernel_rfl) (fun K hK => ?_)
              go_simp
              refine hK.out _ _ (fun _ h => h) ?_
              clear hK K
              try simp only [Act.put, List.setIfInBounds_toArray, List.set_cons_zero, List.set_cons_succ]
              refine wpAnyM_one 34 rfl (by kernel_rfl) (fun K hK => ?_)
              go_simp
              refine hK.out _ _ (fun _ h => h) ?_
              clear hK K
              try simp only [Act.put, List.setIfInBounds_toArray, List.set_cons_zero, List.set_cons_succ]
              refine wpAnyM_one 35 rfl (by kernel_rfl) (fun K hK => ?_)
              go_simp
              refine hK.out _ _ (fun _ h => h) ?_
              clear hK K
              try simp only [Act.put, List.setIfInBounds_toArray, List.set_cons_zero, List.set_cons_succ]
              refine wpAnyM_done (by kernel_rfl) ?_ _
              try simp only [Act.put, List.setIfInBounds_toArray, List.set_cons_zero, List.set_cons_succ]
              have hbf := below_next HBw.out hB1
              clear hS1 hB1 hb1 hB0
              go_wp2_with fail
              go_roundw
              case rel => exact ⟨j + 1 + 1, by omega, by go_num, hbf⟩
              case measure => simp [RowKit.intOf]; omega
          · have hke : k = Z.length := by omega
            subst hke
            have HBr := Lib.hid hBr
            clear hcz hBr
            go_wp2_with fail
            go_ret
            exact ⟨rfl, HBr.out⟩
  · have HBt := Lib.hid HB2.out
    go_wp2_with fail
    refine (HSh.out _).mono ?_
    rintro e9 w9 ⟨rfl, rfl⟩
    go_wp2_with fail
    refine (HPz.out _ HBt.out).mono ?_
    rintro e10 w10 ⟨vz, rfl, hvz, hb10⟩
    have HVz := Lib.hid hvz
    have HBz := Lib.hid (below_next HBt.out hb10)
    obtain ⟨pz, cz, rfl, -⟩ := hvz
    clear hb10
    go_wp2_with fail
    go_loopw [15] (fun i wr => ∃ k : Nat, k ≤ Z.length ∧ i = .int .i64 k ∧ Below w10.heap.size w10 wr) (fun i _ => Z.length - (RowKit.intOf i).toNat)
    case atStart => exact ⟨0, Nat.zero_le _, rfl, Below.refl _ _⟩
    case round =>
      obtain ⟨k, hk, rfl, hbw⟩ := hrel
      have hBr := below_next HBz.out hbw
      have hzr := HVz.out.below hbw
      obtain ⟨pz', cz', ez, hcz⟩ := hzr
      injection ez with ez1 ez1b ez1c
      clear ez1b ez1c
      subst ez1
      by_cases hk1 : k < Z.length
      · obtain rfl : F = 0 := HF.out k hk1
        obtain ⟨gz, rfl, hc0⟩ := hcz k hk1
        have HBw := Lib.hid hbw
        have hm0 := HRi.out k hk1
        rcases Nat.eq_zero_or_pos k with rfl | hpos
        · obtain ⟨⟨z1, z2, z3⟩, hZk⟩ : ∃ x, Z.getD 0 noCmd = x := ⟨_, rfl⟩
          rw [hZk] at hc0 hm0
          obtain ⟨hmay, hrow, -⟩ := hm0
          simp only at hrow
          have c0 := hc0 0 _ rfl
          have c1 := hc0 1 _ rfl
          have c2 := hc0 2 _ rfl
          simp only [Nat.add_zero] at c0 c1 c2
          have HMy := Lib.hid (fun w' h => HMa.out z1 z2 z3 w' h)
          unfold cmdV at HMy
          dsimp only at HMy
          rw [hmay] at HMy
          have hdr : decide (z1 < 1) = false := decide_eq_false (by omega)
          have HS : RowKit.Hid (∀ w', Below wr.heap.size wr w' → (w'.cell? ⟨gz, 0 * 3, none⟩ = some (.int .i64 z1) ∧ w'.cell? ⟨gz, 0 * 3 + 1, none⟩ = some (.int .i64 z2) ∧ w'.cell? ⟨gz, 0 * 3 + 2, none⟩ = some (.int .i64 z3) ∧ Below wr.heap.size wr w')) := Lib.hid (fun w' hb => ⟨cell_later hb c0, cell_later hb c1, cell_later hb c2, hb⟩)
          clear hmay hc0 hZk hcz hrow hbw
          go_wp2_with fail
          refine wp_region_keep (fun w' => w'.cell? ⟨gz, 0 * 3, none⟩ = some (.int .i64 z1) ∧ w'.cell? ⟨gz, 0 * 3 + 1, none⟩ = some (.int .i64 z2) ∧ w'.cell? ⟨gz, 0 * 3 + 2, none⟩ = some (.int .i64 z3) ∧ Below wr.heap.size wr w') [] (by kernel_rfl) ?_
          have hB0 : Below (wr).heap.size (wr) (wr).drew := Below.drew (Below.refl _ _)
          have hS0 := HS.out _ hB0
          refine wpAnyM_one 0 rfl (by kernel_rfl) (fun K hK => ?_)
          go_simp
          refine hK.out _ _ (fun _ h => h) ?_
          clear hK K
          try simp only [Act.put, List.setIfInBounds_toArray, List.set_cons_zero, List.set_cons_succ]
          refine wpAnyM_one 1 rfl (by kernel_rfl) (fun K hK => ?_)
          go_simp
          refine hK.out _ _ (fun _ h => h) ?_
          clear hK K
          try simp only [Act.put, List.setIfInBounds_toArray, List.set_cons_zero, List.set_cons_succ]
          refine wpAnyM_one 2 rfl (by kernel_rfl) (fun K hK => ?_)
          go_simp
          refine hK.out _ _ (fun _ h => h) ?_
          clear hK K
          try simp only [Act.put, List.setIfInBounds_toArray, List.set_cons_zero, List.set_cons_succ]
          refine wpAnyM_free 3 (v := ?_) rfl (by kernel_rfl) (by kernel_rfl) (by kernel_rfl) (fun _ _ _ h => h) (Or.inl ⟨by rfl, ?_⟩) ?_
          rotate_left
          · intro w' hw'
            go_simp
            try with_reducible rfl
          try simp only [Act.put, List.setIfInBounds_toArray, List.set_cons_zero, List.set_cons_succ]
          refine wpAnyM_one 4 rfl (by kernel_rfl) (fun K hK => ?_)
          go_simp
          refine hK.out _ _ (fun _ h => h) ?_
          clear hK K
          try simp only [Act.put, List.setIfInBounds_toArray, List.set_cons_zero, List.set_cons_succ]
          refine wpAnyM_one 5 rfl (by kernel_rfl) (fun K hK => ?_)
          go_simp
          refine hK.out _ _ (fun _ h => h) ?_
          clear hK K
          try simp only [Act.put, List.setIfInBounds_toArray, List.set_cons_zero, List.set_cons_succ]
          refine wpAnyM_one 6 rfl (by kernel_rfl) (fun K hK => ?_)
          go_simp
          refine hK.out _ _ (fun _ h => h) ?_
          clear hK K
          try simp only [Act.put, List.setIfInBounds_toArray, List.set_cons_zero, List.set_cons_succ]
          refine wpAnyM_one 7 rfl (by kernel_rfl) (fun K hK => ?_)
          go_simp
          refine (HMy.out _ (below_next hBr hB0)).mono ?_
          rintro e w1 ⟨rfl, hb1⟩
          have hB1 := below_next hB0 hb1
          have hS1 := HS.out _ hB1
          refine hK.out _ _ (fun _ _ => hS1) ?_
          clear hK K hS0
          try simp only [Act.put, List.setIfInBounds_toArray, List.set_cons_zero, List.set_cons_succ]
          refine wpAnyM_one 8 rfl (by kernel_rfl) (fun K hK => ?_)
          go_simp
          refine hK.out _ _ (fun _ h => h) ?_
          clear hK K
          try simp only [Act.put, List.setIfInBounds_toArray, List.set_cons_zero, List.set_cons_succ]
          refine wpAnyM_one 9 rfl (by kernel_rfl) (fun K hK => ?_)
          go_simp
          refine hK.out _ _ (fun _ h => h) ?_
          clear hK K
          try simp only [Act.put, List.setIfInBounds_toArray, List.set_cons_zero, List.set_cons_succ]
          refine wpAnyM_one 10 rfl (by kernel_rfl) (fun K hK => ?_)
          go_simp
          refine hK.out _ _ (fun _ h => h) ?_
          clear hK K
          try simp only [Act.put, List.setIfInBounds_toArray, List.set_cons_zero, List.set_cons_succ]
          refine wpAnyM_free 11 (v := ?_) rfl (by kernel_rfl) (by kernel_rfl) (by kernel_rfl) (fun _ _ _ h => h) (Or.inl ⟨by rfl, ?_⟩) ?_
          rotate_left
          · intro w' hw'
            go_simp
            try with_reducible rfl
          try simp only [Act.put, List.setIfInBounds_toArray, List.set_cons_zero, List.set_cons_succ]
          refine wpAnyM_one 12 rfl (by kernel_rfl) (fun K hK => ?_)
          go_simp
          refine hK.out _ _ (fun _ h => h) ?_
          clear hK K
          try simp only [Act.put, List.setIfInBounds_toArray, List.set_cons_zero, List.set_cons_succ]
          refine wpAnyM_one 13 rfl (by kernel_rfl) (fun K hK => ?_)
          go_simp
          refine hK.out _ _ (fun _ h => h) ?_
          clear hK K
          try simp only [Act.put, List.setIfInBounds_toArray, List.set_cons_zero, List.set_cons_succ]
          refine wpAnyM_one 14 rfl (by kernel_rfl) (fun K hK => ?_)
          go_simp
          refine hK.out _ _ (fun _ h => h) ?_
          clear hK K
          try simp only [Act.put, List.setIfInBounds_toArray, List.set_cons_zero, List.set_cons_succ]
          refine wpAnyM_one 15 rfl (by kernel_rfl) (fun K hK => ?_)
          go_simp
          refine hK.out _ _ (fun _ h => h) ?_
          clear hK K
          try simp only [Act.put, List.setIfInBounds_toArray, List.set_cons_zero, List.set_cons_succ]
          refine wpAnyM_one 16 rfl (by kernel_rfl) (fun K hK => ?_)
          go_simp
          refine hK.out _ _ (fun _ h => h) ?_
          clear hK K
          try simp only [Act.put, List.setIfInBounds_toArray, List.set_cons_zero, List.set_cons_succ]
          refine wpAnyM_one 17 rfl (by kernel_rfl) (fun K hK => ?_)
          go_simp
          refine hK.out _ _ (fun _ h => h) ?_
          clear hK K
          try simp only [Act.put, List.setIfInBounds_toArray, List.set_cons_zero, List.set_cons_succ]
          refine wpAnyM_one 18 rfl (by kernel_rfl) (fun K hK => ?_)
          go_simp
          refine hK.out _ _ (fun _ h => h) ?_
          clear hK K
          try simp only [Act.put, List.setIfInBounds_toArray, List.set_cons_zero, List.set_cons_succ]
          refine wpAnyM_one 19 rfl (by kernel_rfl) (fun K hK => ?_)
          go_simp
          refine hK.out _ _ (fun _ h => h) ?_
          clear hK K
          try simp only [Act.put, List.setIfInBounds_toArray, List.set_cons_zero, List.set_cons_succ]
          refine wpAnyM_one 20 rfl (by kernel_rfl) (fun K hK => ?_)
          go_simp
          refine hK.out _ _ (fun _ h => h) ?_
          clear hK K
          try simp only [Act.put, List.setIfInBounds_toArray, List.set_cons_zero, List.set_cons_succ]
          refine wpAnyM_one 21 rfl (by kernel_rfl) (fun K hK => ?_)
          go_simp
          refine hK.out _ _ (fun _ h => h) ?_
          clear hK K
          try simp only [Act.put, List.setIfInBounds_toArray, List.set_cons_zero, List.set_cons_succ]
          refine wpAnyM_free 22 (v := undef) rfl (by kernel_rfl) (by kernel_rfl) (by kernel_rfl) (fun _ _ _ h => h) (Or.inr ⟨by rfl, rfl⟩) ?_
          try simp only [Act.put, List.setIfInBounds_toArray, List.set_cons_zero, List.set_cons_succ]
          refine wpAnyM_free 23 (v := undef) rfl (by kernel_rfl) (by kernel_rfl) (by kernel_rfl) (fun _ _ _ h => h) (Or.inr ⟨by rfl, rfl⟩) ?_
          try simp only [Act.put, List.setIfInBounds_toArray, List.set_cons_zero, List.set_cons_succ]
          refine wpAnyM_free 24 (v := undef) rfl (by kernel_rfl) (by kernel_rfl) (by kernel_rfl) (fun _ _ _ h => h) (Or.inr ⟨by rfl, rfl⟩) ?_
          try simp only [Act.put, List.setIfInBounds_toArray, List.set_cons_zero, List.set_cons_succ]
          refine wpAnyM_free 25 (v := undef) rfl (by kernel_rfl) (by kernel_rfl) (by kernel_rfl) (fun _ _ _ h => h) (Or.inr ⟨by rfl, rfl⟩) ?_
          try simp only [Act.put, List.setIfInBounds_toArray, List.set_cons_zero, List.set_cons_succ]
          refine wpAnyM_free 26 (v := undef) rfl (by kernel_rfl) (by kernel_rfl) (by kernel_rfl) (fun _ _ _ h => h) (Or.inr ⟨by rfl, rfl⟩) ?_
          try simp only [Act.put, List.setIfInBounds_toArray, List.set_cons_zero, List.set_cons_succ]
          refine wpAnyM_free 27 (v := undef) rfl (by kernel_rfl) (by kernel_rfl) (by kernel_rfl) (fun _ _ _ h => h) (Or.inr ⟨by rfl, rfl⟩) ?_
          try simp only [Act.put, List.setIfInBounds_toArray, List.set_cons_zero, List.set_cons_succ]
          refine wpAnyM_free 28 (v := undef) rfl (by kernel_rfl) (by kernel_rfl) (by kernel_rfl) (fun _ _ _ h => h) (Or.inr ⟨by rfl, rfl⟩) ?_
          try simp only [Act.put, List.setIfInBounds_toArray, List.set_cons_zero, List.set_cons_succ]
          refine wpAnyM_one 29 rfl (by kernel_rfl) (fun K hK => ?_)
          go_simp
          refine hK.out _ _ (fun _ h => h) ?_
          clear hK K
          try simp only [Act.put, List.setIfInBounds_toArray, List.set_cons_zero, List.set_cons_succ]
          refine wpAnyM_one 30 rfl (by kernel_rfl) (fun K hK => ?_)
          go_simp
          refine hK.out _ _ (fun _ h => h) ?_
          clear hK K
          try simp only [Act.put, List.setIfInBounds_toArray, List.set_cons_zero, List.set_cons_succ]
          refine wpAnyM_one 31 rfl (by kernel_rfl) (fun K hK => ?_)
          go_simp
          refine hK.out _ _ (fun _ h => h) ?_
          clear hK K
          try simp only [Act.put, List.setIfInBounds_toArray, List.set_cons_zero, List.set_cons_succ]
          refine wpAnyM_one 32 rfl (by kernel_rfl) (fun K hK => ?_)
          go_simp
          refine hK.out _ _ (fun _ h => h) ?_
          clear hK K
          try simp only [Act.put, List.setIfInBounds_toArray, List.set_cons_zero, List.set_cons_succ]
          refine wpAnyM_one 33 rfl (by kernel_rfl) (fun K hK => ?_)
          go_simp
          refine hK.out _ _ (fun _ h => h) ?_
          clear hK K
          try simp only [Act.put, List.setIfInBounds_toArray, List.set_cons_zero, List.set_cons_succ]
          refine wpAnyM_one 34 rfl (by kernel_rfl) (fun K hK => ?_)
          go_simp
          refine hK.out _ _ (fun _ h => h) ?_
          clear hK K
          try simp only [Act.put, List.setIfInBounds_toArray, List.set_cons_zero, List.set_cons_succ]
          refine wpAnyM_one 35 rfl (by kernel_rfl) (fun K hK => ?_)
          go_simp
          refine hK.out _ _ (fun _ h => h) ?_
          clear hK K
          try simp only [Act.put, List.setIfInBounds_toArray, List.set_cons_zero, List.set_cons_succ]
          refine wpAnyM_done (by kernel_rfl) ?_ _
          try simp only [Act.put, List.setIfInBounds_toArray, List.set_cons_zero, List.set_cons_succ]
          have hbf := below_next HBw.out hB1
          clear hS1 hB1 hb1 hB0
          go_wp2_with fail
          go_roundw
          case rel => exact ⟨1, by omega, by go_num, hbf⟩
          case measure => simp [RowKit.intOf]; omega
        · obtain ⟨j, rfl⟩ : ∃ j, k = j + 1 := ⟨k - 1, by omega⟩
          obtain ⟨gz', eg, hcj⟩ := hcz j (by omega)
          injection eg with eg
          injection eg with eg1
          subst eg1
          obtain ⟨⟨z1, z2, z3⟩, hZk⟩ : ∃ x, Z.getD (j + 1) noCmd = x := ⟨_, rfl⟩
          obtain ⟨⟨y1, y2, y3⟩, hZj⟩ : ∃ x, Z.getD j noCmd = x := ⟨_, rfl⟩
          rw [hZk] at hc0 hm0
          rw [hZj] at hcj
          obtain ⟨hmay, hrow, hris⟩ := hm0
          have hris := hris j rfl
          rw [hZj] at hris
          simp only at hrow hris
          have c0 := hc0 0 _ rfl
          have c1 := hc0 1 _ rfl
          have c2 := hc0 2 _ rfl
          have c3 := hcj 0 _ rfl
          simp only [Nat.add_zero] at c0 c1 c2 c3
          have HMy := Lib.hid (fun w' h => HMa.out z1 z2 z3 w' h)
          unfold cmdV at HMy
          dsimp only at HMy
          rw [hmay] at HMy
          have hdr : decide (z1 < 1) = false := decide_eq_false (by omega)
          have f1 : IntKind.i64.wrap ((j : Int) + 1 - 1) = (j : Int) := by rw [Int.add_sub_cancel]; exact IntWalk.i64_in _ (by omega)
          have f2 : IntKind.i64.wrap ((j : Int)) = (j : Int) := IntWalk.i64_in _ (by omega)
          have f3 : j < Z.length := by omega
          have hdq : decide (z1 ≤ y1) = false := decide_eq_false (by omega)
          have HS : RowKit.Hid (∀ w', Below wr.heap.size wr w' → (w'.cell? ⟨gz, (j + 1) * 3, none⟩ = some (.int .i64 z1) ∧ w'.cell? ⟨gz, (j + 1) * 3 + 1, none⟩ = some (.int .i64 z2) ∧ w'.cell? ⟨gz, (j + 1) * 3 + 2, none⟩ = some (.int .i64 z3) ∧ w'.cell? ⟨gz, j * 3, none⟩ = some (.int .i64 y1) ∧ Below wr.heap.size wr w')) := Lib.hid (fun w' hb => ⟨cell_later hb c0, cell_later hb c1, cell_later hb c2, cell_later hb c3, hb⟩)
          clear hmay hc0 hcj hZk hZj hcz hrow hris hbw
          go_wp2_with fail
          refine wp_region_keep (fun w' => w'.cell? ⟨gz, (j + 1) * 3, none⟩ = some (.int .i64 z1) ∧ w'.cell? ⟨gz, (j + 1) * 3 + 1, none⟩ = some (.int .i64 z2) ∧ w'.cell? ⟨gz, (j + 1) * 3 + 2, none⟩ = some (.int .i64 z3) ∧ w'.cell? ⟨gz, j * 3, none⟩ = some (.int .i64 y1) ∧ Below wr.heap.size wr w') [] (by kernel_rfl) ?_
          have hB0 : Below (wr).heap.size (wr) (wr).drew := Below.drew (Below.refl _ _)
          have hS0 := HS.out _ hB0
          refine wpAnyM_one 0 rfl (by kernel_rfl) (fun K hK => ?_)
          go_simp
          refine hK.out _ _ (fun _ h => h) ?_
          clear hK K
          try simp only [Act.put, List.setIfInBounds_toArray, List.set_cons_zero, List.set_cons_succ]
          refine wpAnyM_one 1 rfl (by kernel_rfl) (fun K hK => ?_)
          go_simp
          refine hK.out _ _ (fun _ h => h) ?_
          clear hK K
          try simp only [Act.put, List.setIfInBounds_toArray, List.set_cons_zero, List.set_cons_succ]
          refine wpAnyM_one 2 rfl (by kernel_rfl) (fun K hK => ?_)
          go_simp
          refine hK.out _ _ (fun _ h => h) ?_
          clear hK K
          try simp only [Act.put, List.setIfInBounds_toArray, List.set_cons_zero, List.set_cons_succ]
          refine wpAnyM_free 3 (v := ?_) rfl (by kernel_rfl) (by kernel_rfl) (by kernel_rfl) (fun _ _ _ h => h) (Or.inl ⟨by rfl, ?_⟩) ?_
          rotate_left
          · intro w' hw'
            go_simp
            try with_reducible rfl
          try simp only [Act.put, List.setIfInBounds_toArray, List.set_cons_zero, List.set_cons_succ]
          refine wpAnyM_one 4 rfl (by kernel_rfl) (fun K hK => ?_)
          go_simp
          refine hK.out _ _ (fun _ h => h) ?_
          clear hK K
          try simp only [Act.put, List.setIfInBounds_toArray, List.set_cons_zero, List.set_cons_succ]
          refine wpAnyM_one 5 rfl (by kernel_rfl) (fun K hK => ?_)
          go_simp
          refine hK.out _ _ (fun _ h => h) ?_
          clear hK K
          try simp only [Act.put, List.setIfInBounds_toArray, List.set_cons_zero, List.set_cons_succ]
          refine wpAnyM_one 6 rfl (by kernel_rfl) (fun K hK => ?_)
          go_simp
          refine hK.out _ _ (fun _ h => h) ?_
          clear hK K
          try simp only [Act.put, List.setIfInBounds_toArray, List.set_cons_zero, List.set_cons_succ]
          refine wpAnyM_one 7 rfl (by kernel_rfl) (fun K hK => ?_)
          go_simp
          refine (HMy.out _ (below_next hBr hB0)).mono ?_
          rintro e w1 ⟨rfl, hb1⟩
          have hB1 := below_next hB0 hb1
          have hS1 := HS.out _ hB1
          refine hK.out _ _ (fun _ _ => hS1) ?_
          clear hK K hS0
          try simp only [Act.put, List.setIfInBounds_toArray, List.set_cons_zero, List.set_cons_succ]
          refine wpAnyM_one 8 rfl (by kernel_rfl) (fun K hK => ?_)
          go_simp
          refine hK.out _ _ (fun _ h => h) ?_
          clear hK K
          try simp only [Act.put, List.setIfInBounds_toArray, List.set_cons_zero, List.set_cons_succ]
          refine wpAnyM_one 9 rfl (by kernel_rfl) (fun K hK => ?_)
          go_simp
          refine hK.out _ _ (fun _ h => h) ?_
          clear hK K
          try simp only [Act.put, List.setIfInBounds_toArray, List.set_cons_zero, List.set_cons_succ]
          refine wpAnyM_one 10 rfl (by kernel_rfl) (fun K hK => ?_)
          go_simp
          refine hK.out _ _ (fun _ h => h) ?_
          clear hK K
          try simp only [Act.put, List.setIfInBounds_toArray, List.set_cons_zero, List.set_cons_succ]
          refine wpAnyM_free 11 (v := ?_) rfl (by kernel_rfl) (by kernel_rfl) (by kernel_rfl) (fun _ _ _ h => h) (Or.inl ⟨by rfl, ?_⟩) ?_
          rotate_left
          · intro w' hw'
            go_simp
            try with_reducible rfl
          try simp only [Act.put, List.setIfInBounds_toArray, List.set_cons_zero, List.set_cons_succ]
          refine wpAnyM_one 12 rfl (by kernel_rfl) (fun K hK => ?_)
          go_simp
          refine hK.out _ _ (fun _ h => h) ?_
          clear hK K
          try simp only [Act.put, List.setIfInBounds_toArray, List.set_cons_zero, List.set_cons_succ]
          refine wpAnyM_one 13 rfl (by kernel_rfl) (fun K hK => ?_)
          go_simp
          refine hK.out _ _ (fun _ h => h) ?_
          clear hK K
          try simp only [Act.put, List.setIfInBounds_toArray, List.set_cons_zero, List.set_cons_succ]
          refine wpAnyM_one 14 rfl (by kernel_rfl) (fun K hK => ?_)
          go_simp
          refine hK.out _ _ (fun _ h => h) ?_
          clear hK K
          try simp only [Act.put, List.setIfInBounds_toArray, List.set_cons_zero, List.set_cons_succ]
          refine wpAnyM_one 15 rfl (by kernel_rfl) (fun K hK => ?_)
          go_simp
          refine hK.out _ _ (fun _ h => h) ?_
          clear hK K
          try simp only [Act.put, List.setIfInBounds_toArray, List.set_cons_zero, List.set_cons_succ]
          refine wpAnyM_one 16 rfl (by kernel_rfl) (fun K hK => ?_)
          go_simp
          refine hK.out _ _ (fun _ h => h) ?_
          clear hK K
          try simp only [Act.put, List.setIfInBounds_toArray, List.set_cons_zero, List.set_cons_succ]
          refine wpAnyM_one 17 rfl (by kernel_rfl) (fun K hK => ?_)
          go_simp
          refine hK.out _ _ (fun _ h => h) ?_
          clear hK K
          try simp only [Act.put, List.setIfInBounds_toArray, List.set_cons_zero, List.set_cons_succ]
          refine wpAnyM_one 18 rfl (by kernel_rfl) (fun K hK => ?_)
          go_simp
          refine hK.out _ _ (fun _ h => h) ?_
          clear hK K
          try simp only [Act.put, List.setIfInBounds_toArray, List.set_cons_zero, List.set_cons_succ]
          refine wpAnyM_one 19 rfl (by kernel_rfl) (fun K hK => ?_)
          go_simp
          refine hK.out _ _ (fun _ h => h) ?_
          clear hK K
          try simp only [Act.put, List.setIfInBounds_toArray, List.set_cons_zero, List.set_cons_succ]
          refine wpAnyM_one 20 rfl (by kernel_rfl) (fun K hK => ?_)
          go_simp
          refine hK.out _ _ (fun _ h => h) ?_
          clear hK K
          try simp only [Act.put, List.setIfInBounds_toArray, List.set_cons_zero, List.set_cons_succ]
          refine wpAnyM_one 21 rfl (by kernel_rfl) (fun K hK => ?_)
          go_simp
          refine hK.out _ _ (fun _ h => h) ?_
          clear hK K
          try simp only [Act.put, List.setIfInBounds_toArray, List.set_cons_zero, List.set_cons_succ]
          refine wpAnyM_free 22 (v := ?_) rfl (by kernel_rfl) (by kernel_rfl) (by kernel_rfl) (fun _ _ _ h => h) (Or.inl ⟨by rfl, ?_⟩) ?_
          rotate_left
          · intro w' hw'
            go_simp
            try with_reducible rfl
          try simp only [Act.put, List.setIfInBounds_toArray, List.set_cons_zero, List.set_cons_succ]
          refine wpAnyM_free 23 (v := ?_) rfl (by kernel_rfl) (by kernel_rfl) (by kernel_rfl) (fun _ _ _ h => h) (Or.inl ⟨by rfl, ?_⟩) ?_
          rotate_left
          · intro w' hw'
            go_simp
            try with_reducible rfl
          try simp only [Act.put, List.setIfInBounds_toArray, List.set_cons_zero, List.set_cons_succ]
          refine wpAnyM_free 24 (v := ?_) rfl (by kernel_rfl) (by kernel_rfl) (by kernel_rfl) (fun _ _ _ h => h) (Or.inl ⟨by rfl, ?_⟩) ?_
          rotate_left
          · intro w' hw'
            go_simp
            try with_reducible rfl
          try simp only [Act.put, List.setIfInBounds_toArray, List.set_cons_zero, List.set_cons_succ]
          refine wpAnyM_free 25 (v := ?_) rfl (by kernel_rfl) (by kernel_rfl) (by kernel_rfl) (fun _ _ _ h => h) (Or.inl ⟨by rfl, ?_⟩) ?_
          rotate_left
          · intro w' hw'
            go_simp
            try with_reducible rfl
          try simp only [Act.put, List.setIfInBounds_toArray, List.set_cons_zero, List.set_cons_succ]
          refine wpAnyM_free 26 (v := ?_) rfl (by kernel_rfl) (by kernel_rfl) (by kernel_rfl) (fun _ _ _ h => h) (Or.inl ⟨by rfl, ?_⟩) ?_
          rotate_left
          · intro w' hw'
            go_simp
            try with_reducible rfl
          try simp only [Act.put, List.setIfInBounds_toArray, List.set_cons_zero, List.set_cons_succ]
          refine wpAnyM_take 27 36 (v := ?_) rfl (by kernel_rfl) (by kernel_rfl) (by kernel_rfl) (by kernel_rfl) (by kernel_rfl) (fun _ _ _ h => h) (Or.inl ⟨by rfl, ?_⟩) hS1 ?_
          rotate_left
          · intro w' hw'
            try dsimp only at hw'
            go_simp
            try with_reducible rfl
          try simp only [Act.put, List.setIfInBounds_toArray, List.set_cons_zero, List.set_cons_succ]
          refine wpAnyM_free 28 (v := ?_) rfl (by kernel_rfl) (by kernel_rfl) (by kernel_rfl) (fun _ _ _ h => h) (Or.inl ⟨by rfl, ?_⟩) ?_
          rotate_left
          · intro w' hw'
            go_simp
            try with_reducible rfl
          try simp only [Act.put, List.setIfInBounds_toArray, List.set_cons_zero, List.set_cons_succ]
          refine wpAnyM_one 29 rfl (by kernel_rfl) (fun K hK => ?_)
          go_simp
          refine hK.out _ _ (fun _ h => h) ?_
          clear hK K
          try simp only [Act.put, List.setIfInBounds_toArray, List.set_cons_zero, List.set_cons_succ]
          refine wpAnyM_one 30 rfl (by kernel_rfl) (fun K hK => ?_)
          go_simp
          refine hK.out _ _ (fun _ h => h) ?_
          clear hK K
          try simp only [Act.put, List.setIfInBounds_toArray, List.set_cons_zero, List.set_cons_succ]
          refine wpAnyM_one 31 rfl (by kernel_rfl) (fun K hK => ?_)
          go_simp
          refine hK.out _ _ (fun _ h => h) ?_
          clear hK K
          try simp only [Act.put, List.setIfInBounds_toArray, List.set_cons_zero, List.set_cons_succ]
          refine wpAnyM_one 32 rfl (by kernel_rfl) (fun K hK => ?_)
          go_simp
          refine hK.out _ _ (fun _ h => h) ?_
          clear hK K
          try simp only [Act.put, List.setIfInBounds_toArray, List.set_cons_zero, List.set_cons_succ]
          refine wpAnyM_one 33 rfl (by kernel_rfl) (fun K hK => ?_)
          go_simp
          refine hK.out _ _ (fun _ h => h) ?_
          clear hK K
          try simp only [Act.put, List.setIfInBounds_toArray, List.set_cons_zero, List.set_cons_succ]
          refine wpAnyM_one 34 rfl (by kernel_rfl) (fun K hK => ?_)
          go_simp
          refine hK.out _ _ (fun _ h => h) ?_
          clear hK K
          try simp only [Act.put, List.setIfInBounds_toArray, List.set_cons_zero, List.set_cons_succ]
          refine wpAnyM_one 35 rfl (by kernel_rfl) (fun K hK => ?_)
          go_simp
          refine hK.out _ _ (fun _ h => h) ?_
          clear hK K
          try simp only [Act.put, List.setIfInBounds_toArray, List.set_cons_zero, List.set_cons_succ]
          refine wpAnyM_done (by kernel_rfl) ?_ _
          try simp only [Act.put, List.setIfInBounds_toArray, List.set_cons_zero, List.set_cons_succ]
          have hbf := below_next HBw.out hB1
          clear hS1 hB1 hb1 hB0
          go_wp2_with fail
          go_roundw
          case rel => exact ⟨j + 1 + 1, by omega, by go_num, hbf⟩
          case measure => simp [RowKit.intOf]; omega
      · have hke : k = Z.length := by omega
        subst hke
        have HBr := Lib.hid hBr
        clear hcz hBr
        go_wp2_with fail
        go_ret
        exact ⟨rfl, HBr.out⟩
end Go.Proofs.YtphhgdgamnogpaaDoor
