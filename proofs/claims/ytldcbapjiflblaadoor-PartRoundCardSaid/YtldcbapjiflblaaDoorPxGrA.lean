/-
  Layer 19 (graph): a graph in memory; what it is asked. No conditions but that math/bits's table is as its initialiser lays it (Next).
-/
import Derived.Test.YtldcbapjiflblaaDoorPxBtA
import Derived.Test.YtldcbapjiflblaaDoorPPd
namespace Go.Proofs.YtldcbapjiflblaaDoor
open Go.RowKit Go.Lib
def ptrsG (L : List Nat) : List Value := L.map fun (n : Nat) => .pointer (some ⟨n, 0, none⟩)
theorem ptrs_snoc (L : List Nat) (n : Nat) : ptrsG L ++ [.pointer (some ⟨n, 0, none⟩)] = ptrsG (L ++ [n]) := by simp [ptrsG]
theorem ptrs_at (L : List Nat) (i : Nat) (hi : i < L.length) : (ptrsG L)[i]? = some (.pointer (some ⟨L.getD i 0, 0, none⟩)) := by simp [ptrsG, hi]
theorem ones_ptrG (a : Option Addr) : ∀ u ∈ ([.pointer a] : List Value), u.oneCell' = true := by
 intro u hu
 simp at hu
 subst hu
 rfl
theorem info_ptr : (Tryd.prog.info? 70).map (fun i => (i.zero, i.size, i.bytes)) = some (some (.pointer none), 1, 8) := by kernel_rfl
theorem info_edge : (Tryd.prog.info? 39).map (fun i => (i.zero, i.size, i.bytes)) = some (some (.agg #[.int .i64 0, .int .i64 0]), 2, 16) := by kernel_rfl
theorem SetW.alloc {w : World} {b : Nat} {W : List Nat} (h : SetW w b W) (o : Obj) : SetW (w.alloc o) b W := ⟨h.1.alloc o, h.2⟩
def SetsW (w : World) (bs : List Nat) (T : List (List Nat)) : Prop := bs.length = T.length ∧ ∀ i, i < bs.length → SetW w (bs.getD i 0) (T.getD i [])
theorem SetsW.later {w w' : World} {bs : List Nat} {T : List (List Nat)} (h : SetsW w bs T) (hb : Below w.heap.size w w') : SetsW w' bs T := ⟨h.1, fun i hi => (h.2 i hi).later hb⟩
theorem SetsW.alloc {w : World} {bs : List Nat} {T : List (List Nat)} (h : SetsW w bs T) (o : Obj) : SetsW (w.alloc o) bs T := ⟨h.1, fun i hi => (h.2 i hi).alloc o⟩
theorem SetsW.grown {w w' : World} {bs : List Nat} {T : List (List Nat)} {base size n : Nat} {e : TypeId} {v : Value} {xs : List Value} (h : SetsW w bs T) (hr : w.ownsRow base e size v n xs) (hne : e ≠ 93) (hg : w.grownBy w' v.ownBlock) : SetsW w' bs T :=
 ⟨h.1, fun i hi => ⟨box_grown (h.2 i hi).1 hr hne hg, (h.2 i hi).2⟩⟩
theorem blk_ne {w : World} {a b : Nat} {s t : TypeId} {cs ds : List Value} (h : Blk w a s cs) (k : Blk w b t ds) (hne : s ≠ t) : a ≠ b := fun e => by
 subst e
 have h' : w.heap[a]? = some (.cells cs.toArray s (0, 0)) := h
 have k' : w.heap[a]? = some (.cells ds.toArray t (0, 0)) := k
 rw [h'] at k'
 injection k' with k'
 injection k' with _ k'
 exact hne k'
theorem SetsW.store {w : World} {bs : List Nat} {T : List (List Nat)} {g : Nat} {t : TypeId} {cs : List Value} (h : SetsW w bs T) (hg : Blk w g t cs) (hne : t ≠ 93) (i : Nat) (v : Value) : SetsW (w.setCell ⟨g, i, none⟩ v) bs T :=
 ⟨h.1, fun j hj => ⟨(h.2 j hj).1.far (fun e => blk_ne (h.2 j hj).1 hg (fun q => hne q.symm) e) v, (h.2 j hj).2⟩⟩
theorem SetsW.lt {w : World} {bs : List Nat} {T : List (List Nat)} (h : SetsW w bs T) : ∀ x ∈ bs, x < w.heap.size := fun x hx => by
 obtain ⟨i, hi, rfl⟩ := List.getElem_of_mem hx
 have := (h.2 i hi).1.lt
 rwa [show bs.getD i 0 = bs[i] by simp [hi]] at this
theorem SetsW.snoc {w : World} {bs : List Nat} {T : List (List Nat)} {b : Nat} {W : List Nat} (h : SetsW w bs T) (k : SetW w b W) : SetsW w (bs ++ [b]) (T ++ [W]) := by
 refine ⟨by rw [List.length_append, List.length_append, h.1]; rfl, fun i hi => ?_⟩
 by_cases e : i < bs.length
 ·rw [show (bs ++ [b]).getD i 0 = bs.getD i 0 by simp [List.getD, List.getElem?_append_left e], show (T ++ [W]).getD i [] = T.getD i [] by simp [List.getD, List.getElem?_append_left (by rw [← h.1]; exact e : i < T.length)]]
  exact h.2 i e
 ·have e2 : i = bs.length := by
   rw [List.length_append] at hi
   simp at hi
   omega
  subst e2
  rw [show (bs ++ [b]).getD bs.length 0 = b by simp [List.getD], show (T ++ [W]).getD bs.length [] = W by simp [List.getD, h.1]]
  exact k
theorem SetsW.put {w w' : World} {bs : List Nat} {T : List (List Nat)} (h : SetsW w bs T) (a : Nat) (ha : a < bs.length) (W : List Nat) (hd : bs.Nodup) (k : SetW w' (bs.getD a 0) W) (hg : w.grownBy w' (some (bs.getD a 0))) : SetsW w' bs (T.set a W) := by
 refine ⟨by rw [List.length_set]; exact h.1, fun i hi => ?_⟩
 by_cases e : i = a
 ·subst e
  rw [show (T.set i W).getD i [] = W by simp [List.getD, show i < T.length by rw [← h.1]; exact hi]]
  exact k
 ·rw [show (T.set a W).getD i [] = T.getD i [] by simp only [List.getD_eq_getElem?_getD]; rw [List.getElem?_set_ne (fun q => e q.symm)]]
  refine (h.2 i hi).kept hg (fun q => e ?_)
  injection q with q
  have h1 : bs.getD i 0 = bs[i] := by simp [hi]
  have h2 : bs.getD a 0 = bs[a] := by simp [ha]
  rw [h1, h2] at q
  exact (List.getElem_inj hd).1 q
theorem SetsW.other {w w' : World} {bs : List Nat} {T : List (List Nat)} {b : Nat} (h : SetsW w bs T) (hb : b ∉ bs) (hg : w.grownBy w' (some b)) : SetsW w' bs T :=
 ⟨h.1, fun i hi => (h.2 i hi).kept hg (fun q => hb (by
  injection q with q
  rw [← q, show bs.getD i 0 = bs[i] by simp [hi]]
  exact List.getElem_mem hi))⟩
def GrW (w : World) (B gb : Nat) (tb fb : List Nat) (T F : List (List Nat)) (m : Nat) : Prop := ∃ vt vf vr nr xr, Blk w gb 69 [vt, vf, vr, .bool true] ∧ w.ownsRow B 70 1 vt tb.length (ptrsG tb) ∧ w.ownsRow B 70 1 vf fb.length (ptrsG fb) ∧ w.ownsRow B 39 2 vr nr xr ∧ Parted vt vf ∧ SetsW w tb T ∧ SetsW w fb F ∧ (tb ++ fb).Nodup ∧ B ≤ gb ∧ (∀ x ∈ tb ++ fb, B ≤ x) ∧ nr ≤ m
theorem GrW.later {w w' : World} {B gb : Nat} {tb fb : List Nat} {T F : List (List Nat)} {m : Nat} (h : GrW w B gb tb fb T F m) (hb : Below w.heap.size w w') : GrW w' B gb tb fb T F m := by
 obtain ⟨vt, vf, vr, nr, xr, h1, h2, h3, h4, h5, h6, h7, h8⟩ := h
 exact ⟨vt, vf, vr, nr, xr, h1.later hb, owns_later h2 hb, owns_later h3 hb, owns_later h4 hb, h5, h6.later hb, h7.later hb, h8⟩
set_option maxRecDepth 100000 in
set_option maxHeartbeats 4000000 in
theorem gis_any {w : World} {gb : Nat} {vt vf vr : Value} (h : Blk w gb 69 [vt, vf, vr, .bool true]) : Calls Tryd.prog 36 #[.pointer (some ⟨gb, 0, none⟩)] w fun e w' => e = .returned (.bool true) ∧ w' = w := by
 have c3 := h.cell 3 rfl
 clear h
 go_enter Tryd.func36, Tryd.ntmps36
 go_wp2_with fail
 go_ret
 exact ⟨rfl, rfl⟩
set_option maxRecDepth 100000 in
set_option maxHeartbeats 4000000 in
theorem gnode_any {w : World} {gb n c : Nat} {p : Option Addr} {vf vr : Value} (h : Blk w gb 69 [.slice p n c, vf, vr, .bool true]) (a : Int) : Calls Tryd.prog 37 #[.pointer (some ⟨gb, 0, none⟩), .int .i64 a] w fun e w' => e = .returned (.bool (decide (0 ≤ a) && decide (a < (n : Int)))) ∧ w' = w := by
 have HI := Lib.hid (gis_any h)
 have c0 := h.cell 0 rfl
 clear h
 by_cases h0 : 0 ≤ a
 ·go_enter Tryd.func37, Tryd.ntmps37
  go_wp2_with fail
  refine HI.out.mono ?_
  rintro e w1 ⟨rfl, hw⟩
  subst hw
  go_wp2_with fail
  go_ret
  exact ⟨by simp [h0], rfl⟩
 ·go_enter Tryd.func37, Tryd.ntmps37
  go_wp2_with fail
  refine HI.out.mono ?_
  rintro e w1 ⟨rfl, hw⟩
  subst hw
  go_wp2_with fail
  go_ret
  exact ⟨by simp; omega, rfl⟩
set_option maxRecDepth 100000 in
set_option maxHeartbeats 4000000 in
theorem ghas_any {w : World} {B gb : Nat} {tb fb : List Nat} {T F : List (List Nat)} {m : Nat} (h : GrW w B gb tb fb T F m) (a b : Nat) (ha : a < tb.length) (hb : b < 500) : Calls Tryd.prog 38 #[.pointer (some ⟨gb, 0, none⟩), .int .i64 (a : Nat), .int .i64 (b : Nat)] w fun e w' => e = .returned (.bool (hasB (T.getD a []) b)) ∧ w' = w := by
 obtain ⟨vt, vf, vr, nr, xr, h1, h2, h3, h4, h5, h6, h7, h8⟩ := h
 obtain ⟨g, ct, rfl⟩ : ∃ g c, vt = .slice (some ⟨g, 0, none⟩) tb.length c := by
  rcases h2.2 with ⟨-, q⟩ | ⟨g, c, cur, q, -⟩
  ·omega
  ·exact ⟨g, c, q⟩
 have HN := Lib.hid (gnode_any h1 a)
 rw [show (decide (0 ≤ (a : Int)) && decide ((a : Int) < ((tb.length : Nat) : Int))) = true by simp; omega] at HN
 have HH := Lib.hid (bhas_any (tb.getD a 0) b (T.getD a []) w (h6.2 a ha) hb)
 have c0 := h1.cell 0 rfl
 have c1 : w.cell? ⟨g, a, none⟩ = some (.pointer (some ⟨tb.getD a 0, 0, none⟩)) := by rw [h2.cellAt a (by omega)]; exact ptrs_at tb a ha
 generalize hasB (T.getD a []) b = r at HH ⊢
 generalize tb.getD a 0 = x at HH c1
 clear h1 h2 h3 h4 h5 h6 h7 h8
 go_enter Tryd.func38, Tryd.ntmps38
 go_wp2_with fail
 refine HN.out.mono ?_
 rintro e w1 ⟨rfl, hw⟩
 subst hw
 go_wp2_with fail
 refine HH.out.mono ?_
 rintro e w2 ⟨rfl, hw⟩
 subst hw
 go_wp2_with fail
 go_ret
 exact ⟨rfl, rfl⟩
set_option maxRecDepth 100000 in
set_option maxHeartbeats 4000000 in
theorem gnext_any {w : World} {B gb : Nat} {tb fb : List Nat} {T F : List (List Nat)} {m : Nat} (h : GrW w B gb tb fb T F m) (a : Nat) (ha : a < tb.length) (hT : TabAt 0 Lib.deBruijn64tab w) : Calls Tryd.prog 40 #[.pointer (some ⟨gb, 0, none⟩), .int .i64 (a : Nat)] w fun e w' => ∃ v', e = .returned v' ∧ w'.ownsRow w.heap.size 3 1 v' (allB (T.getD a [])).length (vnats (allB (T.getD a []))) ∧ Below w.heap.size w w' := by
 obtain ⟨vt, vf, vr, nr, xr, h1, h2, h3, h4, h5, h6, h7, h8⟩ := h
 obtain ⟨g, ct, rfl⟩ : ∃ g c, vt = .slice (some ⟨g, 0, none⟩) tb.length c := by
  rcases h2.2 with ⟨-, q⟩ | ⟨g, c, cur, q, -⟩
  ·omega
  ·exact ⟨g, c, q⟩
 have HN := Lib.hid (gnode_any h1 a)
 rw [show (decide (0 ≤ (a : Int)) && decide ((a : Int) < ((tb.length : Nat) : Int))) = true by simp; omega] at HN
 have HH := Lib.hid (ball_any (tb.getD a 0) (T.getD a []) w (h6.2 a ha) hT)
 have c0 := h1.cell 0 rfl
 have c1 : w.cell? ⟨g, a, none⟩ = some (.pointer (some ⟨tb.getD a 0, 0, none⟩)) := by rw [h2.cellAt a (by omega)]; exact ptrs_at tb a ha
 generalize allB (T.getD a []) = r at HH ⊢
 generalize tb.getD a 0 = x at HH c1
 clear h1 h2 h3 h4 h5 h6 h7 h8
 go_enter Tryd.func40, Tryd.ntmps40
 go_wp2_with fail
 refine HN.out.mono ?_
 rintro e w1 ⟨rfl, hw⟩
 subst hw
 go_wp2_with fail
 refine HH.out.mono ?_
 rintro e w2 ⟨v', rfl, hr, hb⟩
 have HR := Lib.hid hr
 obtain ⟨p, c, rfl⟩ := owns_form hr
 clear hr
 go_wp2_with fail
 go_ret
 exact ⟨_, rfl, HR.out, hb⟩
end Go.Proofs.YtldcbapjiflblaaDoor
