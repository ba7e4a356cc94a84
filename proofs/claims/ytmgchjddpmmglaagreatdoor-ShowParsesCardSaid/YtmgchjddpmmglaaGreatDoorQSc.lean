/-
  Layer 10 (pair), the document's answer: four rows that grow in a region that draws its order. No conditions.
  Layer 10 (pair), the document's answer: what W's steps leave in memory, the walks apart. No conditions.
  Layer 10 (pair), the document's answer: a transaction begun in memory; append of a whole row. No conditions.
-/
import Derived.Test.YtmgchjddpmmglaaGreatDoorQSb
namespace Go.Proofs.YtmgchjddpmmglaaGreatDoor
section
open Go.RowKit Go.Lib Go.Maps
section
variable {P : Program} {ops : Array Oper} {Q : Exit → Act → World → Prop} {md : Region.Mode} {S : World → Prop} {late : List Nat}
theorem wpAnyM_steps (I : Act → Nat → Array Bool → Act → World → Prop) (A0 : Act) (fuel : Nat)
  (hr : ∀ n listed a w, I A0 (n + 1) listed a w → Region.ready md ops listed ≠ [])
  (hs : ∀ n listed a w, I A0 (n + 1) listed a w → ∀ i o, i ∈ Region.ready md ops listed → ops[i]? = some o → ∀ K : Act → World → Prop, RowKit.Hid (∀ a' w', (late.contains i = false → S w → S w') → I A0 n (listed.setIfInBounds i true) a' w' → K a' w') → if Region.wanted o (yielded ops a.tmps) = true then Oper.wp P o a w K Q else K (a.put o.dst undef) w)
  (he : ∀ listed a w, I A0 0 listed a w → wpAnyM P md ops Q S late fuel listed a w) : ∀ n listed a w, I A0 n listed a w → wpAnyM P md ops Q S late (fuel + n) listed a w
 | 0, listed, a, w, h => he listed a w h
 | n + 1, listed, a, w, h => ⟨fun h0 => absurd h0 (hr n listed a w h), fun i hi => by
  obtain ⟨-, o, ho, -⟩ := mem_ready.1 hi
  exact wpOp_step ho (fun K hK => hs n listed a w h i o hi ho K (Lib.hid (fun a' w' g1 g2 => hK a' w' ⟨g1, wpAnyM_steps I A0 fuel hr hs he n _ a' w' g2⟩)))⟩
end
structure R10 (w : World) (B gm : Nat) (L : List DraftM) (E : List EntR) (s : List UInt8) (ln : Int) (nT : Nat) (xT : List Value) (vT oN oK oL oO : Value) (s1 s2 s3 s4 : Nat) (vN vK vL vO t1 t2 t3 t4 : Value) : Prop where
 bx : Blk w gm 146 [.slice none 0 0, .slice none 0 0, vT, oN, oK, oL, oO]
 rT : w.ownsRow B 47 3 vT nT xT
 a1 : s1 ≠ 2 → w.ownsRow B 9 1 oN L.length (L.flatMap nmd)
 b1 : s1 = 2 → w.ownsRow B 9 1 vN (L.length + 1) (L.flatMap nmd ++ [.string (bs s)])
 c1 : s1 = 1 → ∃ b, t1 = .slice (some ⟨b, 0, none⟩) 1 1 ∧ Blk w b 9 [.string (bs s)]
 a2 : s2 ≠ 2 → w.ownsRow B 22 1 oK L.length (E.flatMap ksd)
 b2 : s2 = 2 → w.ownsRow B 22 1 vK (L.length + 1) (E.flatMap ksd ++ [.slice none 0 0])
 c2 : s2 = 1 → ∃ b, t2 = .slice (some ⟨b, 0, none⟩) 1 1 ∧ Blk w b 22 [.slice none 0 0]
 a3 : s3 ≠ 2 → w.ownsRow B 3 1 oL L.length (L.flatMap lnd)
 b3 : s3 = 2 → w.ownsRow B 3 1 vL (L.length + 1) (L.flatMap lnd ++ [.int .i64 ln])
 c3 : s3 = 1 → ∃ b, t3 = .slice (some ⟨b, 0, none⟩) 1 1 ∧ Blk w b 3 [.int .i64 ln]
 a4 : s4 ≠ 2 → w.ownsRow B 4 1 oO L.length (L.flatMap opd)
 b4 : s4 = 2 → w.ownsRow B 4 1 vO (L.length + 1) (L.flatMap opd ++ [.bool true])
 c4 : s4 = 1 → ∃ b, t4 = .slice (some ⟨b, 0, none⟩) 1 1 ∧ Blk w b 4 [.bool true]
 ops : ∀ i, i < L.length → w.ownsRow B 51 4 (E.getD i noR).1 (L.getD i noD).ops.length ((L.getD i noD).ops.flatMap opc)
 ks : ∀ i, i < L.length → w.ownsRow B 9 1 (E.getD i noR).2 (L.getD i noD).ks.length (strs (L.getD i noD).ks)
 n1 : s1 ≠ 2 → ∀ i, i < L.length → ∀ g, (E.getD i noR).2.ownBlock = some g → oN.ownBlock ≠ some g
 n2 : s1 = 2 → ∀ i, i < L.length → ∀ g, (E.getD i noR).2.ownBlock = some g → vN.ownBlock ≠ some g
theorem R10.alloc1 {w : World} {B gm : Nat} {L : List DraftM} {E : List EntR} {s : List UInt8} {ln : Int} {vT oN oK oL oO vN vK vL vO t1 t2 t3 t4 : Value} {_s1 s2 s3 s4 nT : Nat} {xT : List Value} (h : R10 w B gm L E s ln nT xT vT oN oK oL oO 0 s2 s3 s4 vN vK vL vO t1 t2 t3 t4) : R10 (w.alloc (.cells #[.string (bs s)] 9)) B gm L E s ln nT xT vT oN oK oL oO 1 s2 s3 s4 vN vK vL vO (.slice (some ⟨w.heap.size, 0, none⟩) 1 1) t2 t3 t4 := by
 exact ⟨h.bx.alloc _,
  h.rT.alloc _,
  fun _ => (h.a1 (by decide)).alloc _,
  fun e => (by cases e),
  fun _ => ⟨_, rfl, Blk.new w _ [.string (bs s)]⟩,
  fun e => (h.a2 e).alloc _,
  fun e => (h.b2 e).alloc _,
  fun e => by
  obtain ⟨b, e1, e2⟩ := h.c2 e
  exact ⟨b, e1, e2.alloc _⟩,
  fun e => (h.a3 e).alloc _,
  fun e => (h.b3 e).alloc _,
  fun e => by
  obtain ⟨b, e1, e2⟩ := h.c3 e
  exact ⟨b, e1, e2.alloc _⟩,
  fun e => (h.a4 e).alloc _,
  fun e => (h.b4 e).alloc _,
  fun e => by
  obtain ⟨b, e1, e2⟩ := h.c4 e
  exact ⟨b, e1, e2.alloc _⟩,
  fun i hi => (h.ops i hi).alloc _,
  fun i hi => (h.ks i hi).alloc _,
  fun _ => h.n1 (by decide),
  fun e => (by cases e)⟩
theorem R10.app1 {w w' : World} {v' : Value} {B gm : Nat} {L : List DraftM} {E : List EntR} {s : List UInt8} {ln : Int} {vT oN oK oL oO vN vK vL vO t1 t2 t3 t4 : Value} {_s1 s2 s3 s4 nT : Nat} {xT : List Value} (h : R10 w B gm L E s ln nT xT vT oN oK oL oO 1 s2 s3 s4 vN vK vL vO t1 t2 t3 t4) (hg : w.grownBy w' oN.ownBlock) (hown : w'.ownsRow B 9 1 v' (L.length + 1) (L.flatMap nmd ++ [.string (bs s)])) (hat : v'.ownBlock = oN.ownBlock ∨ v'.ownBlock = some w.heap.size) : R10 w' B gm L E s ln nT xT vT oN oK oL oO 2 s2 s3 s4 v' vK vL vO t1 t2 t3 t4 := by
 have hr := h.a1 (by decide)
 have kb : ∀ {q t}, Ty w q t → t ≠ 9 → w'.heap[q]? = w.heap[q]? := fun {q t} hq hne => hg.block q hq.lt (fun e => (hq.ne (owns_ty hr e.symm) hne) rfl)
 exact ⟨h.bx.at (kb h.bx.ty (by decide)),
  owns_other h.rT hr (by decide) hg,
  fun e => absurd rfl e,
  fun _ => hown,
  fun e => (by cases e),
  fun e => owns_other (h.a2 e) hr (by decide) hg,
  fun e => owns_other (h.b2 e) hr (by decide) hg,
  fun e => by
  obtain ⟨b, e1, e2⟩ := h.c2 e
  exact ⟨b, e1, e2.at (kb e2.ty (by decide))⟩,
  fun e => owns_other (h.a3 e) hr (by decide) hg,
  fun e => owns_other (h.b3 e) hr (by decide) hg,
  fun e => by
  obtain ⟨b, e1, e2⟩ := h.c3 e
  exact ⟨b, e1, e2.at (kb e2.ty (by decide))⟩,
  fun e => owns_other (h.a4 e) hr (by decide) hg,
  fun e => owns_other (h.b4 e) hr (by decide) hg,
  fun e => by
  obtain ⟨b, e1, e2⟩ := h.c4 e
  exact ⟨b, e1, e2.at (kb e2.ty (by decide))⟩,
  fun i hi => owns_other (h.ops i hi) hr (by decide) hg,
  fun i hi => owns_at (h.ks i hi) (fun q hq => hg.block q (own_lt (h.ks i hi) hq) (fun e => h.n1 (by decide) i hi q hq e.symm)),
  fun e => absurd rfl e,
  fun _ i hi g hg1 hg2 => by
  rcases hat with e | e
  ·rw [e] at hg2; exact h.n1 (by decide) i hi g hg1 hg2
  ·rw [e] at hg2
   injection hg2 with hg2
   have := own_lt (h.ks i hi) hg1
   omega⟩
theorem R10.alloc2 {w : World} {B gm : Nat} {L : List DraftM} {E : List EntR} {s : List UInt8} {ln : Int} {vT oN oK oL oO vN vK vL vO t1 t2 t3 t4 : Value} {s1 _s2 s3 s4 nT : Nat} {xT : List Value} (h : R10 w B gm L E s ln nT xT vT oN oK oL oO s1 0 s3 s4 vN vK vL vO t1 t2 t3 t4) : R10 (w.alloc (.cells #[.slice none 0 0] 22)) B gm L E s ln nT xT vT oN oK oL oO s1 1 s3 s4 vN vK vL vO t1 (.slice (some ⟨w.heap.size, 0, none⟩) 1 1) t3 t4 := by
 exact ⟨h.bx.alloc _,
  h.rT.alloc _,
  fun e => (h.a1 e).alloc _,
  fun e => (h.b1 e).alloc _,
  fun e => by
  obtain ⟨b, e1, e2⟩ := h.c1 e
  exact ⟨b, e1, e2.alloc _⟩,
  fun _ => (h.a2 (by decide)).alloc _,
  fun e => (by cases e),
  fun _ => ⟨_, rfl, Blk.new w _ [.slice none 0 0]⟩,
  fun e => (h.a3 e).alloc _,
  fun e => (h.b3 e).alloc _,
  fun e => by
  obtain ⟨b, e1, e2⟩ := h.c3 e
  exact ⟨b, e1, e2.alloc _⟩,
  fun e => (h.a4 e).alloc _,
  fun e => (h.b4 e).alloc _,
  fun e => by
  obtain ⟨b, e1, e2⟩ := h.c4 e
  exact ⟨b, e1, e2.alloc _⟩,
  fun i hi => (h.ops i hi).alloc _,
  fun i hi => (h.ks i hi).alloc _,
  h.n1,
  h.n2⟩
theorem R10.app2 {w w' : World} {v' : Value} {B gm : Nat} {L : List DraftM} {E : List EntR} {s : List UInt8} {ln : Int} {vT oN oK oL oO vN vK vL vO t1 t2 t3 t4 : Value} {s1 _s2 s3 s4 nT : Nat} {xT : List Value} (h : R10 w B gm L E s ln nT xT vT oN oK oL oO s1 1 s3 s4 vN vK vL vO t1 t2 t3 t4) (hg : w.grownBy w' oK.ownBlock) (hown : w'.ownsRow B 22 1 v' (L.length + 1) (E.flatMap ksd ++ [.slice none 0 0])) (_hat : v'.ownBlock = oK.ownBlock ∨ v'.ownBlock = some w.heap.size) : R10 w' B gm L E s ln nT xT vT oN oK oL oO s1 2 s3 s4 vN v' vL vO t1 t2 t3 t4 := by
 have hr := h.a2 (by decide)
 have kb : ∀ {q t}, Ty w q t → t ≠ 22 → w'.heap[q]? = w.heap[q]? := fun {q t} hq hne => hg.block q hq.lt (fun e => (hq.ne (owns_ty hr e.symm) hne) rfl)
 exact ⟨h.bx.at (kb h.bx.ty (by decide)),
  owns_other h.rT hr (by decide) hg,
  fun e => owns_other (h.a1 e) hr (by decide) hg,
  fun e => owns_other (h.b1 e) hr (by decide) hg,
  fun e => by
  obtain ⟨b, e1, e2⟩ := h.c1 e
  exact ⟨b, e1, e2.at (kb e2.ty (by decide))⟩,
  fun e => absurd rfl e,
  fun _ => hown,
  fun e => (by cases e),
  fun e => owns_other (h.a3 e) hr (by decide) hg,
  fun e => owns_other (h.b3 e) hr (by decide) hg,
  fun e => by
  obtain ⟨b, e1, e2⟩ := h.c3 e
  exact ⟨b, e1, e2.at (kb e2.ty (by decide))⟩,
  fun e => owns_other (h.a4 e) hr (by decide) hg,
  fun e => owns_other (h.b4 e) hr (by decide) hg,
  fun e => by
  obtain ⟨b, e1, e2⟩ := h.c4 e
  exact ⟨b, e1, e2.at (kb e2.ty (by decide))⟩,
  fun i hi => owns_other (h.ops i hi) hr (by decide) hg,
  fun i hi => owns_other (h.ks i hi) hr (by decide) hg,
  h.n1,
  h.n2⟩
theorem R10.alloc3 {w : World} {B gm : Nat} {L : List DraftM} {E : List EntR} {s : List UInt8} {ln : Int} {vT oN oK oL oO vN vK vL vO t1 t2 t3 t4 : Value} {s1 s2 _s3 s4 nT : Nat} {xT : List Value} (h : R10 w B gm L E s ln nT xT vT oN oK oL oO s1 s2 0 s4 vN vK vL vO t1 t2 t3 t4) : R10 (w.alloc (.cells #[.int .i64 ln] 3)) B gm L E s ln nT xT vT oN oK oL oO s1 s2 1 s4 vN vK vL vO t1 t2 (.slice (some ⟨w.heap.size, 0, none⟩) 1 1) t4 := by
 exact ⟨h.bx.alloc _,
  h.rT.alloc _,
  fun e => (h.a1 e).alloc _,
  fun e => (h.b1 e).alloc _,
  fun e => by
  obtain ⟨b, e1, e2⟩ := h.c1 e
  exact ⟨b, e1, e2.alloc _⟩,
  fun e => (h.a2 e).alloc _,
  fun e => (h.b2 e).alloc _,
  fun e => by
  obtain ⟨b, e1, e2⟩ := h.c2 e
  exact ⟨b, e1, e2.alloc _⟩,
  fun _ => (h.a3 (by decide)).alloc _,
  fun e => (by cases e),
  fun _ => ⟨_, rfl, Blk.new w _ [.int .i64 ln]⟩,
  fun e => (h.a4 e).alloc _,
  fun e => (h.b4 e).alloc _,
  fun e => by
  obtain ⟨b, e1, e2⟩ := h.c4 e
  exact ⟨b, e1, e2.alloc _⟩,
  fun i hi => (h.ops i hi).alloc _,
  fun i hi => (h.ks i hi).alloc _,
  h.n1,
  h.n2⟩
theorem R10.app3 {w w' : World} {v' : Value} {B gm : Nat} {L : List DraftM} {E : List EntR} {s : List UInt8} {ln : Int} {vT oN oK oL oO vN vK vL vO t1 t2 t3 t4 : Value} {s1 s2 _s3 s4 nT : Nat} {xT : List Value} (h : R10 w B gm L E s ln nT xT vT oN oK oL oO s1 s2 1 s4 vN vK vL vO t1 t2 t3 t4) (hg : w.grownBy w' oL.ownBlock) (hown : w'.ownsRow B 3 1 v' (L.length + 1) (L.flatMap lnd ++ [.int .i64 ln])) (_hat : v'.ownBlock = oL.ownBlock ∨ v'.ownBlock = some w.heap.size) : R10 w' B gm L E s ln nT xT vT oN oK oL oO s1 s2 2 s4 vN vK v' vO t1 t2 t3 t4 := by
 have hr := h.a3 (by decide)
 have kb : ∀ {q t}, Ty w q t → t ≠ 3 → w'.heap[q]? = w.heap[q]? := fun {q t} hq hne => hg.block q hq.lt (fun e => (hq.ne (owns_ty hr e.symm) hne) rfl)
 exact ⟨h.bx.at (kb h.bx.ty (by decide)),
  owns_other h.rT hr (by decide) hg,
  fun e => owns_other (h.a1 e) hr (by decide) hg,
  fun e => owns_other (h.b1 e) hr (by decide) hg,
  fun e => by
  obtain ⟨b, e1, e2⟩ := h.c1 e
  exact ⟨b, e1, e2.at (kb e2.ty (by decide))⟩,
  fun e => owns_other (h.a2 e) hr (by decide) hg,
  fun e => owns_other (h.b2 e) hr (by decide) hg,
  fun e => by
  obtain ⟨b, e1, e2⟩ := h.c2 e
  exact ⟨b, e1, e2.at (kb e2.ty (by decide))⟩,
  fun e => absurd rfl e,
  fun _ => hown,
  fun e => (by cases e),
  fun e => owns_other (h.a4 e) hr (by decide) hg,
  fun e => owns_other (h.b4 e) hr (by decide) hg,
  fun e => by
  obtain ⟨b, e1, e2⟩ := h.c4 e
  exact ⟨b, e1, e2.at (kb e2.ty (by decide))⟩,
  fun i hi => owns_other (h.ops i hi) hr (by decide) hg,
  fun i hi => owns_other (h.ks i hi) hr (by decide) hg,
  h.n1,
  h.n2⟩
theorem R10.alloc4 {w : World} {B gm : Nat} {L : List DraftM} {E : List EntR} {s : List UInt8} {ln : Int} {vT oN oK oL oO vN vK vL vO t1 t2 t3 t4 : Value} {s1 s2 s3 _s4 nT : Nat} {xT : List Value} (h : R10 w B gm L E s ln nT xT vT oN oK oL oO s1 s2 s3 0 vN vK vL vO t1 t2 t3 t4) : R10 (w.alloc (.cells #[.bool true] 4)) B gm L E s ln nT xT vT oN oK oL oO s1 s2 s3 1 vN vK vL vO t1 t2 t3 (.slice (some ⟨w.heap.size, 0, none⟩) 1 1) := by
 exact ⟨h.bx.alloc _,
  h.rT.alloc _,
  fun e => (h.a1 e).alloc _,
  fun e => (h.b1 e).alloc _,
  fun e => by
  obtain ⟨b, e1, e2⟩ := h.c1 e
  exact ⟨b, e1, e2.alloc _⟩,
  fun e => (h.a2 e).alloc _,
  fun e => (h.b2 e).alloc _,
  fun e => by
  obtain ⟨b, e1, e2⟩ := h.c2 e
  exact ⟨b, e1, e2.alloc _⟩,
  fun e => (h.a3 e).alloc _,
  fun e => (h.b3 e).alloc _,
  fun e => by
  obtain ⟨b, e1, e2⟩ := h.c3 e
  exact ⟨b, e1, e2.alloc _⟩,
  fun _ => (h.a4 (by decide)).alloc _,
  fun e => (by cases e),
  fun _ => ⟨_, rfl, Blk.new w _ [.bool true]⟩,
  fun i hi => (h.ops i hi).alloc _,
  fun i hi => (h.ks i hi).alloc _,
  h.n1,
  h.n2⟩
theorem R10.app4 {w w' : World} {v' : Value} {B gm : Nat} {L : List DraftM} {E : List EntR} {s : List UInt8} {ln : Int} {vT oN oK oL oO vN vK vL vO t1 t2 t3 t4 : Value} {s1 s2 s3 _s4 nT : Nat} {xT : List Value} (h : R10 w B gm L E s ln nT xT vT oN oK oL oO s1 s2 s3 1 vN vK vL vO t1 t2 t3 t4) (hg : w.grownBy w' oO.ownBlock) (hown : w'.ownsRow B 4 1 v' (L.length + 1) (L.flatMap opd ++ [.bool true])) (_hat : v'.ownBlock = oO.ownBlock ∨ v'.ownBlock = some w.heap.size) : R10 w' B gm L E s ln nT xT vT oN oK oL oO s1 s2 s3 2 vN vK vL v' t1 t2 t3 t4 := by
 have hr := h.a4 (by decide)
 have kb : ∀ {q t}, Ty w q t → t ≠ 4 → w'.heap[q]? = w.heap[q]? := fun {q t} hq hne => hg.block q hq.lt (fun e => (hq.ne (owns_ty hr e.symm) hne) rfl)
 exact ⟨h.bx.at (kb h.bx.ty (by decide)),
  owns_other h.rT hr (by decide) hg,
  fun e => owns_other (h.a1 e) hr (by decide) hg,
  fun e => owns_other (h.b1 e) hr (by decide) hg,
  fun e => by
  obtain ⟨b, e1, e2⟩ := h.c1 e
  exact ⟨b, e1, e2.at (kb e2.ty (by decide))⟩,
  fun e => owns_other (h.a2 e) hr (by decide) hg,
  fun e => owns_other (h.b2 e) hr (by decide) hg,
  fun e => by
  obtain ⟨b, e1, e2⟩ := h.c2 e
  exact ⟨b, e1, e2.at (kb e2.ty (by decide))⟩,
  fun e => owns_other (h.a3 e) hr (by decide) hg,
  fun e => owns_other (h.b3 e) hr (by decide) hg,
  fun e => by
  obtain ⟨b, e1, e2⟩ := h.c3 e
  exact ⟨b, e1, e2.at (kb e2.ty (by decide))⟩,
  fun e => absurd rfl e,
  fun _ => hown,
  fun e => (by cases e),
  fun i hi => owns_other (h.ops i hi) hr (by decide) hg,
  fun i hi => owns_other (h.ks i hi) hr (by decide) hg,
  h.n1,
  h.n2⟩
def mkL (s1 s2 s3 s4 : Nat) : Array Bool := ((List.range 44).map fun j => decide (j < 32) && !(decide (j = 10) && decide (s1 < 1)) && !(decide (j = 11) && decide (s1 < 2)) && !(decide (j = 16) && decide (s2 < 1)) && !(decide (j = 17) && decide (s2 < 2)) && !(decide (j = 24) && decide (s3 < 1)) && !(decide (j = 25) && decide (s3 < 2)) && !(decide (j = 30) && decide (s4 < 1)) && !(decide (j = 31) && decide (s4 < 2))).toArray
theorem mkL_10 {s2 s3 s4 : Nat} (h : s2 ≤ 2 ∧ s3 ≤ 2 ∧ s4 ≤ 2) : (mkL 0 s2 s3 s4).setIfInBounds 10 true = mkL 1 s2 s3 s4 := by
 have H : ∀ s2 s3 s4 : Fin 3, (mkL 0 s2.val s3.val s4.val).setIfInBounds 10 true = mkL 1 s2.val s3.val s4.val := by decide +kernel
 exact H ⟨s2, by omega⟩ ⟨s3, by omega⟩ ⟨s4, by omega⟩
theorem mkL_11 {s2 s3 s4 : Nat} (h : s2 ≤ 2 ∧ s3 ≤ 2 ∧ s4 ≤ 2) : (mkL 1 s2 s3 s4).setIfInBounds 11 true = mkL 2 s2 s3 s4 := by
 have H : ∀ s2 s3 s4 : Fin 3, (mkL 1 s2.val s3.val s4.val).setIfInBounds 11 true = mkL 2 s2.val s3.val s4.val := by decide +kernel
 exact H ⟨s2, by omega⟩ ⟨s3, by omega⟩ ⟨s4, by omega⟩
theorem mkL_16 {s1 s3 s4 : Nat} (h : s1 ≤ 2 ∧ s3 ≤ 2 ∧ s4 ≤ 2) : (mkL s1 0 s3 s4).setIfInBounds 16 true = mkL s1 1 s3 s4 := by
 have H : ∀ s1 s3 s4 : Fin 3, (mkL s1.val 0 s3.val s4.val).setIfInBounds 16 true = mkL s1.val 1 s3.val s4.val := by decide +kernel
 exact H ⟨s1, by omega⟩ ⟨s3, by omega⟩ ⟨s4, by omega⟩
theorem mkL_17 {s1 s3 s4 : Nat} (h : s1 ≤ 2 ∧ s3 ≤ 2 ∧ s4 ≤ 2) : (mkL s1 1 s3 s4).setIfInBounds 17 true = mkL s1 2 s3 s4 := by
 have H : ∀ s1 s3 s4 : Fin 3, (mkL s1.val 1 s3.val s4.val).setIfInBounds 17 true = mkL s1.val 2 s3.val s4.val := by decide +kernel
 exact H ⟨s1, by omega⟩ ⟨s3, by omega⟩ ⟨s4, by omega⟩
theorem mkL_24 {s1 s2 s4 : Nat} (h : s1 ≤ 2 ∧ s2 ≤ 2 ∧ s4 ≤ 2) : (mkL s1 s2 0 s4).setIfInBounds 24 true = mkL s1 s2 1 s4 := by
 have H : ∀ s1 s2 s4 : Fin 3, (mkL s1.val s2.val 0 s4.val).setIfInBounds 24 true = mkL s1.val s2.val 1 s4.val := by decide +kernel
 exact H ⟨s1, by omega⟩ ⟨s2, by omega⟩ ⟨s4, by omega⟩
theorem mkL_25 {s1 s2 s4 : Nat} (h : s1 ≤ 2 ∧ s2 ≤ 2 ∧ s4 ≤ 2) : (mkL s1 s2 1 s4).setIfInBounds 25 true = mkL s1 s2 2 s4 := by
 have H : ∀ s1 s2 s4 : Fin 3, (mkL s1.val s2.val 1 s4.val).setIfInBounds 25 true = mkL s1.val s2.val 2 s4.val := by decide +kernel
 exact H ⟨s1, by omega⟩ ⟨s2, by omega⟩ ⟨s4, by omega⟩
theorem mkL_30 {s1 s2 s3 : Nat} (h : s1 ≤ 2 ∧ s2 ≤ 2 ∧ s3 ≤ 2) : (mkL s1 s2 s3 0).setIfInBounds 30 true = mkL s1 s2 s3 1 := by
 have H : ∀ s1 s2 s3 : Fin 3, (mkL s1.val s2.val s3.val 0).setIfInBounds 30 true = mkL s1.val s2.val s3.val 1 := by decide +kernel
 exact H ⟨s1, by omega⟩ ⟨s2, by omega⟩ ⟨s3, by omega⟩
theorem mkL_31 {s1 s2 s3 : Nat} (h : s1 ≤ 2 ∧ s2 ≤ 2 ∧ s3 ≤ 2) : (mkL s1 s2 s3 1).setIfInBounds 31 true = mkL s1 s2 s3 2 := by
 have H : ∀ s1 s2 s3 : Fin 3, (mkL s1.val s2.val s3.val 1).setIfInBounds 31 true = mkL s1.val s2.val s3.val 2 := by decide +kernel
 exact H ⟨s1, by omega⟩ ⟨s2, by omega⟩ ⟨s3, by omega⟩
end
section
open Go.RowKit Go.Lib Go.Maps
theorem set_split {α : Type} (M : List α) (i : Nat) (y : α) (hi : i < M.length) : M.set i y = M.take i ++ y :: M.drop (i + 1) := by
 rw [List.set_eq_take_append_cons_drop, if_pos hi]
theorem flat_at_set {α : Type} (f : α → List Value) (s : Nat) (hf : ∀ x, (f x).length = s) (d : α) (M : List α) (i j : Nat) (y : α) (u : Value) (hi : i < M.length) (hj : j < s) (hy : f y = (f (M.getD i d)).set j u) : (M.flatMap f).set (i * s + j) u = (M.set i y).flatMap f := by
 have e : M = M.take i ++ M.getD i d :: M.drop (i + 1) := by
  have h1 : M.getD i d = M[i] := by simp [hi]
  rw [h1, ← List.drop_eq_getElem_cons hi, List.take_append_drop]
 have hl : (M.take i).length = i := by simp; omega
 have h2 := flat_set f s hf (M.take i) (M.drop (i + 1)) (M.getD i d) y j u hj hy
 rw [hl, ← e] at h2
 rw [h2, set_split M i y hi]
theorem flat_same {α : Type} (f : α → List Value) (d : α) (M : List α) (i : Nat) (y : α) (hi : i < M.length) (hy : f y = f (M.getD i d)) : (M.set i y).flatMap f = M.flatMap f := by
 have e : M = M.take i ++ M.getD i d :: M.drop (i + 1) := by
  have h1 : M.getD i d = M[i] := by simp [hi]
  rw [h1, ← List.drop_eq_getElem_cons hi, List.take_append_drop]
 rw [set_split M i y hi]
 conv => rhs; rw [e]
 rw [List.flatMap_append, List.flatMap_append, List.flatMap_cons, List.flatMap_cons, hy]
theorem zip_set (L : List DraftM) (E : List EntR) (_hl : E.length = L.length) (i : Nat) (d : DraftM) (e : EntR) (_hi : i < L.length) : (L.set i d).zip (E.set i e) = (L.zip E).set i (d, e) := by
 apply List.ext_getElem
 ·simp
 ·intro j h1 h2
  simp only [List.getElem_zip, List.getElem_set]
  by_cases q : i = j
  ·simp [q]
  ·simp [q]
theorem zip_set1 (L : List DraftM) (E : List EntR) (hl : E.length = L.length) (i : Nat) (d : DraftM) (hi : i < L.length) : (L.set i d).zip E = (L.zip E).set i (d, E.getD i noR) := by
 have h2 : i < E.length := by omega
 have e : E.set i (E.getD i noR) = E := by
  have : E.getD i noR = E[i] := by simp [h2]
  rw [this, List.set_getElem_self]
 rw [← zip_set L E hl i d _ hi, e]
theorem zip_atR (L : List DraftM) (E : List EntR) (hl : E.length = L.length) (i : Nat) (hi : i < L.length) : (L.zip E).getD i noQ = (L.getD i noD, E.getD i noR) := by
 have h2 : i < E.length := by omega
 have h3 : i < (L.zip E).length := by simp; omega
 have e : (L.zip E).getD i noQ = (L.zip E)[i] := by simp [List.getD, List.getElem?_eq_getElem h3]
 rw [e, List.getElem_zip]
 simp [hi, h2]
theorem getD_setR (E : List EntR) (i j : Nat) (e : EntR) (hi : i < E.length) : (E.set i e).getD j noR = if i = j then e else E.getD j noR := by
 by_cases h : i = j
 ·subst h; simp [hi]
 ·rw [if_neg h]; simp [List.getElem?_set_ne h]
theorem getD_snocR (E : List EntR) (e : EntR) (i : Nat) (h : i < E.length) : (E ++ [e]).getD i noR = E.getD i noR := by simp [List.getElem?_append_left h]
theorem getD_snocR' (E : List EntR) (e : EntR) : (E ++ [e]).getD E.length noR = e := by simp
structure StR (w0 w : World) (B gm gx : Nat) (L : List DraftM) (vT vN vK vL vO : Value) (E : List EntR) (x : EventM) : Prop where
 wi : WI w B gm L vT vN vK vL vO E
 box : Blk w gx 123 [.int .i64 x.1, .string (bs x.2.1), .string (bs x.2.2.1), .int .i64 x.2.2.2.1, .int .i64 x.2.2.2.2.1, .int .i64 x.2.2.2.2.2]
 bel : Below w0.heap.size w0 w
theorem StR.below {w0 w w' : World} {B gm gx : Nat} {L : List DraftM} {vT vN vK vL vO : Value} {E : List EntR} {x : EventM} (h : StR w0 w B gm gx L vT vN vK vL vO E x) (hb : Below w.heap.size w w') : StR w0 w' B gm gx L vT vN vK vL vO E x :=
 ⟨h.wi.below hb, h.box.later hb, below_next h.bel hb⟩
theorem WI.fin {w : World} {B gm i gT cT gO cO : Nat} {L : List DraftM} {vN vK vL : Value} {E : List EntR} (h : WI w B gm L (.slice (some ⟨gT, 0, none⟩) L.length cT) vN vK vL (.slice (some ⟨gO, 0, none⟩) L.length cO) E) (hi : i < L.length) (f : Int) :
  WI ((w.setCell ⟨gT, i * 3 + 1, none⟩ (.int .i64 f)).setCell ⟨gO, i, none⟩ (.bool false)) B gm (L.set i (endD (L.getD i noD) f)) (.slice (some ⟨gT, 0, none⟩) L.length cT) vN vK vL (.slice (some ⟨gO, 0, none⟩) L.length cO) E := by
 have tT := owns_ty h.rT (g := gT) rfl
 have tO := owns_ty h.rO (g := gO) rfl
 have hne : gO ≠ gT := tO.ne tT (by decide)
 have old : ∀ k, k ≠ gT → k ≠ gO → ((w.setCell ⟨gT, i * 3 + 1, none⟩ (.int .i64 f)).setCell ⟨gO, i, none⟩ (.bool false)).heap[k]? = w.heap[k]? := fun k h1 h2 => by
  rw [Below.heap_setCell _ _ _ _ h2, Below.heap_setCell _ _ _ _ h1]
 have keep : ∀ {t s n v xs}, w.ownsRow B t s v n xs → t ≠ 47 → t ≠ 4 → ((w.setCell ⟨gT, i * 3 + 1, none⟩ (.int .i64 f)).setCell ⟨gO, i, none⟩ (.bool false)).ownsRow B t s v n xs := fun hr h1 h2 =>
  owns_at hr (fun q hq => old q ((owns_ty hr hq).ne tT h1) ((owns_ty hr hq).ne tO h2))
 have hl := h.len
 have gd : ∀ j, ((L.set i (endD (L.getD i noD) f)).getD j noD).ops = (L.getD j noD).ops ∧ ((L.set i (endD (L.getD i noD) f)).getD j noD).ks = (L.getD j noD).ks := fun j => by
  rw [getD_setD L i j _ hi]
  by_cases q : i = j
  ·rw [if_pos q, ← q]; exact ⟨rfl, rfl⟩
  ·rw [if_neg q]; exact ⟨rfl, rfl⟩
 refine ⟨h.bx.at (old gm (h.bx.ty.ne tT (by decide)) (h.bx.ty.ne tO (by decide))), h.base, by rw [List.length_set]; exact hl, ?_, ?_, ?_, ?_, ?_, fun j hj => ?_, fun j hj => ?_, fun a b hab hb => ?_, fun a b hab hb => ?_, fun a ha => ?_⟩
 ·rw [List.length_set, zip_set1 L E hl i _ hi, ← flat_at_set wtc 3 wtc_len noQ (L.zip E) i 1 _ (.int .i64 f) (by simp; omega) (by decide) (by rw [zip_atR L E hl i hi]; rfl)]
  exact owns_at (h.rT.stored (i * 3 + 1) (.int .i64 f)).1 (fun q hq => by
   have e : gT = q := by simpa [Value.ownBlock] using hq
   rw [Below.heap_setCell _ _ _ _ (by rw [← e]; exact hne.symm)])
 ·rw [List.length_set, flat_same nmd noD L i (endD (L.getD i noD) f) hi rfl]
  exact keep h.rN (by decide) (by decide)
 ·rw [List.length_set]
  exact keep h.rK (by decide) (by decide)
 ·rw [List.length_set, flat_same lnd noD L i (endD (L.getD i noD) f) hi rfl]
  exact keep h.rL (by decide) (by decide)
 ·have e := flat_at_set opd 1 (fun _ => rfl) noD L i 0 (endD (L.getD i noD) f) (.bool false) hi (by decide) rfl
  rw [Nat.mul_one, Nat.add_zero] at e
  rw [List.length_set, ← e]
  exact ((owns_at h.rO (fun q hq => Below.heap_setCell _ _ _ _ (by
   have e : gO = q := by simpa [Value.ownBlock] using hq
   rw [← e]; exact hne))).stored i (.bool false)).1
 all_goals rw [List.length_set] at *
 ·rw [(gd j).1]; exact keep (h.ops j hj) (by decide) (by decide)
 ·rw [(gd j).2]; exact keep (h.ks j hj) (by decide) (by decide)
 ·exact h.neo a b hab hb
 ·exact h.nek a b hab hb
 ·exact h.nkn a ha
theorem WI.addop {w w4 : World} {B gm i gT cT : Nat} {L : List DraftM} {vN vK vL vO v4 : Value} {E : List EntR} {ob : Obj} (h : WI w B gm L (.slice (some ⟨gT, 0, none⟩) L.length cT) vN vK vL vO E) (hi : i < L.length) (o : OpM)
  (hown : w4.ownsRow B 51 4 v4 ((L.getD i noD).ops.length + 1) ((L.getD i noD).ops.flatMap opc ++ opc o)) (hg : (w.alloc ob).grownBy w4 (E.getD i noR).1.ownBlock) (hat : v4.ownBlock = (E.getD i noR).1.ownBlock ∨ v4.ownBlock = some (w.alloc ob).heap.size) :
  w4.ownsRow B 47 3 (.slice (some ⟨gT, 0, none⟩) L.length cT) L.length ((L.zip E).flatMap wtc) ∧
  WI (w4.setCell ⟨gT, i * 3 + 2, none⟩ v4) B gm (L.set i { L.getD i noD with ops := (L.getD i noD).ops ++ [o] }) (.slice (some ⟨gT, 0, none⟩) L.length cT) vN vK vL vO (E.set i (v4, (E.getD i noR).2)) := by
 have tT := owns_ty h.rT (g := gT) rfl
 have hr := h.ops i hi
 have hl := h.len
 have hiE : i < E.length := by omega
 have old : ∀ k, k < w.heap.size → (E.getD i noR).1.ownBlock ≠ some k → w4.heap[k]? = w.heap[k]? := fun k hk hne => by
  rw [hg.block k (by simp; omega) (fun e => hne e.symm), heap_kept _ _ hk]
 have no : ∀ {k t}, Ty w k t → t ≠ 51 → (E.getD i noR).1.ownBlock ≠ some k := fun {k t} hk ht he => (hk.ne (owns_ty hr he) ht) rfl
 have hT4 : w4.ownsRow B 47 3 (.slice (some ⟨gT, 0, none⟩) L.length cT) L.length ((L.zip E).flatMap wtc) := owns_at h.rT (fun q hq => old q (own_lt h.rT hq) (no (owns_ty h.rT hq) (by decide)))
 have old5 : ∀ k, k < w.heap.size → (E.getD i noR).1.ownBlock ≠ some k → k ≠ gT → (w4.setCell ⟨gT, i * 3 + 2, none⟩ v4).heap[k]? = w.heap[k]? := fun k hk hne h1 => by
  rw [Below.heap_setCell _ _ _ _ h1]
  exact old k hk hne
 have keep : ∀ {t s n v xs}, w.ownsRow B t s v n xs → t ≠ 47 → t ≠ 51 → (w4.setCell ⟨gT, i * 3 + 2, none⟩ v4).ownsRow B t s v n xs := fun hr h1 h2 =>
  owns_at hr (fun q hq => old5 q (own_lt hr hq) (no (owns_ty hr hq) h2) ((owns_ty hr hq).ne tT h1))
 have tT4 := owns_ty hT4 (g := gT) rfl
 refine ⟨hT4, h.bx.at (old5 gm h.bx.lt (no h.bx.ty (by decide)) (h.bx.ty.ne tT (by decide))), h.base, by rw [List.length_set, List.length_set]; exact hl, ?_, ?_, ?_, ?_, ?_, fun j hj => ?_, fun j hj => ?_, fun a b hab hb g h1 h2 => ?_, fun a b hab hb g h1 h2 => ?_, fun a ha g h1 => ?_⟩
 ·rw [List.length_set, zip_set L E hl i _ _ hi, ← flat_at_set wtc 3 wtc_len noQ (L.zip E) i 2 _ v4 (by simp; omega) (by decide) (by rw [zip_atR L E hl i hi]; rfl)]
  exact (hT4.stored (i * 3 + 2) v4).1
 ·rw [List.length_set, flat_same nmd noD L i _ hi (by rfl)]
  exact keep h.rN (by decide) (by decide)
 ·rw [List.length_set, flat_same ksd noR E i (v4, (E.getD i noR).2) hiE (by rfl)]
  exact keep h.rK (by decide) (by decide)
 ·rw [List.length_set, flat_same lnd noD L i _ hi (by rfl)]
  exact keep h.rL (by decide) (by decide)
 ·rw [List.length_set, flat_same opd noD L i _ hi (by rfl)]
  exact keep h.rO (by decide) (by decide)
 all_goals rw [List.length_set] at *
 ·rw [getD_setD L i j _ hi, getD_setR E i j _ hiE]
  by_cases q : i = j
  ·rw [if_pos q, if_pos q]
   have h9 := owns_at (w' := w4.setCell ⟨gT, i * 3 + 2, none⟩ v4) hown (fun q hq => Below.heap_setCell _ _ _ _ ((owns_ty hown hq).ne tT4 (by decide)))
   rw [flat_snoc] at h9
   simpa using h9
  ·rw [if_neg q, if_neg q]
   refine owns_at (h.ops j hj) (fun g hq => old5 g (own_lt (h.ops j hj) hq) (fun e => ?_) ((owns_ty (h.ops j hj) hq).ne tT (by decide)))
   rcases Nat.lt_or_gt_of_ne q with q1 | q1
   ·exact h.neo i j q1 hj g e hq
   ·exact h.neo j i q1 hi g hq e
 ·rw [getD_setD L i j _ hi, getD_setR E i j _ hiE]
  by_cases q : i = j
  ·rw [if_pos q, if_pos q]
   exact keep (h.ks i hi) (by decide) (by decide)
  ·rw [if_neg q, if_neg q]
   exact keep (h.ks j hj) (by decide) (by decide)
 ·rw [getD_setR E i a _ hiE] at h1
  rw [getD_setR E i b _ hiE] at h2
  have big : ∀ {j}, j < L.length → (E.getD j noR).1.ownBlock = some g → g ≠ (w.alloc ob).heap.size := fun {j} hj hg9 => by
   have := own_lt (h.ops j hj) hg9
   simp; omega
  by_cases qa : i = a
  ·rw [if_pos qa] at h1
   rw [if_neg (by omega)] at h2
   rcases hat with e | e
   ·rw [e, qa] at h1; exact h.neo a b hab hb g h1 h2
   ·rw [e] at h1; injection h1 with h1; exact big hb h2 h1.symm
  ·rw [if_neg qa] at h1
   by_cases qb : i = b
   ·rw [if_pos qb] at h2
    rcases hat with e | e
    ·rw [e, qb] at h2; exact h.neo a b hab hb g h1 h2
    ·rw [e] at h2; injection h2 with h2; exact big (by omega) h1 h2.symm
   ·rw [if_neg qb] at h2; exact h.neo a b hab hb g h1 h2
 ·rw [getD_setR E i a _ hiE] at h1
  rw [getD_setR E i b _ hiE] at h2
  have ea : (if i = a then ((v4, (E.getD i noR).2) : EntR) else E.getD a noR).2 = (E.getD a noR).2 := by
   by_cases qa : i = a
   ·rw [if_pos qa, qa]
   ·rw [if_neg qa]
  have eb : (if i = b then ((v4, (E.getD i noR).2) : EntR) else E.getD b noR).2 = (E.getD b noR).2 := by
   by_cases qb : i = b
   ·rw [if_pos qb, qb]
   ·rw [if_neg qb]
  rw [ea] at h1
  rw [eb] at h2
  exact h.nek a b hab hb g h1 h2
 ·rw [getD_setR E i a _ hiE] at h1
  have ea : (if i = a then ((v4, (E.getD i noR).2) : EntR) else E.getD a noR).2 = (E.getD a noR).2 := by
   by_cases qa : i = a
   ·rw [if_pos qa, qa]
   ·rw [if_neg qa]
  rw [ea] at h1
  exact h.nkn a ha g h1
theorem WI.addkey {w w4 : World} {B gm i gK cK : Nat} {L : List DraftM} {vT vN vL vO v4 : Value} {E : List EntR} {ob : Obj} (h : WI w B gm L vT vN (.slice (some ⟨gK, 0, none⟩) L.length cK) vL vO E) (hi : i < L.length) (o : List UInt8)
  (hown : w4.ownsRow B 9 1 v4 ((L.getD i noD).ks.length + 1) (strs (L.getD i noD).ks ++ [.string (bs o)])) (hg : (w.alloc ob).grownBy w4 (E.getD i noR).2.ownBlock) (hat : v4.ownBlock = (E.getD i noR).2.ownBlock ∨ v4.ownBlock = some (w.alloc ob).heap.size) :
  w4.ownsRow B 22 1 (.slice (some ⟨gK, 0, none⟩) L.length cK) L.length (E.flatMap ksd) ∧
  WI (w4.setCell ⟨gK, i, none⟩ v4) B gm (L.set i { L.getD i noD with ks := (L.getD i noD).ks ++ [o] }) vT vN (.slice (some ⟨gK, 0, none⟩) L.length cK) vL vO (E.set i ((E.getD i noR).1, v4)) := by
 have tK := owns_ty h.rK (g := gK) rfl
 have hr := h.ks i hi
 have hl := h.len
 have hiE : i < E.length := by omega
 have old : ∀ k, k < w.heap.size → (E.getD i noR).2.ownBlock ≠ some k → w4.heap[k]? = w.heap[k]? := fun k hk hne => by
  rw [hg.block k (by simp; omega) (fun e => hne e.symm), heap_kept _ _ hk]
 have no : ∀ {k t}, Ty w k t → t ≠ 9 → (E.getD i noR).2.ownBlock ≠ some k := fun {k t} hk ht he => (hk.ne (owns_ty hr he) ht) rfl
 have hK4 : w4.ownsRow B 22 1 (.slice (some ⟨gK, 0, none⟩) L.length cK) L.length (E.flatMap ksd) := owns_at h.rK (fun q hq => old q (own_lt h.rK hq) (no (owns_ty h.rK hq) (by decide)))
 have old5 : ∀ k, k < w.heap.size → (E.getD i noR).2.ownBlock ≠ some k → k ≠ gK → (w4.setCell ⟨gK, i, none⟩ v4).heap[k]? = w.heap[k]? := fun k hk hne h1 => by
  rw [Below.heap_setCell _ _ _ _ h1]
  exact old k hk hne
 have keep : ∀ {t s n v xs}, w.ownsRow B t s v n xs → t ≠ 22 → t ≠ 9 → (w4.setCell ⟨gK, i, none⟩ v4).ownsRow B t s v n xs := fun hr h1 h2 =>
  owns_at hr (fun q hq => old5 q (own_lt hr hq) (no (owns_ty hr hq) h2) ((owns_ty hr hq).ne tK h1))
 have tK4 := owns_ty hK4 (g := gK) rfl
 refine ⟨hK4, h.bx.at (old5 gm h.bx.lt (no h.bx.ty (by decide)) (h.bx.ty.ne tK (by decide))), h.base, by rw [List.length_set, List.length_set]; exact hl, ?_, ?_, ?_, ?_, ?_, fun j hj => ?_, fun j hj => ?_, fun a b hab hb g h1 h2 => ?_, fun a b hab hb g h1 h2 => ?_, fun a ha g h1 h2 => ?_⟩
 ·rw [List.length_set, zip_set L E hl i _ _ hi, flat_same wtc noQ (L.zip E) i _ (by simp; omega) (by rw [zip_atR L E hl i hi]; rfl)]
  exact keep h.rT (by decide) (by decide)
 ·rw [List.length_set, flat_same nmd noD L i _ hi (by rfl)]
  exact owns_at h.rN (fun q hq => old5 q (own_lt h.rN hq) (fun e => h.nkn i hi q e hq) ((owns_ty h.rN hq).ne tK (by decide)))
 ·have e := flat_at_set ksd 1 (fun _ => rfl) noR E i 0 ((E.getD i noR).1, v4) v4 hiE (by decide) rfl
  rw [Nat.mul_one, Nat.add_zero] at e
  rw [List.length_set, ← e]
  exact (hK4.stored i v4).1
 ·rw [List.length_set, flat_same lnd noD L i _ hi (by rfl)]
  exact keep h.rL (by decide) (by decide)
 ·rw [List.length_set, flat_same opd noD L i _ hi (by rfl)]
  exact keep h.rO (by decide) (by decide)
 all_goals rw [List.length_set] at *
 ·rw [getD_setD L i j _ hi, getD_setR E i j _ hiE]
  by_cases q : i = j
  ·rw [if_pos q, if_pos q]
   exact keep (h.ops i hi) (by decide) (by decide)
  ·rw [if_neg q, if_neg q]
   exact keep (h.ops j hj) (by decide) (by decide)
 ·rw [getD_setD L i j _ hi, getD_setR E i j _ hiE]
  by_cases q : i = j
  ·rw [if_pos q, if_pos q]
   have h9 := owns_at (w' := w4.setCell ⟨gK, i, none⟩ v4) hown (fun q hq => Below.heap_setCell _ _ _ _ ((owns_ty hown hq).ne tK4 (by decide)))
   rw [strs_snoc] at h9
   simpa using h9
  ·rw [if_neg q, if_neg q]
   refine owns_at (h.ks j hj) (fun g hq => old5 g (own_lt (h.ks j hj) hq) (fun e => ?_) ((owns_ty (h.ks j hj) hq).ne tK (by decide)))
   rcases Nat.lt_or_gt_of_ne q with q1 | q1
   ·exact h.nek i j q1 hj g e hq
   ·exact h.nek j i q1 hi g hq e
 ·rw [getD_setR E i a _ hiE] at h1
  rw [getD_setR E i b _ hiE] at h2
  have ea : (if i = a then (((E.getD i noR).1, v4) : EntR) else E.getD a noR).1 = (E.getD a noR).1 := by
   by_cases qa : i = a
   ·rw [if_pos qa, qa]
   ·rw [if_neg qa]
  have eb : (if i = b then (((E.getD i noR).1, v4) : EntR) else E.getD b noR).1 = (E.getD b noR).1 := by
   by_cases qb : i = b
   ·rw [if_pos qb, qb]
   ·rw [if_neg qb]
  rw [ea] at h1
  rw [eb] at h2
  exact h.neo a b hab hb g h1 h2
 ·rw [getD_setR E i a _ hiE] at h1
  rw [getD_setR E i b _ hiE] at h2
  have big : ∀ {j}, j < L.length → (E.getD j noR).2.ownBlock = some g → g ≠ (w.alloc ob).heap.size := fun {j} hj hg9 => by
   have := own_lt (h.ks j hj) hg9
   simp; omega
  by_cases qa : i = a
  ·rw [if_pos qa] at h1
   rw [if_neg (by omega)] at h2
   rcases hat with e | e
   ·rw [e, qa] at h1; exact h.nek a b hab hb g h1 h2
   ·rw [e] at h1; injection h1 with h1; exact big hb h2 h1.symm
  ·rw [if_neg qa] at h1
   by_cases qb : i = b
   ·rw [if_pos qb] at h2
    rcases hat with e | e
    ·rw [e, qb] at h2; exact h.nek a b hab hb g h1 h2
    ·rw [e] at h2; injection h2 with h2; exact big (by omega) h1 h2.symm
   ·rw [if_neg qb] at h2; exact h.nek a b hab hb g h1 h2
 ·rw [getD_setR E i a _ hiE] at h1
  by_cases qa : i = a
  ·rw [if_pos qa] at h1
   rcases hat with e | e
   ·rw [e, qa] at h1; exact h.nkn a ha g h1 h2
   ·rw [e] at h1; injection h1 with h1
    have := own_lt h.rN h2
    simp at h1; omega
  ·rw [if_neg qa] at h1
   exact h.nkn a ha g h1 h2
end
section
open Go.RowKit Go.Lib Go.Maps
theorem WI.addT {w w4 : World} {B gm : Nat} {L : List DraftM} {vT vN vK vL vO v4 : Value} {E : List EntR} {ob : Obj} (h : WI w B gm L vT vN vK vL vO E) (s : List UInt8) (ln : Int)
  (hown : w4.ownsRow B 47 3 v4 (L.length + 1) ((L.zip E).flatMap wtc ++ [.int .i64 0, .int .i64 0, .slice none 0 0])) (hg : (w.alloc ob).grownBy w4 vT.ownBlock) (t : Value) :
  Blk w4 gm 146 [.slice none 0 0, .slice none 0 0, vT, vN, vK, vL, vO] ∧
  R10 (w4.setCell ⟨gm, 2, none⟩ v4) B gm L E s ln (L.length + 1) ((L.zip E).flatMap wtc ++ [.int .i64 0, .int .i64 0, .slice none 0 0]) v4 vN vK vL vO 0 0 0 0 vN vK vL vO t t t t := by
 have old : ∀ k, k < w.heap.size → vT.ownBlock ≠ some k → w4.heap[k]? = w.heap[k]? := fun k hk hne => by
  rw [hg.block k (by simp; omega) (fun e => hne e.symm), heap_kept _ _ hk]
 have no : ∀ {k t}, Ty w k t → t ≠ 47 → vT.ownBlock ≠ some k := fun {k t} hk ht he => (hk.ne (owns_ty h.rT he) ht) rfl
 have hb4 := h.bx.at (old gm h.bx.lt (no h.bx.ty (by decide)))
 have old5 : ∀ k, k < w.heap.size → vT.ownBlock ≠ some k → k ≠ gm → (w4.setCell ⟨gm, 2, none⟩ v4).heap[k]? = w.heap[k]? := fun k hk hne h1 => by
  rw [Below.heap_setCell _ _ _ _ h1]
  exact old k hk hne
 have keep : ∀ {t s n v xs}, w.ownsRow B t s v n xs → t ≠ 47 → t ≠ 146 → (w4.setCell ⟨gm, 2, none⟩ v4).ownsRow B t s v n xs := fun hr h1 h2 =>
  owns_at hr (fun q hq => old5 q (own_lt hr hq) (no (owns_ty hr hq) h1) ((owns_ty hr hq).ne h.bx.ty h2))
 exact ⟨hb4, hb4.set 2 v4, owns_store hown hb4 (by decide) 2 v4,
  fun _ => keep h.rN (by decide) (by decide), fun e => (by cases e), fun e => (by cases e), fun _ => keep h.rK (by decide) (by decide), fun e => (by cases e), fun e => (by cases e),
  fun _ => keep h.rL (by decide) (by decide), fun e => (by cases e), fun e => (by cases e), fun _ => keep h.rO (by decide) (by decide), fun e => (by cases e), fun e => (by cases e),
  fun i hi => keep (h.ops i hi) (by decide) (by decide), fun i hi => keep (h.ks i hi) (by decide) (by decide), fun _ => h.nkn, fun e => (by cases e)⟩
theorem R10.done {w : World} {B gm : Nat} {L : List DraftM} {E : List EntR} {s : List UInt8} {ln : Int} {vT oN oK oL oO vN vK vL vO t1 t2 t3 t4 : Value} (hl : E.length = L.length) (hB : B ≤ gm)
  (n0 : ∀ i j, i < j → j < L.length → ∀ g, (E.getD i noR).1.ownBlock = some g → (E.getD j noR).1.ownBlock ≠ some g) (n3 : ∀ i j, i < j → j < L.length → ∀ g, (E.getD i noR).2.ownBlock = some g → (E.getD j noR).2.ownBlock ≠ some g)
  (h : R10 w B gm L E s ln (L.length + 1) ((L.zip E).flatMap wtc ++ [.int .i64 0, .int .i64 0, .slice none 0 0]) vT oN oK oL oO 2 2 2 2 vN vK vL vO t1 t2 t3 t4) :
  WI ((((w.setCell ⟨gm, 3, none⟩ vN).setCell ⟨gm, 4, none⟩ vK).setCell ⟨gm, 5, none⟩ vL).setCell ⟨gm, 6, none⟩ vO) B gm (L ++ [⟨s, [], ln, 0, [], true⟩]) vT vN vK vL vO (E ++ [noR]) := by
 have old : ∀ k, k ≠ gm → ((((w.setCell ⟨gm, 3, none⟩ vN).setCell ⟨gm, 4, none⟩ vK).setCell ⟨gm, 5, none⟩ vL).setCell ⟨gm, 6, none⟩ vO).heap[k]? = w.heap[k]? := fun k hk => by
  rw [Below.heap_setCell _ _ _ _ hk, Below.heap_setCell _ _ _ _ hk, Below.heap_setCell _ _ _ _ hk, Below.heap_setCell _ _ _ _ hk]
 have keep : ∀ {t s n v xs}, w.ownsRow B t s v n xs → t ≠ 146 → ((((w.setCell ⟨gm, 3, none⟩ vN).setCell ⟨gm, 4, none⟩ vK).setCell ⟨gm, 5, none⟩ vL).setCell ⟨gm, 6, none⟩ vO).ownsRow B t s v n xs := fun hr h1 =>
  owns_at hr (fun q hq => old q ((owns_ty hr hq).ne h.bx.ty h1))
 have hz : (L ++ [(⟨s, [], ln, 0, [], true⟩ : DraftM)]).zip (E ++ [noR]) = L.zip E ++ [(⟨s, [], ln, 0, [], true⟩, noR)] := by rw [List.zip_append hl.symm]; rfl
 have ge : ∀ i, i < L.length → (E ++ [noR]).getD i noR = E.getD i noR := fun i hi => getD_snocR E noR i (by omega)
 have gl : ∀ i, i < L.length → (L ++ [(⟨s, [], ln, 0, [], true⟩ : DraftM)]).getD i noD = L.getD i noD := fun i hi => by simp [List.getElem?_append_left hi]
 have el : (E ++ [noR]).getD L.length noR = noR := by rw [← hl]; exact getD_snocR' E noR
 have ll : (L ++ [(⟨s, [], ln, 0, [], true⟩ : DraftM)]).getD L.length noD = ⟨s, [], ln, 0, [], true⟩ := by simp
 have len : ∀ d : DraftM, (L ++ [d]).length = L.length + 1 := fun d => by simp
 refine ⟨(((h.bx.set 3 vN).set 4 vK).set 5 vL).set 6 vO, hB, by simp [hl], ?_, ?_, ?_, ?_, ?_, fun i hi => ?_, fun i hi => ?_, fun i j hij hj g h1 => ?_, fun i j hij hj g h1 => ?_, fun i hi g h1 => ?_⟩
 ·rw [len, hz, List.flatMap_append]
  exact keep h.rT (by decide)
 ·rw [len, List.flatMap_append]
  exact keep (h.b1 rfl) (by decide)
 ·rw [len, List.flatMap_append]
  exact keep (h.b2 rfl) (by decide)
 ·rw [len, List.flatMap_append]
  exact keep (h.b3 rfl) (by decide)
 ·rw [len, List.flatMap_append]
  exact keep (h.b4 rfl) (by decide)
 ·rw [len] at hi
  rcases Nat.lt_or_ge i L.length with h9 | h9
  ·rw [ge i h9, gl i h9]; exact keep (h.ops i h9) (by decide)
  ·obtain rfl : i = L.length := by omega
   rw [el, ll]; exact World.ownsRow_nil _ _ _ _
 ·rw [len] at hi
  rcases Nat.lt_or_ge i L.length with h9 | h9
  ·rw [ge i h9, gl i h9]; exact keep (h.ks i h9) (by decide)
  ·obtain rfl : i = L.length := by omega
   rw [el, ll]; exact World.ownsRow_nil _ _ _ _
 ·rw [len] at hj
  rw [ge i (by omega)] at h1
  rcases Nat.lt_or_ge j L.length with h9 | h9
  ·rw [ge j h9]; exact n0 i j hij h9 g h1
  ·obtain rfl : j = L.length := by omega
   rw [el]; exact fun e => (by cases e)
 ·rw [len] at hj
  rw [ge i (by omega)] at h1
  rcases Nat.lt_or_ge j L.length with h9 | h9
  ·rw [ge j h9]; exact n3 i j hij h9 g h1
  ·obtain rfl : j = L.length := by omega
   rw [el]; exact fun e => (by cases e)
 ·rw [len] at hi
  rcases Nat.lt_or_ge i L.length with h9 | h9
  ·rw [ge i h9] at h1; exact h.n2 rfl i h9 g h1
  ·obtain rfl : i = L.length := by omega
   rw [el] at h1; cases h1
theorem step_append_row {w : World} {ops : Array Oper} {o : Oper} {a : Act} {K : Act → World → Prop} {Q : Exit → Act → World → Prop} {F : Prop} (hw : Region.wanted o (yielded ops a.tmps) = true) (s x : Operand)
  (ho : o.op = .call { callee := .builtin .append, args := #[s, x], argTypes := #[22, 22] })
  (base base' : Nat) (v : Value) (n m : Nat) (xs : List Value) (ys : List (List UInt8)) (hs : a.eval s = v) (hown : w.ownsRow base 9 1 v n xs) (v2 : Value) (hx : a.eval x = v2) (hrow : w.ownsRow base' 9 1 v2 m (strs ys))
  (hn : n + m ≤ 1000000) (hbase : base ≤ w.heap.size)
  (h : ∀ v' w', w'.ownsRow base 9 1 v' (n + m) (xs ++ strs ys) → w.grownBy w' v.ownBlock → (v'.ownBlock = v.ownBlock ∨ v'.ownBlock = some w.heap.size) → K (a.put o.dst v') w') :
  if Region.wanted o (yielded ops a.tmps) = true then Oper.wp Tryz.prog o a w K Q else F := by
 obtain ⟨i0, hi, hz0, hz1, hz2⟩ := info_parts info_str
 rw [if_pos hw]
 rcases id hrow.2 with ⟨rfl, hn0⟩ | ⟨g, cap, cur, rfl, -⟩
 ·subst hn0
  have hy : ys = [] := by
   have := hrow.1
   simp [strs] at this
   exact this
  subst hy
  have hrun := run_append_owned_none (P := Tryz.prog) (w := w) base 22 o.type 9 i0 1 Tryz.underlying22 hi v n xs hown
  unfold Oper.wp execOp
  simp only [ho, resolve, invoke, builtin, Sem.run_bind, Sem.run_pure, Result.andThen_ok, List.map_toArray, List.map_cons, List.map_nil, hs, hx, hrun]
  exact h v w (by simpa [strs] using hown) ⟨rfl, rfl, rfl, Nat.le_refl _, fun _ _ _ => rfl⟩ (.inl rfl)
 ·obtain ⟨v', w', hr, h2, h3, -, h5⟩ := run_append_own_at (P := Tryz.prog) w base 22 o.type 9 i0 (.string ByteArray.empty) 1 16 Tryz.underlying22 hi hz0 hz1 hz2 rfl (by decide) v n xs hown ⟨g, 0, none⟩ m cap (strs ys) hrow.1 (hrow.cells (g := g) rfl) (ones_strs ys) (by unfold maxLen; omega) (by omega) hbase
  unfold Oper.wp execOp
  simp only [ho, resolve, invoke, builtin, Sem.run_bind, Sem.run_pure, Result.andThen_ok, List.map_toArray, List.map_cons, List.map_nil, hs, hx, hr]
  exact h v' w' h2 h3 h5
theorem step_append_row_one {w : World} {ops : Array Oper} {o : Oper} {a : Act} {K : Act → World → Prop} {Q : Exit → Act → World → Prop} {F : Prop} (hw : Region.wanted o (yielded ops a.tmps) = true) (s x : Operand)
  (ho : o.op = .call { callee := .builtin .append, args := #[s, x], argTypes := #[22, 22] })
  (base : Nat) (v : Value) (n : Nat) (xs : List Value) (hs : a.eval s = v) (hown : w.ownsRow base 9 1 v n xs) (g c : Nat) (y : Value) (hx : a.eval x = .slice (some ⟨g, 0, none⟩) 1 c) (hb : Blk w g 9 [y]) (hy : y.oneCell' = true)
  (hn : n + 1 ≤ 1000000) (hbase : base ≤ w.heap.size)
  (h : ∀ v' w', w'.ownsRow base 9 1 v' (n + 1) (xs ++ [y]) → w.grownBy w' v.ownBlock → K (a.put o.dst v') w') :
  if Region.wanted o (yielded ops a.tmps) = true then Oper.wp Tryz.prog o a w K Q else F := by
 obtain ⟨i0, hi, hz0, hz1, hz2⟩ := info_parts info_str
 rw [if_pos hw]
 obtain ⟨v', w', hr, h2, h3, h4, h5⟩ := run_append_own_at (P := Tryz.prog) w base 22 o.type 9 i0 (.string ByteArray.empty) 1 16 Tryz.underlying22 hi hz0 hz1 hz2 rfl (by decide) v n xs hown ⟨g, 0, none⟩ 1 c [y] rfl (fun j u hj => by rw [Addr.add_lit, Nat.zero_add]; exact hb.cell j hj) (fun u hu => by simp at hu; subst hu; exact hy) (by unfold maxLen; omega) (by omega) hbase
 unfold Oper.wp execOp
 simp only [ho, resolve, invoke, builtin, Sem.run_bind, Sem.run_pure, Result.andThen_ok, List.map_toArray, List.map_cons, List.map_nil, hs, hx, hr]
 exact h v' w' h2 h3
structure StQ (w0 w : World) (B gm gx : Nat) (L : List DraftM) (vT vN vK vL vO : Value) (E : List EntR) (x : EventM) : Prop where
 wi : WI w B gm L vT vN vK vL vO E
 box : Blk w gx 123 [.int .i64 x.1, .string (bs x.2.1), .string (bs x.2.2.1), .int .i64 x.2.2.2.1, .int .i64 x.2.2.2.2.1, .int .i64 x.2.2.2.2.2]
 bel : Below B w0 w
theorem StR.q {w0 w : World} {B gm gx : Nat} {L : List DraftM} {vT vN vK vL vO : Value} {E : List EntR} {x : EventM} (h : StR w0 w B gm gx L vT vN vK vL vO E x) (hB : B ≤ w0.heap.size) : StQ w0 w B gm gx L vT vN vK vL vO E x := ⟨h.wi, h.box, h.bel.mono hB⟩
theorem StQ.below {w0 w w' : World} {B gm gx : Nat} {L : List DraftM} {vT vN vK vL vO : Value} {E : List EntR} {x : EventM} (h : StQ w0 w B gm gx L vT vN vK vL vO E x) (hb : Below w.heap.size w w') (hB : B ≤ w0.heap.size) : StQ w0 w' B gm gx L vT vN vK vL vO E x :=
 ⟨h.wi.below hb, h.box.later hb, h.bel.trans (hb.mono (Nat.le_trans hB h.bel.size))⟩
theorem StQ.addop {w0 w w4 : World} {B gm gx i gT cT : Nat} {L : List DraftM} {vN vK vL vO v4 : Value} {E : List EntR} {x : EventM} {ob : Obj} (h : StQ w0 w B gm gx L (.slice (some ⟨gT, 0, none⟩) L.length cT) vN vK vL vO E x) (hB : B ≤ w0.heap.size) (hi : i < L.length) (o : OpM)
  (hown : w4.ownsRow B 51 4 v4 ((L.getD i noD).ops.length + 1) ((L.getD i noD).ops.flatMap opc ++ opc o)) (hg : (w.alloc ob).grownBy w4 (E.getD i noR).1.ownBlock) (hat : v4.ownBlock = (E.getD i noR).1.ownBlock ∨ v4.ownBlock = some (w.alloc ob).heap.size) :
  w4.cell? ⟨gT, i * 3 + 2, none⟩ = some (E.getD i noR).1 ∧ w4.frozen? ⟨gT, i * 3 + 2, none⟩ = false ∧
  StQ w0 (w4.setCell ⟨gT, i * 3 + 2, none⟩ v4) B gm gx (L.set i { L.getD i noD with ops := (L.getD i noD).ops ++ [o] }) (.slice (some ⟨gT, 0, none⟩) L.length cT) vN vK vL vO (E.set i (v4, (E.getD i noR).2)) x := by
 obtain ⟨q1, q2⟩ := h.wi.addop hi o hown hg hat
 have hz : (L.zip E).length = L.length := by simp [h.wi.len]
 have hr := h.wi.ops i hi
 refine ⟨?_, q1.frozenAt _, q2, ?_, ?_⟩
 ·rw [q1.cellAt (i * 3 + 2) (by omega), flat_at wtc 3 wtc_len noQ (L.zip E) i 2 (by omega) (by decide), zip_atR L E h.wi.len i hi]
  rfl
 ·refine h.box.at ?_
  rw [Below.heap_setCell _ _ _ _ (h.box.ty.ne (owns_ty h.wi.rT (g := gT) rfl) (by decide)), hg.block gx (by have := h.box.lt; simp; omega) (fun e => (h.box.ty.ne (owns_ty hr e.symm) (by decide)) rfl), heap_kept _ _ h.box.lt]
 ·have hBw := Nat.le_trans hB h.bel.size
  exact ((h.bel.alloc hBw ob).grown hg (by simp; omega) (fun k hk => (hr.lt k hk).1)).setCell (p := ⟨gT, i * 3 + 2, none⟩) (h.wi.rT.lt gT rfl).1 _
theorem StQ.addkey {w0 w w4 : World} {B gm gx i gK cK : Nat} {L : List DraftM} {vT vN vL vO v4 : Value} {E : List EntR} {x : EventM} {ob : Obj} (h : StQ w0 w B gm gx L vT vN (.slice (some ⟨gK, 0, none⟩) L.length cK) vL vO E x) (hB : B ≤ w0.heap.size) (hi : i < L.length) (o : List UInt8)
  (hown : w4.ownsRow B 9 1 v4 ((L.getD i noD).ks.length + 1) (strs (L.getD i noD).ks ++ [.string (bs o)])) (hg : (w.alloc ob).grownBy w4 (E.getD i noR).2.ownBlock) (hat : v4.ownBlock = (E.getD i noR).2.ownBlock ∨ v4.ownBlock = some (w.alloc ob).heap.size) :
  w4.cell? ⟨gK, i, none⟩ = some (E.getD i noR).2 ∧ w4.frozen? ⟨gK, i, none⟩ = false ∧
  StQ w0 (w4.setCell ⟨gK, i, none⟩ v4) B gm gx (L.set i { L.getD i noD with ks := (L.getD i noD).ks ++ [o] }) vT vN (.slice (some ⟨gK, 0, none⟩) L.length cK) vL vO (E.set i ((E.getD i noR).1, v4)) x := by
 obtain ⟨q1, q2⟩ := h.wi.addkey hi o hown hg hat
 have hr := h.wi.ks i hi
 have hl := h.wi.len
 refine ⟨?_, q1.frozenAt _, q2, ?_, ?_⟩
 ·have := flat_at ksd 1 (fun _ => rfl) noR E i 0 (by omega) (by decide)
  rw [Nat.mul_one, Nat.add_zero] at this
  rw [q1.cellAt i (by omega), this]
  rfl
 ·refine h.box.at ?_
  rw [Below.heap_setCell _ _ _ _ (h.box.ty.ne (owns_ty h.wi.rK (g := gK) rfl) (by decide)), hg.block gx (by have := h.box.lt; simp; omega) (fun e => (h.box.ty.ne (owns_ty hr e.symm) (by decide)) rfl), heap_kept _ _ h.box.lt]
 ·have hBw := Nat.le_trans hB h.bel.size
  exact ((h.bel.alloc hBw ob).grown hg (by simp; omega) (fun k hk => (hr.lt k hk).1)).setCell (p := ⟨gK, i, none⟩) (h.wi.rK.lt gK rfl).1 _
theorem StR.addT {w0 w w4 : World} {B gm gx : Nat} {L : List DraftM} {vT vN vK vL vO v4 : Value} {E : List EntR} {x : EventM} {ob : Obj} (h : StR w0 w B gm gx L vT vN vK vL vO E x) (hB : B ≤ w0.heap.size) (s : List UInt8) (ln : Int)
  (hown : w4.ownsRow B 47 3 v4 (L.length + 1) ((L.zip E).flatMap wtc ++ [.int .i64 0, .int .i64 0, .slice none 0 0])) (hg : (w.alloc ob).grownBy w4 vT.ownBlock) (t : Value) :
  Blk w4 gm 146 [.slice none 0 0, .slice none 0 0, vT, vN, vK, vL, vO] ∧
  R10 (w4.setCell ⟨gm, 2, none⟩ v4) B gm L E s ln (L.length + 1) ((L.zip E).flatMap wtc ++ [.int .i64 0, .int .i64 0, .slice none 0 0]) v4 vN vK vL vO 0 0 0 0 vN vK vL vO t t t t ∧
  Blk (w4.setCell ⟨gm, 2, none⟩ v4) gx 123 [.int .i64 x.1, .string (bs x.2.1), .string (bs x.2.2.1), .int .i64 x.2.2.2.1, .int .i64 x.2.2.2.2.1, .int .i64 x.2.2.2.2.2] ∧ Below B w0 (w4.setCell ⟨gm, 2, none⟩ v4) := by
 obtain ⟨q1, q2⟩ := h.wi.addT s ln hown hg t
 have hbel := h.bel.mono hB
 have hBw := Nat.le_trans hB h.bel.size
 refine ⟨q1, q2, h.box.at ?_, ((hbel.alloc hBw ob).grown hg (by simp; omega) (fun k hk => (h.wi.rT.lt k hk).1)).setCell (p := ⟨gm, 2, none⟩) h.wi.base _⟩
 rw [Below.heap_setCell _ _ _ _ (h.box.ty.ne h.wi.bx.ty (by decide)), hg.block gx (by have := h.box.lt; simp; omega) (fun e => (h.box.ty.ne (owns_ty h.wi.rT e.symm) (by decide)) rfl), heap_kept _ _ h.box.lt]
def S10W (gm gx : Nat) (s : List UInt8) (ln : Int) (oN oK oL oO : Value) (w : World) : Prop :=
 w.cell? ⟨gm, 3, none⟩ = some oN ∧ w.cell? ⟨gm, 4, none⟩ = some oK ∧ w.cell? ⟨gm, 5, none⟩ = some oL ∧ w.cell? ⟨gm, 6, none⟩ = some oO ∧ w.cell? ⟨gx, 1, none⟩ = some (.string (bs s)) ∧ w.cell? ⟨gx, 5, none⟩ = some (.int .i64 ln)
theorem S10W.at {gm gx : Nat} {s : List UInt8} {ln : Int} {oN oK oL oO : Value} {w w' : World} (h : S10W gm gx s ln oN oK oL oO w) (h1 : w'.heap[gm]? = w.heap[gm]?) (h2 : w'.heap[gx]? = w.heap[gx]?) : S10W gm gx s ln oN oK oL oO w' := by
 obtain ⟨a1, a2, a3, a4, a5, a6⟩ := h
 exact ⟨(World.cell?_of_block (a := ⟨gm, 3, none⟩) h1).trans a1, (World.cell?_of_block (a := ⟨gm, 4, none⟩) h1).trans a2, (World.cell?_of_block (a := ⟨gm, 5, none⟩) h1).trans a3, (World.cell?_of_block (a := ⟨gm, 6, none⟩) h1).trans a4, (World.cell?_of_block (a := ⟨gx, 1, none⟩) h2).trans a5, (World.cell?_of_block (a := ⟨gx, 5, none⟩) h2).trans a6⟩
section
variable {P : Program} {ops : Array Oper} {Q : Exit → Act → World → Prop} {md : Region.Mode} {S : World → Prop} {late : List Nat}
theorem wpAnyM_steps0 (I : Act → Nat → Array Bool → Act → World → Prop) (fuel m : Nat) {listed0 : Array Bool} {a0 : Act} {w0 : World}
  (hr : ∀ n listed a w, I a0 (n + 1) listed a w → Region.ready md ops listed ≠ [])
  (hs : ∀ n listed a w, I a0 (n + 1) listed a w → ∀ i o, i ∈ Region.ready md ops listed → ops[i]? = some o → ∀ K : Act → World → Prop, RowKit.Hid (∀ a' w', (late.contains i = false → S w → S w') → I a0 n (listed.setIfInBounds i true) a' w' → K a' w') → if Region.wanted o (yielded ops a.tmps) = true then Oper.wp P o a w K Q else K (a.put o.dst undef) w)
  (he : ∀ listed a w, I a0 0 listed a w → wpAnyM P md ops Q S late fuel listed a w) (h0 : I a0 m listed0 a0 w0) : wpAnyM P md ops Q S late (fuel + m) listed0 a0 w0 := wpAnyM_steps I a0 fuel hr hs he m listed0 a0 w0 h0
end
theorem step_append_own_c {P : Program} {w : World} {o : Oper} {a : Act} {K : Act → World → Prop} {Q : Exit → Act → World → Prop} {F : Prop} {cb : Bool} (hcb : cb = true) (s x : Operand) (t : TypeId)
  (ho : o.op = .call { callee := .builtin .append, args := #[s, x], argTypes := #[t, t] })
  (base : Nat) (e : TypeId) (i : TypeInfo) (z : Value) (size bytes : Nat) (ht : P.underlying t = some (.slice e)) (hi : P.info? e = some i) (hz : i.zero = some z)
  (hsize : i.size = size) (hby : i.bytes = bytes) (hzs : z.cells.size = size) (hsz : 0 < size)
  (v : Value) (n : Nat) (xs : List Value) (hs : a.eval s = v) (hown : w.ownsRow base e size v n xs)
  (ad : Addr) (m c : Nat) (news : List Value) (hx : a.eval x = .slice (some ad) m c) (hl : news.length = m * size) (hnews : ∀ j u, news[j]? = some u → w.cell? (ad.add j) = some u) (h1 : ∀ u ∈ news, u.oneCell' = true)
  (h63 : n + m ≤ maxLen) (hbytes : (n + m) * bytes ≤ 140737488355328) (hbase : base ≤ w.heap.size)
  (h : ∀ v' w', w'.ownsRow base e size v' (n + m) (xs ++ news) → w.grownBy w' v.ownBlock → (v'.ownBlock = v.ownBlock ∨ v'.ownBlock = some w.heap.size) → K (a.put o.dst v') w') :
  if cb = true then Oper.wp P o a w K Q else F := by
 rw [if_pos hcb]
 obtain ⟨v', w', hr, h2, h3, -, h5⟩ := run_append_own_at (P := P) w base t o.type e i z size bytes ht hi hz hsize hby hzs hsz v n xs hown ad m c news hl hnews h1 h63 hbytes hbase
 unfold Oper.wp execOp
 simp only [ho, resolve, invoke, builtin, Sem.run_bind, Sem.run_pure, Result.andThen_ok, List.map_toArray, List.map_cons, List.map_nil, hs, hx, hr]
 exact h v' w' h2 h3 h5
end
end Go.Proofs.YtmgchjddpmmglaaGreatDoor
