/-
  Layer 10 (pair): what the program's maker holds, as memory of the call's own. No conditions.
  Layer 10 (pair): what the maker's steps leave in memory, the walks apart. No conditions.
  A region that draws its order, where three operations may come up next. No conditions.
-/
import Derived.Test.YtldcbapjiflblaaDoorPPb
import Derived.Lib.ValidLaws
import Derived.Lib.MapLaws
import GoSem.Conv.StringToRunes
import Derived.Lib.DecodeN
import Derived.Lib.RuneBytes
import Derived.Lib.SplitLaws
import Derived.Ground.NamesProg
import Derived.Shelf.LaysM
import Derived.Shelf.Strings.Prefix
import Derived.Shelf.Strings.Split
import Derived.Test.YtldcbapjiflblaaDoorProg
import Derived.Laws.RangeAny
import Derived.WalkKit
import Derived.Laws.AppendOwn
import Derived.Shelf.GgClosure.StringsTrimFunc
import Derived.Shelf.Strings.Cut
import Derived.Shelf.Strings.Search3
import Derived.Shelf.Strings.OnBuilder
import Derived.WalkSmall
import Derived.Deep.AppendLies
import Derived.IntWalk
import Derived.Lib.Join
import Derived.Lib.SlicesCompact
import Derived.Sort.Statements
import Derived.Maps.OwnSet
import Derived.Deep.Slices
import Derived.ChangeSame
import Derived.Maps.AppendAt
import Derived.Maps.OwnOps
namespace Go.Proofs.YtldcbapjiflblaaDoor
section
open Go.RowKit Go.Lib Go.Maps
theorem Blk.at {w w' : World} {B : Nat} {t : TypeId} {cs : List Value} (h : Blk w B t cs) (e : w'.heap[B]? = w.heap[B]?) : Blk w' B t cs := e.trans h
def Ty (w : World) (g : Nat) (t : TypeId) : Prop := ∃ cs fz, w.heap[g]? = some (.cells cs t fz)
theorem Ty.ne {w : World} {g g' : Nat} {t t' : TypeId} (h : Ty w g t) (h' : Ty w g' t') (hne : t ≠ t') : g ≠ g' := by
 rintro rfl
 obtain ⟨_, _, h⟩ := h
 obtain ⟨_, _, h'⟩ := h'
 rw [h] at h'
 injection h' with h'
 injection h' with _ h'
 exact hne h'
theorem Blk.ty {w : World} {B : Nat} {t : TypeId} {cs : List Value} (h : Blk w B t cs) : Ty w B t := ⟨_, _, h⟩
end
section
open Go.RowKit Go.Lib Go.Maps
theorem step_append_own_at {P : Program} {w : World} {ops : Array Oper} {o : Oper} {a : Act} {K : Act → World → Prop} {Q : Exit → Act → World → Prop} {F : Prop} (hgd : o.guard = none) (s x : Operand) (t : TypeId)
  (ho : o.op = .call { callee := .builtin .append, args := #[s, x], argTypes := #[t, t] })
  (base : Nat) (e : TypeId) (i : TypeInfo) (z : Value) (size bytes : Nat) (ht : P.underlying t = some (.slice e)) (hi : P.info? e = some i) (hz : i.zero = some z)
  (hsize : i.size = size) (hby : i.bytes = bytes) (hzs : z.cells.size = size) (hsz : 0 < size)
  (v : Value) (n : Nat) (xs : List Value) (hs : a.eval s = v) (hown : w.ownsRow base e size v n xs)
  (ad : Addr) (m c : Nat) (news : List Value) (hx : a.eval x = .slice (some ad) m c) (hl : news.length = m * size) (hnews : ∀ j u, news[j]? = some u → w.cell? (ad.add j) = some u) (h1 : ∀ u ∈ news, u.oneCell' = true)
  (h63 : n + m ≤ maxLen) (hbytes : (n + m) * bytes ≤ 140737488355328) (hbase : base ≤ w.heap.size)
  (h : ∀ v' w', w'.ownsRow base e size v' (n + m) (xs ++ news) → w.grownBy w' v.ownBlock → (v'.ownBlock = v.ownBlock ∨ v'.ownBlock = some w.heap.size) → K (a.put o.dst v') w') :
  if Region.wanted o (yielded ops a.tmps) = true then Oper.wp P o a w K Q else F := by
 have hw : Region.wanted o (yielded ops a.tmps) = true := by simp [Region.wanted, hgd]
 rw [if_pos hw]
 obtain ⟨v', w', hr, h2, h3, -, h5⟩ := run_append_own_at (P := P) w base t o.type e i z size bytes ht hi hz hsize hby hzs hsz v n xs hown ad m c news hl hnews h1 h63 hbytes hbase
 unfold Oper.wp execOp
 simp only [ho, resolve, invoke, builtin, Sem.run_bind, Sem.run_pure, Result.andThen_ok, List.map_toArray, List.map_cons, List.map_nil, hs, hx, hr]
 exact h v' w' h2 h3 h5
theorem Ty.lt {w : World} {k : Nat} {t : TypeId} (h : Ty w k t) : k < w.heap.size := by
 obtain ⟨cs, fz, h⟩ := h
 exact (Array.getElem?_eq_some_iff.1 h).1
theorem Ty.at {w w' : World} {k : Nat} {t : TypeId} (h : Ty w k t) (e : w'.heap[k]? = w.heap[k]?) : Ty w' k t := by
 obtain ⟨cs, fz, h⟩ := h
 exact ⟨cs, fz, e.trans h⟩
end
section
open Go.RowKit
section
variable {P : Program} {ops : Array Oper} {Q : Exit → Act → World → Prop} {md : Region.Mode} {S : World → Prop} {late : List Nat}
theorem wpAnyM_three (i j k : Nat) {di dj dk : Option Tmp} {opi opj opk : Op} {tyi tyj tyk : TypeId} {posi posj posk : String} {afti aftj aftk : Array Edge} {gdi gdj gdk : Option (Nat × Bool)} {fuel : Nat} {listed : Array Bool} {a : Act} {w : World} (hi : ops[i]? = some ⟨di, opi, tyi, posi, afti, gdi⟩) (hj : ops[j]? = some ⟨dj, opj, tyj, posj, aftj, gdj⟩) (hk : ops[k]? = some ⟨dk, opk, tyk, posk, aftk, gdk⟩) (hr : Region.ready md ops listed = [i, j, k])
  (h1 : ∀ K : Act → World → Prop, RowKit.Hid (∀ a' w', (late.contains i = false → S w → S w') → wpAnyM P md ops Q S late fuel (listed.setIfInBounds i true) a' w' → K a' w') → if Region.wanted ⟨di, opi, tyi, posi, afti, gdi⟩ (yielded ops a.tmps) = true then Oper.wp P ⟨di, opi, tyi, posi, afti, gdi⟩ a w K Q else K (a.put di undef) w)
  (h2 : ∀ K : Act → World → Prop, RowKit.Hid (∀ a' w', (late.contains j = false → S w → S w') → wpAnyM P md ops Q S late fuel (listed.setIfInBounds j true) a' w' → K a' w') → if Region.wanted ⟨dj, opj, tyj, posj, aftj, gdj⟩ (yielded ops a.tmps) = true then Oper.wp P ⟨dj, opj, tyj, posj, aftj, gdj⟩ a w K Q else K (a.put dj undef) w)
  (h3 : ∀ K : Act → World → Prop, RowKit.Hid (∀ a' w', (late.contains k = false → S w → S w') → wpAnyM P md ops Q S late fuel (listed.setIfInBounds k true) a' w' → K a' w') → if Region.wanted ⟨dk, opk, tyk, posk, aftk, gdk⟩ (yielded ops a.tmps) = true then Oper.wp P ⟨dk, opk, tyk, posk, aftk, gdk⟩ a w K Q else K (a.put dk undef) w) : wpAnyM P md ops Q S late (fuel + 1) listed a w := by
 refine ⟨fun h0 => (by rw [hr] at h0; cases h0), fun q hq => ?_⟩
 rw [hr] at hq
 have hq' : q = i ∨ q = j ∨ q = k := by simpa using hq
 rcases hq' with rfl | rfl | rfl
 ·exact wpOp_step hi (fun K hK => h1 K (Lib.hid (fun a' w' g1 g2 => hK a' w' ⟨g1, g2⟩)))
 ·exact wpOp_step hj (fun K hK => h2 K (Lib.hid (fun a' w' g1 g2 => hK a' w' ⟨g1, g2⟩)))
 ·exact wpOp_step hk (fun K hK => h3 K (Lib.hid (fun a' w' g1 g2 => hK a' w' ⟨g1, g2⟩)))
end
end
end Go.Proofs.YtldcbapjiflblaaDoor
