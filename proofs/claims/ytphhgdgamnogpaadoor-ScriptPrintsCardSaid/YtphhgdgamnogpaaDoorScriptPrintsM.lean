/-
  ScriptPrints: for every input that can be read the statement's function returns true, and every argument reads afterwards as it read before; the listed tables as their initialisers lay them; the card ties them to the program's text. No conditions of its own.
-/
import Derived.Test.YtphhgdgamnogpaaDoorCards
import Derived.Test.YtphhgdgamnogpaaDoorTie
import Derived.Test.YtphhgdgamnogpaaDoorG8g
import Derived.Test.YtphhgdgamnogpaaDoorG8t
import Derived.Test.YtphhgdgamnogpaaDoorG8s
import Derived.Test.YtphhgdgamnogpaaDoorG8c
import Derived.Deep.DeepHandedRow
import Derived.Lib.LaidTab
import Derived.Lib.LaidIn
import Derived.Lib.LaidU8T
import Derived.SizedLaws
namespace Go.Proofs.YtphhgdgamnogpaaDoor.rowScriptPrints
open Go.ChangeShapes Go.WideShapes Go.ChangeAt Go.RowKit Go.Joins
open Go.ChangeMaps (open_string shut_string)

theorem first_eq : Rows.laid_unicode_utf8_first = Lib.firstData := by kernel_rfl
theorem accept_eq : (Rows.laid_unicode_utf8_acceptRanges : DataW Unit) = Lib.acceptData := by kernel_rfl
/-- What the row's list gives: unicode/utf8's two tables. -/
theorem tabs {W : World} (h : laidMetH Tryd.prog Rows.scriptPrintsRow.laid W) : Lib.Utf8Tabs 4 5 W :=
  utf8Tabs_of_readsT (U8Types.of196 Tryd.laysValid) ⟨by kernel_rfl, by kernel_rfl, by kernel_rfl, by kernel_rfl, by kernel_rfl, by kernel_rfl, by kernel_rfl⟩
    (by rw [← first_eq]; exact Lib.laidMet.reads h (.tail _ (.tail _ (.tail _ (.tail _ (.head _)))))) (by rw [← accept_eq]; exact Lib.laidMet.reads h (.head _))
theorem tab_script_firsts {W : World} (h : laidMetH Tryd.prog Rows.scriptPrintsRow.laid W) : ∀ i, i < ([[], [108, 101, 118, 101, 108], [112, 111, 108, 105, 99, 121], [98, 117, 100, 103, 101, 116], [99, 104, 101, 99, 107], [114, 101, 112, 111, 114, 116], [102, 111, 114, 99, 101, 100], [119, 111, 114, 108, 100, 115], [101, 110, 111, 117, 103, 104], [115, 104, 111, 119], [119, 114, 111, 110, 103]] : List (List UInt8)).length → W.cell? ⟨0, i, none⟩ = some (.string (bs (([[], [108, 101, 118, 101, 108], [112, 111, 108, 105, 99, 121], [98, 117, 100, 103, 101, 116], [99, 104, 101, 99, 107], [114, 101, 112, 111, 114, 116], [102, 111, 114, 99, 101, 100], [119, 111, 114, 108, 100, 115], [101, 110, 111, 117, 103, 104], [115, 104, 111, 119], [119, 114, 111, 110, 103]] : List (List UInt8)).getD i []))) :=
  strs_of_reads (by kernel_rfl) (by kernel_rfl) Tryd.underlying84 Tryd.underlying9 (by kernel_rfl) (show Lib.VarReads Tryd.prog W "deemster/script.firsts" Rows.laid_deemster_script_firsts from Lib.laidMet.reads h (.tail _ (.tail _ (.tail _ (.head _)))))
theorem tab_text_levels {W : World} (h : laidMetH Tryd.prog Rows.scriptPrintsRow.laid W) : ∀ i, i < ([[], [82, 67], [67, 67], [83, 69, 82]] : List (List UInt8)).length → W.cell? ⟨2, i, none⟩ = some (.string (bs (([[], [82, 67], [67, 67], [83, 69, 82]] : List (List UInt8)).getD i []))) :=
  strs_of_reads (by kernel_rfl) (by kernel_rfl) Tryd.underlying166 Tryd.underlying9 (by kernel_rfl) (show Lib.VarReads Tryd.prog W "deemster/text.levels" Rows.laid_deemster_text_levels from Lib.laidMet.reads h (.tail _ (.head _)))
theorem tab_text_policies {W : World} (h : laidMetH Tryd.prog Rows.scriptPrintsRow.laid W) : ∀ i, i < ([[], [107, 101, 101, 112], [101, 114, 97, 115, 101]] : List (List UInt8)).length → W.cell? ⟨3, i, none⟩ = some (.string (bs (([[], [107, 101, 101, 112], [101, 114, 97, 115, 101]] : List (List UInt8)).getD i []))) :=
  strs_of_reads (by kernel_rfl) (by kernel_rfl) Tryd.underlying167 Tryd.underlying9 (by kernel_rfl) (show Lib.VarReads Tryd.prog W "deemster/text.policies" Rows.laid_deemster_text_policies from Lib.laidMet.reads h (.tail _ (.tail _ (.head _))))

/-- The witness: the settled world, the variables holding what their initialisers lay. -/
noncomputable def laidWorld (os : Os) : World :=
  let w0 := World.holding Tryd.prog os ⟨#[], #[], []⟩
  let put (h : Array Obj) (g : Nat) (cs : Array Value) : Array Obj := h.modify g fun
    | .cells _ t frozen => .cells cs t frozen
    | o => o
  let h1 := put w0.heap 5 ((List.range 16).flatMap fun i => [Value.int .u8 (Lib.accLo i), Value.int .u8 (Lib.accHi i)]).toArray
  let h2 := put h1 2 (([[], [82, 67], [67, 67], [83, 69, 82]] : List (List UInt8)).map fun l => Value.string (bs l)).toArray
  let h3 := put h2 3 (([[], [107, 101, 101, 112], [101, 114, 97, 115, 101]] : List (List UInt8)).map fun l => Value.string (bs l)).toArray
  let h4 := put h3 0 (([[], [108, 101, 118, 101, 108], [112, 111, 108, 105, 99, 121], [98, 117, 100, 103, 101, 116], [99, 104, 101, 99, 107], [114, 101, 112, 111, 114, 116], [102, 111, 114, 99, 101, 100], [119, 111, 114, 108, 100, 115], [101, 110, 111, 117, 103, 104], [115, 104, 111, 119], [119, 114, 111, 110, 103]] : List (List UInt8)).map fun l => Value.string (bs l)).toArray
  let h5 := put h4 4 (Lib.firstTab.map fun z => Value.int .u8 z).toArray
  { w0 with heap := h5 }
theorem laid_met (os : Os) (args : Array Value) : laidMet Tryd.prog Rows.scriptPrintsRow.laid ((laidWorld os).forCall (fun _ _ => 0) ⟨#[], args, []⟩).memory :=
  (LaidIn.of_run (l := Rows.scriptPrintsRow.laid) [5, 2, 3, 0, 4] 8 (by kernel_rfl) (by kernel_rfl) (by kernel_rfl) (by kernel_rfl)).met
theorem reads (os : Os) {H : Type} (enc : TypeId × Value → H) : ∃ places, DataW.whole enc Tryd.prog ((laidWorld os).forCall (fun _ _ => 0) ⟨#[], #[.slice none 0 0], []⟩).memory Tryd.f8.params.toList Rows.scriptPrintsSpec.vars false #[Value.slice none 0 0].toList 8 = some ([.nil], [], places) :=
  ⟨[], by kernel_rfl⟩

set_option maxRecDepth 100000 in
theorem lifted (os : Os) (started : os.Started) (H : Type) (enc : TypeId × Value → H) (F : Stop.Interp) :
    ReturnsInHanded {} Tryd.checked os 8 .any ((OpenSpec.ofChange Rows.scriptPrintsSpec).preRow enc Tryd.prog Tryd.f8 Rows.scriptPrintsRow.domain false Rows.scriptPrintsRow.laid) (((OpenSpec.ofChange Rows.scriptPrintsSpec).at F).post enc Tryd.prog Tryd.f8 false true false false) := by
  obtain ⟨places, hx⟩ := reads os enc
  refine returnsInHanded_of_row (C := Tryd.checked) (s := OpenSpec.ofChange Rows.scriptPrintsSpec) Tryd.own started (by kernel_rfl) Tryd.func8
    (witness_row_at (enc := enc) (C := Tryd.checked) false (laidWorld os) #[.slice none 0 0] rfl (by kernel_rfl) (by kernel_rfl) (by kernel_rfl)
      (OpenSpec.preRow_of_cond 8 hx (by kernel_rfl) (fun k hk => by cases hk) (by kernel_rfl) (laid_met os _))) ?_
  intro W base args ds gs before hval0 hW _ _ _ hL hM _
  have hT := tabs hL
  have h_tab_script_firsts := tab_script_firsts hL
  have h_tab_text_levels := tab_text_levels hL
  have h_tab_text_policies := tab_text_policies hL
  have hval : ∀ (j : Nat) t v, Tryd.f8.params[j]? = some t → args[j]? = some v → Value.okWide Tryd.prog W .any base t v := hval0
  have hW' := hW
  obtain ⟨p, q, hA0, hV, rfl, hfz, hnd⟩ := hW
  have hA : DataW.TrodAll enc Tryd.prog W 0 (fun _ => true) true Tryd.f8.params.toList args.toList ds p := hA0
  have hA1 := hA
  rw [Tryd.params8] at hA hval
  obtain ⟨rfl, rfl⟩ := trodVars_none hV
  simp only [List.append_nil] at hW'
  suffices hc : Calls Tryd.prog 8 args W fun e W' => e = .returned (.bool true) ∧ Below W.heap.size W W' by
    refine hc.mono fun e W' ⟨he, hb⟩ => ?_
    subst he
    refine ⟨_, rfl, law_post Tryd.underlying4 Tryd.laidOut (by kernel_rfl) rfl (by kernel_rfl) rfl hW' hA1 ?_ ?_ ?_ hb⟩
    all_goals
      obtain ⟨v0, vs0, d0, ds0, p0, q0, hargs, rfl, rfl, h0, r0⟩ := trodAll_cons hA
      obtain ⟨rfl, rfl, rfl⟩ := trodAll_nil r0
      obtain rfl : args = #[v0] := by cases args; simp_all
      rfl
  clear hW' hA0 hval0 hA1
  obtain ⟨v0, vs0, d0, ds0, p0, q0, hargs, rfl, rfl, h0, r0⟩ := trodAll_cons hA
  obtain ⟨rfl, rfl, rfl⟩ := trodAll_nil r0
  obtain rfl : args = #[v0] := by cases args; simp_all
  obtain ⟨L0, hv0⟩ := open_cmdsV (hval 0 27 v0 rfl rfl) h0
  exact scriptprints_any _ L0 W hv0 (HasMax.shaped hM) (sctab_of h_tab_script_firsts h_tab_text_levels h_tab_text_policies)

theorem said : Rows.ScriptPrintsSaid :=
  OpenClaim.holds_of_cond 8 Tryd.f8 rfl rfl rfl rfl rfl rfl rfl ⟨rfl, rfl, rfl, rfl, rfl⟩ rfl rfl rfl rfl rfl (by kernel_rfl) Tryd.func8 (by kernel_rfl)
    (of_decide_eq_true (by kernel_rfl)) (by unfold Func.isWrapper; first | (rw [if_pos (by decide +kernel)]; kernel_rfl) | (rw [if_neg (by decide +kernel)]; exact ⟨rfl, rfl⟩))
    (fun os started H enc _ F => by rw [OpenClaim.pre_eq_preRow]; exact lifted os started H enc F)

/-- No parameter wants a stand-in; the program's own looks are on. -/
theorem plain (f : FuncId) (fn : Func) (hf : Tryd.pinned.checked.prog.funcNamed "deemster/deemsterlaw43.ScriptPrints" = some f) (hfn : Tryd.pinned.checked.prog.funcs[f]? = some fn) :
    true = Tryd.pinned.checked.prog.looks [] ∧ ∀ (j : Nat) t, fn.params[j]? = some t → Tryd.pinned.checked.prog.wantsStandIn t = false := by
  obtain rfl : f = 8 := Option.some.inj ((show Tryd.prog.funcNamed "deemster/deemsterlaw43.ScriptPrints" = some 8 by kernel_rfl).symm.trans hf) |>.symm
  obtain rfl : fn = Tryd.f8 := (Option.some.inj (Tryd.func8.symm.trans hfn)).symm
  refine ⟨by kernel_rfl, fun j t ht => ?_⟩
  rw [Tryd.params8] at ht
  obtain rfl : t = 27 := by simpa using Array.mem_of_getElem? ht
  exact (show Tryd.prog.wantsStandIn 27 = false by kernel_rfl)

theorem card : Rows.ScriptPrintsCardSaid :=
  Claim7.holds_tied_plain_at .later [] _ _ _ _ said (fun _ h => by cases h) (by kernel_rfl) (fun _ h => by cases h) scriptPrints_row_tie rfl ⟨rfl, rfl⟩ (by kernel_rfl) rfl plain (by kernel_rfl)
#print axioms card
end Go.Proofs.YtphhgdgamnogpaaDoor.rowScriptPrints
