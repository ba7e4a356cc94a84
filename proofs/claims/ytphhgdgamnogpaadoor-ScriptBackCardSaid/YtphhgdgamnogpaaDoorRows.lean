/-
  NARROWER THAN 'FOR EVERY INPUT', by the rows' own cells (each row's printed sentence says how): ScriptParses: laid · EventPrints: laid · EventBack: laid · LogParses: laid · ScriptBack: laid · ScriptPrints: laid · PairMany: laid · PairMakes: laid · PairCounts: laid · LogBack: laid · LogPrints: laid.
  DERIVED. THE GIVEN ROWS OF THIS SEAT. 11 by the template 'for every input the law returns true; each argument reads behind the call as it read before'; 0 by the template 'total and deterministic' (their statements: YtphhgdgamnogpaaDoorTotals.lean).
  GIVEN WITH THE SEED: the statements are not yours to turn. If you find one false, say at which input.
  Laid BY PROGRAM, IN A SANDBOX (cutbox-rows.mjs): the forced cells as the released guide's own fill.sh prints them over the translation 75d139ba0a2e43d8… (all of the seat's roots in one cut). By AI agents, Wed Nov 11 2026. No macro, syntax, notation, axiom, sorry.
-/
import Derived.Test.YtphhgdgamnogpaaDoorChecked
import GoSem.PinnedTables
import GoSem.Claim
import GoSem.ClaimJoined
import GoSem.ClaimMapViews
import Derived.JoinedTies
import Derived.KernelRfl
namespace Go.Proofs.YtphhgdgamnogpaaDoor
/- THE CELL 'sum', in the pinned program and in every row, IS THE sha256 OF THE DUMP (.gsa) THAT YtphhgdgamnogpaaDoorProg.lean LOADS. Nothing in Lean hashes anything: it is a label: what it is worth is what the hold of that sum in a sandbox is worth. -/
noncomputable def Tryd.pinned : Pinned := { name := "ytphhgdgamnogpaadoor", sum := "75d139ba0a2e43d849b63956485337b3e3e2dfb0aef6c49f49b5cc0101328381", checked := Tryd.checked }
namespace Rows
def none {H : Type} : Left H := { results := [], args := [] }

/- WHAT THE LISTED PACKAGE-LEVEL VARIABLES READ AS WHEN THE CALL BEGINS. Each datum BY PROGRAM (the guide's laid-datum.mjs) off the statement by which the dump's own 'gosem.cut.vars' lays the variable. In a bare row this is a premise. The card (YtphhgdgamnogpaaDoorCards.lean) ties it to the program's text. -/
def laid_unicode_utf8_acceptRanges {H : Type} : DataW H := .agg [.agg [.lit (.int .u8 128), .lit (.int .u8 191)], .agg [.lit (.int .u8 160), .lit (.int .u8 191)], .agg [.lit (.int .u8 128), .lit (.int .u8 159)], .agg [.lit (.int .u8 144), .lit (.int .u8 191)], .agg [.lit (.int .u8 128), .lit (.int .u8 143)], .agg [.lit (.int .u8 0), .lit (.int .u8 0)], .agg [.lit (.int .u8 0), .lit (.int .u8 0)], .agg [.lit (.int .u8 0), .lit (.int .u8 0)], .agg [.lit (.int .u8 0), .lit (.int .u8 0)], .agg [.lit (.int .u8 0), .lit (.int .u8 0)], .agg [.lit (.int .u8 0), .lit (.int .u8 0)], .agg [.lit (.int .u8 0), .lit (.int .u8 0)], .agg [.lit (.int .u8 0), .lit (.int .u8 0)], .agg [.lit (.int .u8 0), .lit (.int .u8 0)], .agg [.lit (.int .u8 0), .lit (.int .u8 0)], .agg [.lit (.int .u8 0), .lit (.int .u8 0)]]
def laid_deemster_text_levels {H : Type} : DataW H := .agg [.lit (.string []), .lit (.string [82, 67]), .lit (.string [67, 67]), .lit (.string [83, 69, 82])]
def laid_deemster_text_policies {H : Type} : DataW H := .agg [.lit (.string []), .lit (.string [107, 101, 101, 112]), .lit (.string [101, 114, 97, 115, 101])]
def laid_deemster_script_firsts {H : Type} : DataW H := .agg [.lit (.string []), .lit (.string [108, 101, 118, 101, 108]), .lit (.string [112, 111, 108, 105, 99, 121]), .lit (.string [98, 117, 100, 103, 101, 116]), .lit (.string [99, 104, 101, 99, 107]), .lit (.string [114, 101, 112, 111, 114, 116]), .lit (.string [102, 111, 114, 99, 101, 100]), .lit (.string [119, 111, 114, 108, 100, 115]), .lit (.string [101, 110, 111, 117, 103, 104]), .lit (.string [115, 104, 111, 119]), .lit (.string [119, 114, 111, 110, 103])]
/-- One of Go's own tables, pinned by name: the form's constant. -/
def laid_unicode_utf8_first : DataW Unit := Go.Pinned.utf8First
def laid_deemster_event_words {H : Type} : DataW H := .agg [.lit (.string []), .lit (.string [98, 101, 103, 105, 110]), .lit (.string [114, 101, 97, 100]), .lit (.string [119, 114, 105, 116, 101]), .lit (.string [111, 107]), .lit (.string [102, 97, 105, 108]), .lit (.string [105, 110, 102, 111])]

/-- 'deemsterlaw43.ScriptParses': WHATEVER THE INPUT: true; the input reads as it did. -/
def scriptParsesSpec : ChangeSpec := { name := "scriptParses", fn := fun _ => fun
  | [d] => { results := [.lit (.bool true)], args := [d] }
  | _ => none }
def scriptParsesRow : OpenClaim := { program := "ytphhgdgamnogpaadoor", sum := "75d139ba0a2e43d849b63956485337b3e3e2dfb0aef6c49f49b5cc0101328381", func := "deemster/deemsterlaw43.ScriptParses", spec := "scriptParses", inPlace := ["internal/bytealg.CountString", "internal/bytealg.IndexByteString", "internal/bytealg.IndexString"], unfollowed := true, recurses := true, named := ["deemster/script.firsts", "unicode/utf8.first", "unicode/utf8.acceptRanges", "internal/bytealg.MaxLen", "deemster/text.levels", "deemster/text.policies"], apart := false, laid := [("unicode/utf8.acceptRanges", laid_unicode_utf8_acceptRanges), ("deemster/text.levels", laid_deemster_text_levels), ("deemster/text.policies", laid_deemster_text_policies), ("deemster/script.firsts", laid_deemster_script_firsts), ("unicode/utf8.first", laid_unicode_utf8_first)] }
def ScriptParsesSaid : Prop := scriptParsesRow.holds Tryd.pinned (OpenSpec.ofChange scriptParsesSpec)

/-- ITS FALSE NEIGHBOUR: 'it returns false'. Refute it at one input. -/
def scriptParsesWrong : ChangeSpec := { name := "scriptParses", fn := fun _ => fun
  | [d] => { results := [.lit (.bool false)], args := [d] }
  | _ => none }
def ScriptParsesWrongFalsely : Prop := scriptParsesRow.holds Tryd.pinned (OpenSpec.ofChange scriptParsesWrong)

/-- 'deemsterlaw07.EventPrints': WHATEVER THE INPUT: true; the input reads as it did. -/
def eventPrintsSpec : ChangeSpec := { name := "eventPrints", fn := fun _ => fun
  | [d] => { results := [.lit (.bool true)], args := [d] }
  | _ => none }
def eventPrintsRow : OpenClaim := { program := "ytphhgdgamnogpaadoor", sum := "75d139ba0a2e43d849b63956485337b3e3e2dfb0aef6c49f49b5cc0101328381", func := "deemster/deemsterlaw07.EventPrints", spec := "eventPrints", inPlace := ["internal/abi.NoEscape", "internal/bytealg.MakeNoZero", "internal/bytealg.IndexByteString", "internal/bytealg.IndexString"], named := ["deemster/event.words", "unicode/utf8.first", "unicode/utf8.acceptRanges", "internal/bytealg.MaxLen"], apart := false, laid := [("unicode/utf8.acceptRanges", laid_unicode_utf8_acceptRanges), ("deemster/event.words", laid_deemster_event_words), ("unicode/utf8.first", laid_unicode_utf8_first)] }
def EventPrintsSaid : Prop := eventPrintsRow.holds Tryd.pinned (OpenSpec.ofChange eventPrintsSpec)

/-- ITS FALSE NEIGHBOUR: 'it returns false'. Refute it at one input. -/
def eventPrintsWrong : ChangeSpec := { name := "eventPrints", fn := fun _ => fun
  | [d] => { results := [.lit (.bool false)], args := [d] }
  | _ => none }
def EventPrintsWrongFalsely : Prop := eventPrintsRow.holds Tryd.pinned (OpenSpec.ofChange eventPrintsWrong)

/-- 'deemsterlaw07.EventBack': WHATEVER THE INPUT: true; the input reads as it did. -/
def eventBackSpec : ChangeSpec := { name := "eventBack", fn := fun _ => fun
  | [d1, d2] => { results := [.lit (.bool true)], args := [d1, d2] }
  | _ => none }
def eventBackRow : OpenClaim := { program := "ytphhgdgamnogpaadoor", sum := "75d139ba0a2e43d849b63956485337b3e3e2dfb0aef6c49f49b5cc0101328381", func := "deemster/deemsterlaw07.EventBack", spec := "eventBack", inPlace := ["internal/bytealg.IndexByteString", "internal/bytealg.IndexString", "internal/abi.NoEscape", "internal/bytealg.MakeNoZero"], named := ["internal/bytealg.MaxLen", "deemster/event.words", "unicode/utf8.first", "unicode/utf8.acceptRanges"], apart := false, laid := [("unicode/utf8.acceptRanges", laid_unicode_utf8_acceptRanges), ("deemster/event.words", laid_deemster_event_words), ("unicode/utf8.first", laid_unicode_utf8_first)] }
def EventBackSaid : Prop := eventBackRow.holds Tryd.pinned (OpenSpec.ofChange eventBackSpec)

/-- ITS FALSE NEIGHBOUR: 'it returns false'. Refute it at one input. -/
def eventBackWrong : ChangeSpec := { name := "eventBack", fn := fun _ => fun
  | [d1, d2] => { results := [.lit (.bool false)], args := [d1, d2] }
  | _ => none }
def EventBackWrongFalsely : Prop := eventBackRow.holds Tryd.pinned (OpenSpec.ofChange eventBackWrong)

/-- 'deemsterlaw08.LogParses': WHATEVER THE INPUT: true; the input reads as it did. -/
def logParsesSpec : ChangeSpec := { name := "logParses", fn := fun _ => fun
  | [d] => { results := [.lit (.bool true)], args := [d] }
  | _ => none }
def logParsesRow : OpenClaim := { program := "ytphhgdgamnogpaadoor", sum := "75d139ba0a2e43d849b63956485337b3e3e2dfb0aef6c49f49b5cc0101328381", func := "deemster/deemsterlaw08.LogParses", spec := "logParses", inPlace := ["internal/bytealg.CountString", "internal/bytealg.IndexByteString", "internal/bytealg.IndexString"], named := ["unicode/utf8.first", "unicode/utf8.acceptRanges", "internal/bytealg.MaxLen", "deemster/event.words"], apart := false, laid := [("unicode/utf8.acceptRanges", laid_unicode_utf8_acceptRanges), ("deemster/event.words", laid_deemster_event_words), ("unicode/utf8.first", laid_unicode_utf8_first)] }
def LogParsesSaid : Prop := logParsesRow.holds Tryd.pinned (OpenSpec.ofChange logParsesSpec)

/-- ITS FALSE NEIGHBOUR: 'it returns false'. Refute it at one input. -/
def logParsesWrong : ChangeSpec := { name := "logParses", fn := fun _ => fun
  | [d] => { results := [.lit (.bool false)], args := [d] }
  | _ => none }
def LogParsesWrongFalsely : Prop := logParsesRow.holds Tryd.pinned (OpenSpec.ofChange logParsesWrong)

/-- 'deemsterlaw43.ScriptBack': WHATEVER THE INPUT: true; the input reads as it did. -/
def scriptBackSpec : ChangeSpec := { name := "scriptBack", fn := fun _ => fun
  | [d1, d2] => { results := [.lit (.bool true)], args := [d1, d2] }
  | _ => none }
def scriptBackRow : OpenClaim := { program := "ytphhgdgamnogpaadoor", sum := "75d139ba0a2e43d849b63956485337b3e3e2dfb0aef6c49f49b5cc0101328381", func := "deemster/deemsterlaw43.ScriptBack", spec := "scriptBack", inPlace := ["internal/bytealg.CountString", "internal/bytealg.IndexByteString", "internal/bytealg.IndexString", "internal/abi.NoEscape", "internal/bytealg.MakeNoZero"], unfollowed := true, recurses := true, named := ["deemster/script.firsts", "unicode/utf8.first", "unicode/utf8.acceptRanges", "internal/bytealg.MaxLen", "deemster/text.levels", "deemster/text.policies"], apart := false, laid := [("unicode/utf8.acceptRanges", laid_unicode_utf8_acceptRanges), ("deemster/text.levels", laid_deemster_text_levels), ("deemster/text.policies", laid_deemster_text_policies), ("deemster/script.firsts", laid_deemster_script_firsts), ("unicode/utf8.first", laid_unicode_utf8_first)] }
def ScriptBackSaid : Prop := scriptBackRow.holds Tryd.pinned (OpenSpec.ofChange scriptBackSpec)

/-- ITS FALSE NEIGHBOUR: 'it returns false'. Refute it at one input. -/
def scriptBackWrong : ChangeSpec := { name := "scriptBack", fn := fun _ => fun
  | [d1, d2] => { results := [.lit (.bool false)], args := [d1, d2] }
  | _ => none }
def ScriptBackWrongFalsely : Prop := scriptBackRow.holds Tryd.pinned (OpenSpec.ofChange scriptBackWrong)

/-- 'deemsterlaw43.ScriptPrints': WHATEVER THE INPUT: true; the input reads as it did. -/
def scriptPrintsSpec : ChangeSpec := { name := "scriptPrints", fn := fun _ => fun
  | [d] => { results := [.lit (.bool true)], args := [d] }
  | _ => none }
def scriptPrintsRow : OpenClaim := { program := "ytphhgdgamnogpaadoor", sum := "75d139ba0a2e43d849b63956485337b3e3e2dfb0aef6c49f49b5cc0101328381", func := "deemster/deemsterlaw43.ScriptPrints", spec := "scriptPrints", inPlace := ["internal/abi.NoEscape", "internal/bytealg.MakeNoZero", "internal/bytealg.CountString", "internal/bytealg.IndexByteString", "internal/bytealg.IndexString"], unfollowed := true, recurses := true, named := ["deemster/text.levels", "deemster/text.policies", "deemster/script.firsts", "unicode/utf8.first", "unicode/utf8.acceptRanges", "internal/bytealg.MaxLen"], apart := false, laid := [("unicode/utf8.acceptRanges", laid_unicode_utf8_acceptRanges), ("deemster/text.levels", laid_deemster_text_levels), ("deemster/text.policies", laid_deemster_text_policies), ("deemster/script.firsts", laid_deemster_script_firsts), ("unicode/utf8.first", laid_unicode_utf8_first)] }
def ScriptPrintsSaid : Prop := scriptPrintsRow.holds Tryd.pinned (OpenSpec.ofChange scriptPrintsSpec)

/-- ITS FALSE NEIGHBOUR: 'it returns false'. Refute it at one input. -/
def scriptPrintsWrong : ChangeSpec := { name := "scriptPrints", fn := fun _ => fun
  | [d] => { results := [.lit (.bool false)], args := [d] }
  | _ => none }
def ScriptPrintsWrongFalsely : Prop := scriptPrintsRow.holds Tryd.pinned (OpenSpec.ofChange scriptPrintsWrong)

/-- 'deemsterlaw10.PairMany': WHATEVER THE INPUT: true; the input reads as it did. -/
def pairManySpec : ChangeSpec := { name := "pairMany", fn := fun _ => fun
  | [d1, d2] => { results := [.lit (.bool true)], args := [d1, d2] }
  | _ => none }
def pairManyRow : OpenClaim := { program := "ytphhgdgamnogpaadoor", sum := "75d139ba0a2e43d849b63956485337b3e3e2dfb0aef6c49f49b5cc0101328381", func := "deemster/deemsterlaw10.PairMany", spec := "pairMany", unfollowed := true, recurses := true, named := ["unicode/utf8.first", "unicode/utf8.acceptRanges"], apart := false, laid := [("unicode/utf8.acceptRanges", laid_unicode_utf8_acceptRanges), ("unicode/utf8.first", laid_unicode_utf8_first)] }
def PairManySaid : Prop := pairManyRow.holds Tryd.pinned (OpenSpec.ofChange pairManySpec)

/-- ITS FALSE NEIGHBOUR: 'it returns false'. Refute it at one input. -/
def pairManyWrong : ChangeSpec := { name := "pairMany", fn := fun _ => fun
  | [d1, d2] => { results := [.lit (.bool false)], args := [d1, d2] }
  | _ => none }
def PairManyWrongFalsely : Prop := pairManyRow.holds Tryd.pinned (OpenSpec.ofChange pairManyWrong)

/-- 'deemsterlaw10.PairMakes': WHATEVER THE INPUT: true; the input reads as it did. -/
def pairMakesSpec : ChangeSpec := { name := "pairMakes", fn := fun _ => fun
  | [d] => { results := [.lit (.bool true)], args := [d] }
  | _ => none }
def pairMakesRow : OpenClaim := { program := "ytphhgdgamnogpaadoor", sum := "75d139ba0a2e43d849b63956485337b3e3e2dfb0aef6c49f49b5cc0101328381", func := "deemster/deemsterlaw10.PairMakes", spec := "pairMakes", unfollowed := true, recurses := true, named := ["unicode/utf8.first", "unicode/utf8.acceptRanges"], apart := false, laid := [("unicode/utf8.acceptRanges", laid_unicode_utf8_acceptRanges), ("unicode/utf8.first", laid_unicode_utf8_first)] }
def PairMakesSaid : Prop := pairMakesRow.holds Tryd.pinned (OpenSpec.ofChange pairMakesSpec)

/-- ITS FALSE NEIGHBOUR: 'it returns false'. Refute it at one input. -/
def pairMakesWrong : ChangeSpec := { name := "pairMakes", fn := fun _ => fun
  | [d] => { results := [.lit (.bool false)], args := [d] }
  | _ => none }
def PairMakesWrongFalsely : Prop := pairMakesRow.holds Tryd.pinned (OpenSpec.ofChange pairMakesWrong)

/-- 'deemsterlaw10.PairCounts': WHATEVER THE INPUT: true; the input reads as it did. -/
def pairCountsSpec : ChangeSpec := { name := "pairCounts", fn := fun _ => fun
  | [d] => { results := [.lit (.bool true)], args := [d] }
  | _ => none }
def pairCountsRow : OpenClaim := { program := "ytphhgdgamnogpaadoor", sum := "75d139ba0a2e43d849b63956485337b3e3e2dfb0aef6c49f49b5cc0101328381", func := "deemster/deemsterlaw10.PairCounts", spec := "pairCounts", unfollowed := true, recurses := true, named := ["unicode/utf8.first", "unicode/utf8.acceptRanges"], apart := false, laid := [("unicode/utf8.acceptRanges", laid_unicode_utf8_acceptRanges), ("unicode/utf8.first", laid_unicode_utf8_first)] }
def PairCountsSaid : Prop := pairCountsRow.holds Tryd.pinned (OpenSpec.ofChange pairCountsSpec)

/-- ITS FALSE NEIGHBOUR: 'it returns false'. Refute it at one input. -/
def pairCountsWrong : ChangeSpec := { name := "pairCounts", fn := fun _ => fun
  | [d] => { results := [.lit (.bool false)], args := [d] }
  | _ => none }
def PairCountsWrongFalsely : Prop := pairCountsRow.holds Tryd.pinned (OpenSpec.ofChange pairCountsWrong)

/-- 'deemsterlaw08.LogBack': WHATEVER THE INPUT: true; the input reads as it did. -/
def logBackSpec : ChangeSpec := { name := "logBack", fn := fun _ => fun
  | [d] => { results := [.lit (.bool true)], args := [d] }
  | _ => none }
def logBackRow : OpenClaim := { program := "ytphhgdgamnogpaadoor", sum := "75d139ba0a2e43d849b63956485337b3e3e2dfb0aef6c49f49b5cc0101328381", func := "deemster/deemsterlaw08.LogBack", spec := "logBack", inPlace := ["internal/bytealg.CountString", "internal/bytealg.IndexByteString", "internal/bytealg.IndexString", "internal/abi.NoEscape", "internal/bytealg.MakeNoZero"], unfollowed := true, recurses := true, named := ["unicode/utf8.first", "unicode/utf8.acceptRanges", "internal/bytealg.MaxLen", "deemster/event.words"], apart := false, laid := [("unicode/utf8.acceptRanges", laid_unicode_utf8_acceptRanges), ("deemster/event.words", laid_deemster_event_words), ("unicode/utf8.first", laid_unicode_utf8_first)] }
def LogBackSaid : Prop := logBackRow.holds Tryd.pinned (OpenSpec.ofChange logBackSpec)

/-- ITS FALSE NEIGHBOUR: 'it returns false'. Refute it at one input. -/
def logBackWrong : ChangeSpec := { name := "logBack", fn := fun _ => fun
  | [d] => { results := [.lit (.bool false)], args := [d] }
  | _ => none }
def LogBackWrongFalsely : Prop := logBackRow.holds Tryd.pinned (OpenSpec.ofChange logBackWrong)

/-- 'deemsterlaw08.LogPrints': WHATEVER THE INPUT: true; the input reads as it did. -/
def logPrintsSpec : ChangeSpec := { name := "logPrints", fn := fun _ => fun
  | [d1, d2] => { results := [.lit (.bool true)], args := [d1, d2] }
  | _ => none }
def logPrintsRow : OpenClaim := { program := "ytphhgdgamnogpaadoor", sum := "75d139ba0a2e43d849b63956485337b3e3e2dfb0aef6c49f49b5cc0101328381", func := "deemster/deemsterlaw08.LogPrints", spec := "logPrints", inPlace := ["internal/abi.NoEscape", "internal/bytealg.MakeNoZero", "internal/bytealg.CountString", "internal/bytealg.IndexByteString", "internal/bytealg.IndexString"], unfollowed := true, recurses := true, named := ["unicode/utf8.first", "unicode/utf8.acceptRanges", "deemster/event.words", "internal/bytealg.MaxLen"], apart := false, laid := [("unicode/utf8.acceptRanges", laid_unicode_utf8_acceptRanges), ("deemster/event.words", laid_deemster_event_words), ("unicode/utf8.first", laid_unicode_utf8_first)] }
def LogPrintsSaid : Prop := logPrintsRow.holds Tryd.pinned (OpenSpec.ofChange logPrintsSpec)

/-- ITS FALSE NEIGHBOUR: 'it returns false'. Refute it at one input. -/
def logPrintsWrong : ChangeSpec := { name := "logPrints", fn := fun _ => fun
  | [d1, d2] => { results := [.lit (.bool false)], args := [d1, d2] }
  | _ => none }
def LogPrintsWrongFalsely : Prop := logPrintsRow.holds Tryd.pinned (OpenSpec.ofChange logPrintsWrong)

/- THE SECOND FORM. 'bulk': how many values and letters a reading holds, each counted each time it is reached (what is shared counts as often as it is met; a slice's spare places count too). A statement '..UptoSaid' is the law's where the arguments, and the package variables that the reading takes, are together of bulk at most 1048576: NARROWER than '..Said'. Prove '..Said' where nothing that the law and all that it calls make is longer than what came in: it says more and counts as full. Else prove '..UptoSaid'. A law counts once. -/
mutual
def uptoBulk {H : Type} : DataW H → Nat
  | .lit (.string bytes) => bytes.length + 1
  | .lit _ => 1
  | .nil => 1
  | .ptr d => uptoBulk d + 1
  | .slice elems spare => uptoBulkAll elems + uptoBulkAll spare + 1
  | .agg parts => uptoBulkAll parts + 1
  | .iface _ d => uptoBulk d + 1
  | .map entries => uptoBulkEntries entries + 1
  | .held _ => 1
def uptoBulkAll {H : Type} : List (DataW H) → Nat
  | [] => 0
  | d :: r => uptoBulk d + uptoBulkAll r
def uptoBulkEntries {H : Type} : List (Lit × DataW H) → Nat
  | [] => 0
  | x :: r => uptoBulkEntry x + uptoBulkEntries r
def uptoBulkEntry {H : Type} : Lit × DataW H → Nat
  | (.string bytes, d) => bytes.length + uptoBulk d + 1
  | (_, d) => uptoBulk d + 1
 end
def uptoSmall : (H : Type) → List (DataW H) → Bool := fun _ ds => decide (uptoBulkAll ds ≤ 1048576)
def OpenSpec.upto (s : _root_.Go.ChangeSpec) : _root_.Go.OpenSpec := { _root_.Go.OpenSpec.ofChange s with cond := some uptoSmall }

/-- 'deemsterlaw43.ScriptParses', WHERE WHAT IT READS IS OF BULK AT MOST 1048576: true; the input reads as it did. -/
def scriptParsesUptoRow : OpenClaim := { program := "ytphhgdgamnogpaadoor", sum := "75d139ba0a2e43d849b63956485337b3e3e2dfb0aef6c49f49b5cc0101328381", func := "deemster/deemsterlaw43.ScriptParses", spec := "scriptParses", inPlace := ["internal/bytealg.CountString", "internal/bytealg.IndexByteString", "internal/bytealg.IndexString"], unfollowed := true, recurses := true, named := ["deemster/script.firsts", "unicode/utf8.first", "unicode/utf8.acceptRanges", "internal/bytealg.MaxLen", "deemster/text.levels", "deemster/text.policies"], apart := false, laid := [("unicode/utf8.acceptRanges", laid_unicode_utf8_acceptRanges), ("deemster/text.levels", laid_deemster_text_levels), ("deemster/text.policies", laid_deemster_text_policies), ("deemster/script.firsts", laid_deemster_script_firsts), ("unicode/utf8.first", laid_unicode_utf8_first)], narrowed := true }
def ScriptParsesUptoSaid : Prop := scriptParsesUptoRow.holds Tryd.pinned (OpenSpec.upto scriptParsesSpec)

/-- 'deemsterlaw07.EventPrints', WHERE WHAT IT READS IS OF BULK AT MOST 1048576: true; the input reads as it did. -/
def eventPrintsUptoRow : OpenClaim := { program := "ytphhgdgamnogpaadoor", sum := "75d139ba0a2e43d849b63956485337b3e3e2dfb0aef6c49f49b5cc0101328381", func := "deemster/deemsterlaw07.EventPrints", spec := "eventPrints", inPlace := ["internal/abi.NoEscape", "internal/bytealg.MakeNoZero", "internal/bytealg.IndexByteString", "internal/bytealg.IndexString"], named := ["deemster/event.words", "unicode/utf8.first", "unicode/utf8.acceptRanges", "internal/bytealg.MaxLen"], apart := false, laid := [("unicode/utf8.acceptRanges", laid_unicode_utf8_acceptRanges), ("deemster/event.words", laid_deemster_event_words), ("unicode/utf8.first", laid_unicode_utf8_first)], narrowed := true }
def EventPrintsUptoSaid : Prop := eventPrintsUptoRow.holds Tryd.pinned (OpenSpec.upto eventPrintsSpec)

/-- 'deemsterlaw07.EventBack', WHERE WHAT IT READS IS OF BULK AT MOST 1048576: true; the input reads as it did. -/
def eventBackUptoRow : OpenClaim := { program := "ytphhgdgamnogpaadoor", sum := "75d139ba0a2e43d849b63956485337b3e3e2dfb0aef6c49f49b5cc0101328381", func := "deemster/deemsterlaw07.EventBack", spec := "eventBack", inPlace := ["internal/bytealg.IndexByteString", "internal/bytealg.IndexString", "internal/abi.NoEscape", "internal/bytealg.MakeNoZero"], named := ["internal/bytealg.MaxLen", "deemster/event.words", "unicode/utf8.first", "unicode/utf8.acceptRanges"], apart := false, laid := [("unicode/utf8.acceptRanges", laid_unicode_utf8_acceptRanges), ("deemster/event.words", laid_deemster_event_words), ("unicode/utf8.first", laid_unicode_utf8_first)], narrowed := true }
def EventBackUptoSaid : Prop := eventBackUptoRow.holds Tryd.pinned (OpenSpec.upto eventBackSpec)

/-- 'deemsterlaw08.LogParses', WHERE WHAT IT READS IS OF BULK AT MOST 1048576: true; the input reads as it did. -/
def logParsesUptoRow : OpenClaim := { program := "ytphhgdgamnogpaadoor", sum := "75d139ba0a2e43d849b63956485337b3e3e2dfb0aef6c49f49b5cc0101328381", func := "deemster/deemsterlaw08.LogParses", spec := "logParses", inPlace := ["internal/bytealg.CountString", "internal/bytealg.IndexByteString", "internal/bytealg.IndexString"], named := ["unicode/utf8.first", "unicode/utf8.acceptRanges", "internal/bytealg.MaxLen", "deemster/event.words"], apart := false, laid := [("unicode/utf8.acceptRanges", laid_unicode_utf8_acceptRanges), ("deemster/event.words", laid_deemster_event_words), ("unicode/utf8.first", laid_unicode_utf8_first)], narrowed := true }
def LogParsesUptoSaid : Prop := logParsesUptoRow.holds Tryd.pinned (OpenSpec.upto logParsesSpec)

/-- 'deemsterlaw43.ScriptBack', WHERE WHAT IT READS IS OF BULK AT MOST 1048576: true; the input reads as it did. -/
def scriptBackUptoRow : OpenClaim := { program := "ytphhgdgamnogpaadoor", sum := "75d139ba0a2e43d849b63956485337b3e3e2dfb0aef6c49f49b5cc0101328381", func := "deemster/deemsterlaw43.ScriptBack", spec := "scriptBack", inPlace := ["internal/bytealg.CountString", "internal/bytealg.IndexByteString", "internal/bytealg.IndexString", "internal/abi.NoEscape", "internal/bytealg.MakeNoZero"], unfollowed := true, recurses := true, named := ["deemster/script.firsts", "unicode/utf8.first", "unicode/utf8.acceptRanges", "internal/bytealg.MaxLen", "deemster/text.levels", "deemster/text.policies"], apart := false, laid := [("unicode/utf8.acceptRanges", laid_unicode_utf8_acceptRanges), ("deemster/text.levels", laid_deemster_text_levels), ("deemster/text.policies", laid_deemster_text_policies), ("deemster/script.firsts", laid_deemster_script_firsts), ("unicode/utf8.first", laid_unicode_utf8_first)], narrowed := true }
def ScriptBackUptoSaid : Prop := scriptBackUptoRow.holds Tryd.pinned (OpenSpec.upto scriptBackSpec)

/-- 'deemsterlaw43.ScriptPrints', WHERE WHAT IT READS IS OF BULK AT MOST 1048576: true; the input reads as it did. -/
def scriptPrintsUptoRow : OpenClaim := { program := "ytphhgdgamnogpaadoor", sum := "75d139ba0a2e43d849b63956485337b3e3e2dfb0aef6c49f49b5cc0101328381", func := "deemster/deemsterlaw43.ScriptPrints", spec := "scriptPrints", inPlace := ["internal/abi.NoEscape", "internal/bytealg.MakeNoZero", "internal/bytealg.CountString", "internal/bytealg.IndexByteString", "internal/bytealg.IndexString"], unfollowed := true, recurses := true, named := ["deemster/text.levels", "deemster/text.policies", "deemster/script.firsts", "unicode/utf8.first", "unicode/utf8.acceptRanges", "internal/bytealg.MaxLen"], apart := false, laid := [("unicode/utf8.acceptRanges", laid_unicode_utf8_acceptRanges), ("deemster/text.levels", laid_deemster_text_levels), ("deemster/text.policies", laid_deemster_text_policies), ("deemster/script.firsts", laid_deemster_script_firsts), ("unicode/utf8.first", laid_unicode_utf8_first)], narrowed := true }
def ScriptPrintsUptoSaid : Prop := scriptPrintsUptoRow.holds Tryd.pinned (OpenSpec.upto scriptPrintsSpec)

/-- 'deemsterlaw10.PairMany', WHERE WHAT IT READS IS OF BULK AT MOST 1048576: true; the input reads as it did. -/
def pairManyUptoRow : OpenClaim := { program := "ytphhgdgamnogpaadoor", sum := "75d139ba0a2e43d849b63956485337b3e3e2dfb0aef6c49f49b5cc0101328381", func := "deemster/deemsterlaw10.PairMany", spec := "pairMany", unfollowed := true, recurses := true, named := ["unicode/utf8.first", "unicode/utf8.acceptRanges"], apart := false, laid := [("unicode/utf8.acceptRanges", laid_unicode_utf8_acceptRanges), ("unicode/utf8.first", laid_unicode_utf8_first)], narrowed := true }
def PairManyUptoSaid : Prop := pairManyUptoRow.holds Tryd.pinned (OpenSpec.upto pairManySpec)

/-- 'deemsterlaw10.PairMakes', WHERE WHAT IT READS IS OF BULK AT MOST 1048576: true; the input reads as it did. -/
def pairMakesUptoRow : OpenClaim := { program := "ytphhgdgamnogpaadoor", sum := "75d139ba0a2e43d849b63956485337b3e3e2dfb0aef6c49f49b5cc0101328381", func := "deemster/deemsterlaw10.PairMakes", spec := "pairMakes", unfollowed := true, recurses := true, named := ["unicode/utf8.first", "unicode/utf8.acceptRanges"], apart := false, laid := [("unicode/utf8.acceptRanges", laid_unicode_utf8_acceptRanges), ("unicode/utf8.first", laid_unicode_utf8_first)], narrowed := true }
def PairMakesUptoSaid : Prop := pairMakesUptoRow.holds Tryd.pinned (OpenSpec.upto pairMakesSpec)

/-- 'deemsterlaw10.PairCounts', WHERE WHAT IT READS IS OF BULK AT MOST 1048576: true; the input reads as it did. -/
def pairCountsUptoRow : OpenClaim := { program := "ytphhgdgamnogpaadoor", sum := "75d139ba0a2e43d849b63956485337b3e3e2dfb0aef6c49f49b5cc0101328381", func := "deemster/deemsterlaw10.PairCounts", spec := "pairCounts", unfollowed := true, recurses := true, named := ["unicode/utf8.first", "unicode/utf8.acceptRanges"], apart := false, laid := [("unicode/utf8.acceptRanges", laid_unicode_utf8_acceptRanges), ("unicode/utf8.first", laid_unicode_utf8_first)], narrowed := true }
def PairCountsUptoSaid : Prop := pairCountsUptoRow.holds Tryd.pinned (OpenSpec.upto pairCountsSpec)

/-- 'deemsterlaw08.LogBack', WHERE WHAT IT READS IS OF BULK AT MOST 1048576: true; the input reads as it did. -/
def logBackUptoRow : OpenClaim := { program := "ytphhgdgamnogpaadoor", sum := "75d139ba0a2e43d849b63956485337b3e3e2dfb0aef6c49f49b5cc0101328381", func := "deemster/deemsterlaw08.LogBack", spec := "logBack", inPlace := ["internal/bytealg.CountString", "internal/bytealg.IndexByteString", "internal/bytealg.IndexString", "internal/abi.NoEscape", "internal/bytealg.MakeNoZero"], unfollowed := true, recurses := true, named := ["unicode/utf8.first", "unicode/utf8.acceptRanges", "internal/bytealg.MaxLen", "deemster/event.words"], apart := false, laid := [("unicode/utf8.acceptRanges", laid_unicode_utf8_acceptRanges), ("deemster/event.words", laid_deemster_event_words), ("unicode/utf8.first", laid_unicode_utf8_first)], narrowed := true }
def LogBackUptoSaid : Prop := logBackUptoRow.holds Tryd.pinned (OpenSpec.upto logBackSpec)

/-- 'deemsterlaw08.LogPrints', WHERE WHAT IT READS IS OF BULK AT MOST 1048576: true; the input reads as it did. -/
def logPrintsUptoRow : OpenClaim := { program := "ytphhgdgamnogpaadoor", sum := "75d139ba0a2e43d849b63956485337b3e3e2dfb0aef6c49f49b5cc0101328381", func := "deemster/deemsterlaw08.LogPrints", spec := "logPrints", inPlace := ["internal/abi.NoEscape", "internal/bytealg.MakeNoZero", "internal/bytealg.CountString", "internal/bytealg.IndexByteString", "internal/bytealg.IndexString"], unfollowed := true, recurses := true, named := ["unicode/utf8.first", "unicode/utf8.acceptRanges", "deemster/event.words", "internal/bytealg.MaxLen"], apart := false, laid := [("unicode/utf8.acceptRanges", laid_unicode_utf8_acceptRanges), ("deemster/event.words", laid_deemster_event_words), ("unicode/utf8.first", laid_unicode_utf8_first)], narrowed := true }
def LogPrintsUptoSaid : Prop := logPrintsUptoRow.holds Tryd.pinned (OpenSpec.upto logPrintsSpec)

end Rows
end Go.Proofs.YtphhgdgamnogpaaDoor
