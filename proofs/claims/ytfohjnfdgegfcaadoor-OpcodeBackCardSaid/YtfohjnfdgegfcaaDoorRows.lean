/-
  NARROWER THAN 'FOR EVERY INPUT', by the rows' own cells (each row's printed sentence says how): MicroPrograms: laid · MicroActs: laid · TimingLists: laid · TimingKinds: laid · TimingBounds: laid · OpcodeTells: laid · OpcodeFinds: laid · OpcodeNames: laid · OpcodeWalks: laid · OpcodeBack: laid · MicroKinds: laid.
  DERIVED. THE GIVEN ROWS OF THIS SEAT. 11 by the template 'for every input the law returns true; each argument reads behind the call as it read before'; 0 by the template 'total and deterministic' (their statements: YtfohjnfdgegfcaaDoorTotals.lean).
  GIVEN WITH THE SEED: the statements are not yours to turn. If you find one false, say at which input.
  Laid BY PROGRAM, IN A SANDBOX (cutbox-rows.mjs): the forced cells as the released guide's own fill.sh prints them over the translation 8c27353f4d0fdf81… (all of the seat's roots in one cut). By AI agents, Wed Nov 11 2026. No macro, syntax, notation, axiom, sorry.
-/
import Derived.Test.YtfohjnfdgegfcaaDoorChecked
import GoSem.PinnedTables
import GoSem.Claim
import GoSem.ClaimJoined
import GoSem.ClaimMapViews
import Derived.JoinedTies
import Derived.KernelRfl
namespace Go.Proofs.YtfohjnfdgegfcaaDoor
/- THE CELL 'sum', in the pinned program and in every row, IS THE sha256 OF THE DUMP (.gsa) THAT YtfohjnfdgegfcaaDoorProg.lean LOADS. Nothing in Lean hashes anything: it is a label: what it is worth is what the hold of that sum in a sandbox is worth. -/
noncomputable def Tryd.pinned : Pinned := { name := "ytfohjnfdgegfcaadoor", sum := "8c27353f4d0fdf81b6563816f7403d66fea916caaf8fea23f00c699fb3e4df20", checked := Tryd.checked }
namespace Rows
def none {H : Type} : Left H := { results := [], args := [] }

/- WHAT THE LISTED PACKAGE-LEVEL VARIABLES READ AS WHEN THE CALL BEGINS. Each datum BY PROGRAM (the guide's laid-datum.mjs) off the statement by which the dump's own 'gosem.cut.vars' lays the variable. In a bare row this is a premise. The card (YtfohjnfdgegfcaaDoorCards.lean) ties it to the program's text. -/
def laid_unicode_utf8_acceptRanges {H : Type} : DataW H := .agg [.agg [.lit (.int .u8 128), .lit (.int .u8 191)], .agg [.lit (.int .u8 160), .lit (.int .u8 191)], .agg [.lit (.int .u8 128), .lit (.int .u8 159)], .agg [.lit (.int .u8 144), .lit (.int .u8 191)], .agg [.lit (.int .u8 128), .lit (.int .u8 143)], .agg [.lit (.int .u8 0), .lit (.int .u8 0)], .agg [.lit (.int .u8 0), .lit (.int .u8 0)], .agg [.lit (.int .u8 0), .lit (.int .u8 0)], .agg [.lit (.int .u8 0), .lit (.int .u8 0)], .agg [.lit (.int .u8 0), .lit (.int .u8 0)], .agg [.lit (.int .u8 0), .lit (.int .u8 0)], .agg [.lit (.int .u8 0), .lit (.int .u8 0)], .agg [.lit (.int .u8 0), .lit (.int .u8 0)], .agg [.lit (.int .u8 0), .lit (.int .u8 0)], .agg [.lit (.int .u8 0), .lit (.int .u8 0)], .agg [.lit (.int .u8 0), .lit (.int .u8 0)]]
/-- One of Go's own tables, pinned by name: the form's constant. -/
def laid_unicode_utf8_first : DataW Unit := Go.Pinned.utf8First

/-- 'gannetlaw30.MicroPrograms': WHATEVER THE INPUT: true; the input reads as it did. -/
def microProgramsSpec : ChangeSpec := { name := "microPrograms", fn := fun _ => fun
  | [d1, d2] => { results := [.lit (.bool true)], args := [d1, d2] }
  | _ => none }
def microProgramsRow : OpenClaim := { program := "ytfohjnfdgegfcaadoor", sum := "8c27353f4d0fdf81b6563816f7403d66fea916caaf8fea23f00c699fb3e4df20", func := "gannet/gannetlaw30.MicroPrograms", spec := "microPrograms", inPlace := ["internal/bytealg.IndexByteString", "internal/bytealg.IndexString", "internal/abi.NoEscape", "internal/bytealg.MakeNoZero"], named := ["unicode/utf8.first", "unicode/utf8.acceptRanges", "internal/bytealg.MaxLen"], apart := false, laid := [("unicode/utf8.acceptRanges", laid_unicode_utf8_acceptRanges), ("unicode/utf8.first", laid_unicode_utf8_first)] }
def MicroProgramsSaid : Prop := microProgramsRow.holds Tryd.pinned (OpenSpec.ofChange microProgramsSpec)

/-- ITS FALSE NEIGHBOUR: 'it returns false'. Refute it at one input. -/
def microProgramsWrong : ChangeSpec := { name := "microPrograms", fn := fun _ => fun
  | [d1, d2] => { results := [.lit (.bool false)], args := [d1, d2] }
  | _ => none }
def MicroProgramsWrongFalsely : Prop := microProgramsRow.holds Tryd.pinned (OpenSpec.ofChange microProgramsWrong)

/-- 'gannetlaw30.MicroActs': WHATEVER THE INPUT: true; the input reads as it did. -/
def microActsSpec : ChangeSpec := { name := "microActs", fn := fun _ => fun
  | [d1, d2] => { results := [.lit (.bool true)], args := [d1, d2] }
  | _ => none }
def microActsRow : OpenClaim := { program := "ytfohjnfdgegfcaadoor", sum := "8c27353f4d0fdf81b6563816f7403d66fea916caaf8fea23f00c699fb3e4df20", func := "gannet/gannetlaw30.MicroActs", spec := "microActs", inPlace := ["internal/bytealg.IndexByteString", "internal/bytealg.IndexString", "internal/abi.NoEscape", "internal/bytealg.MakeNoZero"], named := ["unicode/utf8.first", "unicode/utf8.acceptRanges", "internal/bytealg.MaxLen"], apart := false, laid := [("unicode/utf8.acceptRanges", laid_unicode_utf8_acceptRanges), ("unicode/utf8.first", laid_unicode_utf8_first)] }
def MicroActsSaid : Prop := microActsRow.holds Tryd.pinned (OpenSpec.ofChange microActsSpec)

/-- ITS FALSE NEIGHBOUR: 'it returns false'. Refute it at one input. -/
def microActsWrong : ChangeSpec := { name := "microActs", fn := fun _ => fun
  | [d1, d2] => { results := [.lit (.bool false)], args := [d1, d2] }
  | _ => none }
def MicroActsWrongFalsely : Prop := microActsRow.holds Tryd.pinned (OpenSpec.ofChange microActsWrong)

/-- 'gannetlaw29.TimingLists': WHATEVER THE INPUT: true; the input reads as it did. -/
def timingListsSpec : ChangeSpec := { name := "timingLists", fn := fun _ => fun
  | [d1, d2] => { results := [.lit (.bool true)], args := [d1, d2] }
  | _ => none }
def timingListsRow : OpenClaim := { program := "ytfohjnfdgegfcaadoor", sum := "8c27353f4d0fdf81b6563816f7403d66fea916caaf8fea23f00c699fb3e4df20", func := "gannet/gannetlaw29.TimingLists", spec := "timingLists", inPlace := ["internal/bytealg.IndexByteString", "internal/bytealg.IndexString", "internal/abi.NoEscape", "internal/bytealg.MakeNoZero"], named := ["unicode/utf8.first", "unicode/utf8.acceptRanges", "internal/bytealg.MaxLen"], apart := false, laid := [("unicode/utf8.acceptRanges", laid_unicode_utf8_acceptRanges), ("unicode/utf8.first", laid_unicode_utf8_first)] }
def TimingListsSaid : Prop := timingListsRow.holds Tryd.pinned (OpenSpec.ofChange timingListsSpec)

/-- ITS FALSE NEIGHBOUR: 'it returns false'. Refute it at one input. -/
def timingListsWrong : ChangeSpec := { name := "timingLists", fn := fun _ => fun
  | [d1, d2] => { results := [.lit (.bool false)], args := [d1, d2] }
  | _ => none }
def TimingListsWrongFalsely : Prop := timingListsRow.holds Tryd.pinned (OpenSpec.ofChange timingListsWrong)

/-- 'gannetlaw29.TimingKinds': WHATEVER THE INPUT: true; the input reads as it did. -/
def timingKindsSpec : ChangeSpec := { name := "timingKinds", fn := fun _ => fun
  | [d1, d2] => { results := [.lit (.bool true)], args := [d1, d2] }
  | _ => none }
def timingKindsRow : OpenClaim := { program := "ytfohjnfdgegfcaadoor", sum := "8c27353f4d0fdf81b6563816f7403d66fea916caaf8fea23f00c699fb3e4df20", func := "gannet/gannetlaw29.TimingKinds", spec := "timingKinds", inPlace := ["internal/bytealg.IndexByteString", "internal/bytealg.IndexString", "internal/abi.NoEscape", "internal/bytealg.MakeNoZero"], named := ["unicode/utf8.first", "unicode/utf8.acceptRanges", "internal/bytealg.MaxLen"], apart := false, laid := [("unicode/utf8.acceptRanges", laid_unicode_utf8_acceptRanges), ("unicode/utf8.first", laid_unicode_utf8_first)] }
def TimingKindsSaid : Prop := timingKindsRow.holds Tryd.pinned (OpenSpec.ofChange timingKindsSpec)

/-- ITS FALSE NEIGHBOUR: 'it returns false'. Refute it at one input. -/
def timingKindsWrong : ChangeSpec := { name := "timingKinds", fn := fun _ => fun
  | [d1, d2] => { results := [.lit (.bool false)], args := [d1, d2] }
  | _ => none }
def TimingKindsWrongFalsely : Prop := timingKindsRow.holds Tryd.pinned (OpenSpec.ofChange timingKindsWrong)

/-- 'gannetlaw29.TimingBounds': WHATEVER THE INPUT: true; the input reads as it did. -/
def timingBoundsSpec : ChangeSpec := { name := "timingBounds", fn := fun _ => fun
  | [d1, d2, d3] => { results := [.lit (.bool true)], args := [d1, d2, d3] }
  | _ => none }
def timingBoundsRow : OpenClaim := { program := "ytfohjnfdgegfcaadoor", sum := "8c27353f4d0fdf81b6563816f7403d66fea916caaf8fea23f00c699fb3e4df20", func := "gannet/gannetlaw29.TimingBounds", spec := "timingBounds", inPlace := ["internal/bytealg.IndexByteString", "internal/bytealg.IndexString", "internal/abi.NoEscape", "internal/bytealg.MakeNoZero"], named := ["unicode/utf8.first", "unicode/utf8.acceptRanges", "internal/bytealg.MaxLen"], apart := false, laid := [("unicode/utf8.acceptRanges", laid_unicode_utf8_acceptRanges), ("unicode/utf8.first", laid_unicode_utf8_first)] }
def TimingBoundsSaid : Prop := timingBoundsRow.holds Tryd.pinned (OpenSpec.ofChange timingBoundsSpec)

/-- ITS FALSE NEIGHBOUR: 'it returns false'. Refute it at one input. -/
def timingBoundsWrong : ChangeSpec := { name := "timingBounds", fn := fun _ => fun
  | [d1, d2, d3] => { results := [.lit (.bool false)], args := [d1, d2, d3] }
  | _ => none }
def TimingBoundsWrongFalsely : Prop := timingBoundsRow.holds Tryd.pinned (OpenSpec.ofChange timingBoundsWrong)

/-- 'gannetlaw23.OpcodeTells': WHATEVER THE INPUT: true; the input reads as it did. -/
def opcodeTellsSpec : ChangeSpec := { name := "opcodeTells", fn := fun _ => fun
  | [d] => { results := [.lit (.bool true)], args := [d] }
  | _ => none }
def opcodeTellsRow : OpenClaim := { program := "ytfohjnfdgegfcaadoor", sum := "8c27353f4d0fdf81b6563816f7403d66fea916caaf8fea23f00c699fb3e4df20", func := "gannet/gannetlaw23.OpcodeTells", spec := "opcodeTells", inPlace := ["internal/bytealg.IndexByteString", "internal/bytealg.IndexString"], unfollowed := true, recurses := true, named := ["unicode/utf8.first", "unicode/utf8.acceptRanges", "internal/bytealg.MaxLen"], apart := false, laid := [("unicode/utf8.acceptRanges", laid_unicode_utf8_acceptRanges), ("unicode/utf8.first", laid_unicode_utf8_first)] }
def OpcodeTellsSaid : Prop := opcodeTellsRow.holds Tryd.pinned (OpenSpec.ofChange opcodeTellsSpec)

/-- ITS FALSE NEIGHBOUR: 'it returns false'. Refute it at one input. -/
def opcodeTellsWrong : ChangeSpec := { name := "opcodeTells", fn := fun _ => fun
  | [d] => { results := [.lit (.bool false)], args := [d] }
  | _ => none }
def OpcodeTellsWrongFalsely : Prop := opcodeTellsRow.holds Tryd.pinned (OpenSpec.ofChange opcodeTellsWrong)

/-- 'gannetlaw23.OpcodeFinds': WHATEVER THE INPUT: true; the input reads as it did. -/
def opcodeFindsSpec : ChangeSpec := { name := "opcodeFinds", fn := fun _ => fun
  | [d1, d2] => { results := [.lit (.bool true)], args := [d1, d2] }
  | _ => none }
def opcodeFindsRow : OpenClaim := { program := "ytfohjnfdgegfcaadoor", sum := "8c27353f4d0fdf81b6563816f7403d66fea916caaf8fea23f00c699fb3e4df20", func := "gannet/gannetlaw23.OpcodeFinds", spec := "opcodeFinds", inPlace := ["internal/bytealg.IndexByteString", "internal/bytealg.IndexString"], unfollowed := true, recurses := true, named := ["unicode/utf8.first", "unicode/utf8.acceptRanges", "internal/bytealg.MaxLen"], apart := false, laid := [("unicode/utf8.acceptRanges", laid_unicode_utf8_acceptRanges), ("unicode/utf8.first", laid_unicode_utf8_first)] }
def OpcodeFindsSaid : Prop := opcodeFindsRow.holds Tryd.pinned (OpenSpec.ofChange opcodeFindsSpec)

/-- ITS FALSE NEIGHBOUR: 'it returns false'. Refute it at one input. -/
def opcodeFindsWrong : ChangeSpec := { name := "opcodeFinds", fn := fun _ => fun
  | [d1, d2] => { results := [.lit (.bool false)], args := [d1, d2] }
  | _ => none }
def OpcodeFindsWrongFalsely : Prop := opcodeFindsRow.holds Tryd.pinned (OpenSpec.ofChange opcodeFindsWrong)

/-- 'gannetlaw23.OpcodeNames': WHATEVER THE INPUT: true; the input reads as it did. -/
def opcodeNamesSpec : ChangeSpec := { name := "opcodeNames", fn := fun _ => fun
  | [d1, d2] => { results := [.lit (.bool true)], args := [d1, d2] }
  | _ => none }
def opcodeNamesRow : OpenClaim := { program := "ytfohjnfdgegfcaadoor", sum := "8c27353f4d0fdf81b6563816f7403d66fea916caaf8fea23f00c699fb3e4df20", func := "gannet/gannetlaw23.OpcodeNames", spec := "opcodeNames", inPlace := ["internal/bytealg.IndexByteString", "internal/bytealg.IndexString"], unfollowed := true, recurses := true, named := ["unicode/utf8.first", "unicode/utf8.acceptRanges", "internal/bytealg.MaxLen"], apart := false, laid := [("unicode/utf8.acceptRanges", laid_unicode_utf8_acceptRanges), ("unicode/utf8.first", laid_unicode_utf8_first)] }
def OpcodeNamesSaid : Prop := opcodeNamesRow.holds Tryd.pinned (OpenSpec.ofChange opcodeNamesSpec)

/-- ITS FALSE NEIGHBOUR: 'it returns false'. Refute it at one input. -/
def opcodeNamesWrong : ChangeSpec := { name := "opcodeNames", fn := fun _ => fun
  | [d1, d2] => { results := [.lit (.bool false)], args := [d1, d2] }
  | _ => none }
def OpcodeNamesWrongFalsely : Prop := opcodeNamesRow.holds Tryd.pinned (OpenSpec.ofChange opcodeNamesWrong)

/-- 'gannetlaw23.OpcodeWalks': WHATEVER THE INPUT: true; the input reads as it did. -/
def opcodeWalksSpec : ChangeSpec := { name := "opcodeWalks", fn := fun _ => fun
  | [d] => { results := [.lit (.bool true)], args := [d] }
  | _ => none }
def opcodeWalksRow : OpenClaim := { program := "ytfohjnfdgegfcaadoor", sum := "8c27353f4d0fdf81b6563816f7403d66fea916caaf8fea23f00c699fb3e4df20", func := "gannet/gannetlaw23.OpcodeWalks", spec := "opcodeWalks", inPlace := ["internal/bytealg.IndexByteString", "internal/bytealg.IndexString"], unfollowed := true, recurses := true, named := ["unicode/utf8.first", "unicode/utf8.acceptRanges", "internal/bytealg.MaxLen"], apart := false, laid := [("unicode/utf8.acceptRanges", laid_unicode_utf8_acceptRanges), ("unicode/utf8.first", laid_unicode_utf8_first)] }
def OpcodeWalksSaid : Prop := opcodeWalksRow.holds Tryd.pinned (OpenSpec.ofChange opcodeWalksSpec)

/-- ITS FALSE NEIGHBOUR: 'it returns false'. Refute it at one input. -/
def opcodeWalksWrong : ChangeSpec := { name := "opcodeWalks", fn := fun _ => fun
  | [d] => { results := [.lit (.bool false)], args := [d] }
  | _ => none }
def OpcodeWalksWrongFalsely : Prop := opcodeWalksRow.holds Tryd.pinned (OpenSpec.ofChange opcodeWalksWrong)

/-- 'gannetlaw23.OpcodeBack': WHATEVER THE INPUT: true; the input reads as it did. -/
def opcodeBackSpec : ChangeSpec := { name := "opcodeBack", fn := fun _ => fun
  | [d] => { results := [.lit (.bool true)], args := [d] }
  | _ => none }
def opcodeBackRow : OpenClaim := { program := "ytfohjnfdgegfcaadoor", sum := "8c27353f4d0fdf81b6563816f7403d66fea916caaf8fea23f00c699fb3e4df20", func := "gannet/gannetlaw23.OpcodeBack", spec := "opcodeBack", inPlace := ["internal/bytealg.IndexByteString", "internal/bytealg.IndexString"], unfollowed := true, recurses := true, named := ["unicode/utf8.first", "unicode/utf8.acceptRanges", "internal/bytealg.MaxLen"], apart := false, laid := [("unicode/utf8.acceptRanges", laid_unicode_utf8_acceptRanges), ("unicode/utf8.first", laid_unicode_utf8_first)] }
def OpcodeBackSaid : Prop := opcodeBackRow.holds Tryd.pinned (OpenSpec.ofChange opcodeBackSpec)

/-- ITS FALSE NEIGHBOUR: 'it returns false'. Refute it at one input. -/
def opcodeBackWrong : ChangeSpec := { name := "opcodeBack", fn := fun _ => fun
  | [d] => { results := [.lit (.bool false)], args := [d] }
  | _ => none }
def OpcodeBackWrongFalsely : Prop := opcodeBackRow.holds Tryd.pinned (OpenSpec.ofChange opcodeBackWrong)

/-- 'gannetlaw30.MicroKinds': WHATEVER THE INPUT: true; the input reads as it did. -/
def microKindsSpec : ChangeSpec := { name := "microKinds", fn := fun _ => fun
  | [d1, d2] => { results := [.lit (.bool true)], args := [d1, d2] }
  | _ => none }
def microKindsRow : OpenClaim := { program := "ytfohjnfdgegfcaadoor", sum := "8c27353f4d0fdf81b6563816f7403d66fea916caaf8fea23f00c699fb3e4df20", func := "gannet/gannetlaw30.MicroKinds", spec := "microKinds", inPlace := ["internal/bytealg.IndexByteString", "internal/bytealg.IndexString", "internal/abi.NoEscape", "internal/bytealg.MakeNoZero"], named := ["unicode/utf8.first", "unicode/utf8.acceptRanges", "internal/bytealg.MaxLen"], apart := false, laid := [("unicode/utf8.acceptRanges", laid_unicode_utf8_acceptRanges), ("unicode/utf8.first", laid_unicode_utf8_first)] }
def MicroKindsSaid : Prop := microKindsRow.holds Tryd.pinned (OpenSpec.ofChange microKindsSpec)

/-- ITS FALSE NEIGHBOUR: 'it returns false'. Refute it at one input. -/
def microKindsWrong : ChangeSpec := { name := "microKinds", fn := fun _ => fun
  | [d1, d2] => { results := [.lit (.bool false)], args := [d1, d2] }
  | _ => none }
def MicroKindsWrongFalsely : Prop := microKindsRow.holds Tryd.pinned (OpenSpec.ofChange microKindsWrong)

/- THE SECOND FORM. 'bulk': how many values and letters a reading holds, each counted each time it is reached (what is shared counts as often as it is met; a slice's spare places count too). A statement '..UptoSaid' is the law's where the arguments, and the package variables that the reading takes, are together of bulk at most 1048576: NARROWER than '..Said'. Prove '..Said' where nothing that the law and all that it calls make is longer than what came in: it says more and counts as full. Else prove '..UptoSaid'. A law counts once. -/
mutual
def uptoBulk {H : Type} : DataW H → Nat
  | .lit (.string bytes) => bytes.length + 1
  | .lit _ => 1
  | .nil => 1
  | .ptr d => uptoBulk d + 1
  | .slice elems spare => uptoBulkAll elems + uptoBulkAll spare + 1
  | .agg parts => uptoBulkAll parts + 1
  | .iface _ d => uptoBulk d + 1
  | .map entries => uptoBulkEntries entries + 1
  | .held _ => 1
def uptoBulkAll {H : Type} : List (DataW H) → Nat
  | [] => 0
  | d :: r => uptoBulk d + uptoBulkAll r
def uptoBulkEntries {H : Type} : List (Lit × DataW H) → Nat
  | [] => 0
  | x :: r => uptoBulkEntry x + uptoBulkEntries r
def uptoBulkEntry {H : Type} : Lit × DataW H → Nat
  | (.string bytes, d) => bytes.length + uptoBulk d + 1
  | (_, d) => uptoBulk d + 1
 end
def uptoSmall : (H : Type) → List (DataW H) → Bool := fun _ ds => decide (uptoBulkAll ds ≤ 1048576)
def OpenSpec.upto (s : _root_.Go.ChangeSpec) : _root_.Go.OpenSpec := { _root_.Go.OpenSpec.ofChange s with cond := some uptoSmall }

/-- 'gannetlaw30.MicroPrograms', WHERE WHAT IT READS IS OF BULK AT MOST 1048576: true; the input reads as it did. -/
def microProgramsUptoRow : OpenClaim := { program := "ytfohjnfdgegfcaadoor", sum := "8c27353f4d0fdf81b6563816f7403d66fea916caaf8fea23f00c699fb3e4df20", func := "gannet/gannetlaw30.MicroPrograms", spec := "microPrograms", inPlace := ["internal/bytealg.IndexByteString", "internal/bytealg.IndexString", "internal/abi.NoEscape", "internal/bytealg.MakeNoZero"], named := ["unicode/utf8.first", "unicode/utf8.acceptRanges", "internal/bytealg.MaxLen"], apart := false, laid := [("unicode/utf8.acceptRanges", laid_unicode_utf8_acceptRanges), ("unicode/utf8.first", laid_unicode_utf8_first)], narrowed := true }
def MicroProgramsUptoSaid : Prop := microProgramsUptoRow.holds Tryd.pinned (OpenSpec.upto microProgramsSpec)

/-- 'gannetlaw30.MicroActs', WHERE WHAT IT READS IS OF BULK AT MOST 1048576: true; the input reads as it did. -/
def microActsUptoRow : OpenClaim := { program := "ytfohjnfdgegfcaadoor", sum := "8c27353f4d0fdf81b6563816f7403d66fea916caaf8fea23f00c699fb3e4df20", func := "gannet/gannetlaw30.MicroActs", spec := "microActs", inPlace := ["internal/bytealg.IndexByteString", "internal/bytealg.IndexString", "internal/abi.NoEscape", "internal/bytealg.MakeNoZero"], named := ["unicode/utf8.first", "unicode/utf8.acceptRanges", "internal/bytealg.MaxLen"], apart := false, laid := [("unicode/utf8.acceptRanges", laid_unicode_utf8_acceptRanges), ("unicode/utf8.first", laid_unicode_utf8_first)], narrowed := true }
def MicroActsUptoSaid : Prop := microActsUptoRow.holds Tryd.pinned (OpenSpec.upto microActsSpec)

/-- 'gannetlaw29.TimingLists', WHERE WHAT IT READS IS OF BULK AT MOST 1048576: true; the input reads as it did. -/
def timingListsUptoRow : OpenClaim := { program := "ytfohjnfdgegfcaadoor", sum := "8c27353f4d0fdf81b6563816f7403d66fea916caaf8fea23f00c699fb3e4df20", func := "gannet/gannetlaw29.TimingLists", spec := "timingLists", inPlace := ["internal/bytealg.IndexByteString", "internal/bytealg.IndexString", "internal/abi.NoEscape", "internal/bytealg.MakeNoZero"], named := ["unicode/utf8.first", "unicode/utf8.acceptRanges", "internal/bytealg.MaxLen"], apart := false, laid := [("unicode/utf8.acceptRanges", laid_unicode_utf8_acceptRanges), ("unicode/utf8.first", laid_unicode_utf8_first)], narrowed := true }
def TimingListsUptoSaid : Prop := timingListsUptoRow.holds Tryd.pinned (OpenSpec.upto timingListsSpec)

/-- 'gannetlaw29.TimingKinds', WHERE WHAT IT READS IS OF BULK AT MOST 1048576: true; the input reads as it did. -/
def timingKindsUptoRow : OpenClaim := { program := "ytfohjnfdgegfcaadoor", sum := "8c27353f4d0fdf81b6563816f7403d66fea916caaf8fea23f00c699fb3e4df20", func := "gannet/gannetlaw29.TimingKinds", spec := "timingKinds", inPlace := ["internal/bytealg.IndexByteString", "internal/bytealg.IndexString", "internal/abi.NoEscape", "internal/bytealg.MakeNoZero"], named := ["unicode/utf8.first", "unicode/utf8.acceptRanges", "internal/bytealg.MaxLen"], apart := false, laid := [("unicode/utf8.acceptRanges", laid_unicode_utf8_acceptRanges), ("unicode/utf8.first", laid_unicode_utf8_first)], narrowed := true }
def TimingKindsUptoSaid : Prop := timingKindsUptoRow.holds Tryd.pinned (OpenSpec.upto timingKindsSpec)

/-- 'gannetlaw29.TimingBounds', WHERE WHAT IT READS IS OF BULK AT MOST 1048576: true; the input reads as it did. -/
def timingBoundsUptoRow : OpenClaim := { program := "ytfohjnfdgegfcaadoor", sum := "8c27353f4d0fdf81b6563816f7403d66fea916caaf8fea23f00c699fb3e4df20", func := "gannet/gannetlaw29.TimingBounds", spec := "timingBounds", inPlace := ["internal/bytealg.IndexByteString", "internal/bytealg.IndexString", "internal/abi.NoEscape", "internal/bytealg.MakeNoZero"], named := ["unicode/utf8.first", "unicode/utf8.acceptRanges", "internal/bytealg.MaxLen"], apart := false, laid := [("unicode/utf8.acceptRanges", laid_unicode_utf8_acceptRanges), ("unicode/utf8.first", laid_unicode_utf8_first)], narrowed := true }
def TimingBoundsUptoSaid : Prop := timingBoundsUptoRow.holds Tryd.pinned (OpenSpec.upto timingBoundsSpec)

/-- 'gannetlaw23.OpcodeTells', WHERE WHAT IT READS IS OF BULK AT MOST 1048576: true; the input reads as it did. -/
def opcodeTellsUptoRow : OpenClaim := { program := "ytfohjnfdgegfcaadoor", sum := "8c27353f4d0fdf81b6563816f7403d66fea916caaf8fea23f00c699fb3e4df20", func := "gannet/gannetlaw23.OpcodeTells", spec := "opcodeTells", inPlace := ["internal/bytealg.IndexByteString", "internal/bytealg.IndexString"], unfollowed := true, recurses := true, named := ["unicode/utf8.first", "unicode/utf8.acceptRanges", "internal/bytealg.MaxLen"], apart := false, laid := [("unicode/utf8.acceptRanges", laid_unicode_utf8_acceptRanges), ("unicode/utf8.first", laid_unicode_utf8_first)], narrowed := true }
def OpcodeTellsUptoSaid : Prop := opcodeTellsUptoRow.holds Tryd.pinned (OpenSpec.upto opcodeTellsSpec)

/-- 'gannetlaw23.OpcodeFinds', WHERE WHAT IT READS IS OF BULK AT MOST 1048576: true; the input reads as it did. -/
def opcodeFindsUptoRow : OpenClaim := { program := "ytfohjnfdgegfcaadoor", sum := "8c27353f4d0fdf81b6563816f7403d66fea916caaf8fea23f00c699fb3e4df20", func := "gannet/gannetlaw23.OpcodeFinds", spec := "opcodeFinds", inPlace := ["internal/bytealg.IndexByteString", "internal/bytealg.IndexString"], unfollowed := true, recurses := true, named := ["unicode/utf8.first", "unicode/utf8.acceptRanges", "internal/bytealg.MaxLen"], apart := false, laid := [("unicode/utf8.acceptRanges", laid_unicode_utf8_acceptRanges), ("unicode/utf8.first", laid_unicode_utf8_first)], narrowed := true }
def OpcodeFindsUptoSaid : Prop := opcodeFindsUptoRow.holds Tryd.pinned (OpenSpec.upto opcodeFindsSpec)

/-- 'gannetlaw23.OpcodeNames', WHERE WHAT IT READS IS OF BULK AT MOST 1048576: true; the input reads as it did. -/
def opcodeNamesUptoRow : OpenClaim := { program := "ytfohjnfdgegfcaadoor", sum := "8c27353f4d0fdf81b6563816f7403d66fea916caaf8fea23f00c699fb3e4df20", func := "gannet/gannetlaw23.OpcodeNames", spec := "opcodeNames", inPlace := ["internal/bytealg.IndexByteString", "internal/bytealg.IndexString"], unfollowed := true, recurses := true, named := ["unicode/utf8.first", "unicode/utf8.acceptRanges", "internal/bytealg.MaxLen"], apart := false, laid := [("unicode/utf8.acceptRanges", laid_unicode_utf8_acceptRanges), ("unicode/utf8.first", laid_unicode_utf8_first)], narrowed := true }
def OpcodeNamesUptoSaid : Prop := opcodeNamesUptoRow.holds Tryd.pinned (OpenSpec.upto opcodeNamesSpec)

/-- 'gannetlaw23.OpcodeWalks', WHERE WHAT IT READS IS OF BULK AT MOST 1048576: true; the input reads as it did. -/
def opcodeWalksUptoRow : OpenClaim := { program := "ytfohjnfdgegfcaadoor", sum := "8c27353f4d0fdf81b6563816f7403d66fea916caaf8fea23f00c699fb3e4df20", func := "gannet/gannetlaw23.OpcodeWalks", spec := "opcodeWalks", inPlace := ["internal/bytealg.IndexByteString", "internal/bytealg.IndexString"], unfollowed := true, recurses := true, named := ["unicode/utf8.first", "unicode/utf8.acceptRanges", "internal/bytealg.MaxLen"], apart := false, laid := [("unicode/utf8.acceptRanges", laid_unicode_utf8_acceptRanges), ("unicode/utf8.first", laid_unicode_utf8_first)], narrowed := true }
def OpcodeWalksUptoSaid : Prop := opcodeWalksUptoRow.holds Tryd.pinned (OpenSpec.upto opcodeWalksSpec)

/-- 'gannetlaw23.OpcodeBack', WHERE WHAT IT READS IS OF BULK AT MOST 1048576: true; the input reads as it did. -/
def opcodeBackUptoRow : OpenClaim := { program := "ytfohjnfdgegfcaadoor", sum := "8c27353f4d0fdf81b6563816f7403d66fea916caaf8fea23f00c699fb3e4df20", func := "gannet/gannetlaw23.OpcodeBack", spec := "opcodeBack", inPlace := ["internal/bytealg.IndexByteString", "internal/bytealg.IndexString"], unfollowed := true, recurses := true, named := ["unicode/utf8.first", "unicode/utf8.acceptRanges", "internal/bytealg.MaxLen"], apart := false, laid := [("unicode/utf8.acceptRanges", laid_unicode_utf8_acceptRanges), ("unicode/utf8.first", laid_unicode_utf8_first)], narrowed := true }
def OpcodeBackUptoSaid : Prop := opcodeBackUptoRow.holds Tryd.pinned (OpenSpec.upto opcodeBackSpec)

/-- 'gannetlaw30.MicroKinds', WHERE WHAT IT READS IS OF BULK AT MOST 1048576: true; the input reads as it did. -/
def microKindsUptoRow : OpenClaim := { program := "ytfohjnfdgegfcaadoor", sum := "8c27353f4d0fdf81b6563816f7403d66fea916caaf8fea23f00c699fb3e4df20", func := "gannet/gannetlaw30.MicroKinds", spec := "microKinds", inPlace := ["internal/bytealg.IndexByteString", "internal/bytealg.IndexString", "internal/abi.NoEscape", "internal/bytealg.MakeNoZero"], named := ["unicode/utf8.first", "unicode/utf8.acceptRanges", "internal/bytealg.MaxLen"], apart := false, laid := [("unicode/utf8.acceptRanges", laid_unicode_utf8_acceptRanges), ("unicode/utf8.first", laid_unicode_utf8_first)], narrowed := true }
def MicroKindsUptoSaid : Prop := microKindsUptoRow.holds Tryd.pinned (OpenSpec.upto microKindsSpec)

end Rows
end Go.Proofs.YtfohjnfdgegfcaaDoor
