/-
  NARROWER THAN 'FOR EVERY INPUT', by the rows' own cells (each row's printed sentence says how): TraceLines: laid · TracePacks: laid · TraceUnpacks: laid · TraceCounts: laid · ModesText: laid · TimingKinds: laid · TimingBounds: laid · OpcodeFinds: laid · OpcodeNames: laid · OpcodeWalks: laid · MicroKinds: laid.
  DERIVED. THE GIVEN ROWS OF THIS SEAT. 11 by the template 'for every input the law returns true; each argument reads behind the call as it read before'; 0 by the template 'total and deterministic' (their statements: YtjcpcnoakphecaaDoorTotals.lean).
  GIVEN WITH THE SEED: the statements are not yours to turn. If you find one false, say at which input.
  Laid BY PROGRAM, IN A SANDBOX (cutbox-rows.mjs): the forced cells as the released guide's own fill.sh prints them over the translation 8f6b9f6b0ac28b7b… (all of the seat's roots in one cut). By AI agents, Wed Nov 11 2026. No macro, syntax, notation, axiom, sorry.
-/
import Derived.Test.YtjcpcnoakphecaaDoorChecked
import GoSem.PinnedTables
import GoSem.Claim
import GoSem.ClaimJoined
import GoSem.ClaimMapViews
import Derived.JoinedTies
import Derived.KernelRfl
namespace Go.Proofs.YtjcpcnoakphecaaDoor
/- THE CELL 'sum', in the pinned program and in every row, IS THE sha256 OF THE DUMP (.gsa) THAT YtjcpcnoakphecaaDoorProg.lean LOADS. Nothing in Lean hashes anything: it is a label: what it is worth is what the hold of that sum in a sandbox is worth. -/
noncomputable def Tryd.pinned : Pinned := { name := "ytjcpcnoakphecaadoor", sum := "8f6b9f6b0ac28b7b081af623a01d81a848cbbf5eddcd227c343a6e0c57a6c1b0", checked := Tryd.checked }
namespace Rows
def none {H : Type} : Left H := { results := [], args := [] }

/- WHAT THE LISTED PACKAGE-LEVEL VARIABLES READ AS WHEN THE CALL BEGINS. Each datum BY PROGRAM (the guide's laid-datum.mjs) off the statement by which the dump's own 'gosem.cut.vars' lays the variable. In a bare row this is a premise. The card (YtjcpcnoakphecaaDoorCards.lean) ties it to the program's text. -/
def laid_unicode_utf8_acceptRanges {H : Type} : DataW H := .agg [.agg [.lit (.int .u8 128), .lit (.int .u8 191)], .agg [.lit (.int .u8 160), .lit (.int .u8 191)], .agg [.lit (.int .u8 128), .lit (.int .u8 159)], .agg [.lit (.int .u8 144), .lit (.int .u8 191)], .agg [.lit (.int .u8 128), .lit (.int .u8 143)], .agg [.lit (.int .u8 0), .lit (.int .u8 0)], .agg [.lit (.int .u8 0), .lit (.int .u8 0)], .agg [.lit (.int .u8 0), .lit (.int .u8 0)], .agg [.lit (.int .u8 0), .lit (.int .u8 0)], .agg [.lit (.int .u8 0), .lit (.int .u8 0)], .agg [.lit (.int .u8 0), .lit (.int .u8 0)], .agg [.lit (.int .u8 0), .lit (.int .u8 0)], .agg [.lit (.int .u8 0), .lit (.int .u8 0)], .agg [.lit (.int .u8 0), .lit (.int .u8 0)], .agg [.lit (.int .u8 0), .lit (.int .u8 0)], .agg [.lit (.int .u8 0), .lit (.int .u8 0)]]
/-- One of Go's own tables, pinned by name: the form's constant. -/
def laid_unicode_utf8_first : DataW Unit := Go.Pinned.utf8First

/-- 'gannetlaw36.TraceLines': WHATEVER THE INPUT: true; the input reads as it did. -/
def traceLinesSpec : ChangeSpec := { name := "traceLines", fn := fun _ => fun
  | [d1, d2] => { results := [.lit (.bool true)], args := [d1, d2] }
  | _ => none }
def traceLinesRow : OpenClaim := { program := "ytjcpcnoakphecaadoor", sum := "8f6b9f6b0ac28b7b081af623a01d81a848cbbf5eddcd227c343a6e0c57a6c1b0", func := "gannet/gannetlaw36.TraceLines", spec := "traceLines", inPlace := ["internal/bytealg.CountString", "internal/bytealg.IndexByteString", "internal/bytealg.IndexString", "internal/abi.NoEscape", "internal/bytealg.MakeNoZero"], unfollowed := true, recurses := true, named := ["unicode/utf8.first", "unicode/utf8.acceptRanges", "internal/bytealg.MaxLen"], apart := false, laid := [("unicode/utf8.acceptRanges", laid_unicode_utf8_acceptRanges), ("unicode/utf8.first", laid_unicode_utf8_first)] }
def TraceLinesSaid : Prop := traceLinesRow.holds Tryd.pinned (OpenSpec.ofChange traceLinesSpec)

/-- ITS FALSE NEIGHBOUR: 'it returns false'. Refute it at one input. -/
def traceLinesWrong : ChangeSpec := { name := "traceLines", fn := fun _ => fun
  | [d1, d2] => { results := [.lit (.bool false)], args := [d1, d2] }
  | _ => none }
def TraceLinesWrongFalsely : Prop := traceLinesRow.holds Tryd.pinned (OpenSpec.ofChange traceLinesWrong)

/-- 'gannetlaw36.TracePacks': WHATEVER THE INPUT: true; the input reads as it did. -/
def tracePacksSpec : ChangeSpec := { name := "tracePacks", fn := fun _ => fun
  | [d] => { results := [.lit (.bool true)], args := [d] }
  | _ => none }
def tracePacksRow : OpenClaim := { program := "ytjcpcnoakphecaadoor", sum := "8f6b9f6b0ac28b7b081af623a01d81a848cbbf5eddcd227c343a6e0c57a6c1b0", func := "gannet/gannetlaw36.TracePacks", spec := "tracePacks", inPlace := ["internal/bytealg.CountString", "internal/bytealg.IndexByteString", "internal/bytealg.IndexString", "internal/abi.NoEscape", "internal/bytealg.MakeNoZero"], unfollowed := true, recurses := true, named := ["unicode/utf8.first", "unicode/utf8.acceptRanges", "internal/bytealg.MaxLen"], apart := false, laid := [("unicode/utf8.acceptRanges", laid_unicode_utf8_acceptRanges), ("unicode/utf8.first", laid_unicode_utf8_first)] }
def TracePacksSaid : Prop := tracePacksRow.holds Tryd.pinned (OpenSpec.ofChange tracePacksSpec)

/-- ITS FALSE NEIGHBOUR: 'it returns false'. Refute it at one input. -/
def tracePacksWrong : ChangeSpec := { name := "tracePacks", fn := fun _ => fun
  | [d] => { results := [.lit (.bool false)], args := [d] }
  | _ => none }
def TracePacksWrongFalsely : Prop := tracePacksRow.holds Tryd.pinned (OpenSpec.ofChange tracePacksWrong)

/-- 'gannetlaw36.TraceUnpacks': WHATEVER THE INPUT: true; the input reads as it did. -/
def traceUnpacksSpec : ChangeSpec := { name := "traceUnpacks", fn := fun _ => fun
  | [d] => { results := [.lit (.bool true)], args := [d] }
  | _ => none }
def traceUnpacksRow : OpenClaim := { program := "ytjcpcnoakphecaadoor", sum := "8f6b9f6b0ac28b7b081af623a01d81a848cbbf5eddcd227c343a6e0c57a6c1b0", func := "gannet/gannetlaw36.TraceUnpacks", spec := "traceUnpacks", inPlace := ["internal/bytealg.CountString", "internal/bytealg.IndexByteString", "internal/bytealg.IndexString", "internal/abi.NoEscape", "internal/bytealg.MakeNoZero"], unfollowed := true, recurses := true, named := ["unicode/utf8.first", "unicode/utf8.acceptRanges", "internal/bytealg.MaxLen"], apart := false, laid := [("unicode/utf8.acceptRanges", laid_unicode_utf8_acceptRanges), ("unicode/utf8.first", laid_unicode_utf8_first)] }
def TraceUnpacksSaid : Prop := traceUnpacksRow.holds Tryd.pinned (OpenSpec.ofChange traceUnpacksSpec)

/-- ITS FALSE NEIGHBOUR: 'it returns false'. Refute it at one input. -/
def traceUnpacksWrong : ChangeSpec := { name := "traceUnpacks", fn := fun _ => fun
  | [d] => { results := [.lit (.bool false)], args := [d] }
  | _ => none }
def TraceUnpacksWrongFalsely : Prop := traceUnpacksRow.holds Tryd.pinned (OpenSpec.ofChange traceUnpacksWrong)

/-- 'gannetlaw36.TraceCounts': WHATEVER THE INPUT: true; the input reads as it did. -/
def traceCountsSpec : ChangeSpec := { name := "traceCounts", fn := fun _ => fun
  | [d1, d2, d3, d4] => { results := [.lit (.bool true)], args := [d1, d2, d3, d4] }
  | _ => none }
def traceCountsRow : OpenClaim := { program := "ytjcpcnoakphecaadoor", sum := "8f6b9f6b0ac28b7b081af623a01d81a848cbbf5eddcd227c343a6e0c57a6c1b0", func := "gannet/gannetlaw36.TraceCounts", spec := "traceCounts", inPlace := ["internal/bytealg.CountString", "internal/bytealg.IndexByteString", "internal/bytealg.IndexString", "internal/abi.NoEscape", "internal/bytealg.MakeNoZero"], unfollowed := true, recurses := true, named := ["unicode/utf8.first", "unicode/utf8.acceptRanges", "internal/bytealg.MaxLen"], apart := false, laid := [("unicode/utf8.acceptRanges", laid_unicode_utf8_acceptRanges), ("unicode/utf8.first", laid_unicode_utf8_first)] }
def TraceCountsSaid : Prop := traceCountsRow.holds Tryd.pinned (OpenSpec.ofChange traceCountsSpec)

/-- ITS FALSE NEIGHBOUR: 'it returns false'. Refute it at one input. -/
def traceCountsWrong : ChangeSpec := { name := "traceCounts", fn := fun _ => fun
  | [d1, d2, d3, d4] => { results := [.lit (.bool false)], args := [d1, d2, d3, d4] }
  | _ => none }
def TraceCountsWrongFalsely : Prop := traceCountsRow.holds Tryd.pinned (OpenSpec.ofChange traceCountsWrong)

/-- 'gannetlaw24.ModesText': WHATEVER THE INPUT: true; the input reads as it did. -/
def modesTextSpec : ChangeSpec := { name := "modesText", fn := fun _ => fun
  | [d1, d2] => { results := [.lit (.bool true)], args := [d1, d2] }
  | _ => none }
def modesTextRow : OpenClaim := { program := "ytjcpcnoakphecaadoor", sum := "8f6b9f6b0ac28b7b081af623a01d81a848cbbf5eddcd227c343a6e0c57a6c1b0", func := "gannet/gannetlaw24.ModesText", spec := "modesText", inPlace := ["internal/bytealg.IndexByteString", "internal/bytealg.IndexString", "internal/abi.NoEscape", "internal/bytealg.MakeNoZero"], recurses := true, named := ["unicode/utf8.first", "unicode/utf8.acceptRanges", "internal/bytealg.MaxLen"], apart := false, laid := [("unicode/utf8.acceptRanges", laid_unicode_utf8_acceptRanges), ("unicode/utf8.first", laid_unicode_utf8_first)] }
def ModesTextSaid : Prop := modesTextRow.holds Tryd.pinned (OpenSpec.ofChange modesTextSpec)

/-- ITS FALSE NEIGHBOUR: 'it returns false'. Refute it at one input. -/
def modesTextWrong : ChangeSpec := { name := "modesText", fn := fun _ => fun
  | [d1, d2] => { results := [.lit (.bool false)], args := [d1, d2] }
  | _ => none }
def ModesTextWrongFalsely : Prop := modesTextRow.holds Tryd.pinned (OpenSpec.ofChange modesTextWrong)

/-- 'gannetlaw29.TimingKinds': WHATEVER THE INPUT: true; the input reads as it did. -/
def timingKindsSpec : ChangeSpec := { name := "timingKinds", fn := fun _ => fun
  | [d1, d2] => { results := [.lit (.bool true)], args := [d1, d2] }
  | _ => none }
def timingKindsRow : OpenClaim := { program := "ytjcpcnoakphecaadoor", sum := "8f6b9f6b0ac28b7b081af623a01d81a848cbbf5eddcd227c343a6e0c57a6c1b0", func := "gannet/gannetlaw29.TimingKinds", spec := "timingKinds", inPlace := ["internal/bytealg.IndexByteString", "internal/bytealg.IndexString", "internal/abi.NoEscape", "internal/bytealg.MakeNoZero"], named := ["unicode/utf8.first", "unicode/utf8.acceptRanges", "internal/bytealg.MaxLen"], apart := false, laid := [("unicode/utf8.acceptRanges", laid_unicode_utf8_acceptRanges), ("unicode/utf8.first", laid_unicode_utf8_first)] }
def TimingKindsSaid : Prop := timingKindsRow.holds Tryd.pinned (OpenSpec.ofChange timingKindsSpec)

/-- ITS FALSE NEIGHBOUR: 'it returns false'. Refute it at one input. -/
def timingKindsWrong : ChangeSpec := { name := "timingKinds", fn := fun _ => fun
  | [d1, d2] => { results := [.lit (.bool false)], args := [d1, d2] }
  | _ => none }
def TimingKindsWrongFalsely : Prop := timingKindsRow.holds Tryd.pinned (OpenSpec.ofChange timingKindsWrong)

/-- 'gannetlaw29.TimingBounds': WHATEVER THE INPUT: true; the input reads as it did. -/
def timingBoundsSpec : ChangeSpec := { name := "timingBounds", fn := fun _ => fun
  | [d1, d2, d3] => { results := [.lit (.bool true)], args := [d1, d2, d3] }
  | _ => none }
def timingBoundsRow : OpenClaim := { program := "ytjcpcnoakphecaadoor", sum := "8f6b9f6b0ac28b7b081af623a01d81a848cbbf5eddcd227c343a6e0c57a6c1b0", func := "gannet/gannetlaw29.TimingBounds", spec := "timingBounds", inPlace := ["internal/bytealg.IndexByteString", "internal/bytealg.IndexString", "internal/abi.NoEscape", "internal/bytealg.MakeNoZero"], named := ["unicode/utf8.first", "unicode/utf8.acceptRanges", "internal/bytealg.MaxLen"], apart := false, laid := [("unicode/utf8.acceptRanges", laid_unicode_utf8_acceptRanges), ("unicode/utf8.first", laid_unicode_utf8_first)] }
def TimingBoundsSaid : Prop := timingBoundsRow.holds Tryd.pinned (OpenSpec.ofChange timingBoundsSpec)

/-- ITS FALSE NEIGHBOUR: 'it returns false'. Refute it at one input. -/
def timingBoundsWrong : ChangeSpec := { name := "timingBounds", fn := fun _ => fun
  | [d1, d2, d3] => { results := [.lit (.bool false)], args := [d1, d2, d3] }
  | _ => none }
def TimingBoundsWrongFalsely : Prop := timingBoundsRow.holds Tryd.pinned (OpenSpec.ofChange timingBoundsWrong)

/-- 'gannetlaw23.OpcodeFinds': WHATEVER THE INPUT: true; the input reads as it did. -/
def opcodeFindsSpec : ChangeSpec := { name := "opcodeFinds", fn := fun _ => fun
  | [d1, d2] => { results := [.lit (.bool true)], args := [d1, d2] }
  | _ => none }
def opcodeFindsRow : OpenClaim := { program := "ytjcpcnoakphecaadoor", sum := "8f6b9f6b0ac28b7b081af623a01d81a848cbbf5eddcd227c343a6e0c57a6c1b0", func := "gannet/gannetlaw23.OpcodeFinds", spec := "opcodeFinds", inPlace := ["internal/bytealg.IndexByteString", "internal/bytealg.IndexString"], unfollowed := true, recurses := true, named := ["unicode/utf8.first", "unicode/utf8.acceptRanges", "internal/bytealg.MaxLen"], apart := false, laid := [("unicode/utf8.acceptRanges", laid_unicode_utf8_acceptRanges), ("unicode/utf8.first", laid_unicode_utf8_first)] }
def OpcodeFindsSaid : Prop := opcodeFindsRow.holds Tryd.pinned (OpenSpec.ofChange opcodeFindsSpec)

/-- ITS FALSE NEIGHBOUR: 'it returns false'. Refute it at one input. -/
def opcodeFindsWrong : ChangeSpec := { name := "opcodeFinds", fn := fun _ => fun
  | [d1, d2] => { results := [.lit (.bool false)], args := [d1, d2] }
  | _ => none }
def OpcodeFindsWrongFalsely : Prop := opcodeFindsRow.holds Tryd.pinned (OpenSpec.ofChange opcodeFindsWrong)

/-- 'gannetlaw23.OpcodeNames': WHATEVER THE INPUT: true; the input reads as it did. -/
def opcodeNamesSpec : ChangeSpec := { name := "opcodeNames", fn := fun _ => fun
  | [d1, d2] => { results := [.lit (.bool true)], args := [d1, d2] }
  | _ => none }
def opcodeNamesRow : OpenClaim := { program := "ytjcpcnoakphecaadoor", sum := "8f6b9f6b0ac28b7b081af623a01d81a848cbbf5eddcd227c343a6e0c57a6c1b0", func := "gannet/gannetlaw23.OpcodeNames", spec := "opcodeNames", inPlace := ["internal/bytealg.IndexByteString", "internal/bytealg.IndexString"], unfollowed := true, recurses := true, named := ["unicode/utf8.first", "unicode/utf8.acceptRanges", "internal/bytealg.MaxLen"], apart := false, laid := [("unicode/utf8.acceptRanges", laid_unicode_utf8_acceptRanges), ("unicode/utf8.first", laid_unicode_utf8_first)] }
def OpcodeNamesSaid : Prop := opcodeNamesRow.holds Tryd.pinned (OpenSpec.ofChange opcodeNamesSpec)

/-- ITS FALSE NEIGHBOUR: 'it returns false'. Refute it at one input. -/
def opcodeNamesWrong : ChangeSpec := { name := "opcodeNames", fn := fun _ => fun
  | [d1, d2] => { results := [.lit (.bool false)], args := [d1, d2] }
  | _ => none }
def OpcodeNamesWrongFalsely : Prop := opcodeNamesRow.holds Tryd.pinned (OpenSpec.ofChange opcodeNamesWrong)

/-- 'gannetlaw23.OpcodeWalks': WHATEVER THE INPUT: true; the input reads as it did. -/
def opcodeWalksSpec : ChangeSpec := { name := "opcodeWalks", fn := fun _ => fun
  | [d] => { results := [.lit (.bool true)], args := [d] }
  | _ => none }
def opcodeWalksRow : OpenClaim := { program := "ytjcpcnoakphecaadoor", sum := "8f6b9f6b0ac28b7b081af623a01d81a848cbbf5eddcd227c343a6e0c57a6c1b0", func := "gannet/gannetlaw23.OpcodeWalks", spec := "opcodeWalks", inPlace := ["internal/bytealg.IndexByteString", "internal/bytealg.IndexString"], unfollowed := true, recurses := true, named := ["unicode/utf8.first", "unicode/utf8.acceptRanges", "internal/bytealg.MaxLen"], apart := false, laid := [("unicode/utf8.acceptRanges", laid_unicode_utf8_acceptRanges), ("unicode/utf8.first", laid_unicode_utf8_first)] }
def OpcodeWalksSaid : Prop := opcodeWalksRow.holds Tryd.pinned (OpenSpec.ofChange opcodeWalksSpec)

/-- ITS FALSE NEIGHBOUR: 'it returns false'. Refute it at one input. -/
def opcodeWalksWrong : ChangeSpec := { name := "opcodeWalks", fn := fun _ => fun
  | [d] => { results := [.lit (.bool false)], args := [d] }
  | _ => none }
def OpcodeWalksWrongFalsely : Prop := opcodeWalksRow.holds Tryd.pinned (OpenSpec.ofChange opcodeWalksWrong)

/-- 'gannetlaw30.MicroKinds': WHATEVER THE INPUT: true; the input reads as it did. -/
def microKindsSpec : ChangeSpec := { name := "microKinds", fn := fun _ => fun
  | [d1, d2] => { results := [.lit (.bool true)], args := [d1, d2] }
  | _ => none }
def microKindsRow : OpenClaim := { program := "ytjcpcnoakphecaadoor", sum := "8f6b9f6b0ac28b7b081af623a01d81a848cbbf5eddcd227c343a6e0c57a6c1b0", func := "gannet/gannetlaw30.MicroKinds", spec := "microKinds", inPlace := ["internal/bytealg.IndexByteString", "internal/bytealg.IndexString", "internal/abi.NoEscape", "internal/bytealg.MakeNoZero"], named := ["unicode/utf8.first", "unicode/utf8.acceptRanges", "internal/bytealg.MaxLen"], apart := false, laid := [("unicode/utf8.acceptRanges", laid_unicode_utf8_acceptRanges), ("unicode/utf8.first", laid_unicode_utf8_first)] }
def MicroKindsSaid : Prop := microKindsRow.holds Tryd.pinned (OpenSpec.ofChange microKindsSpec)

/-- ITS FALSE NEIGHBOUR: 'it returns false'. Refute it at one input. -/
def microKindsWrong : ChangeSpec := { name := "microKinds", fn := fun _ => fun
  | [d1, d2] => { results := [.lit (.bool false)], args := [d1, d2] }
  | _ => none }
def MicroKindsWrongFalsely : Prop := microKindsRow.holds Tryd.pinned (OpenSpec.ofChange microKindsWrong)

/- THE SECOND FORM. 'bulk': how many values and letters a reading holds, each counted each time it is reached (what is shared counts as often as it is met; a slice's spare places count too). A statement '..UptoSaid' is the law's where the arguments, and the package variables that the reading takes, are together of bulk at most 1048576: NARROWER than '..Said'. Prove '..Said' where nothing that the law and all that it calls make is longer than what came in: it says more and counts as full. Else prove '..UptoSaid'. A law counts once. -/
mutual
def uptoBulk {H : Type} : DataW H → Nat
  | .lit (.string bytes) => bytes.length + 1
  | .lit _ => 1
  | .nil => 1
  | .ptr d => uptoBulk d + 1
  | .slice elems spare => uptoBulkAll elems + uptoBulkAll spare + 1
  | .agg parts => uptoBulkAll parts + 1
  | .iface _ d => uptoBulk d + 1
  | .map entries => uptoBulkEntries entries + 1
  | .held _ => 1
def uptoBulkAll {H : Type} : List (DataW H) → Nat
  | [] => 0
  | d :: r => uptoBulk d + uptoBulkAll r
def uptoBulkEntries {H : Type} : List (Lit × DataW H) → Nat
  | [] => 0
  | x :: r => uptoBulkEntry x + uptoBulkEntries r
def uptoBulkEntry {H : Type} : Lit × DataW H → Nat
  | (.string bytes, d) => bytes.length + uptoBulk d + 1
  | (_, d) => uptoBulk d + 1
 end
def uptoSmall : (H : Type) → List (DataW H) → Bool := fun _ ds => decide (uptoBulkAll ds ≤ 1048576)
def OpenSpec.upto (s : _root_.Go.ChangeSpec) : _root_.Go.OpenSpec := { _root_.Go.OpenSpec.ofChange s with cond := some uptoSmall }

/-- 'gannetlaw36.TraceLines', WHERE WHAT IT READS IS OF BULK AT MOST 1048576: true; the input reads as it did. -/
def traceLinesUptoRow : OpenClaim := { program := "ytjcpcnoakphecaadoor", sum := "8f6b9f6b0ac28b7b081af623a01d81a848cbbf5eddcd227c343a6e0c57a6c1b0", func := "gannet/gannetlaw36.TraceLines", spec := "traceLines", inPlace := ["internal/bytealg.CountString", "internal/bytealg.IndexByteString", "internal/bytealg.IndexString", "internal/abi.NoEscape", "internal/bytealg.MakeNoZero"], unfollowed := true, recurses := true, named := ["unicode/utf8.first", "unicode/utf8.acceptRanges", "internal/bytealg.MaxLen"], apart := false, laid := [("unicode/utf8.acceptRanges", laid_unicode_utf8_acceptRanges), ("unicode/utf8.first", laid_unicode_utf8_first)], narrowed := true }
def TraceLinesUptoSaid : Prop := traceLinesUptoRow.holds Tryd.pinned (OpenSpec.upto traceLinesSpec)

/-- 'gannetlaw36.TracePacks', WHERE WHAT IT READS IS OF BULK AT MOST 1048576: true; the input reads as it did. -/
def tracePacksUptoRow : OpenClaim := { program := "ytjcpcnoakphecaadoor", sum := "8f6b9f6b0ac28b7b081af623a01d81a848cbbf5eddcd227c343a6e0c57a6c1b0", func := "gannet/gannetlaw36.TracePacks", spec := "tracePacks", inPlace := ["internal/bytealg.CountString", "internal/bytealg.IndexByteString", "internal/bytealg.IndexString", "internal/abi.NoEscape", "internal/bytealg.MakeNoZero"], unfollowed := true, recurses := true, named := ["unicode/utf8.first", "unicode/utf8.acceptRanges", "internal/bytealg.MaxLen"], apart := false, laid := [("unicode/utf8.acceptRanges", laid_unicode_utf8_acceptRanges), ("unicode/utf8.first", laid_unicode_utf8_first)], narrowed := true }
def TracePacksUptoSaid : Prop := tracePacksUptoRow.holds Tryd.pinned (OpenSpec.upto tracePacksSpec)

/-- 'gannetlaw36.TraceUnpacks', WHERE WHAT IT READS IS OF BULK AT MOST 1048576: true; the input reads as it did. -/
def traceUnpacksUptoRow : OpenClaim := { program := "ytjcpcnoakphecaadoor", sum := "8f6b9f6b0ac28b7b081af623a01d81a848cbbf5eddcd227c343a6e0c57a6c1b0", func := "gannet/gannetlaw36.TraceUnpacks", spec := "traceUnpacks", inPlace := ["internal/bytealg.CountString", "internal/bytealg.IndexByteString", "internal/bytealg.IndexString", "internal/abi.NoEscape", "internal/bytealg.MakeNoZero"], unfollowed := true, recurses := true, named := ["unicode/utf8.first", "unicode/utf8.acceptRanges", "internal/bytealg.MaxLen"], apart := false, laid := [("unicode/utf8.acceptRanges", laid_unicode_utf8_acceptRanges), ("unicode/utf8.first", laid_unicode_utf8_first)], narrowed := true }
def TraceUnpacksUptoSaid : Prop := traceUnpacksUptoRow.holds Tryd.pinned (OpenSpec.upto traceUnpacksSpec)

/-- 'gannetlaw36.TraceCounts', WHERE WHAT IT READS IS OF BULK AT MOST 1048576: true; the input reads as it did. -/
def traceCountsUptoRow : OpenClaim := { program := "ytjcpcnoakphecaadoor", sum := "8f6b9f6b0ac28b7b081af623a01d81a848cbbf5eddcd227c343a6e0c57a6c1b0", func := "gannet/gannetlaw36.TraceCounts", spec := "traceCounts", inPlace := ["internal/bytealg.CountString", "internal/bytealg.IndexByteString", "internal/bytealg.IndexString", "internal/abi.NoEscape", "internal/bytealg.MakeNoZero"], unfollowed := true, recurses := true, named := ["unicode/utf8.first", "unicode/utf8.acceptRanges", "internal/bytealg.MaxLen"], apart := false, laid := [("unicode/utf8.acceptRanges", laid_unicode_utf8_acceptRanges), ("unicode/utf8.first", laid_unicode_utf8_first)], narrowed := true }
def TraceCountsUptoSaid : Prop := traceCountsUptoRow.holds Tryd.pinned (OpenSpec.upto traceCountsSpec)

/-- 'gannetlaw24.ModesText', WHERE WHAT IT READS IS OF BULK AT MOST 1048576: true; the input reads as it did. -/
def modesTextUptoRow : OpenClaim := { program := "ytjcpcnoakphecaadoor", sum := "8f6b9f6b0ac28b7b081af623a01d81a848cbbf5eddcd227c343a6e0c57a6c1b0", func := "gannet/gannetlaw24.ModesText", spec := "modesText", inPlace := ["internal/bytealg.IndexByteString", "internal/bytealg.IndexString", "internal/abi.NoEscape", "internal/bytealg.MakeNoZero"], recurses := true, named := ["unicode/utf8.first", "unicode/utf8.acceptRanges", "internal/bytealg.MaxLen"], apart := false, laid := [("unicode/utf8.acceptRanges", laid_unicode_utf8_acceptRanges), ("unicode/utf8.first", laid_unicode_utf8_first)], narrowed := true }
def ModesTextUptoSaid : Prop := modesTextUptoRow.holds Tryd.pinned (OpenSpec.upto modesTextSpec)

/-- 'gannetlaw29.TimingKinds', WHERE WHAT IT READS IS OF BULK AT MOST 1048576: true; the input reads as it did. -/
def timingKindsUptoRow : OpenClaim := { program := "ytjcpcnoakphecaadoor", sum := "8f6b9f6b0ac28b7b081af623a01d81a848cbbf5eddcd227c343a6e0c57a6c1b0", func := "gannet/gannetlaw29.TimingKinds", spec := "timingKinds", inPlace := ["internal/bytealg.IndexByteString", "internal/bytealg.IndexString", "internal/abi.NoEscape", "internal/bytealg.MakeNoZero"], named := ["unicode/utf8.first", "unicode/utf8.acceptRanges", "internal/bytealg.MaxLen"], apart := false, laid := [("unicode/utf8.acceptRanges", laid_unicode_utf8_acceptRanges), ("unicode/utf8.first", laid_unicode_utf8_first)], narrowed := true }
def TimingKindsUptoSaid : Prop := timingKindsUptoRow.holds Tryd.pinned (OpenSpec.upto timingKindsSpec)

/-- 'gannetlaw29.TimingBounds', WHERE WHAT IT READS IS OF BULK AT MOST 1048576: true; the input reads as it did. -/
def timingBoundsUptoRow : OpenClaim := { program := "ytjcpcnoakphecaadoor", sum := "8f6b9f6b0ac28b7b081af623a01d81a848cbbf5eddcd227c343a6e0c57a6c1b0", func := "gannet/gannetlaw29.TimingBounds", spec := "timingBounds", inPlace := ["internal/bytealg.IndexByteString", "internal/bytealg.IndexString", "internal/abi.NoEscape", "internal/bytealg.MakeNoZero"], named := ["unicode/utf8.first", "unicode/utf8.acceptRanges", "internal/bytealg.MaxLen"], apart := false, laid := [("unicode/utf8.acceptRanges", laid_unicode_utf8_acceptRanges), ("unicode/utf8.first", laid_unicode_utf8_first)], narrowed := true }
def TimingBoundsUptoSaid : Prop := timingBoundsUptoRow.holds Tryd.pinned (OpenSpec.upto timingBoundsSpec)

/-- 'gannetlaw23.OpcodeFinds', WHERE WHAT IT READS IS OF BULK AT MOST 1048576: true; the input reads as it did. -/
def opcodeFindsUptoRow : OpenClaim := { program := "ytjcpcnoakphecaadoor", sum := "8f6b9f6b0ac28b7b081af623a01d81a848cbbf5eddcd227c343a6e0c57a6c1b0", func := "gannet/gannetlaw23.OpcodeFinds", spec := "opcodeFinds", inPlace := ["internal/bytealg.IndexByteString", "internal/bytealg.IndexString"], unfollowed := true, recurses := true, named := ["unicode/utf8.first", "unicode/utf8.acceptRanges", "internal/bytealg.MaxLen"], apart := false, laid := [("unicode/utf8.acceptRanges", laid_unicode_utf8_acceptRanges), ("unicode/utf8.first", laid_unicode_utf8_first)], narrowed := true }
def OpcodeFindsUptoSaid : Prop := opcodeFindsUptoRow.holds Tryd.pinned (OpenSpec.upto opcodeFindsSpec)

/-- 'gannetlaw23.OpcodeNames', WHERE WHAT IT READS IS OF BULK AT MOST 1048576: true; the input reads as it did. -/
def opcodeNamesUptoRow : OpenClaim := { program := "ytjcpcnoakphecaadoor", sum := "8f6b9f6b0ac28b7b081af623a01d81a848cbbf5eddcd227c343a6e0c57a6c1b0", func := "gannet/gannetlaw23.OpcodeNames", spec := "opcodeNames", inPlace := ["internal/bytealg.IndexByteString", "internal/bytealg.IndexString"], unfollowed := true, recurses := true, named := ["unicode/utf8.first", "unicode/utf8.acceptRanges", "internal/bytealg.MaxLen"], apart := false, laid := [("unicode/utf8.acceptRanges", laid_unicode_utf8_acceptRanges), ("unicode/utf8.first", laid_unicode_utf8_first)], narrowed := true }
def OpcodeNamesUptoSaid : Prop := opcodeNamesUptoRow.holds Tryd.pinned (OpenSpec.upto opcodeNamesSpec)

/-- 'gannetlaw23.OpcodeWalks', WHERE WHAT IT READS IS OF BULK AT MOST 1048576: true; the input reads as it did. -/
def opcodeWalksUptoRow : OpenClaim := { program := "ytjcpcnoakphecaadoor", sum := "8f6b9f6b0ac28b7b081af623a01d81a848cbbf5eddcd227c343a6e0c57a6c1b0", func := "gannet/gannetlaw23.OpcodeWalks", spec := "opcodeWalks", inPlace := ["internal/bytealg.IndexByteString", "internal/bytealg.IndexString"], unfollowed := true, recurses := true, named := ["unicode/utf8.first", "unicode/utf8.acceptRanges", "internal/bytealg.MaxLen"], apart := false, laid := [("unicode/utf8.acceptRanges", laid_unicode_utf8_acceptRanges), ("unicode/utf8.first", laid_unicode_utf8_first)], narrowed := true }
def OpcodeWalksUptoSaid : Prop := opcodeWalksUptoRow.holds Tryd.pinned (OpenSpec.upto opcodeWalksSpec)

/-- 'gannetlaw30.MicroKinds', WHERE WHAT IT READS IS OF BULK AT MOST 1048576: true; the input reads as it did. -/
def microKindsUptoRow : OpenClaim := { program := "ytjcpcnoakphecaadoor", sum := "8f6b9f6b0ac28b7b081af623a01d81a848cbbf5eddcd227c343a6e0c57a6c1b0", func := "gannet/gannetlaw30.MicroKinds", spec := "microKinds", inPlace := ["internal/bytealg.IndexByteString", "internal/bytealg.IndexString", "internal/abi.NoEscape", "internal/bytealg.MakeNoZero"], named := ["unicode/utf8.first", "unicode/utf8.acceptRanges", "internal/bytealg.MaxLen"], apart := false, laid := [("unicode/utf8.acceptRanges", laid_unicode_utf8_acceptRanges), ("unicode/utf8.first", laid_unicode_utf8_first)], narrowed := true }
def MicroKindsUptoSaid : Prop := microKindsUptoRow.holds Tryd.pinned (OpenSpec.upto microKindsSpec)

end Rows
end Go.Proofs.YtjcpcnoakphecaaDoor
