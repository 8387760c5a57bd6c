/-
  DERIVED. GIVEN WITH THE SEED: THE CARDS: each row of YtfohjnfdgegfcaaDoorRows.lean that lists a variable, with what it lists TIED to the program's text (the seventh form; the later family's looks); each row that meets fmt, with fmt's text TOLD by the authors' own Lean function (tested against real Go, not proved from fmt's source: count such statements apart). THE CARD IS WHAT COUNTS. Prove the row's statement (the work); the ties are given (YtfohjnfdgegfcaaDoorTie.lean); close each card by the builder's one call (the guide's Derived/Test/ToyasCard.lean, 'card_holds'). Laid BY PROGRAM, IN A SANDBOX (cutbox-door.mjs). By AI agents, Wed Nov 11 2026. No macro, syntax, notation, axiom, sorry.
-/
import Derived.Test.YtfohjnfdgegfcaaDoorRows
import GoSem.ClaimSeven
namespace Go.Proofs.YtfohjnfdgegfcaaDoor
namespace Rows

/-- THE TIED CARD OF 'gannetlaw30.MicroPrograms'. -/
def microProgramsCard : Claim7 := { stood := { row := microProgramsRow, standIns := [], harness := (true, "881133d6d16515624d535ab7bd4624a4501de260d312577857deca64af231a78"), looks := false }, kinds := [], alts := [], laidByText := true, laidKinds := [.data, .pinned], laidTests := true, laidLooks := .later }
def MicroProgramsCardSaid : Prop := Claim7.holds Tryd.pinned (.plain (OpenSpec.ofChange microProgramsSpec)) microProgramsCard

/-- THE TIED CARD OF 'gannetlaw30.MicroActs'. -/
def microActsCard : Claim7 := { stood := { row := microActsRow, standIns := [], harness := (true, "881133d6d16515624d535ab7bd4624a4501de260d312577857deca64af231a78"), looks := false }, kinds := [], alts := [], laidByText := true, laidKinds := [.data, .pinned], laidTests := true, laidLooks := .later }
def MicroActsCardSaid : Prop := Claim7.holds Tryd.pinned (.plain (OpenSpec.ofChange microActsSpec)) microActsCard

/-- THE TIED CARD OF 'gannetlaw29.TimingLists'. -/
def timingListsCard : Claim7 := { stood := { row := timingListsRow, standIns := [], harness := (true, "881133d6d16515624d535ab7bd4624a4501de260d312577857deca64af231a78"), looks := false }, kinds := [], alts := [], laidByText := true, laidKinds := [.data, .pinned], laidTests := true, laidLooks := .later }
def TimingListsCardSaid : Prop := Claim7.holds Tryd.pinned (.plain (OpenSpec.ofChange timingListsSpec)) timingListsCard

/-- THE TIED CARD OF 'gannetlaw29.TimingKinds'. -/
def timingKindsCard : Claim7 := { stood := { row := timingKindsRow, standIns := [], harness := (true, "881133d6d16515624d535ab7bd4624a4501de260d312577857deca64af231a78"), looks := false }, kinds := [], alts := [], laidByText := true, laidKinds := [.data, .pinned], laidTests := true, laidLooks := .later }
def TimingKindsCardSaid : Prop := Claim7.holds Tryd.pinned (.plain (OpenSpec.ofChange timingKindsSpec)) timingKindsCard

/-- THE TIED CARD OF 'gannetlaw29.TimingBounds'. -/
def timingBoundsCard : Claim7 := { stood := { row := timingBoundsRow, standIns := [], harness := (true, "881133d6d16515624d535ab7bd4624a4501de260d312577857deca64af231a78"), looks := false }, kinds := [], alts := [], laidByText := true, laidKinds := [.data, .pinned], laidTests := true, laidLooks := .later }
def TimingBoundsCardSaid : Prop := Claim7.holds Tryd.pinned (.plain (OpenSpec.ofChange timingBoundsSpec)) timingBoundsCard

/-- THE TIED CARD OF 'gannetlaw23.OpcodeTells'. -/
def opcodeTellsCard : Claim7 := { stood := { row := opcodeTellsRow, standIns := [], harness := (true, "881133d6d16515624d535ab7bd4624a4501de260d312577857deca64af231a78"), looks := false }, kinds := [], alts := [], laidByText := true, laidKinds := [.data, .pinned], laidTests := true, laidLooks := .later }
def OpcodeTellsCardSaid : Prop := Claim7.holds Tryd.pinned (.plain (OpenSpec.ofChange opcodeTellsSpec)) opcodeTellsCard

/-- THE TIED CARD OF 'gannetlaw23.OpcodeFinds'. -/
def opcodeFindsCard : Claim7 := { stood := { row := opcodeFindsRow, standIns := [], harness := (true, "881133d6d16515624d535ab7bd4624a4501de260d312577857deca64af231a78"), looks := false }, kinds := [], alts := [], laidByText := true, laidKinds := [.data, .pinned], laidTests := true, laidLooks := .later }
def OpcodeFindsCardSaid : Prop := Claim7.holds Tryd.pinned (.plain (OpenSpec.ofChange opcodeFindsSpec)) opcodeFindsCard

/-- THE TIED CARD OF 'gannetlaw23.OpcodeNames'. -/
def opcodeNamesCard : Claim7 := { stood := { row := opcodeNamesRow, standIns := [], harness := (true, "881133d6d16515624d535ab7bd4624a4501de260d312577857deca64af231a78"), looks := false }, kinds := [], alts := [], laidByText := true, laidKinds := [.data, .pinned], laidTests := true, laidLooks := .later }
def OpcodeNamesCardSaid : Prop := Claim7.holds Tryd.pinned (.plain (OpenSpec.ofChange opcodeNamesSpec)) opcodeNamesCard

/-- THE TIED CARD OF 'gannetlaw23.OpcodeWalks'. -/
def opcodeWalksCard : Claim7 := { stood := { row := opcodeWalksRow, standIns := [], harness := (true, "881133d6d16515624d535ab7bd4624a4501de260d312577857deca64af231a78"), looks := false }, kinds := [], alts := [], laidByText := true, laidKinds := [.data, .pinned], laidTests := true, laidLooks := .later }
def OpcodeWalksCardSaid : Prop := Claim7.holds Tryd.pinned (.plain (OpenSpec.ofChange opcodeWalksSpec)) opcodeWalksCard

/-- THE TIED CARD OF 'gannetlaw23.OpcodeBack'. -/
def opcodeBackCard : Claim7 := { stood := { row := opcodeBackRow, standIns := [], harness := (true, "881133d6d16515624d535ab7bd4624a4501de260d312577857deca64af231a78"), looks := false }, kinds := [], alts := [], laidByText := true, laidKinds := [.data, .pinned], laidTests := true, laidLooks := .later }
def OpcodeBackCardSaid : Prop := Claim7.holds Tryd.pinned (.plain (OpenSpec.ofChange opcodeBackSpec)) opcodeBackCard

/-- THE TIED CARD OF 'gannetlaw30.MicroKinds'. -/
def microKindsCard : Claim7 := { stood := { row := microKindsRow, standIns := [], harness := (true, "881133d6d16515624d535ab7bd4624a4501de260d312577857deca64af231a78"), looks := false }, kinds := [], alts := [], laidByText := true, laidKinds := [.data, .pinned], laidTests := true, laidLooks := .later }
def MicroKindsCardSaid : Prop := Claim7.holds Tryd.pinned (.plain (OpenSpec.ofChange microKindsSpec)) microKindsCard

/-- THE SECOND FORM's CARD OF 'gannetlaw30.MicroPrograms'. -/
def microProgramsUptoCard : Claim7 := { stood := { row := microProgramsUptoRow, standIns := [], harness := (true, "881133d6d16515624d535ab7bd4624a4501de260d312577857deca64af231a78"), looks := false }, kinds := [], alts := [], laidByText := true, laidKinds := [.data, .pinned], laidTests := true, laidLooks := .later }
def MicroProgramsUptoCardSaid : Prop := Claim7.holds Tryd.pinned (.plain (OpenSpec.upto microProgramsSpec)) microProgramsUptoCard

/-- THE SECOND FORM's CARD OF 'gannetlaw30.MicroActs'. -/
def microActsUptoCard : Claim7 := { stood := { row := microActsUptoRow, standIns := [], harness := (true, "881133d6d16515624d535ab7bd4624a4501de260d312577857deca64af231a78"), looks := false }, kinds := [], alts := [], laidByText := true, laidKinds := [.data, .pinned], laidTests := true, laidLooks := .later }
def MicroActsUptoCardSaid : Prop := Claim7.holds Tryd.pinned (.plain (OpenSpec.upto microActsSpec)) microActsUptoCard

/-- THE SECOND FORM's CARD OF 'gannetlaw29.TimingLists'. -/
def timingListsUptoCard : Claim7 := { stood := { row := timingListsUptoRow, standIns := [], harness := (true, "881133d6d16515624d535ab7bd4624a4501de260d312577857deca64af231a78"), looks := false }, kinds := [], alts := [], laidByText := true, laidKinds := [.data, .pinned], laidTests := true, laidLooks := .later }
def TimingListsUptoCardSaid : Prop := Claim7.holds Tryd.pinned (.plain (OpenSpec.upto timingListsSpec)) timingListsUptoCard

/-- THE SECOND FORM's CARD OF 'gannetlaw29.TimingKinds'. -/
def timingKindsUptoCard : Claim7 := { stood := { row := timingKindsUptoRow, standIns := [], harness := (true, "881133d6d16515624d535ab7bd4624a4501de260d312577857deca64af231a78"), looks := false }, kinds := [], alts := [], laidByText := true, laidKinds := [.data, .pinned], laidTests := true, laidLooks := .later }
def TimingKindsUptoCardSaid : Prop := Claim7.holds Tryd.pinned (.plain (OpenSpec.upto timingKindsSpec)) timingKindsUptoCard

/-- THE SECOND FORM's CARD OF 'gannetlaw29.TimingBounds'. -/
def timingBoundsUptoCard : Claim7 := { stood := { row := timingBoundsUptoRow, standIns := [], harness := (true, "881133d6d16515624d535ab7bd4624a4501de260d312577857deca64af231a78"), looks := false }, kinds := [], alts := [], laidByText := true, laidKinds := [.data, .pinned], laidTests := true, laidLooks := .later }
def TimingBoundsUptoCardSaid : Prop := Claim7.holds Tryd.pinned (.plain (OpenSpec.upto timingBoundsSpec)) timingBoundsUptoCard

/-- THE SECOND FORM's CARD OF 'gannetlaw23.OpcodeTells'. -/
def opcodeTellsUptoCard : Claim7 := { stood := { row := opcodeTellsUptoRow, standIns := [], harness := (true, "881133d6d16515624d535ab7bd4624a4501de260d312577857deca64af231a78"), looks := false }, kinds := [], alts := [], laidByText := true, laidKinds := [.data, .pinned], laidTests := true, laidLooks := .later }
def OpcodeTellsUptoCardSaid : Prop := Claim7.holds Tryd.pinned (.plain (OpenSpec.upto opcodeTellsSpec)) opcodeTellsUptoCard

/-- THE SECOND FORM's CARD OF 'gannetlaw23.OpcodeFinds'. -/
def opcodeFindsUptoCard : Claim7 := { stood := { row := opcodeFindsUptoRow, standIns := [], harness := (true, "881133d6d16515624d535ab7bd4624a4501de260d312577857deca64af231a78"), looks := false }, kinds := [], alts := [], laidByText := true, laidKinds := [.data, .pinned], laidTests := true, laidLooks := .later }
def OpcodeFindsUptoCardSaid : Prop := Claim7.holds Tryd.pinned (.plain (OpenSpec.upto opcodeFindsSpec)) opcodeFindsUptoCard

/-- THE SECOND FORM's CARD OF 'gannetlaw23.OpcodeNames'. -/
def opcodeNamesUptoCard : Claim7 := { stood := { row := opcodeNamesUptoRow, standIns := [], harness := (true, "881133d6d16515624d535ab7bd4624a4501de260d312577857deca64af231a78"), looks := false }, kinds := [], alts := [], laidByText := true, laidKinds := [.data, .pinned], laidTests := true, laidLooks := .later }
def OpcodeNamesUptoCardSaid : Prop := Claim7.holds Tryd.pinned (.plain (OpenSpec.upto opcodeNamesSpec)) opcodeNamesUptoCard

/-- THE SECOND FORM's CARD OF 'gannetlaw23.OpcodeWalks'. -/
def opcodeWalksUptoCard : Claim7 := { stood := { row := opcodeWalksUptoRow, standIns := [], harness := (true, "881133d6d16515624d535ab7bd4624a4501de260d312577857deca64af231a78"), looks := false }, kinds := [], alts := [], laidByText := true, laidKinds := [.data, .pinned], laidTests := true, laidLooks := .later }
def OpcodeWalksUptoCardSaid : Prop := Claim7.holds Tryd.pinned (.plain (OpenSpec.upto opcodeWalksSpec)) opcodeWalksUptoCard

/-- THE SECOND FORM's CARD OF 'gannetlaw23.OpcodeBack'. -/
def opcodeBackUptoCard : Claim7 := { stood := { row := opcodeBackUptoRow, standIns := [], harness := (true, "881133d6d16515624d535ab7bd4624a4501de260d312577857deca64af231a78"), looks := false }, kinds := [], alts := [], laidByText := true, laidKinds := [.data, .pinned], laidTests := true, laidLooks := .later }
def OpcodeBackUptoCardSaid : Prop := Claim7.holds Tryd.pinned (.plain (OpenSpec.upto opcodeBackSpec)) opcodeBackUptoCard

/-- THE SECOND FORM's CARD OF 'gannetlaw30.MicroKinds'. -/
def microKindsUptoCard : Claim7 := { stood := { row := microKindsUptoRow, standIns := [], harness := (true, "881133d6d16515624d535ab7bd4624a4501de260d312577857deca64af231a78"), looks := false }, kinds := [], alts := [], laidByText := true, laidKinds := [.data, .pinned], laidTests := true, laidLooks := .later }
def MicroKindsUptoCardSaid : Prop := Claim7.holds Tryd.pinned (.plain (OpenSpec.upto microKindsSpec)) microKindsUptoCard
end Rows
end Go.Proofs.YtfohjnfdgegfcaaDoor
