/-
  DERIVED. GIVEN WITH THE SEED: THE CARDS: each row of YtjcpcnoakphecaaDoorRows.lean that lists a variable, with what it lists TIED to the program's text (the seventh form; the later family's looks); each row that meets fmt, with fmt's text TOLD by the authors' own Lean function (tested against real Go, not proved from fmt's source: count such statements apart). THE CARD IS WHAT COUNTS. Prove the row's statement (the work); the ties are given (YtjcpcnoakphecaaDoorTie.lean); close each card by the builder's one call (the guide's Derived/Test/ToyasCard.lean, 'card_holds'). Laid BY PROGRAM, IN A SANDBOX (cutbox-door.mjs). By AI agents, Wed Nov 11 2026. No macro, syntax, notation, axiom, sorry.
-/
import Derived.Test.YtjcpcnoakphecaaDoorRows
import GoSem.ClaimSeven
namespace Go.Proofs.YtjcpcnoakphecaaDoor
namespace Rows

/-- THE TIED CARD OF 'gannetlaw36.TraceLines'. -/
def traceLinesCard : Claim7 := { stood := { row := traceLinesRow, standIns := [], harness := (true, "66250c5cb7edaa95260dea6d9912e001b94eabe5d011c1a062c2fe32f5e3d6f5"), looks := false }, kinds := [], alts := [], laidByText := true, laidKinds := [.data, .pinned], laidTests := true, laidLooks := .later }
def TraceLinesCardSaid : Prop := Claim7.holds Tryd.pinned (.plain (OpenSpec.ofChange traceLinesSpec)) traceLinesCard

/-- THE TIED CARD OF 'gannetlaw36.TracePacks'. -/
def tracePacksCard : Claim7 := { stood := { row := tracePacksRow, standIns := [], harness := (true, "66250c5cb7edaa95260dea6d9912e001b94eabe5d011c1a062c2fe32f5e3d6f5"), looks := false }, kinds := [], alts := [], laidByText := true, laidKinds := [.data, .pinned], laidTests := true, laidLooks := .later }
def TracePacksCardSaid : Prop := Claim7.holds Tryd.pinned (.plain (OpenSpec.ofChange tracePacksSpec)) tracePacksCard

/-- THE TIED CARD OF 'gannetlaw36.TraceUnpacks'. -/
def traceUnpacksCard : Claim7 := { stood := { row := traceUnpacksRow, standIns := [], harness := (true, "66250c5cb7edaa95260dea6d9912e001b94eabe5d011c1a062c2fe32f5e3d6f5"), looks := false }, kinds := [], alts := [], laidByText := true, laidKinds := [.data, .pinned], laidTests := true, laidLooks := .later }
def TraceUnpacksCardSaid : Prop := Claim7.holds Tryd.pinned (.plain (OpenSpec.ofChange traceUnpacksSpec)) traceUnpacksCard

/-- THE TIED CARD OF 'gannetlaw36.TraceCounts'. -/
def traceCountsCard : Claim7 := { stood := { row := traceCountsRow, standIns := [], harness := (true, "66250c5cb7edaa95260dea6d9912e001b94eabe5d011c1a062c2fe32f5e3d6f5"), looks := false }, kinds := [], alts := [], laidByText := true, laidKinds := [.data, .pinned], laidTests := true, laidLooks := .later }
def TraceCountsCardSaid : Prop := Claim7.holds Tryd.pinned (.plain (OpenSpec.ofChange traceCountsSpec)) traceCountsCard

/-- THE TIED CARD OF 'gannetlaw24.ModesText'. -/
def modesTextCard : Claim7 := { stood := { row := modesTextRow, standIns := [], harness := (true, "66250c5cb7edaa95260dea6d9912e001b94eabe5d011c1a062c2fe32f5e3d6f5"), looks := false }, kinds := [], alts := [], laidByText := true, laidKinds := [.data, .pinned], laidTests := true, laidLooks := .later }
def ModesTextCardSaid : Prop := Claim7.holds Tryd.pinned (.plain (OpenSpec.ofChange modesTextSpec)) modesTextCard

/-- THE TIED CARD OF 'gannetlaw29.TimingKinds'. -/
def timingKindsCard : Claim7 := { stood := { row := timingKindsRow, standIns := [], harness := (true, "66250c5cb7edaa95260dea6d9912e001b94eabe5d011c1a062c2fe32f5e3d6f5"), looks := false }, kinds := [], alts := [], laidByText := true, laidKinds := [.data, .pinned], laidTests := true, laidLooks := .later }
def TimingKindsCardSaid : Prop := Claim7.holds Tryd.pinned (.plain (OpenSpec.ofChange timingKindsSpec)) timingKindsCard

/-- THE TIED CARD OF 'gannetlaw29.TimingBounds'. -/
def timingBoundsCard : Claim7 := { stood := { row := timingBoundsRow, standIns := [], harness := (true, "66250c5cb7edaa95260dea6d9912e001b94eabe5d011c1a062c2fe32f5e3d6f5"), looks := false }, kinds := [], alts := [], laidByText := true, laidKinds := [.data, .pinned], laidTests := true, laidLooks := .later }
def TimingBoundsCardSaid : Prop := Claim7.holds Tryd.pinned (.plain (OpenSpec.ofChange timingBoundsSpec)) timingBoundsCard

/-- THE TIED CARD OF 'gannetlaw23.OpcodeFinds'. -/
def opcodeFindsCard : Claim7 := { stood := { row := opcodeFindsRow, standIns := [], harness := (true, "66250c5cb7edaa95260dea6d9912e001b94eabe5d011c1a062c2fe32f5e3d6f5"), looks := false }, kinds := [], alts := [], laidByText := true, laidKinds := [.data, .pinned], laidTests := true, laidLooks := .later }
def OpcodeFindsCardSaid : Prop := Claim7.holds Tryd.pinned (.plain (OpenSpec.ofChange opcodeFindsSpec)) opcodeFindsCard

/-- THE TIED CARD OF 'gannetlaw23.OpcodeNames'. -/
def opcodeNamesCard : Claim7 := { stood := { row := opcodeNamesRow, standIns := [], harness := (true, "66250c5cb7edaa95260dea6d9912e001b94eabe5d011c1a062c2fe32f5e3d6f5"), looks := false }, kinds := [], alts := [], laidByText := true, laidKinds := [.data, .pinned], laidTests := true, laidLooks := .later }
def OpcodeNamesCardSaid : Prop := Claim7.holds Tryd.pinned (.plain (OpenSpec.ofChange opcodeNamesSpec)) opcodeNamesCard

/-- THE TIED CARD OF 'gannetlaw23.OpcodeWalks'. -/
def opcodeWalksCard : Claim7 := { stood := { row := opcodeWalksRow, standIns := [], harness := (true, "66250c5cb7edaa95260dea6d9912e001b94eabe5d011c1a062c2fe32f5e3d6f5"), looks := false }, kinds := [], alts := [], laidByText := true, laidKinds := [.data, .pinned], laidTests := true, laidLooks := .later }
def OpcodeWalksCardSaid : Prop := Claim7.holds Tryd.pinned (.plain (OpenSpec.ofChange opcodeWalksSpec)) opcodeWalksCard

/-- THE TIED CARD OF 'gannetlaw30.MicroKinds'. -/
def microKindsCard : Claim7 := { stood := { row := microKindsRow, standIns := [], harness := (true, "66250c5cb7edaa95260dea6d9912e001b94eabe5d011c1a062c2fe32f5e3d6f5"), looks := false }, kinds := [], alts := [], laidByText := true, laidKinds := [.data, .pinned], laidTests := true, laidLooks := .later }
def MicroKindsCardSaid : Prop := Claim7.holds Tryd.pinned (.plain (OpenSpec.ofChange microKindsSpec)) microKindsCard

/-- THE SECOND FORM's CARD OF 'gannetlaw36.TraceLines'. -/
def traceLinesUptoCard : Claim7 := { stood := { row := traceLinesUptoRow, standIns := [], harness := (true, "66250c5cb7edaa95260dea6d9912e001b94eabe5d011c1a062c2fe32f5e3d6f5"), looks := false }, kinds := [], alts := [], laidByText := true, laidKinds := [.data, .pinned], laidTests := true, laidLooks := .later }
def TraceLinesUptoCardSaid : Prop := Claim7.holds Tryd.pinned (.plain (OpenSpec.upto traceLinesSpec)) traceLinesUptoCard

/-- THE SECOND FORM's CARD OF 'gannetlaw36.TracePacks'. -/
def tracePacksUptoCard : Claim7 := { stood := { row := tracePacksUptoRow, standIns := [], harness := (true, "66250c5cb7edaa95260dea6d9912e001b94eabe5d011c1a062c2fe32f5e3d6f5"), looks := false }, kinds := [], alts := [], laidByText := true, laidKinds := [.data, .pinned], laidTests := true, laidLooks := .later }
def TracePacksUptoCardSaid : Prop := Claim7.holds Tryd.pinned (.plain (OpenSpec.upto tracePacksSpec)) tracePacksUptoCard

/-- THE SECOND FORM's CARD OF 'gannetlaw36.TraceUnpacks'. -/
def traceUnpacksUptoCard : Claim7 := { stood := { row := traceUnpacksUptoRow, standIns := [], harness := (true, "66250c5cb7edaa95260dea6d9912e001b94eabe5d011c1a062c2fe32f5e3d6f5"), looks := false }, kinds := [], alts := [], laidByText := true, laidKinds := [.data, .pinned], laidTests := true, laidLooks := .later }
def TraceUnpacksUptoCardSaid : Prop := Claim7.holds Tryd.pinned (.plain (OpenSpec.upto traceUnpacksSpec)) traceUnpacksUptoCard

/-- THE SECOND FORM's CARD OF 'gannetlaw36.TraceCounts'. -/
def traceCountsUptoCard : Claim7 := { stood := { row := traceCountsUptoRow, standIns := [], harness := (true, "66250c5cb7edaa95260dea6d9912e001b94eabe5d011c1a062c2fe32f5e3d6f5"), looks := false }, kinds := [], alts := [], laidByText := true, laidKinds := [.data, .pinned], laidTests := true, laidLooks := .later }
def TraceCountsUptoCardSaid : Prop := Claim7.holds Tryd.pinned (.plain (OpenSpec.upto traceCountsSpec)) traceCountsUptoCard

/-- THE SECOND FORM's CARD OF 'gannetlaw24.ModesText'. -/
def modesTextUptoCard : Claim7 := { stood := { row := modesTextUptoRow, standIns := [], harness := (true, "66250c5cb7edaa95260dea6d9912e001b94eabe5d011c1a062c2fe32f5e3d6f5"), looks := false }, kinds := [], alts := [], laidByText := true, laidKinds := [.data, .pinned], laidTests := true, laidLooks := .later }
def ModesTextUptoCardSaid : Prop := Claim7.holds Tryd.pinned (.plain (OpenSpec.upto modesTextSpec)) modesTextUptoCard

/-- THE SECOND FORM's CARD OF 'gannetlaw29.TimingKinds'. -/
def timingKindsUptoCard : Claim7 := { stood := { row := timingKindsUptoRow, standIns := [], harness := (true, "66250c5cb7edaa95260dea6d9912e001b94eabe5d011c1a062c2fe32f5e3d6f5"), looks := false }, kinds := [], alts := [], laidByText := true, laidKinds := [.data, .pinned], laidTests := true, laidLooks := .later }
def TimingKindsUptoCardSaid : Prop := Claim7.holds Tryd.pinned (.plain (OpenSpec.upto timingKindsSpec)) timingKindsUptoCard

/-- THE SECOND FORM's CARD OF 'gannetlaw29.TimingBounds'. -/
def timingBoundsUptoCard : Claim7 := { stood := { row := timingBoundsUptoRow, standIns := [], harness := (true, "66250c5cb7edaa95260dea6d9912e001b94eabe5d011c1a062c2fe32f5e3d6f5"), looks := false }, kinds := [], alts := [], laidByText := true, laidKinds := [.data, .pinned], laidTests := true, laidLooks := .later }
def TimingBoundsUptoCardSaid : Prop := Claim7.holds Tryd.pinned (.plain (OpenSpec.upto timingBoundsSpec)) timingBoundsUptoCard

/-- THE SECOND FORM's CARD OF 'gannetlaw23.OpcodeFinds'. -/
def opcodeFindsUptoCard : Claim7 := { stood := { row := opcodeFindsUptoRow, standIns := [], harness := (true, "66250c5cb7edaa95260dea6d9912e001b94eabe5d011c1a062c2fe32f5e3d6f5"), looks := false }, kinds := [], alts := [], laidByText := true, laidKinds := [.data, .pinned], laidTests := true, laidLooks := .later }
def OpcodeFindsUptoCardSaid : Prop := Claim7.holds Tryd.pinned (.plain (OpenSpec.upto opcodeFindsSpec)) opcodeFindsUptoCard

/-- THE SECOND FORM's CARD OF 'gannetlaw23.OpcodeNames'. -/
def opcodeNamesUptoCard : Claim7 := { stood := { row := opcodeNamesUptoRow, standIns := [], harness := (true, "66250c5cb7edaa95260dea6d9912e001b94eabe5d011c1a062c2fe32f5e3d6f5"), looks := false }, kinds := [], alts := [], laidByText := true, laidKinds := [.data, .pinned], laidTests := true, laidLooks := .later }
def OpcodeNamesUptoCardSaid : Prop := Claim7.holds Tryd.pinned (.plain (OpenSpec.upto opcodeNamesSpec)) opcodeNamesUptoCard

/-- THE SECOND FORM's CARD OF 'gannetlaw23.OpcodeWalks'. -/
def opcodeWalksUptoCard : Claim7 := { stood := { row := opcodeWalksUptoRow, standIns := [], harness := (true, "66250c5cb7edaa95260dea6d9912e001b94eabe5d011c1a062c2fe32f5e3d6f5"), looks := false }, kinds := [], alts := [], laidByText := true, laidKinds := [.data, .pinned], laidTests := true, laidLooks := .later }
def OpcodeWalksUptoCardSaid : Prop := Claim7.holds Tryd.pinned (.plain (OpenSpec.upto opcodeWalksSpec)) opcodeWalksUptoCard

/-- THE SECOND FORM's CARD OF 'gannetlaw30.MicroKinds'. -/
def microKindsUptoCard : Claim7 := { stood := { row := microKindsUptoRow, standIns := [], harness := (true, "66250c5cb7edaa95260dea6d9912e001b94eabe5d011c1a062c2fe32f5e3d6f5"), looks := false }, kinds := [], alts := [], laidByText := true, laidKinds := [.data, .pinned], laidTests := true, laidLooks := .later }
def MicroKindsUptoCardSaid : Prop := Claim7.holds Tryd.pinned (.plain (OpenSpec.upto microKindsSpec)) microKindsUptoCard
end Rows
end Go.Proofs.YtjcpcnoakphecaaDoor
