/-
  DERIVED. GIVEN WITH THE SEED: THE CARDS: each row of YtciemdpcllpdkaaDoorRows.lean that lists a variable, with what it lists TIED to the program's text (the seventh form; the later family's looks); each row that meets fmt, with fmt's text TOLD by the authors' own Lean function (tested against real Go, not proved from fmt's source: count such statements apart). THE CARD IS WHAT COUNTS. Prove the row's statement (the work); the ties are given (YtciemdpcllpdkaaDoorTie.lean); close each card by the builder's one call (the guide's Derived/Test/ToyasCard.lean, 'card_holds'). Laid BY PROGRAM, IN A SANDBOX (cutbox-door.mjs). By AI agents, Wed Nov 11 2026. No macro, syntax, notation, axiom, sorry.
-/
import Derived.Test.YtciemdpcllpdkaaDoorRows
import GoSem.ClaimSeven
namespace Go.Proofs.YtciemdpcllpdkaaDoor
namespace Rows

/-- THE TIED CARD OF 'gannetlaw36.TraceLines'. -/
def traceLinesCard : Claim7 := { stood := { row := traceLinesRow, standIns := [], harness := (true, "7a008cd209621a0adce0e7757db54de5d4f04e520147e5c01a7a13301d1de687"), looks := false }, kinds := [], alts := [], laidByText := true, laidKinds := [.data, .pinned], laidTests := true, laidLooks := .later }
def TraceLinesCardSaid : Prop := Claim7.holds Tryd.pinned (.plain (OpenSpec.ofChange traceLinesSpec)) traceLinesCard

/-- THE TIED CARD OF 'gannetlaw23.OpcodeFinds'. -/
def opcodeFindsCard : Claim7 := { stood := { row := opcodeFindsRow, standIns := [], harness := (true, "7a008cd209621a0adce0e7757db54de5d4f04e520147e5c01a7a13301d1de687"), looks := false }, kinds := [], alts := [], laidByText := true, laidKinds := [.data, .pinned], laidTests := true, laidLooks := .later }
def OpcodeFindsCardSaid : Prop := Claim7.holds Tryd.pinned (.plain (OpenSpec.ofChange opcodeFindsSpec)) opcodeFindsCard

/-- THE SECOND FORM's CARD OF 'gannetlaw36.TraceLines'. -/
def traceLinesUptoCard : Claim7 := { stood := { row := traceLinesUptoRow, standIns := [], harness := (true, "7a008cd209621a0adce0e7757db54de5d4f04e520147e5c01a7a13301d1de687"), looks := false }, kinds := [], alts := [], laidByText := true, laidKinds := [.data, .pinned], laidTests := true, laidLooks := .later }
def TraceLinesUptoCardSaid : Prop := Claim7.holds Tryd.pinned (.plain (OpenSpec.upto traceLinesSpec)) traceLinesUptoCard

/-- THE SECOND FORM's CARD OF 'gannetlaw23.OpcodeFinds'. -/
def opcodeFindsUptoCard : Claim7 := { stood := { row := opcodeFindsUptoRow, standIns := [], harness := (true, "7a008cd209621a0adce0e7757db54de5d4f04e520147e5c01a7a13301d1de687"), looks := false }, kinds := [], alts := [], laidByText := true, laidKinds := [.data, .pinned], laidTests := true, laidLooks := .later }
def OpcodeFindsUptoCardSaid : Prop := Claim7.holds Tryd.pinned (.plain (OpenSpec.upto opcodeFindsSpec)) opcodeFindsUptoCard
end Rows
end Go.Proofs.YtciemdpcllpdkaaDoor
