/-
  DERIVED. GIVEN WITH THE SEED: THE CARDS: each row of YtmjapmghihalpaaDoorRows.lean that lists a variable, with what it lists TIED to the program's text (the seventh form; the later family's looks); each row that meets fmt, with fmt's text TOLD by the authors' own Lean function (tested against real Go, not proved from fmt's source: count such statements apart). THE CARD IS WHAT COUNTS. Prove the row's statement (the work); the ties are given (YtmjapmghihalpaaDoorTie.lean); close each card by the builder's one call (the guide's Derived/Test/ToyasCard.lean, 'card_holds'). Laid BY PROGRAM, IN A SANDBOX (cutbox-door.mjs). By AI agents, Wed Nov 11 2026. No macro, syntax, notation, axiom, sorry.
-/
import Derived.Test.YtmjapmghihalpaaDoorRows
import GoSem.ClaimSeven
namespace Go.Proofs.YtmjapmghihalpaaDoor
namespace Rows

/-- THE TIED CARD OF 'gannetlaw24.ModesFind'. -/
def modesFindCard : Claim7 := { stood := { row := modesFindRow, standIns := [], harness := (true, "8a5c53c4a5217193198eb8e986475ba8bcada07e12e3a1b6156e89a540b5fd1a"), looks := false }, kinds := [], alts := [], laidByText := true, laidKinds := [.data, .pinned], laidTests := true, laidLooks := .later }
def ModesFindCardSaid : Prop := Claim7.holds Tryd.pinned (.plain (OpenSpec.ofChange modesFindSpec)) modesFindCard

/-- THE TIED CARD OF 'gannetlaw24.ModesReach'. -/
def modesReachCard : Claim7 := { stood := { row := modesReachRow, standIns := [], harness := (true, "8a5c53c4a5217193198eb8e986475ba8bcada07e12e3a1b6156e89a540b5fd1a"), looks := false }, kinds := [], alts := [], laidByText := true, laidKinds := [.data, .pinned], laidTests := true, laidLooks := .later }
def ModesReachCardSaid : Prop := Claim7.holds Tryd.pinned (.plain (OpenSpec.ofChange modesReachSpec)) modesReachCard

/-- THE TIED CARD OF 'gannetlaw24.ModesText'. -/
def modesTextCard : Claim7 := { stood := { row := modesTextRow, standIns := [], harness := (true, "8a5c53c4a5217193198eb8e986475ba8bcada07e12e3a1b6156e89a540b5fd1a"), looks := false }, kinds := [], alts := [], laidByText := true, laidKinds := [.data, .pinned], laidTests := true, laidLooks := .later }
def ModesTextCardSaid : Prop := Claim7.holds Tryd.pinned (.plain (OpenSpec.ofChange modesTextSpec)) modesTextCard

/-- THE SECOND FORM's CARD OF 'gannetlaw24.ModesFind'. -/
def modesFindUptoCard : Claim7 := { stood := { row := modesFindUptoRow, standIns := [], harness := (true, "8a5c53c4a5217193198eb8e986475ba8bcada07e12e3a1b6156e89a540b5fd1a"), looks := false }, kinds := [], alts := [], laidByText := true, laidKinds := [.data, .pinned], laidTests := true, laidLooks := .later }
def ModesFindUptoCardSaid : Prop := Claim7.holds Tryd.pinned (.plain (OpenSpec.upto modesFindSpec)) modesFindUptoCard

/-- THE SECOND FORM's CARD OF 'gannetlaw24.ModesReach'. -/
def modesReachUptoCard : Claim7 := { stood := { row := modesReachUptoRow, standIns := [], harness := (true, "8a5c53c4a5217193198eb8e986475ba8bcada07e12e3a1b6156e89a540b5fd1a"), looks := false }, kinds := [], alts := [], laidByText := true, laidKinds := [.data, .pinned], laidTests := true, laidLooks := .later }
def ModesReachUptoCardSaid : Prop := Claim7.holds Tryd.pinned (.plain (OpenSpec.upto modesReachSpec)) modesReachUptoCard

/-- THE SECOND FORM's CARD OF 'gannetlaw24.ModesText'. -/
def modesTextUptoCard : Claim7 := { stood := { row := modesTextUptoRow, standIns := [], harness := (true, "8a5c53c4a5217193198eb8e986475ba8bcada07e12e3a1b6156e89a540b5fd1a"), looks := false }, kinds := [], alts := [], laidByText := true, laidKinds := [.data, .pinned], laidTests := true, laidLooks := .later }
def ModesTextUptoCardSaid : Prop := Claim7.holds Tryd.pinned (.plain (OpenSpec.upto modesTextSpec)) modesTextUptoCard
end Rows
end Go.Proofs.YtmjapmghihalpaaDoor
