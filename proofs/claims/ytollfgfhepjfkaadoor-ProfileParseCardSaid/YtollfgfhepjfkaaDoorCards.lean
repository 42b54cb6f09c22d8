/-
  DERIVED. GIVEN WITH THE SEED: THE CARDS: each row of YtollfgfhepjfkaaDoorRows.lean that lists a variable, with what it lists TIED to the program's text (the seventh form; the later family's looks); each row that meets fmt, with fmt's text TOLD by the authors' own Lean function (tested against real Go, not proved from fmt's source: count such statements apart). THE CARD IS WHAT COUNTS. Prove the row's statement (the work); the ties are given (YtollfgfhepjfkaaDoorTie.lean); close each card by the builder's one call (the guide's Derived/Test/ToyasCard.lean, 'card_holds'). Laid BY PROGRAM, IN A SANDBOX (cutbox-door.mjs). By AI agents, Wed Nov 11 2026. No macro, syntax, notation, axiom, sorry.
-/
import Derived.Test.YtollfgfhepjfkaaDoorRows
import GoSem.ClaimSeven
namespace Go.Proofs.YtollfgfhepjfkaaDoor
namespace Rows

/-- THE TIED CARD OF 'modscanlaw31.ProfileParse'. -/
def profileParseCard : Claim7 := { stood := { row := profileParseRow, standIns := [], harness := (true, "79e1aea20ba18bd0f61ffd4574dcf051bc74d5d203402eb87551f47cea7d3d9b"), looks := false }, kinds := [], alts := [], laidByText := true, laidKinds := [.data, .data, .data], laidTests := true, laidLooks := .later }
def ProfileParseCardSaid : Prop := Claim7.holds Tryd.pinned (.plain (OpenSpec.ofChange profileParseSpec)) profileParseCard

/-- THE TIED CARD OF 'modscanlaw31.ProfileRound'. -/
def profileRoundCard : Claim7 := { stood := { row := profileRoundRow, standIns := [], harness := (true, "79e1aea20ba18bd0f61ffd4574dcf051bc74d5d203402eb87551f47cea7d3d9b"), looks := false }, kinds := [], alts := [], laidByText := true, laidKinds := [.data, .data, .data], laidTests := true, laidLooks := .later }
def ProfileRoundCardSaid : Prop := Claim7.holds Tryd.pinned (.plain (OpenSpec.ofChange profileRoundSpec)) profileRoundCard

/-- THE SECOND FORM's CARD OF 'modscanlaw31.ProfileParse'. -/
def profileParseUptoCard : Claim7 := { stood := { row := profileParseUptoRow, standIns := [], harness := (true, "79e1aea20ba18bd0f61ffd4574dcf051bc74d5d203402eb87551f47cea7d3d9b"), looks := false }, kinds := [], alts := [], laidByText := true, laidKinds := [.data, .data, .data], laidTests := true, laidLooks := .later }
def ProfileParseUptoCardSaid : Prop := Claim7.holds Tryd.pinned (.plain (OpenSpec.upto profileParseSpec)) profileParseUptoCard

/-- THE SECOND FORM's CARD OF 'modscanlaw31.ProfileRound'. -/
def profileRoundUptoCard : Claim7 := { stood := { row := profileRoundUptoRow, standIns := [], harness := (true, "79e1aea20ba18bd0f61ffd4574dcf051bc74d5d203402eb87551f47cea7d3d9b"), looks := false }, kinds := [], alts := [], laidByText := true, laidKinds := [.data, .data, .data], laidTests := true, laidLooks := .later }
def ProfileRoundUptoCardSaid : Prop := Claim7.holds Tryd.pinned (.plain (OpenSpec.upto profileRoundSpec)) profileRoundUptoCard
end Rows
end Go.Proofs.YtollfgfhepjfkaaDoor
