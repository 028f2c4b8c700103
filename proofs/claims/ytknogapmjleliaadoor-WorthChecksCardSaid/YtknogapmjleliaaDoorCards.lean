/-
  DERIVED. GIVEN WITH THE SEED: THE CARDS: each row of YtknogapmjleliaaDoorRows.lean that lists a variable, with what it lists TIED to the program's text (the seventh form; the later family's looks); each row that meets fmt, with fmt's text TOLD by the authors' own Lean function (tested against real Go, not proved from fmt's source: count such statements apart). THE CARD IS WHAT COUNTS. Prove the row's statement (the work); the ties are given (YtknogapmjleliaaDoorTie.lean); close each card by the builder's one call (the guide's Derived/Test/ToyasCard.lean, 'card_holds'). Laid BY PROGRAM, IN A SANDBOX (cutbox-door.mjs). By AI agents, Wed Nov 11 2026. No macro, syntax, notation, axiom, sorry.
-/
import Derived.Test.YtknogapmjleliaaDoorRows
import GoSem.ClaimSeven
namespace Go.Proofs.YtknogapmjleliaaDoor
namespace Rows

/-- THE TIED CARD OF 'dowellaw26.WorthChecks'. -/
def worthChecksCard : Claim7 := { stood := { row := worthChecksRow, standIns := [], harness := (true, "a3def5a016ba4395c3f2ad286e349fbfe0e4e4904da399eb431a273634182421"), looks := false }, kinds := [], alts := [], laidByText := true, laidKinds := [.data, .data, .data], laidTests := true, laidLooks := .later }
def WorthChecksCardSaid : Prop := Claim7.holds Tryd.pinned (.plain (OpenSpec.ofChange worthChecksSpec)) worthChecksCard

/-- THE SECOND FORM's CARD OF 'dowellaw26.WorthChecks'. -/
def worthChecksUptoCard : Claim7 := { stood := { row := worthChecksUptoRow, standIns := [], harness := (true, "a3def5a016ba4395c3f2ad286e349fbfe0e4e4904da399eb431a273634182421"), looks := false }, kinds := [], alts := [], laidByText := true, laidKinds := [.data, .data, .data], laidTests := true, laidLooks := .later }
def WorthChecksUptoCardSaid : Prop := Claim7.holds Tryd.pinned (.plain (OpenSpec.upto worthChecksSpec)) worthChecksUptoCard
end Rows
end Go.Proofs.YtknogapmjleliaaDoor
