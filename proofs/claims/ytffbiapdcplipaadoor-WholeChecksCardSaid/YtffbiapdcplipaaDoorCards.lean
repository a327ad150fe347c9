/-
  DERIVED. GIVEN WITH THE SEED: THE CARDS: each row of YtffbiapdcplipaaDoorRows.lean that lists a variable, with what it lists TIED to the program's text (the seventh form; the later family's looks); each row that meets fmt, with fmt's text TOLD by the authors' own Lean function (tested against real Go, not proved from fmt's source: count such statements apart). THE CARD IS WHAT COUNTS. Prove the row's statement (the work); the ties are given (YtffbiapdcplipaaDoorTie.lean); close each card by the builder's one call (the guide's Derived/Test/ToyasCard.lean, 'card_holds'). Laid BY PROGRAM, IN A SANDBOX (cutbox-door.mjs). By AI agents, Wed Nov 11 2026. No macro, syntax, notation, axiom, sorry.
-/
import Derived.Test.YtffbiapdcplipaaDoorRows
import GoSem.ClaimSeven
namespace Go.Proofs.YtffbiapdcplipaaDoor
namespace Rows

/-- THE TIED CARD OF 'quaysidetop.WholeChecks'. -/
def wholeChecksCard : Claim7 := { stood := { row := wholeChecksRow, standIns := [], harness := (true, "c96aa692950313c08c43d63040d8b07f541463b4777dbff9aef9a405468b3305"), looks := false }, kinds := [], alts := [], laidByText := true, laidKinds := [.data, .pinned], laidTests := true, laidLooks := .later }
def WholeChecksCardSaid : Prop := Claim7.holds Tryd.pinned (.plain (OpenSpec.ofChange wholeChecksSpec)) wholeChecksCard

/-- THE SECOND FORM's CARD OF 'quaysidetop.WholeChecks'. -/
def wholeChecksUptoCard : Claim7 := { stood := { row := wholeChecksUptoRow, standIns := [], harness := (true, "c96aa692950313c08c43d63040d8b07f541463b4777dbff9aef9a405468b3305"), looks := false }, kinds := [], alts := [], laidByText := true, laidKinds := [.data, .pinned], laidTests := true, laidLooks := .later }
def WholeChecksUptoCardSaid : Prop := Claim7.holds Tryd.pinned (.plain (OpenSpec.upto wholeChecksSpec)) wholeChecksUptoCard
end Rows
end Go.Proofs.YtffbiapdcplipaaDoor
