/-
  DERIVED. GIVEN WITH THE SEED: THE CARDS: each row of YtblpnlobicjccaaDoorRows.lean that lists a variable, with what it lists TIED to the program's text (the seventh form; the later family's looks); each row that meets fmt, with fmt's text TOLD by the authors' own Lean function (tested against real Go, not proved from fmt's source: count such statements apart). THE CARD IS WHAT COUNTS. Prove the row's statement (the work); the ties are given (YtblpnlobicjccaaDoorTie.lean); close each card by the builder's one call (the guide's Derived/Test/ToyasCard.lean, 'card_holds'). Laid BY PROGRAM, IN A SANDBOX (cutbox-door.mjs). By AI agents, Wed Nov 11 2026. No macro, syntax, notation, axiom, sorry.
-/
import Derived.Test.YtblpnlobicjccaaDoorRows
import GoSem.ClaimSeven
namespace Go.Proofs.YtblpnlobicjccaaDoor
namespace Rows

/-- THE TIED CARD OF 'sealchainlaw07.PadKnown'. -/
def padKnownCard : Claim7 := { stood := { row := padKnownRow, standIns := [], harness := (true, "10ab83fb382f4adc87fe3406c320b505c983ee2ec9f3fad7f05c1083e3ab0dc0"), looks := false }, kinds := [], alts := [], laidByText := true, laidKinds := [.widerDeep], laidTests := true, laidLooks := .later }
def PadKnownCardSaid : Prop := Claim7.holds Tryd.pinned (.plain (OpenSpec.ofChange padKnownSpec)) padKnownCard

/-- THE SECOND FORM's CARD OF 'sealchainlaw07.PadKnown'. -/
def padKnownUptoCard : Claim7 := { stood := { row := padKnownUptoRow, standIns := [], harness := (true, "10ab83fb382f4adc87fe3406c320b505c983ee2ec9f3fad7f05c1083e3ab0dc0"), looks := false }, kinds := [], alts := [], laidByText := true, laidKinds := [.widerDeep], laidTests := true, laidLooks := .later }
def PadKnownUptoCardSaid : Prop := Claim7.holds Tryd.pinned (.plain (OpenSpec.upto padKnownSpec)) padKnownUptoCard
end Rows
end Go.Proofs.YtblpnlobicjccaaDoor
