/-
  DERIVED. GIVEN WITH THE SEED: THE CARDS: each row of YtgonbndbnmimhaaDoorRows.lean that lists a variable, with what it lists TIED to the program's text (the seventh form; the later family's looks); each row that meets fmt, with fmt's text TOLD by the authors' own Lean function (tested against real Go, not proved from fmt's source: count such statements apart). THE CARD IS WHAT COUNTS. Prove the row's statement (the work); the ties are given (YtgonbndbnmimhaaDoorTie.lean); close each card by the builder's one call (the guide's Derived/Test/ToyasCard.lean, 'card_holds'). Laid BY PROGRAM, IN A SANDBOX (cutbox-door.mjs). By AI agents, Wed Nov 11 2026. No macro, syntax, notation, axiom, sorry.
-/
import Derived.Test.YtgonbndbnmimhaaDoorRows
import GoSem.ClaimSeven
namespace Go.Proofs.YtgonbndbnmimhaaDoor
namespace Rows

/-- THE TIED CARD OF 'laws.FnExactReadStyle'. -/
def fnExactReadStyleCard : Claim7 := { stood := { row := fnExactReadStyleRow, standIns := [], harness := (true, "860ec70c9b7a463b888d7d15ff098b3b3ded829cb77cce52586945b9a6d93ca5"), looks := false }, kinds := [], alts := [], laidByText := true, laidKinds := [.data, .pinned], laidTests := true, laidLooks := .later }
def FnExactReadStyleCardSaid : Prop := Claim7.holds Tryd.pinned (.plain (OpenSpec.ofChange fnExactReadStyleSpec)) fnExactReadStyleCard

/-- THE TIED CARD OF 'laws.FnExactShowStyle'. -/
def fnExactShowStyleCard : Claim7 := { stood := { row := fnExactShowStyleRow, standIns := [], harness := (true, "860ec70c9b7a463b888d7d15ff098b3b3ded829cb77cce52586945b9a6d93ca5"), looks := false }, kinds := [], alts := [], laidByText := true, laidKinds := [.data, .data, .data, .data, .pinned], laidTests := true, laidLooks := .later }
def FnExactShowStyleCardSaid : Prop := Claim7.holds Tryd.pinned (.plain (OpenSpec.ofChange fnExactShowStyleSpec)) fnExactShowStyleCard

/-- THE SECOND FORM's CARD OF 'laws.FnExactReadStyle'. -/
def fnExactReadStyleUptoCard : Claim7 := { stood := { row := fnExactReadStyleUptoRow, standIns := [], harness := (true, "860ec70c9b7a463b888d7d15ff098b3b3ded829cb77cce52586945b9a6d93ca5"), looks := false }, kinds := [], alts := [], laidByText := true, laidKinds := [.data, .pinned], laidTests := true, laidLooks := .later }
def FnExactReadStyleUptoCardSaid : Prop := Claim7.holds Tryd.pinned (.plain (OpenSpec.upto fnExactReadStyleSpec)) fnExactReadStyleUptoCard

/-- THE SECOND FORM's CARD OF 'laws.FnExactShowStyle'. -/
def fnExactShowStyleUptoCard : Claim7 := { stood := { row := fnExactShowStyleUptoRow, standIns := [], harness := (true, "860ec70c9b7a463b888d7d15ff098b3b3ded829cb77cce52586945b9a6d93ca5"), looks := false }, kinds := [], alts := [], laidByText := true, laidKinds := [.data, .data, .data, .data, .pinned], laidTests := true, laidLooks := .later }
def FnExactShowStyleUptoCardSaid : Prop := Claim7.holds Tryd.pinned (.plain (OpenSpec.upto fnExactShowStyleSpec)) fnExactShowStyleUptoCard
end Rows
end Go.Proofs.YtgonbndbnmimhaaDoor
