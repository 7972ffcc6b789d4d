/-
  DERIVED. GIVEN WITH THE SEED: THE CARDS: each row of YtobfdenalhmecaaDoorRows.lean that lists a variable, with what it lists TIED to the program's text (the seventh form; the later family's looks); each row that meets fmt, with fmt's text TOLD by the authors' own Lean function (tested against real Go, not proved from fmt's source: count such statements apart). THE CARD IS WHAT COUNTS. Prove the row's statement (the work); the ties are given (YtobfdenalhmecaaDoorTie.lean); close each card by the builder's one call (the guide's Derived/Test/ToyasCard.lean, 'card_holds'). Laid BY PROGRAM, IN A SANDBOX (cutbox-door.mjs). By AI agents, Wed Nov 11 2026. No macro, syntax, notation, axiom, sorry.
-/
import Derived.Test.YtobfdenalhmecaaDoorRows
import GoSem.ClaimSeven
namespace Go.Proofs.YtobfdenalhmecaaDoor
namespace Rows

/-- THE TIED CARD OF 'bookendlaw03.EntriesPairs'. -/
def entriesPairsCard : Claim7 := { stood := { row := entriesPairsRow, standIns := [], harness := (true, "3c129a505e6c449643c9d8e11da0a36a05af921b69aedb272950ad0be6fd6418"), looks := false }, kinds := [], alts := [], laidByText := true, laidKinds := [.data, .data, .data, .data], laidTests := true, laidLooks := .later }
def EntriesPairsCardSaid : Prop := Claim7.holds Tryd.pinned (.plain (OpenSpec.ofChange entriesPairsSpec)) entriesPairsCard

/-- THE TIED CARD OF 'bookendlaw03.EntriesSorted'. -/
def entriesSortedCard : Claim7 := { stood := { row := entriesSortedRow, standIns := [], harness := (true, "3c129a505e6c449643c9d8e11da0a36a05af921b69aedb272950ad0be6fd6418"), looks := false }, kinds := [], alts := [], laidByText := true, laidKinds := [.data, .data, .data, .data], laidTests := true, laidLooks := .later }
def EntriesSortedCardSaid : Prop := Claim7.holds Tryd.pinned (.plain (OpenSpec.ofChange entriesSortedSpec)) entriesSortedCard

/-- THE SECOND FORM's CARD OF 'bookendlaw03.EntriesPairs'. -/
def entriesPairsUptoCard : Claim7 := { stood := { row := entriesPairsUptoRow, standIns := [], harness := (true, "3c129a505e6c449643c9d8e11da0a36a05af921b69aedb272950ad0be6fd6418"), looks := false }, kinds := [], alts := [], laidByText := true, laidKinds := [.data, .data, .data, .data], laidTests := true, laidLooks := .later }
def EntriesPairsUptoCardSaid : Prop := Claim7.holds Tryd.pinned (.plain (OpenSpec.upto entriesPairsSpec)) entriesPairsUptoCard

/-- THE SECOND FORM's CARD OF 'bookendlaw03.EntriesSorted'. -/
def entriesSortedUptoCard : Claim7 := { stood := { row := entriesSortedUptoRow, standIns := [], harness := (true, "3c129a505e6c449643c9d8e11da0a36a05af921b69aedb272950ad0be6fd6418"), looks := false }, kinds := [], alts := [], laidByText := true, laidKinds := [.data, .data, .data, .data], laidTests := true, laidLooks := .later }
def EntriesSortedUptoCardSaid : Prop := Claim7.holds Tryd.pinned (.plain (OpenSpec.upto entriesSortedSpec)) entriesSortedUptoCard
end Rows
end Go.Proofs.YtobfdenalhmecaaDoor
