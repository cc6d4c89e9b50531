/-
  DERIVED. GIVEN WITH THE SEED: THE CARDS: each row of YtocjkeieieknbaaDoorRows.lean that lists a variable, with what it lists TIED to the program's text (the seventh form; the later family's looks); each row that meets fmt, with fmt's text TOLD by the authors' own Lean function (tested against real Go, not proved from fmt's source: count such statements apart). THE CARD IS WHAT COUNTS. Prove the row's statement (the work); the ties are given (YtocjkeieieknbaaDoorTie.lean); close each card by the builder's one call (the guide's Derived/Test/ToyasCard.lean, 'card_holds'). Laid BY PROGRAM, IN A SANDBOX (cutbox-door.mjs). By AI agents, Wed Nov 11 2026. No macro, syntax, notation, axiom, sorry.
-/
import Derived.Test.YtocjkeieieknbaaDoorRows
import GoSem.ClaimSeven
namespace Go.Proofs.YtocjkeieieknbaaDoor
namespace Rows

/-- THE TIED CARD OF 'laws.FnExactDocSum'. -/
def fnExactDocSumCard : Claim7 := { stood := { row := fnExactDocSumRow, standIns := [], harness := (true, "471533e35f8b7d13ba8479b3c9ed85d53a72209b9151f9fd366ef788b675318f"), looks := false }, kinds := [], alts := [], laidByText := true, laidKinds := [.data], laidTests := true, laidLooks := .later }
def FnExactDocSumCardSaid : Prop := Claim7.holds Tryd.pinned (.plain (OpenSpec.ofChange fnExactDocSumSpec)) fnExactDocSumCard

/-- THE TIED CARD OF 'laws.FnDocSum'. -/
def fnDocSumCard : Claim7 := { stood := { row := fnDocSumRow, standIns := [], harness := (true, "471533e35f8b7d13ba8479b3c9ed85d53a72209b9151f9fd366ef788b675318f"), looks := false }, kinds := [], alts := [], laidByText := true, laidKinds := [.data], laidTests := true, laidLooks := .later }
def FnDocSumCardSaid : Prop := Claim7.holds Tryd.pinned (.plain (OpenSpec.ofChange fnDocSumSpec)) fnDocSumCard

/-- THE TIED CARD OF 'laws.FnExactSavedGet'. -/
def fnExactSavedGetCard : Claim7 := { stood := { row := fnExactSavedGetRow, standIns := [], harness := (true, "471533e35f8b7d13ba8479b3c9ed85d53a72209b9151f9fd366ef788b675318f"), looks := false }, kinds := [], alts := [], laidByText := true, laidKinds := [.data], laidTests := true, laidLooks := .later }
def FnExactSavedGetCardSaid : Prop := Claim7.holds Tryd.pinned (.plain (OpenSpec.ofChange fnExactSavedGetSpec)) fnExactSavedGetCard

/-- THE TIED CARD OF 'laws.FnExactSavedDrop'. -/
def fnExactSavedDropCard : Claim7 := { stood := { row := fnExactSavedDropRow, standIns := [], harness := (true, "471533e35f8b7d13ba8479b3c9ed85d53a72209b9151f9fd366ef788b675318f"), looks := false }, kinds := [], alts := [], laidByText := true, laidKinds := [.data], laidTests := true, laidLooks := .later }
def FnExactSavedDropCardSaid : Prop := Claim7.holds Tryd.pinned (.plain (OpenSpec.ofChange fnExactSavedDropSpec)) fnExactSavedDropCard

/-- THE SECOND FORM's CARD OF 'laws.FnExactDocSum'. -/
def fnExactDocSumUptoCard : Claim7 := { stood := { row := fnExactDocSumUptoRow, standIns := [], harness := (true, "471533e35f8b7d13ba8479b3c9ed85d53a72209b9151f9fd366ef788b675318f"), looks := false }, kinds := [], alts := [], laidByText := true, laidKinds := [.data], laidTests := true, laidLooks := .later }
def FnExactDocSumUptoCardSaid : Prop := Claim7.holds Tryd.pinned (.plain (OpenSpec.upto fnExactDocSumSpec)) fnExactDocSumUptoCard

/-- THE SECOND FORM's CARD OF 'laws.FnDocSum'. -/
def fnDocSumUptoCard : Claim7 := { stood := { row := fnDocSumUptoRow, standIns := [], harness := (true, "471533e35f8b7d13ba8479b3c9ed85d53a72209b9151f9fd366ef788b675318f"), looks := false }, kinds := [], alts := [], laidByText := true, laidKinds := [.data], laidTests := true, laidLooks := .later }
def FnDocSumUptoCardSaid : Prop := Claim7.holds Tryd.pinned (.plain (OpenSpec.upto fnDocSumSpec)) fnDocSumUptoCard

/-- THE SECOND FORM's CARD OF 'laws.FnExactSavedGet'. -/
def fnExactSavedGetUptoCard : Claim7 := { stood := { row := fnExactSavedGetUptoRow, standIns := [], harness := (true, "471533e35f8b7d13ba8479b3c9ed85d53a72209b9151f9fd366ef788b675318f"), looks := false }, kinds := [], alts := [], laidByText := true, laidKinds := [.data], laidTests := true, laidLooks := .later }
def FnExactSavedGetUptoCardSaid : Prop := Claim7.holds Tryd.pinned (.plain (OpenSpec.upto fnExactSavedGetSpec)) fnExactSavedGetUptoCard

/-- THE SECOND FORM's CARD OF 'laws.FnExactSavedDrop'. -/
def fnExactSavedDropUptoCard : Claim7 := { stood := { row := fnExactSavedDropUptoRow, standIns := [], harness := (true, "471533e35f8b7d13ba8479b3c9ed85d53a72209b9151f9fd366ef788b675318f"), looks := false }, kinds := [], alts := [], laidByText := true, laidKinds := [.data], laidTests := true, laidLooks := .later }
def FnExactSavedDropUptoCardSaid : Prop := Claim7.holds Tryd.pinned (.plain (OpenSpec.upto fnExactSavedDropSpec)) fnExactSavedDropUptoCard
end Rows
end Go.Proofs.YtocjkeieieknbaaDoor
