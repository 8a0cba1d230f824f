/-
  DERIVED. GIVEN WITH THE SEED: THE CARDS: each row of YtdmhdnagaoiclaaDoorRows.lean that lists a variable, with what it lists TIED to the program's text (the seventh form; the later family's looks); each row that meets fmt, with fmt's text TOLD by the authors' own Lean function (tested against real Go, not proved from fmt's source: count such statements apart). THE CARD IS WHAT COUNTS. Prove the row's statement (the work); the ties are given (YtdmhdnagaoiclaaDoorTie.lean); close each card by the builder's one call (the guide's Derived/Test/ToyasCard.lean, 'card_holds'). Laid BY PROGRAM, IN A SANDBOX (cutbox-door.mjs). By AI agents, Wed Nov 11 2026. No macro, syntax, notation, axiom, sorry.
-/
import Derived.Test.YtdmhdnagaoiclaaDoorRows
import GoSem.ClaimSeven
namespace Go.Proofs.YtdmhdnagaoiclaaDoor
namespace Rows

/-- THE TIED CARD OF 'laws.FnExactUnitText'. -/
def fnExactUnitTextCard : Claim7 := { stood := { row := fnExactUnitTextRow, standIns := [], harness := (true, "6c152a2272addf455c8c7d801ae0ce6b8e20433fc2c6be98f65e0888b6c1e642"), looks := false }, kinds := [], alts := [], laidByText := true, laidKinds := [.data, .data, .data], laidTests := true, laidLooks := .later }
def FnExactUnitTextCardSaid : Prop := Claim7.holds Tryd.pinned (.plain (OpenSpec.ofChange fnExactUnitTextSpec)) fnExactUnitTextCard

/-- THE SECOND FORM's CARD OF 'laws.FnExactUnitText'. -/
def fnExactUnitTextUptoCard : Claim7 := { stood := { row := fnExactUnitTextUptoRow, standIns := [], harness := (true, "6c152a2272addf455c8c7d801ae0ce6b8e20433fc2c6be98f65e0888b6c1e642"), looks := false }, kinds := [], alts := [], laidByText := true, laidKinds := [.data, .data, .data], laidTests := true, laidLooks := .later }
def FnExactUnitTextUptoCardSaid : Prop := Claim7.holds Tryd.pinned (.plain (OpenSpec.upto fnExactUnitTextSpec)) fnExactUnitTextUptoCard
end Rows
end Go.Proofs.YtdmhdnagaoiclaaDoor
