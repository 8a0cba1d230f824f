/-
  DERIVED. GIVEN WITH THE SEED: THE CARDS: each row of YthcamcmjafhehaaDoorRows.lean that lists a variable, with what it lists TIED to the program's text (the seventh form; the later family's looks); each row that meets fmt, with fmt's text TOLD by the authors' own Lean function (tested against real Go, not proved from fmt's source: count such statements apart). THE CARD IS WHAT COUNTS. Prove the row's statement (the work); the ties are given (YthcamcmjafhehaaDoorTie.lean); close each card by the builder's one call (the guide's Derived/Test/ToyasCard.lean, 'card_holds'). Laid BY PROGRAM, IN A SANDBOX (cutbox-door.mjs). By AI agents, Wed Nov 11 2026. No macro, syntax, notation, axiom, sorry.
-/
import Derived.Test.YthcamcmjafhehaaDoorRows
import GoSem.ClaimSeven
namespace Go.Proofs.YthcamcmjafhehaaDoor
namespace Rows

/-- THE TIED CARD OF 'laws.FnExactKeepTraces'. -/
def fnExactKeepTracesCard : Claim7 := { stood := { row := fnExactKeepTracesRow, standIns := [], harness := (true, "53abd35e434469cd88936af8cbb7fa141847972effa129a1d8c48b390181293f"), looks := false }, kinds := [], alts := [], laidByText := true, laidKinds := [.data, .data, .data], laidTests := true, laidLooks := .later }
def FnExactKeepTracesCardSaid : Prop := Claim7.holds Tryd.pinned (.plain (OpenSpec.ofChange fnExactKeepTracesSpec)) fnExactKeepTracesCard

/-- THE SECOND FORM's CARD OF 'laws.FnExactKeepTraces'. -/
def fnExactKeepTracesUptoCard : Claim7 := { stood := { row := fnExactKeepTracesUptoRow, standIns := [], harness := (true, "53abd35e434469cd88936af8cbb7fa141847972effa129a1d8c48b390181293f"), looks := false }, kinds := [], alts := [], laidByText := true, laidKinds := [.data, .data, .data], laidTests := true, laidLooks := .later }
def FnExactKeepTracesUptoCardSaid : Prop := Claim7.holds Tryd.pinned (.plain (OpenSpec.upto fnExactKeepTracesSpec)) fnExactKeepTracesUptoCard
end Rows
end Go.Proofs.YthcamcmjafhehaaDoor
