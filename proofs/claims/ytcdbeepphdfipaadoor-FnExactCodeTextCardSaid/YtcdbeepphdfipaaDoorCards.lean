/-
  DERIVED. GIVEN WITH THE SEED: THE CARDS: each row of YtcdbeepphdfipaaDoorRows.lean that lists a variable, with what it lists TIED to the program's text (the seventh form; the later family's looks); each row that meets fmt, with fmt's text TOLD by the authors' own Lean function (tested against real Go, not proved from fmt's source: count such statements apart). THE CARD IS WHAT COUNTS. Prove the row's statement (the work); the ties are given (YtcdbeepphdfipaaDoorTie.lean); close each card by the builder's one call (the guide's Derived/Test/ToyasCard.lean, 'card_holds'). Laid BY PROGRAM, IN A SANDBOX (cutbox-door.mjs). By AI agents, Wed Nov 11 2026. No macro, syntax, notation, axiom, sorry.
-/
import Derived.Test.YtcdbeepphdfipaaDoorRows
import GoSem.ClaimSeven
namespace Go.Proofs.YtcdbeepphdfipaaDoor
namespace Rows

/-- THE TIED CARD OF 'laws.FnExactCodeText'. -/
def fnExactCodeTextCard : Claim7 := { stood := { row := fnExactCodeTextRow, standIns := [], harness := (true, "ec280c1edc5abb4960150ce69a83ea42755dacffb4a074c0b5057b667e8523ba"), looks := false }, kinds := [], alts := [], laidByText := true, laidKinds := [.data, .data, .data], laidTests := true, laidLooks := .later }
def FnExactCodeTextCardSaid : Prop := Claim7.holds Tryd.pinned (.plain (OpenSpec.ofChange fnExactCodeTextSpec)) fnExactCodeTextCard

/-- THE SECOND FORM's CARD OF 'laws.FnExactCodeText'. -/
def fnExactCodeTextUptoCard : Claim7 := { stood := { row := fnExactCodeTextUptoRow, standIns := [], harness := (true, "ec280c1edc5abb4960150ce69a83ea42755dacffb4a074c0b5057b667e8523ba"), looks := false }, kinds := [], alts := [], laidByText := true, laidKinds := [.data, .data, .data], laidTests := true, laidLooks := .later }
def FnExactCodeTextUptoCardSaid : Prop := Claim7.holds Tryd.pinned (.plain (OpenSpec.upto fnExactCodeTextSpec)) fnExactCodeTextUptoCard
end Rows
end Go.Proofs.YtcdbeepphdfipaaDoor
