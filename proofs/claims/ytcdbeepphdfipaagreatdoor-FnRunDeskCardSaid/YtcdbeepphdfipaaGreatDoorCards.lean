/-
  DERIVED. GIVEN WITH THE SEED: THE CARDS: each row of YtcdbeepphdfipaaGreatDoorRows.lean that lists a variable, with what it lists TIED to the program's text (the seventh form; the later family's looks); each row that meets fmt, with fmt's text TOLD by the authors' own Lean function (tested against real Go, not proved from fmt's source: count such statements apart). THE CARD IS WHAT COUNTS. Prove the row's statement (the work); the ties are given (YtcdbeepphdfipaaGreatDoorTie.lean); close each card by the builder's one call (the guide's Derived/Test/ToyasCard.lean, 'card_holds'). Laid BY PROGRAM, IN A SANDBOX (cutbox-door.mjs). By AI agents, Wed Nov 11 2026. No macro, syntax, notation, axiom, sorry.
-/
import Derived.Test.YtcdbeepphdfipaaGreatDoorRows
import GoSem.ClaimSeven
namespace Go.Proofs.YtcdbeepphdfipaaGreatDoor
namespace Rows

/-- THE TIED CARD OF 'laws.FnExactParseCode'. -/
def fnExactParseCodeCard : Claim7 := { stood := { row := fnExactParseCodeRow, standIns := [], harness := (true, "d1f09fa06a3d1c4fd64bb7eba81537322636a064b9a89fc799f2562d12d12c4a"), looks := true }, kinds := [], alts := [], laidByText := true, laidKinds := [.data, .data, .data, .data, .sentinel, .sentinel, .pinned], laidTests := true, laidLooks := .later }
def FnExactParseCodeCardSaid : Prop := Claim7.holds Tryz.pinned (.plain (OpenSpec.ofChange fnExactParseCodeSpec)) fnExactParseCodeCard

/-- THE TIED CARD OF 'laws.FnCodeText'. -/
def fnCodeTextCard : Claim7 := { stood := { row := fnCodeTextRow, standIns := [], harness := (true, "d1f09fa06a3d1c4fd64bb7eba81537322636a064b9a89fc799f2562d12d12c4a"), looks := true }, kinds := [], alts := [], laidByText := true, laidKinds := [.data, .data, .data, .data, .sentinel, .sentinel, .pinned], laidTests := true, laidLooks := .later }
def FnCodeTextCardSaid : Prop := Claim7.holds Tryz.pinned (.plain (OpenSpec.ofChange fnCodeTextSpec)) fnCodeTextCard

/-- THE TIED CARD OF 'laws.FnParseCode'. -/
def fnParseCodeCard : Claim7 := { stood := { row := fnParseCodeRow, standIns := [], harness := (true, "d1f09fa06a3d1c4fd64bb7eba81537322636a064b9a89fc799f2562d12d12c4a"), looks := true }, kinds := [], alts := [], laidByText := true, laidKinds := [.data, .data, .data, .data, .sentinel, .sentinel, .pinned], laidTests := true, laidLooks := .later }
def FnParseCodeCardSaid : Prop := Claim7.holds Tryz.pinned (.plain (OpenSpec.ofChange fnParseCodeSpec)) fnParseCodeCard

/-- THE TIED CARD OF 'laws.FnExactRunDesk'. -/
def fnExactRunDeskCard : Claim7 := { stood := { row := fnExactRunDeskRow, standIns := [], harness := (true, "d1f09fa06a3d1c4fd64bb7eba81537322636a064b9a89fc799f2562d12d12c4a"), looks := true }, kinds := [], alts := [], laidByText := true, laidKinds := [.data, .data, .data, .data, .sentinel, .sentinel, .pinned], laidTests := true, laidLooks := .later }
def FnExactRunDeskCardSaid : Prop := Claim7.holds Tryz.pinned (.plain (OpenSpec.ofChange fnExactRunDeskSpec)) fnExactRunDeskCard

/-- THE TIED CARD OF 'laws.FnRunDesk'. -/
def fnRunDeskCard : Claim7 := { stood := { row := fnRunDeskRow, standIns := [], harness := (true, "d1f09fa06a3d1c4fd64bb7eba81537322636a064b9a89fc799f2562d12d12c4a"), looks := true }, kinds := [], alts := [], laidByText := true, laidKinds := [.data, .data, .data, .data, .sentinel, .sentinel, .pinned], laidTests := true, laidLooks := .later }
def FnRunDeskCardSaid : Prop := Claim7.holds Tryz.pinned (.plain (OpenSpec.ofChange fnRunDeskSpec)) fnRunDeskCard

/-- THE SECOND FORM's CARD OF 'laws.FnExactParseCode'. -/
def fnExactParseCodeUptoCard : Claim7 := { stood := { row := fnExactParseCodeUptoRow, standIns := [], harness := (true, "d1f09fa06a3d1c4fd64bb7eba81537322636a064b9a89fc799f2562d12d12c4a"), looks := true }, kinds := [], alts := [], laidByText := true, laidKinds := [.data, .data, .data, .data, .sentinel, .sentinel, .pinned], laidTests := true, laidLooks := .later }
def FnExactParseCodeUptoCardSaid : Prop := Claim7.holds Tryz.pinned (.plain (OpenSpec.upto fnExactParseCodeSpec)) fnExactParseCodeUptoCard

/-- THE SECOND FORM's CARD OF 'laws.FnCodeText'. -/
def fnCodeTextUptoCard : Claim7 := { stood := { row := fnCodeTextUptoRow, standIns := [], harness := (true, "d1f09fa06a3d1c4fd64bb7eba81537322636a064b9a89fc799f2562d12d12c4a"), looks := true }, kinds := [], alts := [], laidByText := true, laidKinds := [.data, .data, .data, .data, .sentinel, .sentinel, .pinned], laidTests := true, laidLooks := .later }
def FnCodeTextUptoCardSaid : Prop := Claim7.holds Tryz.pinned (.plain (OpenSpec.upto fnCodeTextSpec)) fnCodeTextUptoCard

/-- THE SECOND FORM's CARD OF 'laws.FnParseCode'. -/
def fnParseCodeUptoCard : Claim7 := { stood := { row := fnParseCodeUptoRow, standIns := [], harness := (true, "d1f09fa06a3d1c4fd64bb7eba81537322636a064b9a89fc799f2562d12d12c4a"), looks := true }, kinds := [], alts := [], laidByText := true, laidKinds := [.data, .data, .data, .data, .sentinel, .sentinel, .pinned], laidTests := true, laidLooks := .later }
def FnParseCodeUptoCardSaid : Prop := Claim7.holds Tryz.pinned (.plain (OpenSpec.upto fnParseCodeSpec)) fnParseCodeUptoCard

/-- THE SECOND FORM's CARD OF 'laws.FnExactRunDesk'. -/
def fnExactRunDeskUptoCard : Claim7 := { stood := { row := fnExactRunDeskUptoRow, standIns := [], harness := (true, "d1f09fa06a3d1c4fd64bb7eba81537322636a064b9a89fc799f2562d12d12c4a"), looks := true }, kinds := [], alts := [], laidByText := true, laidKinds := [.data, .data, .data, .data, .sentinel, .sentinel, .pinned], laidTests := true, laidLooks := .later }
def FnExactRunDeskUptoCardSaid : Prop := Claim7.holds Tryz.pinned (.plain (OpenSpec.upto fnExactRunDeskSpec)) fnExactRunDeskUptoCard

/-- THE SECOND FORM's CARD OF 'laws.FnRunDesk'. -/
def fnRunDeskUptoCard : Claim7 := { stood := { row := fnRunDeskUptoRow, standIns := [], harness := (true, "d1f09fa06a3d1c4fd64bb7eba81537322636a064b9a89fc799f2562d12d12c4a"), looks := true }, kinds := [], alts := [], laidByText := true, laidKinds := [.data, .data, .data, .data, .sentinel, .sentinel, .pinned], laidTests := true, laidLooks := .later }
def FnRunDeskUptoCardSaid : Prop := Claim7.holds Tryz.pinned (.plain (OpenSpec.upto fnRunDeskSpec)) fnRunDeskUptoCard
end Rows
end Go.Proofs.YtcdbeepphdfipaaGreatDoor
