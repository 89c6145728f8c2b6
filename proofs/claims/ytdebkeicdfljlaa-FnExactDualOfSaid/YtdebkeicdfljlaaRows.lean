/-
  No cell of these rows narrows 'for every input' (looked for: loops, veiled, ifaces, maps, wideKeys, modest, calm, conditions, laid).
  DERIVED. THE GIVEN ROWS OF THIS SEAT. 12 by the template 'for every input the law returns true; each argument reads behind the call as it read before'; 0 by the template 'total and deterministic' (their statements: YtdebkeicdfljlaaTotals.lean).
  GIVEN WITH THE SEED: the statements are not yours to turn. If you find one false, say at which input.
  Laid BY PROGRAM, IN A SANDBOX (cutbox-rows.mjs): the forced cells as the released guide's own fill.sh prints them over the translation 91fe3b801cd5d8a9… (all of the seat's roots in one cut). By AI agents, Wed Nov 11 2026. No macro, syntax, notation, axiom, sorry.
-/
import Derived.Test.YtdebkeicdfljlaaChecked
import GoSem.Claim
import GoSem.ClaimJoined
import GoSem.ClaimMapViews
import Derived.JoinedTies
import Derived.KernelRfl
namespace Go.Proofs.Ytdebkeicdfljlaa
/- THE CELL 'sum', in the pinned program and in every row, IS THE sha256 OF THE DUMP (.gsa) THAT YtdebkeicdfljlaaProg.lean LOADS. Nothing in Lean hashes anything: it is a label: what it is worth is what the hold of that sum in a sandbox is worth. -/
noncomputable def Try.pinned : Pinned := { name := "ytdebkeicdfljlaa", sum := "91fe3b801cd5d8a98aa4945044e8b00988f4aa6d8722cf7610e488e9c138c3a1", checked := Try.checked }
namespace Rows
def none {H : Type} : Left H := { results := [], args := [] }

/-- 'laws.FnExactValidCode': WHATEVER THE INPUT: true; the input reads as it did. -/
def fnExactValidCodeSpec : ChangeSpec := { name := "fnExactValidCode", fn := fun _ => fun
  | [d] => { results := [.lit (.bool true)], args := [d] }
  | _ => none }
def fnExactValidCodeRow : OpenClaim := { program := "ytdebkeicdfljlaa", sum := "91fe3b801cd5d8a98aa4945044e8b00988f4aa6d8722cf7610e488e9c138c3a1", func := "loop.example/lostshares/laws.FnExactValidCode", spec := "fnExactValidCode", unfollowed := true, recurses := true, apart := false }
def FnExactValidCodeSaid : Prop := fnExactValidCodeRow.holds Try.pinned (OpenSpec.ofChange fnExactValidCodeSpec)

/-- ITS FALSE NEIGHBOUR: 'it returns false'. Refute it at one input. -/
def fnExactValidCodeWrong : ChangeSpec := { name := "fnExactValidCode", fn := fun _ => fun
  | [d] => { results := [.lit (.bool false)], args := [d] }
  | _ => none }
def FnExactValidCodeWrongFalsely : Prop := fnExactValidCodeRow.holds Try.pinned (OpenSpec.ofChange fnExactValidCodeWrong)

/-- 'laws.FnExactIsPlain': WHATEVER THE INPUT: true; the input reads as it did. -/
def fnExactIsPlainSpec : ChangeSpec := { name := "fnExactIsPlain", fn := fun _ => fun
  | [d] => { results := [.lit (.bool true)], args := [d] }
  | _ => none }
def fnExactIsPlainRow : OpenClaim := { program := "ytdebkeicdfljlaa", sum := "91fe3b801cd5d8a98aa4945044e8b00988f4aa6d8722cf7610e488e9c138c3a1", func := "loop.example/lostshares/laws.FnExactIsPlain", spec := "fnExactIsPlain", unfollowed := true, recurses := true, apart := false }
def FnExactIsPlainSaid : Prop := fnExactIsPlainRow.holds Try.pinned (OpenSpec.ofChange fnExactIsPlainSpec)

/-- ITS FALSE NEIGHBOUR: 'it returns false'. Refute it at one input. -/
def fnExactIsPlainWrong : ChangeSpec := { name := "fnExactIsPlain", fn := fun _ => fun
  | [d] => { results := [.lit (.bool false)], args := [d] }
  | _ => none }
def FnExactIsPlainWrongFalsely : Prop := fnExactIsPlainRow.holds Try.pinned (OpenSpec.ofChange fnExactIsPlainWrong)

/-- 'laws.FnExactPlainOf': WHATEVER THE INPUT: true; the input reads as it did. -/
def fnExactPlainOfSpec : ChangeSpec := { name := "fnExactPlainOf", fn := fun _ => fun
  | [d] => { results := [.lit (.bool true)], args := [d] }
  | _ => none }
def fnExactPlainOfRow : OpenClaim := { program := "ytdebkeicdfljlaa", sum := "91fe3b801cd5d8a98aa4945044e8b00988f4aa6d8722cf7610e488e9c138c3a1", func := "loop.example/lostshares/laws.FnExactPlainOf", spec := "fnExactPlainOf", unfollowed := true, recurses := true, apart := false }
def FnExactPlainOfSaid : Prop := fnExactPlainOfRow.holds Try.pinned (OpenSpec.ofChange fnExactPlainOfSpec)

/-- ITS FALSE NEIGHBOUR: 'it returns false'. Refute it at one input. -/
def fnExactPlainOfWrong : ChangeSpec := { name := "fnExactPlainOf", fn := fun _ => fun
  | [d] => { results := [.lit (.bool false)], args := [d] }
  | _ => none }
def FnExactPlainOfWrongFalsely : Prop := fnExactPlainOfRow.holds Try.pinned (OpenSpec.ofChange fnExactPlainOfWrong)

/-- 'laws.FnExactEncodeWord': WHATEVER THE INPUT: true; the input reads as it did. -/
def fnExactEncodeWordSpec : ChangeSpec := { name := "fnExactEncodeWord", fn := fun _ => fun
  | [d1, d2] => { results := [.lit (.bool true)], args := [d1, d2] }
  | _ => none }
def fnExactEncodeWordRow : OpenClaim := { program := "ytdebkeicdfljlaa", sum := "91fe3b801cd5d8a98aa4945044e8b00988f4aa6d8722cf7610e488e9c138c3a1", func := "loop.example/lostshares/laws.FnExactEncodeWord", spec := "fnExactEncodeWord", unfollowed := true, recurses := true, apart := false }
def FnExactEncodeWordSaid : Prop := fnExactEncodeWordRow.holds Try.pinned (OpenSpec.ofChange fnExactEncodeWordSpec)

/-- ITS FALSE NEIGHBOUR: 'it returns false'. Refute it at one input. -/
def fnExactEncodeWordWrong : ChangeSpec := { name := "fnExactEncodeWord", fn := fun _ => fun
  | [d1, d2] => { results := [.lit (.bool false)], args := [d1, d2] }
  | _ => none }
def FnExactEncodeWordWrongFalsely : Prop := fnExactEncodeWordRow.holds Try.pinned (OpenSpec.ofChange fnExactEncodeWordWrong)

/-- 'laws.FnExactDualOf': WHATEVER THE INPUT: true; the input reads as it did. -/
def fnExactDualOfSpec : ChangeSpec := { name := "fnExactDualOf", fn := fun _ => fun
  | [d] => { results := [.lit (.bool true)], args := [d] }
  | _ => none }
def fnExactDualOfRow : OpenClaim := { program := "ytdebkeicdfljlaa", sum := "91fe3b801cd5d8a98aa4945044e8b00988f4aa6d8722cf7610e488e9c138c3a1", func := "loop.example/lostshares/laws.FnExactDualOf", spec := "fnExactDualOf", unfollowed := true, recurses := true, apart := false }
def FnExactDualOfSaid : Prop := fnExactDualOfRow.holds Try.pinned (OpenSpec.ofChange fnExactDualOfSpec)

/-- ITS FALSE NEIGHBOUR: 'it returns false'. Refute it at one input. -/
def fnExactDualOfWrong : ChangeSpec := { name := "fnExactDualOf", fn := fun _ => fun
  | [d] => { results := [.lit (.bool false)], args := [d] }
  | _ => none }
def FnExactDualOfWrongFalsely : Prop := fnExactDualOfRow.holds Try.pinned (OpenSpec.ofChange fnExactDualOfWrong)

/-- 'laws.FnExactIsMendable': WHATEVER THE INPUT: true; the input reads as it did. -/
def fnExactIsMendableSpec : ChangeSpec := { name := "fnExactIsMendable", fn := fun _ => fun
  | [d1, d2] => { results := [.lit (.bool true)], args := [d1, d2] }
  | _ => none }
def fnExactIsMendableRow : OpenClaim := { program := "ytdebkeicdfljlaa", sum := "91fe3b801cd5d8a98aa4945044e8b00988f4aa6d8722cf7610e488e9c138c3a1", func := "loop.example/lostshares/laws.FnExactIsMendable", spec := "fnExactIsMendable", unfollowed := true, recurses := true, apart := false }
def FnExactIsMendableSaid : Prop := fnExactIsMendableRow.holds Try.pinned (OpenSpec.ofChange fnExactIsMendableSpec)

/-- ITS FALSE NEIGHBOUR: 'it returns false'. Refute it at one input. -/
def fnExactIsMendableWrong : ChangeSpec := { name := "fnExactIsMendable", fn := fun _ => fun
  | [d1, d2] => { results := [.lit (.bool false)], args := [d1, d2] }
  | _ => none }
def FnExactIsMendableWrongFalsely : Prop := fnExactIsMendableRow.holds Try.pinned (OpenSpec.ofChange fnExactIsMendableWrong)

/-- 'laws.FnExactIsBest': WHATEVER THE INPUT: true; the input reads as it did. -/
def fnExactIsBestSpec : ChangeSpec := { name := "fnExactIsBest", fn := fun _ => fun
  | [d] => { results := [.lit (.bool true)], args := [d] }
  | _ => none }
def fnExactIsBestRow : OpenClaim := { program := "ytdebkeicdfljlaa", sum := "91fe3b801cd5d8a98aa4945044e8b00988f4aa6d8722cf7610e488e9c138c3a1", func := "loop.example/lostshares/laws.FnExactIsBest", spec := "fnExactIsBest", unfollowed := true, recurses := true, apart := false }
def FnExactIsBestSaid : Prop := fnExactIsBestRow.holds Try.pinned (OpenSpec.ofChange fnExactIsBestSpec)

/-- ITS FALSE NEIGHBOUR: 'it returns false'. Refute it at one input. -/
def fnExactIsBestWrong : ChangeSpec := { name := "fnExactIsBest", fn := fun _ => fun
  | [d] => { results := [.lit (.bool false)], args := [d] }
  | _ => none }
def FnExactIsBestWrongFalsely : Prop := fnExactIsBestRow.holds Try.pinned (OpenSpec.ofChange fnExactIsBestWrong)

/-- 'laws.FnExactLossesOf': WHATEVER THE INPUT: true; the input reads as it did. -/
def fnExactLossesOfSpec : ChangeSpec := { name := "fnExactLossesOf", fn := fun _ => fun
  | [d] => { results := [.lit (.bool true)], args := [d] }
  | _ => none }
def fnExactLossesOfRow : OpenClaim := { program := "ytdebkeicdfljlaa", sum := "91fe3b801cd5d8a98aa4945044e8b00988f4aa6d8722cf7610e488e9c138c3a1", func := "loop.example/lostshares/laws.FnExactLossesOf", spec := "fnExactLossesOf", unfollowed := true, recurses := true, apart := false }
def FnExactLossesOfSaid : Prop := fnExactLossesOfRow.holds Try.pinned (OpenSpec.ofChange fnExactLossesOfSpec)

/-- ITS FALSE NEIGHBOUR: 'it returns false'. Refute it at one input. -/
def fnExactLossesOfWrong : ChangeSpec := { name := "fnExactLossesOf", fn := fun _ => fun
  | [d] => { results := [.lit (.bool false)], args := [d] }
  | _ => none }
def FnExactLossesOfWrongFalsely : Prop := fnExactLossesOfRow.holds Try.pinned (OpenSpec.ofChange fnExactLossesOfWrong)

/-- 'laws.FnExactPeelOf': WHATEVER THE INPUT: true; the input reads as it did. -/
def fnExactPeelOfSpec : ChangeSpec := { name := "fnExactPeelOf", fn := fun _ => fun
  | [d1, d2] => { results := [.lit (.bool true)], args := [d1, d2] }
  | _ => none }
def fnExactPeelOfRow : OpenClaim := { program := "ytdebkeicdfljlaa", sum := "91fe3b801cd5d8a98aa4945044e8b00988f4aa6d8722cf7610e488e9c138c3a1", func := "loop.example/lostshares/laws.FnExactPeelOf", spec := "fnExactPeelOf", unfollowed := true, recurses := true, apart := false }
def FnExactPeelOfSaid : Prop := fnExactPeelOfRow.holds Try.pinned (OpenSpec.ofChange fnExactPeelOfSpec)

/-- ITS FALSE NEIGHBOUR: 'it returns false'. Refute it at one input. -/
def fnExactPeelOfWrong : ChangeSpec := { name := "fnExactPeelOf", fn := fun _ => fun
  | [d1, d2] => { results := [.lit (.bool false)], args := [d1, d2] }
  | _ => none }
def FnExactPeelOfWrongFalsely : Prop := fnExactPeelOfRow.holds Try.pinned (OpenSpec.ofChange fnExactPeelOfWrong)

/-- 'laws.FnExactStopsOf': WHATEVER THE INPUT: true; the input reads as it did. -/
def fnExactStopsOfSpec : ChangeSpec := { name := "fnExactStopsOf", fn := fun _ => fun
  | [d] => { results := [.lit (.bool true)], args := [d] }
  | _ => none }
def fnExactStopsOfRow : OpenClaim := { program := "ytdebkeicdfljlaa", sum := "91fe3b801cd5d8a98aa4945044e8b00988f4aa6d8722cf7610e488e9c138c3a1", func := "loop.example/lostshares/laws.FnExactStopsOf", spec := "fnExactStopsOf", unfollowed := true, recurses := true, apart := false }
def FnExactStopsOfSaid : Prop := fnExactStopsOfRow.holds Try.pinned (OpenSpec.ofChange fnExactStopsOfSpec)

/-- ITS FALSE NEIGHBOUR: 'it returns false'. Refute it at one input. -/
def fnExactStopsOfWrong : ChangeSpec := { name := "fnExactStopsOf", fn := fun _ => fun
  | [d] => { results := [.lit (.bool false)], args := [d] }
  | _ => none }
def FnExactStopsOfWrongFalsely : Prop := fnExactStopsOfRow.holds Try.pinned (OpenSpec.ofChange fnExactStopsOfWrong)

/-- 'laws.FnSolveRows': WHATEVER THE INPUT: true; the input reads as it did. -/
def fnSolveRowsSpec : ChangeSpec := { name := "fnSolveRows", fn := fun _ => fun
  | [d] => { results := [.lit (.bool true)], args := [d] }
  | _ => none }
def fnSolveRowsRow : OpenClaim := { program := "ytdebkeicdfljlaa", sum := "91fe3b801cd5d8a98aa4945044e8b00988f4aa6d8722cf7610e488e9c138c3a1", func := "loop.example/lostshares/laws.FnSolveRows", spec := "fnSolveRows", unfollowed := true, recurses := true, apart := false }
def FnSolveRowsSaid : Prop := fnSolveRowsRow.holds Try.pinned (OpenSpec.ofChange fnSolveRowsSpec)

/-- ITS FALSE NEIGHBOUR: 'it returns false'. Refute it at one input. -/
def fnSolveRowsWrong : ChangeSpec := { name := "fnSolveRows", fn := fun _ => fun
  | [d] => { results := [.lit (.bool false)], args := [d] }
  | _ => none }
def FnSolveRowsWrongFalsely : Prop := fnSolveRowsRow.holds Try.pinned (OpenSpec.ofChange fnSolveRowsWrong)

/-- 'laws.FnIsPlain': WHATEVER THE INPUT: true; the input reads as it did. -/
def fnIsPlainSpec : ChangeSpec := { name := "fnIsPlain", fn := fun _ => fun
  | [d] => { results := [.lit (.bool true)], args := [d] }
  | _ => none }
def fnIsPlainRow : OpenClaim := { program := "ytdebkeicdfljlaa", sum := "91fe3b801cd5d8a98aa4945044e8b00988f4aa6d8722cf7610e488e9c138c3a1", func := "loop.example/lostshares/laws.FnIsPlain", spec := "fnIsPlain", unfollowed := true, recurses := true, apart := false }
def FnIsPlainSaid : Prop := fnIsPlainRow.holds Try.pinned (OpenSpec.ofChange fnIsPlainSpec)

/-- ITS FALSE NEIGHBOUR: 'it returns false'. Refute it at one input. -/
def fnIsPlainWrong : ChangeSpec := { name := "fnIsPlain", fn := fun _ => fun
  | [d] => { results := [.lit (.bool false)], args := [d] }
  | _ => none }
def FnIsPlainWrongFalsely : Prop := fnIsPlainRow.holds Try.pinned (OpenSpec.ofChange fnIsPlainWrong)

/- THE SECOND FORM. 'bulk': how many values and letters a reading holds, each counted each time it is reached (what is shared counts as often as it is met; a slice's spare places count too). A statement '..UptoSaid' is the law's where the arguments, and the package variables that the reading takes, are together of bulk at most 1048576: NARROWER than '..Said'. Prove '..Said' where nothing that the law and all that it calls make is longer than what came in: it says more and counts as full. Else prove '..UptoSaid'. A law counts once. -/
mutual
def uptoBulk {H : Type} : DataW H → Nat
  | .lit (.string bytes) => bytes.length + 1
  | .lit _ => 1
  | .nil => 1
  | .ptr d => uptoBulk d + 1
  | .slice elems spare => uptoBulkAll elems + uptoBulkAll spare + 1
  | .agg parts => uptoBulkAll parts + 1
  | .iface _ d => uptoBulk d + 1
  | .map entries => uptoBulkEntries entries + 1
  | .held _ => 1
def uptoBulkAll {H : Type} : List (DataW H) → Nat
  | [] => 0
  | d :: r => uptoBulk d + uptoBulkAll r
def uptoBulkEntries {H : Type} : List (Lit × DataW H) → Nat
  | [] => 0
  | x :: r => uptoBulkEntry x + uptoBulkEntries r
def uptoBulkEntry {H : Type} : Lit × DataW H → Nat
  | (.string bytes, d) => bytes.length + uptoBulk d + 1
  | (_, d) => uptoBulk d + 1
 end
def uptoSmall : (H : Type) → List (DataW H) → Bool := fun _ ds => decide (uptoBulkAll ds ≤ 1048576)
def OpenSpec.upto (s : _root_.Go.ChangeSpec) : _root_.Go.OpenSpec := { _root_.Go.OpenSpec.ofChange s with cond := some uptoSmall }

/-- 'laws.FnExactValidCode', WHERE WHAT IT READS IS OF BULK AT MOST 1048576: true; the input reads as it did. -/
def fnExactValidCodeUptoRow : OpenClaim := { program := "ytdebkeicdfljlaa", sum := "91fe3b801cd5d8a98aa4945044e8b00988f4aa6d8722cf7610e488e9c138c3a1", func := "loop.example/lostshares/laws.FnExactValidCode", spec := "fnExactValidCode", unfollowed := true, recurses := true, apart := false, narrowed := true }
def FnExactValidCodeUptoSaid : Prop := fnExactValidCodeUptoRow.holds Try.pinned (OpenSpec.upto fnExactValidCodeSpec)

/-- 'laws.FnExactIsPlain', WHERE WHAT IT READS IS OF BULK AT MOST 1048576: true; the input reads as it did. -/
def fnExactIsPlainUptoRow : OpenClaim := { program := "ytdebkeicdfljlaa", sum := "91fe3b801cd5d8a98aa4945044e8b00988f4aa6d8722cf7610e488e9c138c3a1", func := "loop.example/lostshares/laws.FnExactIsPlain", spec := "fnExactIsPlain", unfollowed := true, recurses := true, apart := false, narrowed := true }
def FnExactIsPlainUptoSaid : Prop := fnExactIsPlainUptoRow.holds Try.pinned (OpenSpec.upto fnExactIsPlainSpec)

/-- 'laws.FnExactPlainOf', WHERE WHAT IT READS IS OF BULK AT MOST 1048576: true; the input reads as it did. -/
def fnExactPlainOfUptoRow : OpenClaim := { program := "ytdebkeicdfljlaa", sum := "91fe3b801cd5d8a98aa4945044e8b00988f4aa6d8722cf7610e488e9c138c3a1", func := "loop.example/lostshares/laws.FnExactPlainOf", spec := "fnExactPlainOf", unfollowed := true, recurses := true, apart := false, narrowed := true }
def FnExactPlainOfUptoSaid : Prop := fnExactPlainOfUptoRow.holds Try.pinned (OpenSpec.upto fnExactPlainOfSpec)

/-- 'laws.FnExactEncodeWord', WHERE WHAT IT READS IS OF BULK AT MOST 1048576: true; the input reads as it did. -/
def fnExactEncodeWordUptoRow : OpenClaim := { program := "ytdebkeicdfljlaa", sum := "91fe3b801cd5d8a98aa4945044e8b00988f4aa6d8722cf7610e488e9c138c3a1", func := "loop.example/lostshares/laws.FnExactEncodeWord", spec := "fnExactEncodeWord", unfollowed := true, recurses := true, apart := false, narrowed := true }
def FnExactEncodeWordUptoSaid : Prop := fnExactEncodeWordUptoRow.holds Try.pinned (OpenSpec.upto fnExactEncodeWordSpec)

/-- 'laws.FnExactDualOf', WHERE WHAT IT READS IS OF BULK AT MOST 1048576: true; the input reads as it did. -/
def fnExactDualOfUptoRow : OpenClaim := { program := "ytdebkeicdfljlaa", sum := "91fe3b801cd5d8a98aa4945044e8b00988f4aa6d8722cf7610e488e9c138c3a1", func := "loop.example/lostshares/laws.FnExactDualOf", spec := "fnExactDualOf", unfollowed := true, recurses := true, apart := false, narrowed := true }
def FnExactDualOfUptoSaid : Prop := fnExactDualOfUptoRow.holds Try.pinned (OpenSpec.upto fnExactDualOfSpec)

/-- 'laws.FnExactIsMendable', WHERE WHAT IT READS IS OF BULK AT MOST 1048576: true; the input reads as it did. -/
def fnExactIsMendableUptoRow : OpenClaim := { program := "ytdebkeicdfljlaa", sum := "91fe3b801cd5d8a98aa4945044e8b00988f4aa6d8722cf7610e488e9c138c3a1", func := "loop.example/lostshares/laws.FnExactIsMendable", spec := "fnExactIsMendable", unfollowed := true, recurses := true, apart := false, narrowed := true }
def FnExactIsMendableUptoSaid : Prop := fnExactIsMendableUptoRow.holds Try.pinned (OpenSpec.upto fnExactIsMendableSpec)

/-- 'laws.FnExactIsBest', WHERE WHAT IT READS IS OF BULK AT MOST 1048576: true; the input reads as it did. -/
def fnExactIsBestUptoRow : OpenClaim := { program := "ytdebkeicdfljlaa", sum := "91fe3b801cd5d8a98aa4945044e8b00988f4aa6d8722cf7610e488e9c138c3a1", func := "loop.example/lostshares/laws.FnExactIsBest", spec := "fnExactIsBest", unfollowed := true, recurses := true, apart := false, narrowed := true }
def FnExactIsBestUptoSaid : Prop := fnExactIsBestUptoRow.holds Try.pinned (OpenSpec.upto fnExactIsBestSpec)

/-- 'laws.FnExactLossesOf', WHERE WHAT IT READS IS OF BULK AT MOST 1048576: true; the input reads as it did. -/
def fnExactLossesOfUptoRow : OpenClaim := { program := "ytdebkeicdfljlaa", sum := "91fe3b801cd5d8a98aa4945044e8b00988f4aa6d8722cf7610e488e9c138c3a1", func := "loop.example/lostshares/laws.FnExactLossesOf", spec := "fnExactLossesOf", unfollowed := true, recurses := true, apart := false, narrowed := true }
def FnExactLossesOfUptoSaid : Prop := fnExactLossesOfUptoRow.holds Try.pinned (OpenSpec.upto fnExactLossesOfSpec)

/-- 'laws.FnExactPeelOf', WHERE WHAT IT READS IS OF BULK AT MOST 1048576: true; the input reads as it did. -/
def fnExactPeelOfUptoRow : OpenClaim := { program := "ytdebkeicdfljlaa", sum := "91fe3b801cd5d8a98aa4945044e8b00988f4aa6d8722cf7610e488e9c138c3a1", func := "loop.example/lostshares/laws.FnExactPeelOf", spec := "fnExactPeelOf", unfollowed := true, recurses := true, apart := false, narrowed := true }
def FnExactPeelOfUptoSaid : Prop := fnExactPeelOfUptoRow.holds Try.pinned (OpenSpec.upto fnExactPeelOfSpec)

/-- 'laws.FnExactStopsOf', WHERE WHAT IT READS IS OF BULK AT MOST 1048576: true; the input reads as it did. -/
def fnExactStopsOfUptoRow : OpenClaim := { program := "ytdebkeicdfljlaa", sum := "91fe3b801cd5d8a98aa4945044e8b00988f4aa6d8722cf7610e488e9c138c3a1", func := "loop.example/lostshares/laws.FnExactStopsOf", spec := "fnExactStopsOf", unfollowed := true, recurses := true, apart := false, narrowed := true }
def FnExactStopsOfUptoSaid : Prop := fnExactStopsOfUptoRow.holds Try.pinned (OpenSpec.upto fnExactStopsOfSpec)

/-- 'laws.FnSolveRows', WHERE WHAT IT READS IS OF BULK AT MOST 1048576: true; the input reads as it did. -/
def fnSolveRowsUptoRow : OpenClaim := { program := "ytdebkeicdfljlaa", sum := "91fe3b801cd5d8a98aa4945044e8b00988f4aa6d8722cf7610e488e9c138c3a1", func := "loop.example/lostshares/laws.FnSolveRows", spec := "fnSolveRows", unfollowed := true, recurses := true, apart := false, narrowed := true }
def FnSolveRowsUptoSaid : Prop := fnSolveRowsUptoRow.holds Try.pinned (OpenSpec.upto fnSolveRowsSpec)

/-- 'laws.FnIsPlain', WHERE WHAT IT READS IS OF BULK AT MOST 1048576: true; the input reads as it did. -/
def fnIsPlainUptoRow : OpenClaim := { program := "ytdebkeicdfljlaa", sum := "91fe3b801cd5d8a98aa4945044e8b00988f4aa6d8722cf7610e488e9c138c3a1", func := "loop.example/lostshares/laws.FnIsPlain", spec := "fnIsPlain", unfollowed := true, recurses := true, apart := false, narrowed := true }
def FnIsPlainUptoSaid : Prop := fnIsPlainUptoRow.holds Try.pinned (OpenSpec.upto fnIsPlainSpec)

end Rows
end Go.Proofs.Ytdebkeicdfljlaa
