/-
  No cell of these rows narrows 'for every input' (looked for: loops, veiled, ifaces, maps, wideKeys, modest, calm, conditions, laid).
  DERIVED. THE GIVEN ROWS OF THIS SEAT. 12 by the template 'for every input the law returns true; each argument reads behind the call as it read before'; 0 by the template 'total and deterministic' (their statements: YtgpmkbenjlhfhaaTotals.lean).
  GIVEN WITH THE SEED: the statements are not yours to turn. If you find one false, say at which input.
  Laid BY PROGRAM, IN A SANDBOX (cutbox-rows.mjs): the forced cells as the released guide's own fill.sh prints them over the translation 03fb71f5ba4a2ec4… (all of the seat's roots in one cut). By AI agents, Wed Nov 11 2026. No macro, syntax, notation, axiom, sorry.
-/
import Derived.Test.YtgpmkbenjlhfhaaChecked
import GoSem.Claim
import GoSem.ClaimJoined
import GoSem.ClaimMapViews
import Derived.JoinedTies
import Derived.KernelRfl
namespace Go.Proofs.Ytgpmkbenjlhfhaa
/- THE CELL 'sum', in the pinned program and in every row, IS THE sha256 OF THE DUMP (.gsa) THAT YtgpmkbenjlhfhaaProg.lean LOADS. Nothing in Lean hashes anything: it is a label: what it is worth is what the hold of that sum in a sandbox is worth. -/
noncomputable def Try.pinned : Pinned := { name := "ytgpmkbenjlhfhaa", sum := "03fb71f5ba4a2ec486a0a0534f335b6b95aa43bab04c8bbe01fdf1995825d773", checked := Try.checked }
namespace Rows
def none {H : Type} : Left H := { results := [], args := [] }

/-- 'laws.FnIsPlain': WHATEVER THE INPUT: true; the input reads as it did. -/
def fnIsPlainSpec : ChangeSpec := { name := "fnIsPlain", fn := fun _ => fun
  | [d] => { results := [.lit (.bool true)], args := [d] }
  | _ => none }
def fnIsPlainRow : OpenClaim := { program := "ytgpmkbenjlhfhaa", sum := "03fb71f5ba4a2ec486a0a0534f335b6b95aa43bab04c8bbe01fdf1995825d773", func := "loop.example/lostshares/laws.FnIsPlain", spec := "fnIsPlain", unfollowed := true, recurses := true, apart := false }
def FnIsPlainSaid : Prop := fnIsPlainRow.holds Try.pinned (OpenSpec.ofChange fnIsPlainSpec)

/-- ITS FALSE NEIGHBOUR: 'it returns false'. Refute it at one input. -/
def fnIsPlainWrong : ChangeSpec := { name := "fnIsPlain", fn := fun _ => fun
  | [d] => { results := [.lit (.bool false)], args := [d] }
  | _ => none }
def FnIsPlainWrongFalsely : Prop := fnIsPlainRow.holds Try.pinned (OpenSpec.ofChange fnIsPlainWrong)

/-- 'laws.FnPlainOf': WHATEVER THE INPUT: true; the input reads as it did. -/
def fnPlainOfSpec : ChangeSpec := { name := "fnPlainOf", fn := fun _ => fun
  | [d] => { results := [.lit (.bool true)], args := [d] }
  | _ => none }
def fnPlainOfRow : OpenClaim := { program := "ytgpmkbenjlhfhaa", sum := "03fb71f5ba4a2ec486a0a0534f335b6b95aa43bab04c8bbe01fdf1995825d773", func := "loop.example/lostshares/laws.FnPlainOf", spec := "fnPlainOf", unfollowed := true, recurses := true, apart := false }
def FnPlainOfSaid : Prop := fnPlainOfRow.holds Try.pinned (OpenSpec.ofChange fnPlainOfSpec)

/-- ITS FALSE NEIGHBOUR: 'it returns false'. Refute it at one input. -/
def fnPlainOfWrong : ChangeSpec := { name := "fnPlainOf", fn := fun _ => fun
  | [d] => { results := [.lit (.bool false)], args := [d] }
  | _ => none }
def FnPlainOfWrongFalsely : Prop := fnPlainOfRow.holds Try.pinned (OpenSpec.ofChange fnPlainOfWrong)

/-- 'laws.FnEncodeWord': WHATEVER THE INPUT: true; the input reads as it did. -/
def fnEncodeWordSpec : ChangeSpec := { name := "fnEncodeWord", fn := fun _ => fun
  | [d] => { results := [.lit (.bool true)], args := [d] }
  | _ => none }
def fnEncodeWordRow : OpenClaim := { program := "ytgpmkbenjlhfhaa", sum := "03fb71f5ba4a2ec486a0a0534f335b6b95aa43bab04c8bbe01fdf1995825d773", func := "loop.example/lostshares/laws.FnEncodeWord", spec := "fnEncodeWord", unfollowed := true, recurses := true, apart := false }
def FnEncodeWordSaid : Prop := fnEncodeWordRow.holds Try.pinned (OpenSpec.ofChange fnEncodeWordSpec)

/-- ITS FALSE NEIGHBOUR: 'it returns false'. Refute it at one input. -/
def fnEncodeWordWrong : ChangeSpec := { name := "fnEncodeWord", fn := fun _ => fun
  | [d] => { results := [.lit (.bool false)], args := [d] }
  | _ => none }
def FnEncodeWordWrongFalsely : Prop := fnEncodeWordRow.holds Try.pinned (OpenSpec.ofChange fnEncodeWordWrong)

/-- 'laws.FnDualOf': WHATEVER THE INPUT: true; the input reads as it did. -/
def fnDualOfSpec : ChangeSpec := { name := "fnDualOf", fn := fun _ => fun
  | [d] => { results := [.lit (.bool true)], args := [d] }
  | _ => none }
def fnDualOfRow : OpenClaim := { program := "ytgpmkbenjlhfhaa", sum := "03fb71f5ba4a2ec486a0a0534f335b6b95aa43bab04c8bbe01fdf1995825d773", func := "loop.example/lostshares/laws.FnDualOf", spec := "fnDualOf", unfollowed := true, recurses := true, apart := false }
def FnDualOfSaid : Prop := fnDualOfRow.holds Try.pinned (OpenSpec.ofChange fnDualOfSpec)

/-- ITS FALSE NEIGHBOUR: 'it returns false'. Refute it at one input. -/
def fnDualOfWrong : ChangeSpec := { name := "fnDualOf", fn := fun _ => fun
  | [d] => { results := [.lit (.bool false)], args := [d] }
  | _ => none }
def FnDualOfWrongFalsely : Prop := fnDualOfRow.holds Try.pinned (OpenSpec.ofChange fnDualOfWrong)

/-- 'laws.FnIsMendable': WHATEVER THE INPUT: true; the input reads as it did. -/
def fnIsMendableSpec : ChangeSpec := { name := "fnIsMendable", fn := fun _ => fun
  | [d] => { results := [.lit (.bool true)], args := [d] }
  | _ => none }
def fnIsMendableRow : OpenClaim := { program := "ytgpmkbenjlhfhaa", sum := "03fb71f5ba4a2ec486a0a0534f335b6b95aa43bab04c8bbe01fdf1995825d773", func := "loop.example/lostshares/laws.FnIsMendable", spec := "fnIsMendable", unfollowed := true, recurses := true, apart := false }
def FnIsMendableSaid : Prop := fnIsMendableRow.holds Try.pinned (OpenSpec.ofChange fnIsMendableSpec)

/-- ITS FALSE NEIGHBOUR: 'it returns false'. Refute it at one input. -/
def fnIsMendableWrong : ChangeSpec := { name := "fnIsMendable", fn := fun _ => fun
  | [d] => { results := [.lit (.bool false)], args := [d] }
  | _ => none }
def FnIsMendableWrongFalsely : Prop := fnIsMendableRow.holds Try.pinned (OpenSpec.ofChange fnIsMendableWrong)

/-- 'laws.FnDistanceOf': WHATEVER THE INPUT: true; the input reads as it did. -/
def fnDistanceOfSpec : ChangeSpec := { name := "fnDistanceOf", fn := fun _ => fun
  | [d] => { results := [.lit (.bool true)], args := [d] }
  | _ => none }
def fnDistanceOfRow : OpenClaim := { program := "ytgpmkbenjlhfhaa", sum := "03fb71f5ba4a2ec486a0a0534f335b6b95aa43bab04c8bbe01fdf1995825d773", func := "loop.example/lostshares/laws.FnDistanceOf", spec := "fnDistanceOf", unfollowed := true, recurses := true, apart := false }
def FnDistanceOfSaid : Prop := fnDistanceOfRow.holds Try.pinned (OpenSpec.ofChange fnDistanceOfSpec)

/-- ITS FALSE NEIGHBOUR: 'it returns false'. Refute it at one input. -/
def fnDistanceOfWrong : ChangeSpec := { name := "fnDistanceOf", fn := fun _ => fun
  | [d] => { results := [.lit (.bool false)], args := [d] }
  | _ => none }
def FnDistanceOfWrongFalsely : Prop := fnDistanceOfRow.holds Try.pinned (OpenSpec.ofChange fnDistanceOfWrong)

/-- 'laws.FnPeelOf': WHATEVER THE INPUT: true; the input reads as it did. -/
def fnPeelOfSpec : ChangeSpec := { name := "fnPeelOf", fn := fun _ => fun
  | [d] => { results := [.lit (.bool true)], args := [d] }
  | _ => none }
def fnPeelOfRow : OpenClaim := { program := "ytgpmkbenjlhfhaa", sum := "03fb71f5ba4a2ec486a0a0534f335b6b95aa43bab04c8bbe01fdf1995825d773", func := "loop.example/lostshares/laws.FnPeelOf", spec := "fnPeelOf", unfollowed := true, recurses := true, apart := false }
def FnPeelOfSaid : Prop := fnPeelOfRow.holds Try.pinned (OpenSpec.ofChange fnPeelOfSpec)

/-- ITS FALSE NEIGHBOUR: 'it returns false'. Refute it at one input. -/
def fnPeelOfWrong : ChangeSpec := { name := "fnPeelOf", fn := fun _ => fun
  | [d] => { results := [.lit (.bool false)], args := [d] }
  | _ => none }
def FnPeelOfWrongFalsely : Prop := fnPeelOfRow.holds Try.pinned (OpenSpec.ofChange fnPeelOfWrong)

/-- 'laws.FnStopsOf': WHATEVER THE INPUT: true; the input reads as it did. -/
def fnStopsOfSpec : ChangeSpec := { name := "fnStopsOf", fn := fun _ => fun
  | [d] => { results := [.lit (.bool true)], args := [d] }
  | _ => none }
def fnStopsOfRow : OpenClaim := { program := "ytgpmkbenjlhfhaa", sum := "03fb71f5ba4a2ec486a0a0534f335b6b95aa43bab04c8bbe01fdf1995825d773", func := "loop.example/lostshares/laws.FnStopsOf", spec := "fnStopsOf", unfollowed := true, recurses := true, apart := false }
def FnStopsOfSaid : Prop := fnStopsOfRow.holds Try.pinned (OpenSpec.ofChange fnStopsOfSpec)

/-- ITS FALSE NEIGHBOUR: 'it returns false'. Refute it at one input. -/
def fnStopsOfWrong : ChangeSpec := { name := "fnStopsOf", fn := fun _ => fun
  | [d] => { results := [.lit (.bool false)], args := [d] }
  | _ => none }
def FnStopsOfWrongFalsely : Prop := fnStopsOfRow.holds Try.pinned (OpenSpec.ofChange fnStopsOfWrong)

/-- 'laws.FnHelpersOf': WHATEVER THE INPUT: true; the input reads as it did. -/
def fnHelpersOfSpec : ChangeSpec := { name := "fnHelpersOf", fn := fun _ => fun
  | [d] => { results := [.lit (.bool true)], args := [d] }
  | _ => none }
def fnHelpersOfRow : OpenClaim := { program := "ytgpmkbenjlhfhaa", sum := "03fb71f5ba4a2ec486a0a0534f335b6b95aa43bab04c8bbe01fdf1995825d773", func := "loop.example/lostshares/laws.FnHelpersOf", spec := "fnHelpersOf", unfollowed := true, recurses := true, apart := false }
def FnHelpersOfSaid : Prop := fnHelpersOfRow.holds Try.pinned (OpenSpec.ofChange fnHelpersOfSpec)

/-- ITS FALSE NEIGHBOUR: 'it returns false'. Refute it at one input. -/
def fnHelpersOfWrong : ChangeSpec := { name := "fnHelpersOf", fn := fun _ => fun
  | [d] => { results := [.lit (.bool false)], args := [d] }
  | _ => none }
def FnHelpersOfWrongFalsely : Prop := fnHelpersOfRow.holds Try.pinned (OpenSpec.ofChange fnHelpersOfWrong)

/-- 'laws.FnReadsOf': WHATEVER THE INPUT: true; the input reads as it did. -/
def fnReadsOfSpec : ChangeSpec := { name := "fnReadsOf", fn := fun _ => fun
  | [d] => { results := [.lit (.bool true)], args := [d] }
  | _ => none }
def fnReadsOfRow : OpenClaim := { program := "ytgpmkbenjlhfhaa", sum := "03fb71f5ba4a2ec486a0a0534f335b6b95aa43bab04c8bbe01fdf1995825d773", func := "loop.example/lostshares/laws.FnReadsOf", spec := "fnReadsOf", unfollowed := true, recurses := true, apart := false }
def FnReadsOfSaid : Prop := fnReadsOfRow.holds Try.pinned (OpenSpec.ofChange fnReadsOfSpec)

/-- ITS FALSE NEIGHBOUR: 'it returns false'. Refute it at one input. -/
def fnReadsOfWrong : ChangeSpec := { name := "fnReadsOf", fn := fun _ => fun
  | [d] => { results := [.lit (.bool false)], args := [d] }
  | _ => none }
def FnReadsOfWrongFalsely : Prop := fnReadsOfRow.holds Try.pinned (OpenSpec.ofChange fnReadsOfWrong)

/-- 'laws.FnCountMends': WHATEVER THE INPUT: true; the input reads as it did. -/
def fnCountMendsSpec : ChangeSpec := { name := "fnCountMends", fn := fun _ => fun
  | [d] => { results := [.lit (.bool true)], args := [d] }
  | _ => none }
def fnCountMendsRow : OpenClaim := { program := "ytgpmkbenjlhfhaa", sum := "03fb71f5ba4a2ec486a0a0534f335b6b95aa43bab04c8bbe01fdf1995825d773", func := "loop.example/lostshares/laws.FnCountMends", spec := "fnCountMends", unfollowed := true, recurses := true, apart := false }
def FnCountMendsSaid : Prop := fnCountMendsRow.holds Try.pinned (OpenSpec.ofChange fnCountMendsSpec)

/-- ITS FALSE NEIGHBOUR: 'it returns false'. Refute it at one input. -/
def fnCountMendsWrong : ChangeSpec := { name := "fnCountMends", fn := fun _ => fun
  | [d] => { results := [.lit (.bool false)], args := [d] }
  | _ => none }
def FnCountMendsWrongFalsely : Prop := fnCountMendsRow.holds Try.pinned (OpenSpec.ofChange fnCountMendsWrong)

/-- 'laws.FnMendWord': WHATEVER THE INPUT: true; the input reads as it did. -/
def fnMendWordSpec : ChangeSpec := { name := "fnMendWord", fn := fun _ => fun
  | [d] => { results := [.lit (.bool true)], args := [d] }
  | _ => none }
def fnMendWordRow : OpenClaim := { program := "ytgpmkbenjlhfhaa", sum := "03fb71f5ba4a2ec486a0a0534f335b6b95aa43bab04c8bbe01fdf1995825d773", func := "loop.example/lostshares/laws.FnMendWord", spec := "fnMendWord", unfollowed := true, recurses := true, apart := false }
def FnMendWordSaid : Prop := fnMendWordRow.holds Try.pinned (OpenSpec.ofChange fnMendWordSpec)

/-- ITS FALSE NEIGHBOUR: 'it returns false'. Refute it at one input. -/
def fnMendWordWrong : ChangeSpec := { name := "fnMendWord", fn := fun _ => fun
  | [d] => { results := [.lit (.bool false)], args := [d] }
  | _ => none }
def FnMendWordWrongFalsely : Prop := fnMendWordRow.holds Try.pinned (OpenSpec.ofChange fnMendWordWrong)

/- THE SECOND FORM. 'bulk': how many values and letters a reading holds, each counted each time it is reached (what is shared counts as often as it is met; a slice's spare places count too). A statement '..UptoSaid' is the law's where the arguments, and the package variables that the reading takes, are together of bulk at most 1048576: NARROWER than '..Said'. Prove '..Said' where nothing that the law and all that it calls make is longer than what came in: it says more and counts as full. Else prove '..UptoSaid'. A law counts once. -/
mutual
def uptoBulk {H : Type} : DataW H → Nat
  | .lit (.string bytes) => bytes.length + 1
  | .lit _ => 1
  | .nil => 1
  | .ptr d => uptoBulk d + 1
  | .slice elems spare => uptoBulkAll elems + uptoBulkAll spare + 1
  | .agg parts => uptoBulkAll parts + 1
  | .iface _ d => uptoBulk d + 1
  | .map entries => uptoBulkEntries entries + 1
  | .held _ => 1
def uptoBulkAll {H : Type} : List (DataW H) → Nat
  | [] => 0
  | d :: r => uptoBulk d + uptoBulkAll r
def uptoBulkEntries {H : Type} : List (Lit × DataW H) → Nat
  | [] => 0
  | x :: r => uptoBulkEntry x + uptoBulkEntries r
def uptoBulkEntry {H : Type} : Lit × DataW H → Nat
  | (.string bytes, d) => bytes.length + uptoBulk d + 1
  | (_, d) => uptoBulk d + 1
 end
def uptoSmall : (H : Type) → List (DataW H) → Bool := fun _ ds => decide (uptoBulkAll ds ≤ 1048576)
def OpenSpec.upto (s : _root_.Go.ChangeSpec) : _root_.Go.OpenSpec := { _root_.Go.OpenSpec.ofChange s with cond := some uptoSmall }

/-- 'laws.FnIsPlain', WHERE WHAT IT READS IS OF BULK AT MOST 1048576: true; the input reads as it did. -/
def fnIsPlainUptoRow : OpenClaim := { program := "ytgpmkbenjlhfhaa", sum := "03fb71f5ba4a2ec486a0a0534f335b6b95aa43bab04c8bbe01fdf1995825d773", func := "loop.example/lostshares/laws.FnIsPlain", spec := "fnIsPlain", unfollowed := true, recurses := true, apart := false, narrowed := true }
def FnIsPlainUptoSaid : Prop := fnIsPlainUptoRow.holds Try.pinned (OpenSpec.upto fnIsPlainSpec)

/-- 'laws.FnPlainOf', WHERE WHAT IT READS IS OF BULK AT MOST 1048576: true; the input reads as it did. -/
def fnPlainOfUptoRow : OpenClaim := { program := "ytgpmkbenjlhfhaa", sum := "03fb71f5ba4a2ec486a0a0534f335b6b95aa43bab04c8bbe01fdf1995825d773", func := "loop.example/lostshares/laws.FnPlainOf", spec := "fnPlainOf", unfollowed := true, recurses := true, apart := false, narrowed := true }
def FnPlainOfUptoSaid : Prop := fnPlainOfUptoRow.holds Try.pinned (OpenSpec.upto fnPlainOfSpec)

/-- 'laws.FnEncodeWord', WHERE WHAT IT READS IS OF BULK AT MOST 1048576: true; the input reads as it did. -/
def fnEncodeWordUptoRow : OpenClaim := { program := "ytgpmkbenjlhfhaa", sum := "03fb71f5ba4a2ec486a0a0534f335b6b95aa43bab04c8bbe01fdf1995825d773", func := "loop.example/lostshares/laws.FnEncodeWord", spec := "fnEncodeWord", unfollowed := true, recurses := true, apart := false, narrowed := true }
def FnEncodeWordUptoSaid : Prop := fnEncodeWordUptoRow.holds Try.pinned (OpenSpec.upto fnEncodeWordSpec)

/-- 'laws.FnDualOf', WHERE WHAT IT READS IS OF BULK AT MOST 1048576: true; the input reads as it did. -/
def fnDualOfUptoRow : OpenClaim := { program := "ytgpmkbenjlhfhaa", sum := "03fb71f5ba4a2ec486a0a0534f335b6b95aa43bab04c8bbe01fdf1995825d773", func := "loop.example/lostshares/laws.FnDualOf", spec := "fnDualOf", unfollowed := true, recurses := true, apart := false, narrowed := true }
def FnDualOfUptoSaid : Prop := fnDualOfUptoRow.holds Try.pinned (OpenSpec.upto fnDualOfSpec)

/-- 'laws.FnIsMendable', WHERE WHAT IT READS IS OF BULK AT MOST 1048576: true; the input reads as it did. -/
def fnIsMendableUptoRow : OpenClaim := { program := "ytgpmkbenjlhfhaa", sum := "03fb71f5ba4a2ec486a0a0534f335b6b95aa43bab04c8bbe01fdf1995825d773", func := "loop.example/lostshares/laws.FnIsMendable", spec := "fnIsMendable", unfollowed := true, recurses := true, apart := false, narrowed := true }
def FnIsMendableUptoSaid : Prop := fnIsMendableUptoRow.holds Try.pinned (OpenSpec.upto fnIsMendableSpec)

/-- 'laws.FnDistanceOf', WHERE WHAT IT READS IS OF BULK AT MOST 1048576: true; the input reads as it did. -/
def fnDistanceOfUptoRow : OpenClaim := { program := "ytgpmkbenjlhfhaa", sum := "03fb71f5ba4a2ec486a0a0534f335b6b95aa43bab04c8bbe01fdf1995825d773", func := "loop.example/lostshares/laws.FnDistanceOf", spec := "fnDistanceOf", unfollowed := true, recurses := true, apart := false, narrowed := true }
def FnDistanceOfUptoSaid : Prop := fnDistanceOfUptoRow.holds Try.pinned (OpenSpec.upto fnDistanceOfSpec)

/-- 'laws.FnPeelOf', WHERE WHAT IT READS IS OF BULK AT MOST 1048576: true; the input reads as it did. -/
def fnPeelOfUptoRow : OpenClaim := { program := "ytgpmkbenjlhfhaa", sum := "03fb71f5ba4a2ec486a0a0534f335b6b95aa43bab04c8bbe01fdf1995825d773", func := "loop.example/lostshares/laws.FnPeelOf", spec := "fnPeelOf", unfollowed := true, recurses := true, apart := false, narrowed := true }
def FnPeelOfUptoSaid : Prop := fnPeelOfUptoRow.holds Try.pinned (OpenSpec.upto fnPeelOfSpec)

/-- 'laws.FnStopsOf', WHERE WHAT IT READS IS OF BULK AT MOST 1048576: true; the input reads as it did. -/
def fnStopsOfUptoRow : OpenClaim := { program := "ytgpmkbenjlhfhaa", sum := "03fb71f5ba4a2ec486a0a0534f335b6b95aa43bab04c8bbe01fdf1995825d773", func := "loop.example/lostshares/laws.FnStopsOf", spec := "fnStopsOf", unfollowed := true, recurses := true, apart := false, narrowed := true }
def FnStopsOfUptoSaid : Prop := fnStopsOfUptoRow.holds Try.pinned (OpenSpec.upto fnStopsOfSpec)

/-- 'laws.FnHelpersOf', WHERE WHAT IT READS IS OF BULK AT MOST 1048576: true; the input reads as it did. -/
def fnHelpersOfUptoRow : OpenClaim := { program := "ytgpmkbenjlhfhaa", sum := "03fb71f5ba4a2ec486a0a0534f335b6b95aa43bab04c8bbe01fdf1995825d773", func := "loop.example/lostshares/laws.FnHelpersOf", spec := "fnHelpersOf", unfollowed := true, recurses := true, apart := false, narrowed := true }
def FnHelpersOfUptoSaid : Prop := fnHelpersOfUptoRow.holds Try.pinned (OpenSpec.upto fnHelpersOfSpec)

/-- 'laws.FnReadsOf', WHERE WHAT IT READS IS OF BULK AT MOST 1048576: true; the input reads as it did. -/
def fnReadsOfUptoRow : OpenClaim := { program := "ytgpmkbenjlhfhaa", sum := "03fb71f5ba4a2ec486a0a0534f335b6b95aa43bab04c8bbe01fdf1995825d773", func := "loop.example/lostshares/laws.FnReadsOf", spec := "fnReadsOf", unfollowed := true, recurses := true, apart := false, narrowed := true }
def FnReadsOfUptoSaid : Prop := fnReadsOfUptoRow.holds Try.pinned (OpenSpec.upto fnReadsOfSpec)

/-- 'laws.FnCountMends', WHERE WHAT IT READS IS OF BULK AT MOST 1048576: true; the input reads as it did. -/
def fnCountMendsUptoRow : OpenClaim := { program := "ytgpmkbenjlhfhaa", sum := "03fb71f5ba4a2ec486a0a0534f335b6b95aa43bab04c8bbe01fdf1995825d773", func := "loop.example/lostshares/laws.FnCountMends", spec := "fnCountMends", unfollowed := true, recurses := true, apart := false, narrowed := true }
def FnCountMendsUptoSaid : Prop := fnCountMendsUptoRow.holds Try.pinned (OpenSpec.upto fnCountMendsSpec)

/-- 'laws.FnMendWord', WHERE WHAT IT READS IS OF BULK AT MOST 1048576: true; the input reads as it did. -/
def fnMendWordUptoRow : OpenClaim := { program := "ytgpmkbenjlhfhaa", sum := "03fb71f5ba4a2ec486a0a0534f335b6b95aa43bab04c8bbe01fdf1995825d773", func := "loop.example/lostshares/laws.FnMendWord", spec := "fnMendWord", unfollowed := true, recurses := true, apart := false, narrowed := true }
def FnMendWordUptoSaid : Prop := fnMendWordUptoRow.holds Try.pinned (OpenSpec.upto fnMendWordSpec)

end Rows
end Go.Proofs.Ytgpmkbenjlhfhaa
