/-
  No cell of these rows narrows 'for every input' (looked for: loops, veiled, ifaces, maps, wideKeys, modest, calm, conditions, laid).
  DERIVED. THE GIVEN ROWS OF THIS SEAT. 12 by the template 'for every input the law returns true; each argument reads behind the call as it read before'; 0 by the template 'total and deterministic' (their statements: YtjnfnhcbplbceaaTotals.lean).
  GIVEN WITH THE SEED: the statements are not yours to turn. If you find one false, say at which input.
  Laid BY PROGRAM, IN A SANDBOX (cutbox-rows.mjs): the forced cells as the released guide's own fill.sh prints them over the translation eda0f54e57bdccac… (all of the seat's roots in one cut). By AI agents, Wed Nov 11 2026. No macro, syntax, notation, axiom, sorry.
-/
import Derived.Test.YtjnfnhcbplbceaaChecked
import GoSem.Claim
import GoSem.ClaimJoined
import GoSem.ClaimMapViews
import Derived.JoinedTies
import Derived.KernelRfl
namespace Go.Proofs.Ytjnfnhcbplbceaa
/- THE CELL 'sum', in the pinned program and in every row, IS THE sha256 OF THE DUMP (.gsa) THAT YtjnfnhcbplbceaaProg.lean LOADS. Nothing in Lean hashes anything: it is a label: what it is worth is what the hold of that sum in a sandbox is worth. -/
noncomputable def Try.pinned : Pinned := { name := "ytjnfnhcbplbceaa", sum := "eda0f54e57bdccace232c8beb537d01aafc5528d2c5db444c7f0791e923c4440", checked := Try.checked }
namespace Rows
def none {H : Type} : Left H := { results := [], args := [] }

/-- 'laws.FnExactDistanceOf': WHATEVER THE INPUT: true; the input reads as it did. -/
def fnExactDistanceOfSpec : ChangeSpec := { name := "fnExactDistanceOf", fn := fun _ => fun
  | [d] => { results := [.lit (.bool true)], args := [d] }
  | _ => none }
def fnExactDistanceOfRow : OpenClaim := { program := "ytjnfnhcbplbceaa", sum := "eda0f54e57bdccace232c8beb537d01aafc5528d2c5db444c7f0791e923c4440", func := "loop.example/lostshares/laws.FnExactDistanceOf", spec := "fnExactDistanceOf", unfollowed := true, recurses := true, apart := false }
def FnExactDistanceOfSaid : Prop := fnExactDistanceOfRow.holds Try.pinned (OpenSpec.ofChange fnExactDistanceOfSpec)

/-- ITS FALSE NEIGHBOUR: 'it returns false'. Refute it at one input. -/
def fnExactDistanceOfWrong : ChangeSpec := { name := "fnExactDistanceOf", fn := fun _ => fun
  | [d] => { results := [.lit (.bool false)], args := [d] }
  | _ => none }
def FnExactDistanceOfWrongFalsely : Prop := fnExactDistanceOfRow.holds Try.pinned (OpenSpec.ofChange fnExactDistanceOfWrong)

/-- 'laws.FnExactCountMends': WHATEVER THE INPUT: true; the input reads as it did. -/
def fnExactCountMendsSpec : ChangeSpec := { name := "fnExactCountMends", fn := fun _ => fun
  | [d1, d2] => { results := [.lit (.bool true)], args := [d1, d2] }
  | _ => none }
def fnExactCountMendsRow : OpenClaim := { program := "ytjnfnhcbplbceaa", sum := "eda0f54e57bdccace232c8beb537d01aafc5528d2c5db444c7f0791e923c4440", func := "loop.example/lostshares/laws.FnExactCountMends", spec := "fnExactCountMends", unfollowed := true, recurses := true, apart := false }
def FnExactCountMendsSaid : Prop := fnExactCountMendsRow.holds Try.pinned (OpenSpec.ofChange fnExactCountMendsSpec)

/-- ITS FALSE NEIGHBOUR: 'it returns false'. Refute it at one input. -/
def fnExactCountMendsWrong : ChangeSpec := { name := "fnExactCountMends", fn := fun _ => fun
  | [d1, d2] => { results := [.lit (.bool false)], args := [d1, d2] }
  | _ => none }
def FnExactCountMendsWrongFalsely : Prop := fnExactCountMendsRow.holds Try.pinned (OpenSpec.ofChange fnExactCountMendsWrong)

/-- 'laws.FnExactWeightsOf': WHATEVER THE INPUT: true; the input reads as it did. -/
def fnExactWeightsOfSpec : ChangeSpec := { name := "fnExactWeightsOf", fn := fun _ => fun
  | [d] => { results := [.lit (.bool true)], args := [d] }
  | _ => none }
def fnExactWeightsOfRow : OpenClaim := { program := "ytjnfnhcbplbceaa", sum := "eda0f54e57bdccace232c8beb537d01aafc5528d2c5db444c7f0791e923c4440", func := "loop.example/lostshares/laws.FnExactWeightsOf", spec := "fnExactWeightsOf", unfollowed := true, recurses := true, apart := false }
def FnExactWeightsOfSaid : Prop := fnExactWeightsOfRow.holds Try.pinned (OpenSpec.ofChange fnExactWeightsOfSpec)

/-- ITS FALSE NEIGHBOUR: 'it returns false'. Refute it at one input. -/
def fnExactWeightsOfWrong : ChangeSpec := { name := "fnExactWeightsOf", fn := fun _ => fun
  | [d] => { results := [.lit (.bool false)], args := [d] }
  | _ => none }
def FnExactWeightsOfWrongFalsely : Prop := fnExactWeightsOfRow.holds Try.pinned (OpenSpec.ofChange fnExactWeightsOfWrong)

/-- 'laws.FnExactMendWord': WHATEVER THE INPUT: true; the input reads as it did. -/
def fnExactMendWordSpec : ChangeSpec := { name := "fnExactMendWord", fn := fun _ => fun
  | [d1, d2] => { results := [.lit (.bool true)], args := [d1, d2] }
  | _ => none }
def fnExactMendWordRow : OpenClaim := { program := "ytjnfnhcbplbceaa", sum := "eda0f54e57bdccace232c8beb537d01aafc5528d2c5db444c7f0791e923c4440", func := "loop.example/lostshares/laws.FnExactMendWord", spec := "fnExactMendWord", unfollowed := true, recurses := true, apart := false }
def FnExactMendWordSaid : Prop := fnExactMendWordRow.holds Try.pinned (OpenSpec.ofChange fnExactMendWordSpec)

/-- ITS FALSE NEIGHBOUR: 'it returns false'. Refute it at one input. -/
def fnExactMendWordWrong : ChangeSpec := { name := "fnExactMendWord", fn := fun _ => fun
  | [d1, d2] => { results := [.lit (.bool false)], args := [d1, d2] }
  | _ => none }
def FnExactMendWordWrongFalsely : Prop := fnExactMendWordRow.holds Try.pinned (OpenSpec.ofChange fnExactMendWordWrong)

/-- 'laws.FnExactReadsOf': WHATEVER THE INPUT: true; the input reads as it did. -/
def fnExactReadsOfSpec : ChangeSpec := { name := "fnExactReadsOf", fn := fun _ => fun
  | [d1, d2] => { results := [.lit (.bool true)], args := [d1, d2] }
  | _ => none }
def fnExactReadsOfRow : OpenClaim := { program := "ytjnfnhcbplbceaa", sum := "eda0f54e57bdccace232c8beb537d01aafc5528d2c5db444c7f0791e923c4440", func := "loop.example/lostshares/laws.FnExactReadsOf", spec := "fnExactReadsOf", unfollowed := true, recurses := true, apart := false }
def FnExactReadsOfSaid : Prop := fnExactReadsOfRow.holds Try.pinned (OpenSpec.ofChange fnExactReadsOfSpec)

/-- ITS FALSE NEIGHBOUR: 'it returns false'. Refute it at one input. -/
def fnExactReadsOfWrong : ChangeSpec := { name := "fnExactReadsOf", fn := fun _ => fun
  | [d1, d2] => { results := [.lit (.bool false)], args := [d1, d2] }
  | _ => none }
def FnExactReadsOfWrongFalsely : Prop := fnExactReadsOfRow.holds Try.pinned (OpenSpec.ofChange fnExactReadsOfWrong)

/-- 'laws.FnExactGroupsOf': WHATEVER THE INPUT: true; the input reads as it did. -/
def fnExactGroupsOfSpec : ChangeSpec := { name := "fnExactGroupsOf", fn := fun _ => fun
  | [d] => { results := [.lit (.bool true)], args := [d] }
  | _ => none }
def fnExactGroupsOfRow : OpenClaim := { program := "ytjnfnhcbplbceaa", sum := "eda0f54e57bdccace232c8beb537d01aafc5528d2c5db444c7f0791e923c4440", func := "loop.example/lostshares/laws.FnExactGroupsOf", spec := "fnExactGroupsOf", unfollowed := true, recurses := true, apart := false }
def FnExactGroupsOfSaid : Prop := fnExactGroupsOfRow.holds Try.pinned (OpenSpec.ofChange fnExactGroupsOfSpec)

/-- ITS FALSE NEIGHBOUR: 'it returns false'. Refute it at one input. -/
def fnExactGroupsOfWrong : ChangeSpec := { name := "fnExactGroupsOf", fn := fun _ => fun
  | [d] => { results := [.lit (.bool false)], args := [d] }
  | _ => none }
def FnExactGroupsOfWrongFalsely : Prop := fnExactGroupsOfRow.holds Try.pinned (OpenSpec.ofChange fnExactGroupsOfWrong)

/-- 'laws.FnExactTurnedGroups': WHATEVER THE INPUT: true; the input reads as it did. -/
def fnExactTurnedGroupsSpec : ChangeSpec := { name := "fnExactTurnedGroups", fn := fun _ => fun
  | [d] => { results := [.lit (.bool true)], args := [d] }
  | _ => none }
def fnExactTurnedGroupsRow : OpenClaim := { program := "ytjnfnhcbplbceaa", sum := "eda0f54e57bdccace232c8beb537d01aafc5528d2c5db444c7f0791e923c4440", func := "loop.example/lostshares/laws.FnExactTurnedGroups", spec := "fnExactTurnedGroups", unfollowed := true, recurses := true, apart := false }
def FnExactTurnedGroupsSaid : Prop := fnExactTurnedGroupsRow.holds Try.pinned (OpenSpec.ofChange fnExactTurnedGroupsSpec)

/-- ITS FALSE NEIGHBOUR: 'it returns false'. Refute it at one input. -/
def fnExactTurnedGroupsWrong : ChangeSpec := { name := "fnExactTurnedGroups", fn := fun _ => fun
  | [d] => { results := [.lit (.bool false)], args := [d] }
  | _ => none }
def FnExactTurnedGroupsWrongFalsely : Prop := fnExactTurnedGroupsRow.holds Try.pinned (OpenSpec.ofChange fnExactTurnedGroupsWrong)

/-- 'laws.FnExactLeastSends': WHATEVER THE INPUT: true; the input reads as it did. -/
def fnExactLeastSendsSpec : ChangeSpec := { name := "fnExactLeastSends", fn := fun _ => fun
  | [d] => { results := [.lit (.bool true)], args := [d] }
  | _ => none }
def fnExactLeastSendsRow : OpenClaim := { program := "ytjnfnhcbplbceaa", sum := "eda0f54e57bdccace232c8beb537d01aafc5528d2c5db444c7f0791e923c4440", func := "loop.example/lostshares/laws.FnExactLeastSends", spec := "fnExactLeastSends", unfollowed := true, recurses := true, apart := false }
def FnExactLeastSendsSaid : Prop := fnExactLeastSendsRow.holds Try.pinned (OpenSpec.ofChange fnExactLeastSendsSpec)

/-- ITS FALSE NEIGHBOUR: 'it returns false'. Refute it at one input. -/
def fnExactLeastSendsWrong : ChangeSpec := { name := "fnExactLeastSends", fn := fun _ => fun
  | [d] => { results := [.lit (.bool false)], args := [d] }
  | _ => none }
def FnExactLeastSendsWrongFalsely : Prop := fnExactLeastSendsRow.holds Try.pinned (OpenSpec.ofChange fnExactLeastSendsWrong)

/-- 'laws.FnReduced': WHATEVER THE INPUT: true; the input reads as it did. -/
def fnReducedSpec : ChangeSpec := { name := "fnReduced", fn := fun _ => fun
  | [d] => { results := [.lit (.bool true)], args := [d] }
  | _ => none }
def fnReducedRow : OpenClaim := { program := "ytjnfnhcbplbceaa", sum := "eda0f54e57bdccace232c8beb537d01aafc5528d2c5db444c7f0791e923c4440", func := "loop.example/lostshares/laws.FnReduced", spec := "fnReduced", unfollowed := true, recurses := true, apart := false }
def FnReducedSaid : Prop := fnReducedRow.holds Try.pinned (OpenSpec.ofChange fnReducedSpec)

/-- ITS FALSE NEIGHBOUR: 'it returns false'. Refute it at one input. -/
def fnReducedWrong : ChangeSpec := { name := "fnReduced", fn := fun _ => fun
  | [d] => { results := [.lit (.bool false)], args := [d] }
  | _ => none }
def FnReducedWrongFalsely : Prop := fnReducedRow.holds Try.pinned (OpenSpec.ofChange fnReducedWrong)

/-- 'laws.FnRankOf': WHATEVER THE INPUT: true; the input reads as it did. -/
def fnRankOfSpec : ChangeSpec := { name := "fnRankOf", fn := fun _ => fun
  | [d] => { results := [.lit (.bool true)], args := [d] }
  | _ => none }
def fnRankOfRow : OpenClaim := { program := "ytjnfnhcbplbceaa", sum := "eda0f54e57bdccace232c8beb537d01aafc5528d2c5db444c7f0791e923c4440", func := "loop.example/lostshares/laws.FnRankOf", spec := "fnRankOf", unfollowed := true, recurses := true, apart := false }
def FnRankOfSaid : Prop := fnRankOfRow.holds Try.pinned (OpenSpec.ofChange fnRankOfSpec)

/-- ITS FALSE NEIGHBOUR: 'it returns false'. Refute it at one input. -/
def fnRankOfWrong : ChangeSpec := { name := "fnRankOf", fn := fun _ => fun
  | [d] => { results := [.lit (.bool false)], args := [d] }
  | _ => none }
def FnRankOfWrongFalsely : Prop := fnRankOfRow.holds Try.pinned (OpenSpec.ofChange fnRankOfWrong)

/-- 'laws.FnNullsOf': WHATEVER THE INPUT: true; the input reads as it did. -/
def fnNullsOfSpec : ChangeSpec := { name := "fnNullsOf", fn := fun _ => fun
  | [d] => { results := [.lit (.bool true)], args := [d] }
  | _ => none }
def fnNullsOfRow : OpenClaim := { program := "ytjnfnhcbplbceaa", sum := "eda0f54e57bdccace232c8beb537d01aafc5528d2c5db444c7f0791e923c4440", func := "loop.example/lostshares/laws.FnNullsOf", spec := "fnNullsOf", unfollowed := true, recurses := true, apart := false }
def FnNullsOfSaid : Prop := fnNullsOfRow.holds Try.pinned (OpenSpec.ofChange fnNullsOfSpec)

/-- ITS FALSE NEIGHBOUR: 'it returns false'. Refute it at one input. -/
def fnNullsOfWrong : ChangeSpec := { name := "fnNullsOf", fn := fun _ => fun
  | [d] => { results := [.lit (.bool false)], args := [d] }
  | _ => none }
def FnNullsOfWrongFalsely : Prop := fnNullsOfRow.holds Try.pinned (OpenSpec.ofChange fnNullsOfWrong)

/-- 'laws.FnSolveRows': WHATEVER THE INPUT: true; the input reads as it did. -/
def fnSolveRowsSpec : ChangeSpec := { name := "fnSolveRows", fn := fun _ => fun
  | [d] => { results := [.lit (.bool true)], args := [d] }
  | _ => none }
def fnSolveRowsRow : OpenClaim := { program := "ytjnfnhcbplbceaa", sum := "eda0f54e57bdccace232c8beb537d01aafc5528d2c5db444c7f0791e923c4440", func := "loop.example/lostshares/laws.FnSolveRows", spec := "fnSolveRows", unfollowed := true, recurses := true, apart := false }
def FnSolveRowsSaid : Prop := fnSolveRowsRow.holds Try.pinned (OpenSpec.ofChange fnSolveRowsSpec)

/-- ITS FALSE NEIGHBOUR: 'it returns false'. Refute it at one input. -/
def fnSolveRowsWrong : ChangeSpec := { name := "fnSolveRows", fn := fun _ => fun
  | [d] => { results := [.lit (.bool false)], args := [d] }
  | _ => none }
def FnSolveRowsWrongFalsely : Prop := fnSolveRowsRow.holds Try.pinned (OpenSpec.ofChange fnSolveRowsWrong)

/- THE SECOND FORM. 'bulk': how many values and letters a reading holds, each counted each time it is reached (what is shared counts as often as it is met; a slice's spare places count too). A statement '..UptoSaid' is the law's where the arguments, and the package variables that the reading takes, are together of bulk at most 1048576: NARROWER than '..Said'. Prove '..Said' where nothing that the law and all that it calls make is longer than what came in: it says more and counts as full. Else prove '..UptoSaid'. A law counts once. -/
mutual
def uptoBulk {H : Type} : DataW H → Nat
  | .lit (.string bytes) => bytes.length + 1
  | .lit _ => 1
  | .nil => 1
  | .ptr d => uptoBulk d + 1
  | .slice elems spare => uptoBulkAll elems + uptoBulkAll spare + 1
  | .agg parts => uptoBulkAll parts + 1
  | .iface _ d => uptoBulk d + 1
  | .map entries => uptoBulkEntries entries + 1
  | .held _ => 1
def uptoBulkAll {H : Type} : List (DataW H) → Nat
  | [] => 0
  | d :: r => uptoBulk d + uptoBulkAll r
def uptoBulkEntries {H : Type} : List (Lit × DataW H) → Nat
  | [] => 0
  | x :: r => uptoBulkEntry x + uptoBulkEntries r
def uptoBulkEntry {H : Type} : Lit × DataW H → Nat
  | (.string bytes, d) => bytes.length + uptoBulk d + 1
  | (_, d) => uptoBulk d + 1
 end
def uptoSmall : (H : Type) → List (DataW H) → Bool := fun _ ds => decide (uptoBulkAll ds ≤ 1048576)
def OpenSpec.upto (s : _root_.Go.ChangeSpec) : _root_.Go.OpenSpec := { _root_.Go.OpenSpec.ofChange s with cond := some uptoSmall }

/-- 'laws.FnExactDistanceOf', WHERE WHAT IT READS IS OF BULK AT MOST 1048576: true; the input reads as it did. -/
def fnExactDistanceOfUptoRow : OpenClaim := { program := "ytjnfnhcbplbceaa", sum := "eda0f54e57bdccace232c8beb537d01aafc5528d2c5db444c7f0791e923c4440", func := "loop.example/lostshares/laws.FnExactDistanceOf", spec := "fnExactDistanceOf", unfollowed := true, recurses := true, apart := false, narrowed := true }
def FnExactDistanceOfUptoSaid : Prop := fnExactDistanceOfUptoRow.holds Try.pinned (OpenSpec.upto fnExactDistanceOfSpec)

/-- 'laws.FnExactCountMends', WHERE WHAT IT READS IS OF BULK AT MOST 1048576: true; the input reads as it did. -/
def fnExactCountMendsUptoRow : OpenClaim := { program := "ytjnfnhcbplbceaa", sum := "eda0f54e57bdccace232c8beb537d01aafc5528d2c5db444c7f0791e923c4440", func := "loop.example/lostshares/laws.FnExactCountMends", spec := "fnExactCountMends", unfollowed := true, recurses := true, apart := false, narrowed := true }
def FnExactCountMendsUptoSaid : Prop := fnExactCountMendsUptoRow.holds Try.pinned (OpenSpec.upto fnExactCountMendsSpec)

/-- 'laws.FnExactWeightsOf', WHERE WHAT IT READS IS OF BULK AT MOST 1048576: true; the input reads as it did. -/
def fnExactWeightsOfUptoRow : OpenClaim := { program := "ytjnfnhcbplbceaa", sum := "eda0f54e57bdccace232c8beb537d01aafc5528d2c5db444c7f0791e923c4440", func := "loop.example/lostshares/laws.FnExactWeightsOf", spec := "fnExactWeightsOf", unfollowed := true, recurses := true, apart := false, narrowed := true }
def FnExactWeightsOfUptoSaid : Prop := fnExactWeightsOfUptoRow.holds Try.pinned (OpenSpec.upto fnExactWeightsOfSpec)

/-- 'laws.FnExactMendWord', WHERE WHAT IT READS IS OF BULK AT MOST 1048576: true; the input reads as it did. -/
def fnExactMendWordUptoRow : OpenClaim := { program := "ytjnfnhcbplbceaa", sum := "eda0f54e57bdccace232c8beb537d01aafc5528d2c5db444c7f0791e923c4440", func := "loop.example/lostshares/laws.FnExactMendWord", spec := "fnExactMendWord", unfollowed := true, recurses := true, apart := false, narrowed := true }
def FnExactMendWordUptoSaid : Prop := fnExactMendWordUptoRow.holds Try.pinned (OpenSpec.upto fnExactMendWordSpec)

/-- 'laws.FnExactReadsOf', WHERE WHAT IT READS IS OF BULK AT MOST 1048576: true; the input reads as it did. -/
def fnExactReadsOfUptoRow : OpenClaim := { program := "ytjnfnhcbplbceaa", sum := "eda0f54e57bdccace232c8beb537d01aafc5528d2c5db444c7f0791e923c4440", func := "loop.example/lostshares/laws.FnExactReadsOf", spec := "fnExactReadsOf", unfollowed := true, recurses := true, apart := false, narrowed := true }
def FnExactReadsOfUptoSaid : Prop := fnExactReadsOfUptoRow.holds Try.pinned (OpenSpec.upto fnExactReadsOfSpec)

/-- 'laws.FnExactGroupsOf', WHERE WHAT IT READS IS OF BULK AT MOST 1048576: true; the input reads as it did. -/
def fnExactGroupsOfUptoRow : OpenClaim := { program := "ytjnfnhcbplbceaa", sum := "eda0f54e57bdccace232c8beb537d01aafc5528d2c5db444c7f0791e923c4440", func := "loop.example/lostshares/laws.FnExactGroupsOf", spec := "fnExactGroupsOf", unfollowed := true, recurses := true, apart := false, narrowed := true }
def FnExactGroupsOfUptoSaid : Prop := fnExactGroupsOfUptoRow.holds Try.pinned (OpenSpec.upto fnExactGroupsOfSpec)

/-- 'laws.FnExactTurnedGroups', WHERE WHAT IT READS IS OF BULK AT MOST 1048576: true; the input reads as it did. -/
def fnExactTurnedGroupsUptoRow : OpenClaim := { program := "ytjnfnhcbplbceaa", sum := "eda0f54e57bdccace232c8beb537d01aafc5528d2c5db444c7f0791e923c4440", func := "loop.example/lostshares/laws.FnExactTurnedGroups", spec := "fnExactTurnedGroups", unfollowed := true, recurses := true, apart := false, narrowed := true }
def FnExactTurnedGroupsUptoSaid : Prop := fnExactTurnedGroupsUptoRow.holds Try.pinned (OpenSpec.upto fnExactTurnedGroupsSpec)

/-- 'laws.FnExactLeastSends', WHERE WHAT IT READS IS OF BULK AT MOST 1048576: true; the input reads as it did. -/
def fnExactLeastSendsUptoRow : OpenClaim := { program := "ytjnfnhcbplbceaa", sum := "eda0f54e57bdccace232c8beb537d01aafc5528d2c5db444c7f0791e923c4440", func := "loop.example/lostshares/laws.FnExactLeastSends", spec := "fnExactLeastSends", unfollowed := true, recurses := true, apart := false, narrowed := true }
def FnExactLeastSendsUptoSaid : Prop := fnExactLeastSendsUptoRow.holds Try.pinned (OpenSpec.upto fnExactLeastSendsSpec)

/-- 'laws.FnReduced', WHERE WHAT IT READS IS OF BULK AT MOST 1048576: true; the input reads as it did. -/
def fnReducedUptoRow : OpenClaim := { program := "ytjnfnhcbplbceaa", sum := "eda0f54e57bdccace232c8beb537d01aafc5528d2c5db444c7f0791e923c4440", func := "loop.example/lostshares/laws.FnReduced", spec := "fnReduced", unfollowed := true, recurses := true, apart := false, narrowed := true }
def FnReducedUptoSaid : Prop := fnReducedUptoRow.holds Try.pinned (OpenSpec.upto fnReducedSpec)

/-- 'laws.FnRankOf', WHERE WHAT IT READS IS OF BULK AT MOST 1048576: true; the input reads as it did. -/
def fnRankOfUptoRow : OpenClaim := { program := "ytjnfnhcbplbceaa", sum := "eda0f54e57bdccace232c8beb537d01aafc5528d2c5db444c7f0791e923c4440", func := "loop.example/lostshares/laws.FnRankOf", spec := "fnRankOf", unfollowed := true, recurses := true, apart := false, narrowed := true }
def FnRankOfUptoSaid : Prop := fnRankOfUptoRow.holds Try.pinned (OpenSpec.upto fnRankOfSpec)

/-- 'laws.FnNullsOf', WHERE WHAT IT READS IS OF BULK AT MOST 1048576: true; the input reads as it did. -/
def fnNullsOfUptoRow : OpenClaim := { program := "ytjnfnhcbplbceaa", sum := "eda0f54e57bdccace232c8beb537d01aafc5528d2c5db444c7f0791e923c4440", func := "loop.example/lostshares/laws.FnNullsOf", spec := "fnNullsOf", unfollowed := true, recurses := true, apart := false, narrowed := true }
def FnNullsOfUptoSaid : Prop := fnNullsOfUptoRow.holds Try.pinned (OpenSpec.upto fnNullsOfSpec)

/-- 'laws.FnSolveRows', WHERE WHAT IT READS IS OF BULK AT MOST 1048576: true; the input reads as it did. -/
def fnSolveRowsUptoRow : OpenClaim := { program := "ytjnfnhcbplbceaa", sum := "eda0f54e57bdccace232c8beb537d01aafc5528d2c5db444c7f0791e923c4440", func := "loop.example/lostshares/laws.FnSolveRows", spec := "fnSolveRows", unfollowed := true, recurses := true, apart := false, narrowed := true }
def FnSolveRowsUptoSaid : Prop := fnSolveRowsUptoRow.holds Try.pinned (OpenSpec.upto fnSolveRowsSpec)

end Rows
end Go.Proofs.Ytjnfnhcbplbceaa
