/-
  No cell of these rows narrows 'for every input' (looked for: loops, veiled, ifaces, maps, wideKeys, modest, calm, conditions, laid).
  DERIVED. THE GIVEN ROWS OF THIS SEAT. 11 by the template 'for every input the law returns true; each argument reads behind the call as it read before'; 0 by the template 'total and deterministic' (their statements: YteoiaicpdmlecaaTotals.lean).
  GIVEN WITH THE SEED: the statements are not yours to turn. If you find one false, say at which input.
  Laid BY PROGRAM, IN A SANDBOX (cutbox-rows.mjs): the forced cells as the released guide's own fill.sh prints them over the translation 75fa36e6307e6ce3… (all of the seat's roots in one cut). By AI agents, Wed Nov 11 2026. No macro, syntax, notation, axiom, sorry.
-/
import Derived.Test.YteoiaicpdmlecaaChecked
import GoSem.Claim
import GoSem.ClaimJoined
import GoSem.ClaimMapViews
import Derived.JoinedTies
import Derived.KernelRfl
namespace Go.Proofs.Yteoiaicpdmlecaa
/- THE CELL 'sum', in the pinned program and in every row, IS THE sha256 OF THE DUMP (.gsa) THAT YteoiaicpdmlecaaProg.lean LOADS. Nothing in Lean hashes anything: it is a label: what it is worth is what the hold of that sum in a sandbox is worth. -/
noncomputable def Try.pinned : Pinned := { name := "yteoiaicpdmlecaa", sum := "75fa36e6307e6ce3eb3bef253ee3f524d46beaa758253266891b447f506988a3", checked := Try.checked }
namespace Rows
def none {H : Type} : Left H := { results := [], args := [] }

/-- 'laws.FnExactDistanceOf': WHATEVER THE INPUT: true; the input reads as it did. -/
def fnExactDistanceOfSpec : ChangeSpec := { name := "fnExactDistanceOf", fn := fun _ => fun
  | [d] => { results := [.lit (.bool true)], args := [d] }
  | _ => none }
def fnExactDistanceOfRow : OpenClaim := { program := "yteoiaicpdmlecaa", sum := "75fa36e6307e6ce3eb3bef253ee3f524d46beaa758253266891b447f506988a3", func := "loop.example/lostshares/laws.FnExactDistanceOf", spec := "fnExactDistanceOf", unfollowed := true, recurses := true, apart := false }
def FnExactDistanceOfSaid : Prop := fnExactDistanceOfRow.holds Try.pinned (OpenSpec.ofChange fnExactDistanceOfSpec)

/-- ITS FALSE NEIGHBOUR: 'it returns false'. Refute it at one input. -/
def fnExactDistanceOfWrong : ChangeSpec := { name := "fnExactDistanceOf", fn := fun _ => fun
  | [d] => { results := [.lit (.bool false)], args := [d] }
  | _ => none }
def FnExactDistanceOfWrongFalsely : Prop := fnExactDistanceOfRow.holds Try.pinned (OpenSpec.ofChange fnExactDistanceOfWrong)

/-- 'laws.FnExactCountMends': WHATEVER THE INPUT: true; the input reads as it did. -/
def fnExactCountMendsSpec : ChangeSpec := { name := "fnExactCountMends", fn := fun _ => fun
  | [d1, d2] => { results := [.lit (.bool true)], args := [d1, d2] }
  | _ => none }
def fnExactCountMendsRow : OpenClaim := { program := "yteoiaicpdmlecaa", sum := "75fa36e6307e6ce3eb3bef253ee3f524d46beaa758253266891b447f506988a3", func := "loop.example/lostshares/laws.FnExactCountMends", spec := "fnExactCountMends", unfollowed := true, recurses := true, apart := false }
def FnExactCountMendsSaid : Prop := fnExactCountMendsRow.holds Try.pinned (OpenSpec.ofChange fnExactCountMendsSpec)

/-- ITS FALSE NEIGHBOUR: 'it returns false'. Refute it at one input. -/
def fnExactCountMendsWrong : ChangeSpec := { name := "fnExactCountMends", fn := fun _ => fun
  | [d1, d2] => { results := [.lit (.bool false)], args := [d1, d2] }
  | _ => none }
def FnExactCountMendsWrongFalsely : Prop := fnExactCountMendsRow.holds Try.pinned (OpenSpec.ofChange fnExactCountMendsWrong)

/-- 'laws.FnExactWeightsOf': WHATEVER THE INPUT: true; the input reads as it did. -/
def fnExactWeightsOfSpec : ChangeSpec := { name := "fnExactWeightsOf", fn := fun _ => fun
  | [d] => { results := [.lit (.bool true)], args := [d] }
  | _ => none }
def fnExactWeightsOfRow : OpenClaim := { program := "yteoiaicpdmlecaa", sum := "75fa36e6307e6ce3eb3bef253ee3f524d46beaa758253266891b447f506988a3", func := "loop.example/lostshares/laws.FnExactWeightsOf", spec := "fnExactWeightsOf", unfollowed := true, recurses := true, apart := false }
def FnExactWeightsOfSaid : Prop := fnExactWeightsOfRow.holds Try.pinned (OpenSpec.ofChange fnExactWeightsOfSpec)

/-- ITS FALSE NEIGHBOUR: 'it returns false'. Refute it at one input. -/
def fnExactWeightsOfWrong : ChangeSpec := { name := "fnExactWeightsOf", fn := fun _ => fun
  | [d] => { results := [.lit (.bool false)], args := [d] }
  | _ => none }
def FnExactWeightsOfWrongFalsely : Prop := fnExactWeightsOfRow.holds Try.pinned (OpenSpec.ofChange fnExactWeightsOfWrong)

/-- 'laws.FnExactMendWord': WHATEVER THE INPUT: true; the input reads as it did. -/
def fnExactMendWordSpec : ChangeSpec := { name := "fnExactMendWord", fn := fun _ => fun
  | [d1, d2] => { results := [.lit (.bool true)], args := [d1, d2] }
  | _ => none }
def fnExactMendWordRow : OpenClaim := { program := "yteoiaicpdmlecaa", sum := "75fa36e6307e6ce3eb3bef253ee3f524d46beaa758253266891b447f506988a3", func := "loop.example/lostshares/laws.FnExactMendWord", spec := "fnExactMendWord", unfollowed := true, recurses := true, apart := false }
def FnExactMendWordSaid : Prop := fnExactMendWordRow.holds Try.pinned (OpenSpec.ofChange fnExactMendWordSpec)

/-- ITS FALSE NEIGHBOUR: 'it returns false'. Refute it at one input. -/
def fnExactMendWordWrong : ChangeSpec := { name := "fnExactMendWord", fn := fun _ => fun
  | [d1, d2] => { results := [.lit (.bool false)], args := [d1, d2] }
  | _ => none }
def FnExactMendWordWrongFalsely : Prop := fnExactMendWordRow.holds Try.pinned (OpenSpec.ofChange fnExactMendWordWrong)

/-- 'laws.FnExactReadsOf': WHATEVER THE INPUT: true; the input reads as it did. -/
def fnExactReadsOfSpec : ChangeSpec := { name := "fnExactReadsOf", fn := fun _ => fun
  | [d1, d2] => { results := [.lit (.bool true)], args := [d1, d2] }
  | _ => none }
def fnExactReadsOfRow : OpenClaim := { program := "yteoiaicpdmlecaa", sum := "75fa36e6307e6ce3eb3bef253ee3f524d46beaa758253266891b447f506988a3", func := "loop.example/lostshares/laws.FnExactReadsOf", spec := "fnExactReadsOf", unfollowed := true, recurses := true, apart := false }
def FnExactReadsOfSaid : Prop := fnExactReadsOfRow.holds Try.pinned (OpenSpec.ofChange fnExactReadsOfSpec)

/-- ITS FALSE NEIGHBOUR: 'it returns false'. Refute it at one input. -/
def fnExactReadsOfWrong : ChangeSpec := { name := "fnExactReadsOf", fn := fun _ => fun
  | [d1, d2] => { results := [.lit (.bool false)], args := [d1, d2] }
  | _ => none }
def FnExactReadsOfWrongFalsely : Prop := fnExactReadsOfRow.holds Try.pinned (OpenSpec.ofChange fnExactReadsOfWrong)

/-- 'laws.FnExactNearnessOf': WHATEVER THE INPUT: true; the input reads as it did. -/
def fnExactNearnessOfSpec : ChangeSpec := { name := "fnExactNearnessOf", fn := fun _ => fun
  | [d] => { results := [.lit (.bool true)], args := [d] }
  | _ => none }
def fnExactNearnessOfRow : OpenClaim := { program := "yteoiaicpdmlecaa", sum := "75fa36e6307e6ce3eb3bef253ee3f524d46beaa758253266891b447f506988a3", func := "loop.example/lostshares/laws.FnExactNearnessOf", spec := "fnExactNearnessOf", unfollowed := true, recurses := true, apart := false }
def FnExactNearnessOfSaid : Prop := fnExactNearnessOfRow.holds Try.pinned (OpenSpec.ofChange fnExactNearnessOfSpec)

/-- ITS FALSE NEIGHBOUR: 'it returns false'. Refute it at one input. -/
def fnExactNearnessOfWrong : ChangeSpec := { name := "fnExactNearnessOf", fn := fun _ => fun
  | [d] => { results := [.lit (.bool false)], args := [d] }
  | _ => none }
def FnExactNearnessOfWrongFalsely : Prop := fnExactNearnessOfRow.holds Try.pinned (OpenSpec.ofChange fnExactNearnessOfWrong)

/-- 'laws.FnExactHelpersOf': WHATEVER THE INPUT: true; the input reads as it did. -/
def fnExactHelpersOfSpec : ChangeSpec := { name := "fnExactHelpersOf", fn := fun _ => fun
  | [d1, d2] => { results := [.lit (.bool true)], args := [d1, d2] }
  | _ => none }
def fnExactHelpersOfRow : OpenClaim := { program := "yteoiaicpdmlecaa", sum := "75fa36e6307e6ce3eb3bef253ee3f524d46beaa758253266891b447f506988a3", func := "loop.example/lostshares/laws.FnExactHelpersOf", spec := "fnExactHelpersOf", unfollowed := true, recurses := true, apart := false }
def FnExactHelpersOfSaid : Prop := fnExactHelpersOfRow.holds Try.pinned (OpenSpec.ofChange fnExactHelpersOfSpec)

/-- ITS FALSE NEIGHBOUR: 'it returns false'. Refute it at one input. -/
def fnExactHelpersOfWrong : ChangeSpec := { name := "fnExactHelpersOf", fn := fun _ => fun
  | [d1, d2] => { results := [.lit (.bool false)], args := [d1, d2] }
  | _ => none }
def FnExactHelpersOfWrongFalsely : Prop := fnExactHelpersOfRow.holds Try.pinned (OpenSpec.ofChange fnExactHelpersOfWrong)

/-- 'laws.FnExactNullsOf': WHATEVER THE INPUT: true; the input reads as it did. -/
def fnExactNullsOfSpec : ChangeSpec := { name := "fnExactNullsOf", fn := fun _ => fun
  | [d1, d2] => { results := [.lit (.bool true)], args := [d1, d2] }
  | _ => none }
def fnExactNullsOfRow : OpenClaim := { program := "yteoiaicpdmlecaa", sum := "75fa36e6307e6ce3eb3bef253ee3f524d46beaa758253266891b447f506988a3", func := "loop.example/lostshares/laws.FnExactNullsOf", spec := "fnExactNullsOf", unfollowed := true, recurses := true, apart := false }
def FnExactNullsOfSaid : Prop := fnExactNullsOfRow.holds Try.pinned (OpenSpec.ofChange fnExactNullsOfSpec)

/-- ITS FALSE NEIGHBOUR: 'it returns false'. Refute it at one input. -/
def fnExactNullsOfWrong : ChangeSpec := { name := "fnExactNullsOf", fn := fun _ => fun
  | [d1, d2] => { results := [.lit (.bool false)], args := [d1, d2] }
  | _ => none }
def FnExactNullsOfWrongFalsely : Prop := fnExactNullsOfRow.holds Try.pinned (OpenSpec.ofChange fnExactNullsOfWrong)

/-- 'laws.FnExactGroupsOf': WHATEVER THE INPUT: true; the input reads as it did. -/
def fnExactGroupsOfSpec : ChangeSpec := { name := "fnExactGroupsOf", fn := fun _ => fun
  | [d] => { results := [.lit (.bool true)], args := [d] }
  | _ => none }
def fnExactGroupsOfRow : OpenClaim := { program := "yteoiaicpdmlecaa", sum := "75fa36e6307e6ce3eb3bef253ee3f524d46beaa758253266891b447f506988a3", func := "loop.example/lostshares/laws.FnExactGroupsOf", spec := "fnExactGroupsOf", unfollowed := true, recurses := true, apart := false }
def FnExactGroupsOfSaid : Prop := fnExactGroupsOfRow.holds Try.pinned (OpenSpec.ofChange fnExactGroupsOfSpec)

/-- ITS FALSE NEIGHBOUR: 'it returns false'. Refute it at one input. -/
def fnExactGroupsOfWrong : ChangeSpec := { name := "fnExactGroupsOf", fn := fun _ => fun
  | [d] => { results := [.lit (.bool false)], args := [d] }
  | _ => none }
def FnExactGroupsOfWrongFalsely : Prop := fnExactGroupsOfRow.holds Try.pinned (OpenSpec.ofChange fnExactGroupsOfWrong)

/-- 'laws.FnExactTurnedGroups': WHATEVER THE INPUT: true; the input reads as it did. -/
def fnExactTurnedGroupsSpec : ChangeSpec := { name := "fnExactTurnedGroups", fn := fun _ => fun
  | [d] => { results := [.lit (.bool true)], args := [d] }
  | _ => none }
def fnExactTurnedGroupsRow : OpenClaim := { program := "yteoiaicpdmlecaa", sum := "75fa36e6307e6ce3eb3bef253ee3f524d46beaa758253266891b447f506988a3", func := "loop.example/lostshares/laws.FnExactTurnedGroups", spec := "fnExactTurnedGroups", unfollowed := true, recurses := true, apart := false }
def FnExactTurnedGroupsSaid : Prop := fnExactTurnedGroupsRow.holds Try.pinned (OpenSpec.ofChange fnExactTurnedGroupsSpec)

/-- ITS FALSE NEIGHBOUR: 'it returns false'. Refute it at one input. -/
def fnExactTurnedGroupsWrong : ChangeSpec := { name := "fnExactTurnedGroups", fn := fun _ => fun
  | [d] => { results := [.lit (.bool false)], args := [d] }
  | _ => none }
def FnExactTurnedGroupsWrongFalsely : Prop := fnExactTurnedGroupsRow.holds Try.pinned (OpenSpec.ofChange fnExactTurnedGroupsWrong)

/-- 'laws.FnExactLeastSends': WHATEVER THE INPUT: true; the input reads as it did. -/
def fnExactLeastSendsSpec : ChangeSpec := { name := "fnExactLeastSends", fn := fun _ => fun
  | [d] => { results := [.lit (.bool true)], args := [d] }
  | _ => none }
def fnExactLeastSendsRow : OpenClaim := { program := "yteoiaicpdmlecaa", sum := "75fa36e6307e6ce3eb3bef253ee3f524d46beaa758253266891b447f506988a3", func := "loop.example/lostshares/laws.FnExactLeastSends", spec := "fnExactLeastSends", unfollowed := true, recurses := true, apart := false }
def FnExactLeastSendsSaid : Prop := fnExactLeastSendsRow.holds Try.pinned (OpenSpec.ofChange fnExactLeastSendsSpec)

/-- ITS FALSE NEIGHBOUR: 'it returns false'. Refute it at one input. -/
def fnExactLeastSendsWrong : ChangeSpec := { name := "fnExactLeastSends", fn := fun _ => fun
  | [d] => { results := [.lit (.bool false)], args := [d] }
  | _ => none }
def FnExactLeastSendsWrongFalsely : Prop := fnExactLeastSendsRow.holds Try.pinned (OpenSpec.ofChange fnExactLeastSendsWrong)

/- THE SECOND FORM. 'bulk': how many values and letters a reading holds, each counted each time it is reached (what is shared counts as often as it is met; a slice's spare places count too). A statement '..UptoSaid' is the law's where the arguments, and the package variables that the reading takes, are together of bulk at most 1048576: NARROWER than '..Said'. Prove '..Said' where nothing that the law and all that it calls make is longer than what came in: it says more and counts as full. Else prove '..UptoSaid'. A law counts once. -/
mutual
def uptoBulk {H : Type} : DataW H → Nat
  | .lit (.string bytes) => bytes.length + 1
  | .lit _ => 1
  | .nil => 1
  | .ptr d => uptoBulk d + 1
  | .slice elems spare => uptoBulkAll elems + uptoBulkAll spare + 1
  | .agg parts => uptoBulkAll parts + 1
  | .iface _ d => uptoBulk d + 1
  | .map entries => uptoBulkEntries entries + 1
  | .held _ => 1
def uptoBulkAll {H : Type} : List (DataW H) → Nat
  | [] => 0
  | d :: r => uptoBulk d + uptoBulkAll r
def uptoBulkEntries {H : Type} : List (Lit × DataW H) → Nat
  | [] => 0
  | x :: r => uptoBulkEntry x + uptoBulkEntries r
def uptoBulkEntry {H : Type} : Lit × DataW H → Nat
  | (.string bytes, d) => bytes.length + uptoBulk d + 1
  | (_, d) => uptoBulk d + 1
 end
def uptoSmall : (H : Type) → List (DataW H) → Bool := fun _ ds => decide (uptoBulkAll ds ≤ 1048576)
def OpenSpec.upto (s : _root_.Go.ChangeSpec) : _root_.Go.OpenSpec := { _root_.Go.OpenSpec.ofChange s with cond := some uptoSmall }

/-- 'laws.FnExactDistanceOf', WHERE WHAT IT READS IS OF BULK AT MOST 1048576: true; the input reads as it did. -/
def fnExactDistanceOfUptoRow : OpenClaim := { program := "yteoiaicpdmlecaa", sum := "75fa36e6307e6ce3eb3bef253ee3f524d46beaa758253266891b447f506988a3", func := "loop.example/lostshares/laws.FnExactDistanceOf", spec := "fnExactDistanceOf", unfollowed := true, recurses := true, apart := false, narrowed := true }
def FnExactDistanceOfUptoSaid : Prop := fnExactDistanceOfUptoRow.holds Try.pinned (OpenSpec.upto fnExactDistanceOfSpec)

/-- 'laws.FnExactCountMends', WHERE WHAT IT READS IS OF BULK AT MOST 1048576: true; the input reads as it did. -/
def fnExactCountMendsUptoRow : OpenClaim := { program := "yteoiaicpdmlecaa", sum := "75fa36e6307e6ce3eb3bef253ee3f524d46beaa758253266891b447f506988a3", func := "loop.example/lostshares/laws.FnExactCountMends", spec := "fnExactCountMends", unfollowed := true, recurses := true, apart := false, narrowed := true }
def FnExactCountMendsUptoSaid : Prop := fnExactCountMendsUptoRow.holds Try.pinned (OpenSpec.upto fnExactCountMendsSpec)

/-- 'laws.FnExactWeightsOf', WHERE WHAT IT READS IS OF BULK AT MOST 1048576: true; the input reads as it did. -/
def fnExactWeightsOfUptoRow : OpenClaim := { program := "yteoiaicpdmlecaa", sum := "75fa36e6307e6ce3eb3bef253ee3f524d46beaa758253266891b447f506988a3", func := "loop.example/lostshares/laws.FnExactWeightsOf", spec := "fnExactWeightsOf", unfollowed := true, recurses := true, apart := false, narrowed := true }
def FnExactWeightsOfUptoSaid : Prop := fnExactWeightsOfUptoRow.holds Try.pinned (OpenSpec.upto fnExactWeightsOfSpec)

/-- 'laws.FnExactMendWord', WHERE WHAT IT READS IS OF BULK AT MOST 1048576: true; the input reads as it did. -/
def fnExactMendWordUptoRow : OpenClaim := { program := "yteoiaicpdmlecaa", sum := "75fa36e6307e6ce3eb3bef253ee3f524d46beaa758253266891b447f506988a3", func := "loop.example/lostshares/laws.FnExactMendWord", spec := "fnExactMendWord", unfollowed := true, recurses := true, apart := false, narrowed := true }
def FnExactMendWordUptoSaid : Prop := fnExactMendWordUptoRow.holds Try.pinned (OpenSpec.upto fnExactMendWordSpec)

/-- 'laws.FnExactReadsOf', WHERE WHAT IT READS IS OF BULK AT MOST 1048576: true; the input reads as it did. -/
def fnExactReadsOfUptoRow : OpenClaim := { program := "yteoiaicpdmlecaa", sum := "75fa36e6307e6ce3eb3bef253ee3f524d46beaa758253266891b447f506988a3", func := "loop.example/lostshares/laws.FnExactReadsOf", spec := "fnExactReadsOf", unfollowed := true, recurses := true, apart := false, narrowed := true }
def FnExactReadsOfUptoSaid : Prop := fnExactReadsOfUptoRow.holds Try.pinned (OpenSpec.upto fnExactReadsOfSpec)

/-- 'laws.FnExactNearnessOf', WHERE WHAT IT READS IS OF BULK AT MOST 1048576: true; the input reads as it did. -/
def fnExactNearnessOfUptoRow : OpenClaim := { program := "yteoiaicpdmlecaa", sum := "75fa36e6307e6ce3eb3bef253ee3f524d46beaa758253266891b447f506988a3", func := "loop.example/lostshares/laws.FnExactNearnessOf", spec := "fnExactNearnessOf", unfollowed := true, recurses := true, apart := false, narrowed := true }
def FnExactNearnessOfUptoSaid : Prop := fnExactNearnessOfUptoRow.holds Try.pinned (OpenSpec.upto fnExactNearnessOfSpec)

/-- 'laws.FnExactHelpersOf', WHERE WHAT IT READS IS OF BULK AT MOST 1048576: true; the input reads as it did. -/
def fnExactHelpersOfUptoRow : OpenClaim := { program := "yteoiaicpdmlecaa", sum := "75fa36e6307e6ce3eb3bef253ee3f524d46beaa758253266891b447f506988a3", func := "loop.example/lostshares/laws.FnExactHelpersOf", spec := "fnExactHelpersOf", unfollowed := true, recurses := true, apart := false, narrowed := true }
def FnExactHelpersOfUptoSaid : Prop := fnExactHelpersOfUptoRow.holds Try.pinned (OpenSpec.upto fnExactHelpersOfSpec)

/-- 'laws.FnExactNullsOf', WHERE WHAT IT READS IS OF BULK AT MOST 1048576: true; the input reads as it did. -/
def fnExactNullsOfUptoRow : OpenClaim := { program := "yteoiaicpdmlecaa", sum := "75fa36e6307e6ce3eb3bef253ee3f524d46beaa758253266891b447f506988a3", func := "loop.example/lostshares/laws.FnExactNullsOf", spec := "fnExactNullsOf", unfollowed := true, recurses := true, apart := false, narrowed := true }
def FnExactNullsOfUptoSaid : Prop := fnExactNullsOfUptoRow.holds Try.pinned (OpenSpec.upto fnExactNullsOfSpec)

/-- 'laws.FnExactGroupsOf', WHERE WHAT IT READS IS OF BULK AT MOST 1048576: true; the input reads as it did. -/
def fnExactGroupsOfUptoRow : OpenClaim := { program := "yteoiaicpdmlecaa", sum := "75fa36e6307e6ce3eb3bef253ee3f524d46beaa758253266891b447f506988a3", func := "loop.example/lostshares/laws.FnExactGroupsOf", spec := "fnExactGroupsOf", unfollowed := true, recurses := true, apart := false, narrowed := true }
def FnExactGroupsOfUptoSaid : Prop := fnExactGroupsOfUptoRow.holds Try.pinned (OpenSpec.upto fnExactGroupsOfSpec)

/-- 'laws.FnExactTurnedGroups', WHERE WHAT IT READS IS OF BULK AT MOST 1048576: true; the input reads as it did. -/
def fnExactTurnedGroupsUptoRow : OpenClaim := { program := "yteoiaicpdmlecaa", sum := "75fa36e6307e6ce3eb3bef253ee3f524d46beaa758253266891b447f506988a3", func := "loop.example/lostshares/laws.FnExactTurnedGroups", spec := "fnExactTurnedGroups", unfollowed := true, recurses := true, apart := false, narrowed := true }
def FnExactTurnedGroupsUptoSaid : Prop := fnExactTurnedGroupsUptoRow.holds Try.pinned (OpenSpec.upto fnExactTurnedGroupsSpec)

/-- 'laws.FnExactLeastSends', WHERE WHAT IT READS IS OF BULK AT MOST 1048576: true; the input reads as it did. -/
def fnExactLeastSendsUptoRow : OpenClaim := { program := "yteoiaicpdmlecaa", sum := "75fa36e6307e6ce3eb3bef253ee3f524d46beaa758253266891b447f506988a3", func := "loop.example/lostshares/laws.FnExactLeastSends", spec := "fnExactLeastSends", unfollowed := true, recurses := true, apart := false, narrowed := true }
def FnExactLeastSendsUptoSaid : Prop := fnExactLeastSendsUptoRow.holds Try.pinned (OpenSpec.upto fnExactLeastSendsSpec)

end Rows
end Go.Proofs.Yteoiaicpdmlecaa
