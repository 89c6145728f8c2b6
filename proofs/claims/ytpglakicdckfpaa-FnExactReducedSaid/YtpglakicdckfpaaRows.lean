/-
  No cell of these rows narrows 'for every input' (looked for: loops, veiled, ifaces, maps, wideKeys, modest, calm, conditions, laid).
  DERIVED. THE GIVEN ROWS OF THIS SEAT. 12 by the template 'for every input the law returns true; each argument reads behind the call as it read before'; 0 by the template 'total and deterministic' (their statements: YtpglakicdckfpaaTotals.lean).
  GIVEN WITH THE SEED: the statements are not yours to turn. If you find one false, say at which input.
  Laid BY PROGRAM, IN A SANDBOX (cutbox-rows.mjs): the forced cells as the released guide's own fill.sh prints them over the translation 119ecf47aa4d424d… (all of the seat's roots in one cut). By AI agents, Wed Nov 11 2026. No macro, syntax, notation, axiom, sorry.
-/
import Derived.Test.YtpglakicdckfpaaChecked
import GoSem.Claim
import GoSem.ClaimJoined
import GoSem.ClaimMapViews
import Derived.JoinedTies
import Derived.KernelRfl
namespace Go.Proofs.Ytpglakicdckfpaa
/- THE CELL 'sum', in the pinned program and in every row, IS THE sha256 OF THE DUMP (.gsa) THAT YtpglakicdckfpaaProg.lean LOADS. Nothing in Lean hashes anything: it is a label: what it is worth is what the hold of that sum in a sandbox is worth. -/
noncomputable def Try.pinned : Pinned := { name := "ytpglakicdckfpaa", sum := "119ecf47aa4d424d1ea6df96af51889d06b994a77316d57dd461899434fe93d1", checked := Try.checked }
namespace Rows
def none {H : Type} : Left H := { results := [], args := [] }

/-- 'laws.FnGroupsOf': WHATEVER THE INPUT: true; the input reads as it did. -/
def fnGroupsOfSpec : ChangeSpec := { name := "fnGroupsOf", fn := fun _ => fun
  | [d] => { results := [.lit (.bool true)], args := [d] }
  | _ => none }
def fnGroupsOfRow : OpenClaim := { program := "ytpglakicdckfpaa", sum := "119ecf47aa4d424d1ea6df96af51889d06b994a77316d57dd461899434fe93d1", func := "loop.example/lostshares/laws.FnGroupsOf", spec := "fnGroupsOf", unfollowed := true, recurses := true, apart := false }
def FnGroupsOfSaid : Prop := fnGroupsOfRow.holds Try.pinned (OpenSpec.ofChange fnGroupsOfSpec)

/-- ITS FALSE NEIGHBOUR: 'it returns false'. Refute it at one input. -/
def fnGroupsOfWrong : ChangeSpec := { name := "fnGroupsOf", fn := fun _ => fun
  | [d] => { results := [.lit (.bool false)], args := [d] }
  | _ => none }
def FnGroupsOfWrongFalsely : Prop := fnGroupsOfRow.holds Try.pinned (OpenSpec.ofChange fnGroupsOfWrong)

/-- 'laws.FnExactGroupsOf': WHATEVER THE INPUT: true; the input reads as it did. -/
def fnExactGroupsOfSpec : ChangeSpec := { name := "fnExactGroupsOf", fn := fun _ => fun
  | [d] => { results := [.lit (.bool true)], args := [d] }
  | _ => none }
def fnExactGroupsOfRow : OpenClaim := { program := "ytpglakicdckfpaa", sum := "119ecf47aa4d424d1ea6df96af51889d06b994a77316d57dd461899434fe93d1", func := "loop.example/lostshares/laws.FnExactGroupsOf", spec := "fnExactGroupsOf", unfollowed := true, recurses := true, apart := false }
def FnExactGroupsOfSaid : Prop := fnExactGroupsOfRow.holds Try.pinned (OpenSpec.ofChange fnExactGroupsOfSpec)

/-- ITS FALSE NEIGHBOUR: 'it returns false'. Refute it at one input. -/
def fnExactGroupsOfWrong : ChangeSpec := { name := "fnExactGroupsOf", fn := fun _ => fun
  | [d] => { results := [.lit (.bool false)], args := [d] }
  | _ => none }
def FnExactGroupsOfWrongFalsely : Prop := fnExactGroupsOfRow.holds Try.pinned (OpenSpec.ofChange fnExactGroupsOfWrong)

/-- 'laws.FnExactTurnedGroups': WHATEVER THE INPUT: true; the input reads as it did. -/
def fnExactTurnedGroupsSpec : ChangeSpec := { name := "fnExactTurnedGroups", fn := fun _ => fun
  | [d] => { results := [.lit (.bool true)], args := [d] }
  | _ => none }
def fnExactTurnedGroupsRow : OpenClaim := { program := "ytpglakicdckfpaa", sum := "119ecf47aa4d424d1ea6df96af51889d06b994a77316d57dd461899434fe93d1", func := "loop.example/lostshares/laws.FnExactTurnedGroups", spec := "fnExactTurnedGroups", unfollowed := true, recurses := true, apart := false }
def FnExactTurnedGroupsSaid : Prop := fnExactTurnedGroupsRow.holds Try.pinned (OpenSpec.ofChange fnExactTurnedGroupsSpec)

/-- ITS FALSE NEIGHBOUR: 'it returns false'. Refute it at one input. -/
def fnExactTurnedGroupsWrong : ChangeSpec := { name := "fnExactTurnedGroups", fn := fun _ => fun
  | [d] => { results := [.lit (.bool false)], args := [d] }
  | _ => none }
def FnExactTurnedGroupsWrongFalsely : Prop := fnExactTurnedGroupsRow.holds Try.pinned (OpenSpec.ofChange fnExactTurnedGroupsWrong)

/-- 'laws.FnTurnedGroups': WHATEVER THE INPUT: true; the input reads as it did. -/
def fnTurnedGroupsSpec : ChangeSpec := { name := "fnTurnedGroups", fn := fun _ => fun
  | [d] => { results := [.lit (.bool true)], args := [d] }
  | _ => none }
def fnTurnedGroupsRow : OpenClaim := { program := "ytpglakicdckfpaa", sum := "119ecf47aa4d424d1ea6df96af51889d06b994a77316d57dd461899434fe93d1", func := "loop.example/lostshares/laws.FnTurnedGroups", spec := "fnTurnedGroups", unfollowed := true, recurses := true, apart := false }
def FnTurnedGroupsSaid : Prop := fnTurnedGroupsRow.holds Try.pinned (OpenSpec.ofChange fnTurnedGroupsSpec)

/-- ITS FALSE NEIGHBOUR: 'it returns false'. Refute it at one input. -/
def fnTurnedGroupsWrong : ChangeSpec := { name := "fnTurnedGroups", fn := fun _ => fun
  | [d] => { results := [.lit (.bool false)], args := [d] }
  | _ => none }
def FnTurnedGroupsWrongFalsely : Prop := fnTurnedGroupsRow.holds Try.pinned (OpenSpec.ofChange fnTurnedGroupsWrong)

/-- 'laws.FnSecretOf': WHATEVER THE INPUT: true; the input reads as it did. -/
def fnSecretOfSpec : ChangeSpec := { name := "fnSecretOf", fn := fun _ => fun
  | [d] => { results := [.lit (.bool true)], args := [d] }
  | _ => none }
def fnSecretOfRow : OpenClaim := { program := "ytpglakicdckfpaa", sum := "119ecf47aa4d424d1ea6df96af51889d06b994a77316d57dd461899434fe93d1", func := "loop.example/lostshares/laws.FnSecretOf", spec := "fnSecretOf", unfollowed := true, recurses := true, apart := false }
def FnSecretOfSaid : Prop := fnSecretOfRow.holds Try.pinned (OpenSpec.ofChange fnSecretOfSpec)

/-- ITS FALSE NEIGHBOUR: 'it returns false'. Refute it at one input. -/
def fnSecretOfWrong : ChangeSpec := { name := "fnSecretOf", fn := fun _ => fun
  | [d] => { results := [.lit (.bool false)], args := [d] }
  | _ => none }
def FnSecretOfWrongFalsely : Prop := fnSecretOfRow.holds Try.pinned (OpenSpec.ofChange fnSecretOfWrong)

/-- 'laws.FnExactLeastSends': WHATEVER THE INPUT: true; the input reads as it did. -/
def fnExactLeastSendsSpec : ChangeSpec := { name := "fnExactLeastSends", fn := fun _ => fun
  | [d] => { results := [.lit (.bool true)], args := [d] }
  | _ => none }
def fnExactLeastSendsRow : OpenClaim := { program := "ytpglakicdckfpaa", sum := "119ecf47aa4d424d1ea6df96af51889d06b994a77316d57dd461899434fe93d1", func := "loop.example/lostshares/laws.FnExactLeastSends", spec := "fnExactLeastSends", unfollowed := true, recurses := true, apart := false }
def FnExactLeastSendsSaid : Prop := fnExactLeastSendsRow.holds Try.pinned (OpenSpec.ofChange fnExactLeastSendsSpec)

/-- ITS FALSE NEIGHBOUR: 'it returns false'. Refute it at one input. -/
def fnExactLeastSendsWrong : ChangeSpec := { name := "fnExactLeastSends", fn := fun _ => fun
  | [d] => { results := [.lit (.bool false)], args := [d] }
  | _ => none }
def FnExactLeastSendsWrongFalsely : Prop := fnExactLeastSendsRow.holds Try.pinned (OpenSpec.ofChange fnExactLeastSendsWrong)

/-- 'laws.FnExactRankOf': WHATEVER THE INPUT: true; the input reads as it did. -/
def fnExactRankOfSpec : ChangeSpec := { name := "fnExactRankOf", fn := fun _ => fun
  | [d1, d2] => { results := [.lit (.bool true)], args := [d1, d2] }
  | _ => none }
def fnExactRankOfRow : OpenClaim := { program := "ytpglakicdckfpaa", sum := "119ecf47aa4d424d1ea6df96af51889d06b994a77316d57dd461899434fe93d1", func := "loop.example/lostshares/laws.FnExactRankOf", spec := "fnExactRankOf", unfollowed := true, recurses := true, apart := false }
def FnExactRankOfSaid : Prop := fnExactRankOfRow.holds Try.pinned (OpenSpec.ofChange fnExactRankOfSpec)

/-- ITS FALSE NEIGHBOUR: 'it returns false'. Refute it at one input. -/
def fnExactRankOfWrong : ChangeSpec := { name := "fnExactRankOf", fn := fun _ => fun
  | [d1, d2] => { results := [.lit (.bool false)], args := [d1, d2] }
  | _ => none }
def FnExactRankOfWrongFalsely : Prop := fnExactRankOfRow.holds Try.pinned (OpenSpec.ofChange fnExactRankOfWrong)

/-- 'laws.FnRankOf': WHATEVER THE INPUT: true; the input reads as it did. -/
def fnRankOfSpec : ChangeSpec := { name := "fnRankOf", fn := fun _ => fun
  | [d] => { results := [.lit (.bool true)], args := [d] }
  | _ => none }
def fnRankOfRow : OpenClaim := { program := "ytpglakicdckfpaa", sum := "119ecf47aa4d424d1ea6df96af51889d06b994a77316d57dd461899434fe93d1", func := "loop.example/lostshares/laws.FnRankOf", spec := "fnRankOf", unfollowed := true, recurses := true, apart := false }
def FnRankOfSaid : Prop := fnRankOfRow.holds Try.pinned (OpenSpec.ofChange fnRankOfSpec)

/-- ITS FALSE NEIGHBOUR: 'it returns false'. Refute it at one input. -/
def fnRankOfWrong : ChangeSpec := { name := "fnRankOf", fn := fun _ => fun
  | [d] => { results := [.lit (.bool false)], args := [d] }
  | _ => none }
def FnRankOfWrongFalsely : Prop := fnRankOfRow.holds Try.pinned (OpenSpec.ofChange fnRankOfWrong)

/-- 'laws.FnExactReduced': WHATEVER THE INPUT: true; the input reads as it did. -/
def fnExactReducedSpec : ChangeSpec := { name := "fnExactReduced", fn := fun _ => fun
  | [d1, d2] => { results := [.lit (.bool true)], args := [d1, d2] }
  | _ => none }
def fnExactReducedRow : OpenClaim := { program := "ytpglakicdckfpaa", sum := "119ecf47aa4d424d1ea6df96af51889d06b994a77316d57dd461899434fe93d1", func := "loop.example/lostshares/laws.FnExactReduced", spec := "fnExactReduced", unfollowed := true, recurses := true, apart := false }
def FnExactReducedSaid : Prop := fnExactReducedRow.holds Try.pinned (OpenSpec.ofChange fnExactReducedSpec)

/-- ITS FALSE NEIGHBOUR: 'it returns false'. Refute it at one input. -/
def fnExactReducedWrong : ChangeSpec := { name := "fnExactReduced", fn := fun _ => fun
  | [d1, d2] => { results := [.lit (.bool false)], args := [d1, d2] }
  | _ => none }
def FnExactReducedWrongFalsely : Prop := fnExactReducedRow.holds Try.pinned (OpenSpec.ofChange fnExactReducedWrong)

/-- 'laws.FnReduced': WHATEVER THE INPUT: true; the input reads as it did. -/
def fnReducedSpec : ChangeSpec := { name := "fnReduced", fn := fun _ => fun
  | [d] => { results := [.lit (.bool true)], args := [d] }
  | _ => none }
def fnReducedRow : OpenClaim := { program := "ytpglakicdckfpaa", sum := "119ecf47aa4d424d1ea6df96af51889d06b994a77316d57dd461899434fe93d1", func := "loop.example/lostshares/laws.FnReduced", spec := "fnReduced", unfollowed := true, recurses := true, apart := false }
def FnReducedSaid : Prop := fnReducedRow.holds Try.pinned (OpenSpec.ofChange fnReducedSpec)

/-- ITS FALSE NEIGHBOUR: 'it returns false'. Refute it at one input. -/
def fnReducedWrong : ChangeSpec := { name := "fnReduced", fn := fun _ => fun
  | [d] => { results := [.lit (.bool false)], args := [d] }
  | _ => none }
def FnReducedWrongFalsely : Prop := fnReducedRow.holds Try.pinned (OpenSpec.ofChange fnReducedWrong)

/-- 'laws.FnExactNullsOf': WHATEVER THE INPUT: true; the input reads as it did. -/
def fnExactNullsOfSpec : ChangeSpec := { name := "fnExactNullsOf", fn := fun _ => fun
  | [d1, d2] => { results := [.lit (.bool true)], args := [d1, d2] }
  | _ => none }
def fnExactNullsOfRow : OpenClaim := { program := "ytpglakicdckfpaa", sum := "119ecf47aa4d424d1ea6df96af51889d06b994a77316d57dd461899434fe93d1", func := "loop.example/lostshares/laws.FnExactNullsOf", spec := "fnExactNullsOf", unfollowed := true, recurses := true, apart := false }
def FnExactNullsOfSaid : Prop := fnExactNullsOfRow.holds Try.pinned (OpenSpec.ofChange fnExactNullsOfSpec)

/-- ITS FALSE NEIGHBOUR: 'it returns false'. Refute it at one input. -/
def fnExactNullsOfWrong : ChangeSpec := { name := "fnExactNullsOf", fn := fun _ => fun
  | [d1, d2] => { results := [.lit (.bool false)], args := [d1, d2] }
  | _ => none }
def FnExactNullsOfWrongFalsely : Prop := fnExactNullsOfRow.holds Try.pinned (OpenSpec.ofChange fnExactNullsOfWrong)

/-- 'laws.FnNullsOf': WHATEVER THE INPUT: true; the input reads as it did. -/
def fnNullsOfSpec : ChangeSpec := { name := "fnNullsOf", fn := fun _ => fun
  | [d] => { results := [.lit (.bool true)], args := [d] }
  | _ => none }
def fnNullsOfRow : OpenClaim := { program := "ytpglakicdckfpaa", sum := "119ecf47aa4d424d1ea6df96af51889d06b994a77316d57dd461899434fe93d1", func := "loop.example/lostshares/laws.FnNullsOf", spec := "fnNullsOf", unfollowed := true, recurses := true, apart := false }
def FnNullsOfSaid : Prop := fnNullsOfRow.holds Try.pinned (OpenSpec.ofChange fnNullsOfSpec)

/-- ITS FALSE NEIGHBOUR: 'it returns false'. Refute it at one input. -/
def fnNullsOfWrong : ChangeSpec := { name := "fnNullsOf", fn := fun _ => fun
  | [d] => { results := [.lit (.bool false)], args := [d] }
  | _ => none }
def FnNullsOfWrongFalsely : Prop := fnNullsOfRow.holds Try.pinned (OpenSpec.ofChange fnNullsOfWrong)

/- THE SECOND FORM. 'bulk': how many values and letters a reading holds, each counted each time it is reached (what is shared counts as often as it is met; a slice's spare places count too). A statement '..UptoSaid' is the law's where the arguments, and the package variables that the reading takes, are together of bulk at most 1048576: NARROWER than '..Said'. Prove '..Said' where nothing that the law and all that it calls make is longer than what came in: it says more and counts as full. Else prove '..UptoSaid'. A law counts once. -/
mutual
def uptoBulk {H : Type} : DataW H → Nat
  | .lit (.string bytes) => bytes.length + 1
  | .lit _ => 1
  | .nil => 1
  | .ptr d => uptoBulk d + 1
  | .slice elems spare => uptoBulkAll elems + uptoBulkAll spare + 1
  | .agg parts => uptoBulkAll parts + 1
  | .iface _ d => uptoBulk d + 1
  | .map entries => uptoBulkEntries entries + 1
  | .held _ => 1
def uptoBulkAll {H : Type} : List (DataW H) → Nat
  | [] => 0
  | d :: r => uptoBulk d + uptoBulkAll r
def uptoBulkEntries {H : Type} : List (Lit × DataW H) → Nat
  | [] => 0
  | x :: r => uptoBulkEntry x + uptoBulkEntries r
def uptoBulkEntry {H : Type} : Lit × DataW H → Nat
  | (.string bytes, d) => bytes.length + uptoBulk d + 1
  | (_, d) => uptoBulk d + 1
 end
def uptoSmall : (H : Type) → List (DataW H) → Bool := fun _ ds => decide (uptoBulkAll ds ≤ 1048576)
def OpenSpec.upto (s : _root_.Go.ChangeSpec) : _root_.Go.OpenSpec := { _root_.Go.OpenSpec.ofChange s with cond := some uptoSmall }

/-- 'laws.FnGroupsOf', WHERE WHAT IT READS IS OF BULK AT MOST 1048576: true; the input reads as it did. -/
def fnGroupsOfUptoRow : OpenClaim := { program := "ytpglakicdckfpaa", sum := "119ecf47aa4d424d1ea6df96af51889d06b994a77316d57dd461899434fe93d1", func := "loop.example/lostshares/laws.FnGroupsOf", spec := "fnGroupsOf", unfollowed := true, recurses := true, apart := false, narrowed := true }
def FnGroupsOfUptoSaid : Prop := fnGroupsOfUptoRow.holds Try.pinned (OpenSpec.upto fnGroupsOfSpec)

/-- 'laws.FnExactGroupsOf', WHERE WHAT IT READS IS OF BULK AT MOST 1048576: true; the input reads as it did. -/
def fnExactGroupsOfUptoRow : OpenClaim := { program := "ytpglakicdckfpaa", sum := "119ecf47aa4d424d1ea6df96af51889d06b994a77316d57dd461899434fe93d1", func := "loop.example/lostshares/laws.FnExactGroupsOf", spec := "fnExactGroupsOf", unfollowed := true, recurses := true, apart := false, narrowed := true }
def FnExactGroupsOfUptoSaid : Prop := fnExactGroupsOfUptoRow.holds Try.pinned (OpenSpec.upto fnExactGroupsOfSpec)

/-- 'laws.FnExactTurnedGroups', WHERE WHAT IT READS IS OF BULK AT MOST 1048576: true; the input reads as it did. -/
def fnExactTurnedGroupsUptoRow : OpenClaim := { program := "ytpglakicdckfpaa", sum := "119ecf47aa4d424d1ea6df96af51889d06b994a77316d57dd461899434fe93d1", func := "loop.example/lostshares/laws.FnExactTurnedGroups", spec := "fnExactTurnedGroups", unfollowed := true, recurses := true, apart := false, narrowed := true }
def FnExactTurnedGroupsUptoSaid : Prop := fnExactTurnedGroupsUptoRow.holds Try.pinned (OpenSpec.upto fnExactTurnedGroupsSpec)

/-- 'laws.FnTurnedGroups', WHERE WHAT IT READS IS OF BULK AT MOST 1048576: true; the input reads as it did. -/
def fnTurnedGroupsUptoRow : OpenClaim := { program := "ytpglakicdckfpaa", sum := "119ecf47aa4d424d1ea6df96af51889d06b994a77316d57dd461899434fe93d1", func := "loop.example/lostshares/laws.FnTurnedGroups", spec := "fnTurnedGroups", unfollowed := true, recurses := true, apart := false, narrowed := true }
def FnTurnedGroupsUptoSaid : Prop := fnTurnedGroupsUptoRow.holds Try.pinned (OpenSpec.upto fnTurnedGroupsSpec)

/-- 'laws.FnSecretOf', WHERE WHAT IT READS IS OF BULK AT MOST 1048576: true; the input reads as it did. -/
def fnSecretOfUptoRow : OpenClaim := { program := "ytpglakicdckfpaa", sum := "119ecf47aa4d424d1ea6df96af51889d06b994a77316d57dd461899434fe93d1", func := "loop.example/lostshares/laws.FnSecretOf", spec := "fnSecretOf", unfollowed := true, recurses := true, apart := false, narrowed := true }
def FnSecretOfUptoSaid : Prop := fnSecretOfUptoRow.holds Try.pinned (OpenSpec.upto fnSecretOfSpec)

/-- 'laws.FnExactLeastSends', WHERE WHAT IT READS IS OF BULK AT MOST 1048576: true; the input reads as it did. -/
def fnExactLeastSendsUptoRow : OpenClaim := { program := "ytpglakicdckfpaa", sum := "119ecf47aa4d424d1ea6df96af51889d06b994a77316d57dd461899434fe93d1", func := "loop.example/lostshares/laws.FnExactLeastSends", spec := "fnExactLeastSends", unfollowed := true, recurses := true, apart := false, narrowed := true }
def FnExactLeastSendsUptoSaid : Prop := fnExactLeastSendsUptoRow.holds Try.pinned (OpenSpec.upto fnExactLeastSendsSpec)

/-- 'laws.FnExactRankOf', WHERE WHAT IT READS IS OF BULK AT MOST 1048576: true; the input reads as it did. -/
def fnExactRankOfUptoRow : OpenClaim := { program := "ytpglakicdckfpaa", sum := "119ecf47aa4d424d1ea6df96af51889d06b994a77316d57dd461899434fe93d1", func := "loop.example/lostshares/laws.FnExactRankOf", spec := "fnExactRankOf", unfollowed := true, recurses := true, apart := false, narrowed := true }
def FnExactRankOfUptoSaid : Prop := fnExactRankOfUptoRow.holds Try.pinned (OpenSpec.upto fnExactRankOfSpec)

/-- 'laws.FnRankOf', WHERE WHAT IT READS IS OF BULK AT MOST 1048576: true; the input reads as it did. -/
def fnRankOfUptoRow : OpenClaim := { program := "ytpglakicdckfpaa", sum := "119ecf47aa4d424d1ea6df96af51889d06b994a77316d57dd461899434fe93d1", func := "loop.example/lostshares/laws.FnRankOf", spec := "fnRankOf", unfollowed := true, recurses := true, apart := false, narrowed := true }
def FnRankOfUptoSaid : Prop := fnRankOfUptoRow.holds Try.pinned (OpenSpec.upto fnRankOfSpec)

/-- 'laws.FnExactReduced', WHERE WHAT IT READS IS OF BULK AT MOST 1048576: true; the input reads as it did. -/
def fnExactReducedUptoRow : OpenClaim := { program := "ytpglakicdckfpaa", sum := "119ecf47aa4d424d1ea6df96af51889d06b994a77316d57dd461899434fe93d1", func := "loop.example/lostshares/laws.FnExactReduced", spec := "fnExactReduced", unfollowed := true, recurses := true, apart := false, narrowed := true }
def FnExactReducedUptoSaid : Prop := fnExactReducedUptoRow.holds Try.pinned (OpenSpec.upto fnExactReducedSpec)

/-- 'laws.FnReduced', WHERE WHAT IT READS IS OF BULK AT MOST 1048576: true; the input reads as it did. -/
def fnReducedUptoRow : OpenClaim := { program := "ytpglakicdckfpaa", sum := "119ecf47aa4d424d1ea6df96af51889d06b994a77316d57dd461899434fe93d1", func := "loop.example/lostshares/laws.FnReduced", spec := "fnReduced", unfollowed := true, recurses := true, apart := false, narrowed := true }
def FnReducedUptoSaid : Prop := fnReducedUptoRow.holds Try.pinned (OpenSpec.upto fnReducedSpec)

/-- 'laws.FnExactNullsOf', WHERE WHAT IT READS IS OF BULK AT MOST 1048576: true; the input reads as it did. -/
def fnExactNullsOfUptoRow : OpenClaim := { program := "ytpglakicdckfpaa", sum := "119ecf47aa4d424d1ea6df96af51889d06b994a77316d57dd461899434fe93d1", func := "loop.example/lostshares/laws.FnExactNullsOf", spec := "fnExactNullsOf", unfollowed := true, recurses := true, apart := false, narrowed := true }
def FnExactNullsOfUptoSaid : Prop := fnExactNullsOfUptoRow.holds Try.pinned (OpenSpec.upto fnExactNullsOfSpec)

/-- 'laws.FnNullsOf', WHERE WHAT IT READS IS OF BULK AT MOST 1048576: true; the input reads as it did. -/
def fnNullsOfUptoRow : OpenClaim := { program := "ytpglakicdckfpaa", sum := "119ecf47aa4d424d1ea6df96af51889d06b994a77316d57dd461899434fe93d1", func := "loop.example/lostshares/laws.FnNullsOf", spec := "fnNullsOf", unfollowed := true, recurses := true, apart := false, narrowed := true }
def FnNullsOfUptoSaid : Prop := fnNullsOfUptoRow.holds Try.pinned (OpenSpec.upto fnNullsOfSpec)

end Rows
end Go.Proofs.Ytpglakicdckfpaa
