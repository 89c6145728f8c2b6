/-
  No cell of these rows narrows 'for every input' (looked for: loops, veiled, ifaces, maps, wideKeys, modest, calm, conditions, laid).
  DERIVED. THE GIVEN ROWS OF THIS SEAT. 11 by the template 'for every input the law returns true; each argument reads behind the call as it read before'; 0 by the template 'total and deterministic' (their statements: YtmehgchmnnbkfaaTotals.lean).
  GIVEN WITH THE SEED: the statements are not yours to turn. If you find one false, say at which input.
  Laid BY PROGRAM, IN A SANDBOX (cutbox-rows.mjs): the forced cells as the released guide's own fill.sh prints them over the translation c22e385d03fd62d3… (all of the seat's roots in one cut). By AI agents, Wed Nov 11 2026. No macro, syntax, notation, axiom, sorry.
-/
import Derived.Test.YtmehgchmnnbkfaaChecked
import GoSem.Claim
import GoSem.ClaimJoined
import GoSem.ClaimMapViews
import Derived.JoinedTies
import Derived.KernelRfl
namespace Go.Proofs.Ytmehgchmnnbkfaa
/- THE CELL 'sum', in the pinned program and in every row, IS THE sha256 OF THE DUMP (.gsa) THAT YtmehgchmnnbkfaaProg.lean LOADS. Nothing in Lean hashes anything: it is a label: what it is worth is what the hold of that sum in a sandbox is worth. -/
noncomputable def Try.pinned : Pinned := { name := "ytmehgchmnnbkfaa", sum := "c22e385d03fd62d3be2eeb232e3f6992f5efd4b1bf412207550c0d4cbdf1c87f", checked := Try.checked }
namespace Rows
def none {H : Type} : Left H := { results := [], args := [] }

/-- 'laws.FnIsBest': WHATEVER THE INPUT: true; the input reads as it did. -/
def fnIsBestSpec : ChangeSpec := { name := "fnIsBest", fn := fun _ => fun
  | [d] => { results := [.lit (.bool true)], args := [d] }
  | _ => none }
def fnIsBestRow : OpenClaim := { program := "ytmehgchmnnbkfaa", sum := "c22e385d03fd62d3be2eeb232e3f6992f5efd4b1bf412207550c0d4cbdf1c87f", func := "loop.example/lostshares/laws.FnIsBest", spec := "fnIsBest", unfollowed := true, recurses := true, apart := false }
def FnIsBestSaid : Prop := fnIsBestRow.holds Try.pinned (OpenSpec.ofChange fnIsBestSpec)

/-- ITS FALSE NEIGHBOUR: 'it returns false'. Refute it at one input. -/
def fnIsBestWrong : ChangeSpec := { name := "fnIsBest", fn := fun _ => fun
  | [d] => { results := [.lit (.bool false)], args := [d] }
  | _ => none }
def FnIsBestWrongFalsely : Prop := fnIsBestRow.holds Try.pinned (OpenSpec.ofChange fnIsBestWrong)

/-- 'laws.FnValidCode': WHATEVER THE INPUT: true; the input reads as it did. -/
def fnValidCodeSpec : ChangeSpec := { name := "fnValidCode", fn := fun _ => fun
  | [d] => { results := [.lit (.bool true)], args := [d] }
  | _ => none }
def fnValidCodeRow : OpenClaim := { program := "ytmehgchmnnbkfaa", sum := "c22e385d03fd62d3be2eeb232e3f6992f5efd4b1bf412207550c0d4cbdf1c87f", func := "loop.example/lostshares/laws.FnValidCode", spec := "fnValidCode", unfollowed := true, recurses := true, apart := false }
def FnValidCodeSaid : Prop := fnValidCodeRow.holds Try.pinned (OpenSpec.ofChange fnValidCodeSpec)

/-- ITS FALSE NEIGHBOUR: 'it returns false'. Refute it at one input. -/
def fnValidCodeWrong : ChangeSpec := { name := "fnValidCode", fn := fun _ => fun
  | [d] => { results := [.lit (.bool false)], args := [d] }
  | _ => none }
def FnValidCodeWrongFalsely : Prop := fnValidCodeRow.holds Try.pinned (OpenSpec.ofChange fnValidCodeWrong)

/-- 'laws.FnWeightsOf': WHATEVER THE INPUT: true; the input reads as it did. -/
def fnWeightsOfSpec : ChangeSpec := { name := "fnWeightsOf", fn := fun _ => fun
  | [d] => { results := [.lit (.bool true)], args := [d] }
  | _ => none }
def fnWeightsOfRow : OpenClaim := { program := "ytmehgchmnnbkfaa", sum := "c22e385d03fd62d3be2eeb232e3f6992f5efd4b1bf412207550c0d4cbdf1c87f", func := "loop.example/lostshares/laws.FnWeightsOf", spec := "fnWeightsOf", unfollowed := true, recurses := true, apart := false }
def FnWeightsOfSaid : Prop := fnWeightsOfRow.holds Try.pinned (OpenSpec.ofChange fnWeightsOfSpec)

/-- ITS FALSE NEIGHBOUR: 'it returns false'. Refute it at one input. -/
def fnWeightsOfWrong : ChangeSpec := { name := "fnWeightsOf", fn := fun _ => fun
  | [d] => { results := [.lit (.bool false)], args := [d] }
  | _ => none }
def FnWeightsOfWrongFalsely : Prop := fnWeightsOfRow.holds Try.pinned (OpenSpec.ofChange fnWeightsOfWrong)

/-- 'laws.FnLossesOf': WHATEVER THE INPUT: true; the input reads as it did. -/
def fnLossesOfSpec : ChangeSpec := { name := "fnLossesOf", fn := fun _ => fun
  | [d] => { results := [.lit (.bool true)], args := [d] }
  | _ => none }
def fnLossesOfRow : OpenClaim := { program := "ytmehgchmnnbkfaa", sum := "c22e385d03fd62d3be2eeb232e3f6992f5efd4b1bf412207550c0d4cbdf1c87f", func := "loop.example/lostshares/laws.FnLossesOf", spec := "fnLossesOf", unfollowed := true, recurses := true, apart := false }
def FnLossesOfSaid : Prop := fnLossesOfRow.holds Try.pinned (OpenSpec.ofChange fnLossesOfSpec)

/-- ITS FALSE NEIGHBOUR: 'it returns false'. Refute it at one input. -/
def fnLossesOfWrong : ChangeSpec := { name := "fnLossesOf", fn := fun _ => fun
  | [d] => { results := [.lit (.bool false)], args := [d] }
  | _ => none }
def FnLossesOfWrongFalsely : Prop := fnLossesOfRow.holds Try.pinned (OpenSpec.ofChange fnLossesOfWrong)

/-- 'laws.FnNearnessOf': WHATEVER THE INPUT: true; the input reads as it did. -/
def fnNearnessOfSpec : ChangeSpec := { name := "fnNearnessOf", fn := fun _ => fun
  | [d] => { results := [.lit (.bool true)], args := [d] }
  | _ => none }
def fnNearnessOfRow : OpenClaim := { program := "ytmehgchmnnbkfaa", sum := "c22e385d03fd62d3be2eeb232e3f6992f5efd4b1bf412207550c0d4cbdf1c87f", func := "loop.example/lostshares/laws.FnNearnessOf", spec := "fnNearnessOf", unfollowed := true, recurses := true, apart := false }
def FnNearnessOfSaid : Prop := fnNearnessOfRow.holds Try.pinned (OpenSpec.ofChange fnNearnessOfSpec)

/-- ITS FALSE NEIGHBOUR: 'it returns false'. Refute it at one input. -/
def fnNearnessOfWrong : ChangeSpec := { name := "fnNearnessOf", fn := fun _ => fun
  | [d] => { results := [.lit (.bool false)], args := [d] }
  | _ => none }
def FnNearnessOfWrongFalsely : Prop := fnNearnessOfRow.holds Try.pinned (OpenSpec.ofChange fnNearnessOfWrong)

/-- 'laws.FnPowersOf': WHATEVER THE INPUT: true; the input reads as it did. -/
def fnPowersOfSpec : ChangeSpec := { name := "fnPowersOf", fn := fun _ => fun
  | [d] => { results := [.lit (.bool true)], args := [d] }
  | _ => none }
def fnPowersOfRow : OpenClaim := { program := "ytmehgchmnnbkfaa", sum := "c22e385d03fd62d3be2eeb232e3f6992f5efd4b1bf412207550c0d4cbdf1c87f", func := "loop.example/lostshares/laws.FnPowersOf", spec := "fnPowersOf", unfollowed := true, recurses := true, apart := false }
def FnPowersOfSaid : Prop := fnPowersOfRow.holds Try.pinned (OpenSpec.ofChange fnPowersOfSpec)

/-- ITS FALSE NEIGHBOUR: 'it returns false'. Refute it at one input. -/
def fnPowersOfWrong : ChangeSpec := { name := "fnPowersOf", fn := fun _ => fun
  | [d] => { results := [.lit (.bool false)], args := [d] }
  | _ => none }
def FnPowersOfWrongFalsely : Prop := fnPowersOfRow.holds Try.pinned (OpenSpec.ofChange fnPowersOfWrong)

/-- 'laws.FnQuotientsOf': WHATEVER THE INPUT: true; the input reads as it did. -/
def fnQuotientsOfSpec : ChangeSpec := { name := "fnQuotientsOf", fn := fun _ => fun
  | [d] => { results := [.lit (.bool true)], args := [d] }
  | _ => none }
def fnQuotientsOfRow : OpenClaim := { program := "ytmehgchmnnbkfaa", sum := "c22e385d03fd62d3be2eeb232e3f6992f5efd4b1bf412207550c0d4cbdf1c87f", func := "loop.example/lostshares/laws.FnQuotientsOf", spec := "fnQuotientsOf", unfollowed := true, recurses := true, apart := false }
def FnQuotientsOfSaid : Prop := fnQuotientsOfRow.holds Try.pinned (OpenSpec.ofChange fnQuotientsOfSpec)

/-- ITS FALSE NEIGHBOUR: 'it returns false'. Refute it at one input. -/
def fnQuotientsOfWrong : ChangeSpec := { name := "fnQuotientsOf", fn := fun _ => fun
  | [d] => { results := [.lit (.bool false)], args := [d] }
  | _ => none }
def FnQuotientsOfWrongFalsely : Prop := fnQuotientsOfRow.holds Try.pinned (OpenSpec.ofChange fnQuotientsOfWrong)

/-- 'laws.FnGroupsOf': WHATEVER THE INPUT: true; the input reads as it did. -/
def fnGroupsOfSpec : ChangeSpec := { name := "fnGroupsOf", fn := fun _ => fun
  | [d] => { results := [.lit (.bool true)], args := [d] }
  | _ => none }
def fnGroupsOfRow : OpenClaim := { program := "ytmehgchmnnbkfaa", sum := "c22e385d03fd62d3be2eeb232e3f6992f5efd4b1bf412207550c0d4cbdf1c87f", func := "loop.example/lostshares/laws.FnGroupsOf", spec := "fnGroupsOf", unfollowed := true, recurses := true, apart := false }
def FnGroupsOfSaid : Prop := fnGroupsOfRow.holds Try.pinned (OpenSpec.ofChange fnGroupsOfSpec)

/-- ITS FALSE NEIGHBOUR: 'it returns false'. Refute it at one input. -/
def fnGroupsOfWrong : ChangeSpec := { name := "fnGroupsOf", fn := fun _ => fun
  | [d] => { results := [.lit (.bool false)], args := [d] }
  | _ => none }
def FnGroupsOfWrongFalsely : Prop := fnGroupsOfRow.holds Try.pinned (OpenSpec.ofChange fnGroupsOfWrong)

/-- 'laws.FnTurnedGroups': WHATEVER THE INPUT: true; the input reads as it did. -/
def fnTurnedGroupsSpec : ChangeSpec := { name := "fnTurnedGroups", fn := fun _ => fun
  | [d] => { results := [.lit (.bool true)], args := [d] }
  | _ => none }
def fnTurnedGroupsRow : OpenClaim := { program := "ytmehgchmnnbkfaa", sum := "c22e385d03fd62d3be2eeb232e3f6992f5efd4b1bf412207550c0d4cbdf1c87f", func := "loop.example/lostshares/laws.FnTurnedGroups", spec := "fnTurnedGroups", unfollowed := true, recurses := true, apart := false }
def FnTurnedGroupsSaid : Prop := fnTurnedGroupsRow.holds Try.pinned (OpenSpec.ofChange fnTurnedGroupsSpec)

/-- ITS FALSE NEIGHBOUR: 'it returns false'. Refute it at one input. -/
def fnTurnedGroupsWrong : ChangeSpec := { name := "fnTurnedGroups", fn := fun _ => fun
  | [d] => { results := [.lit (.bool false)], args := [d] }
  | _ => none }
def FnTurnedGroupsWrongFalsely : Prop := fnTurnedGroupsRow.holds Try.pinned (OpenSpec.ofChange fnTurnedGroupsWrong)

/-- 'laws.FnSecretOf': WHATEVER THE INPUT: true; the input reads as it did. -/
def fnSecretOfSpec : ChangeSpec := { name := "fnSecretOf", fn := fun _ => fun
  | [d] => { results := [.lit (.bool true)], args := [d] }
  | _ => none }
def fnSecretOfRow : OpenClaim := { program := "ytmehgchmnnbkfaa", sum := "c22e385d03fd62d3be2eeb232e3f6992f5efd4b1bf412207550c0d4cbdf1c87f", func := "loop.example/lostshares/laws.FnSecretOf", spec := "fnSecretOf", unfollowed := true, recurses := true, apart := false }
def FnSecretOfSaid : Prop := fnSecretOfRow.holds Try.pinned (OpenSpec.ofChange fnSecretOfSpec)

/-- ITS FALSE NEIGHBOUR: 'it returns false'. Refute it at one input. -/
def fnSecretOfWrong : ChangeSpec := { name := "fnSecretOf", fn := fun _ => fun
  | [d] => { results := [.lit (.bool false)], args := [d] }
  | _ => none }
def FnSecretOfWrongFalsely : Prop := fnSecretOfRow.holds Try.pinned (OpenSpec.ofChange fnSecretOfWrong)

/-- 'laws.FnLeastSends': WHATEVER THE INPUT: true; the input reads as it did. -/
def fnLeastSendsSpec : ChangeSpec := { name := "fnLeastSends", fn := fun _ => fun
  | [d] => { results := [.lit (.bool true)], args := [d] }
  | _ => none }
def fnLeastSendsRow : OpenClaim := { program := "ytmehgchmnnbkfaa", sum := "c22e385d03fd62d3be2eeb232e3f6992f5efd4b1bf412207550c0d4cbdf1c87f", func := "loop.example/lostshares/laws.FnLeastSends", spec := "fnLeastSends", unfollowed := true, recurses := true, apart := false }
def FnLeastSendsSaid : Prop := fnLeastSendsRow.holds Try.pinned (OpenSpec.ofChange fnLeastSendsSpec)

/-- ITS FALSE NEIGHBOUR: 'it returns false'. Refute it at one input. -/
def fnLeastSendsWrong : ChangeSpec := { name := "fnLeastSends", fn := fun _ => fun
  | [d] => { results := [.lit (.bool false)], args := [d] }
  | _ => none }
def FnLeastSendsWrongFalsely : Prop := fnLeastSendsRow.holds Try.pinned (OpenSpec.ofChange fnLeastSendsWrong)

/- THE SECOND FORM. 'bulk': how many values and letters a reading holds, each counted each time it is reached (what is shared counts as often as it is met; a slice's spare places count too). A statement '..UptoSaid' is the law's where the arguments, and the package variables that the reading takes, are together of bulk at most 1048576: NARROWER than '..Said'. Prove '..Said' where nothing that the law and all that it calls make is longer than what came in: it says more and counts as full. Else prove '..UptoSaid'. A law counts once. -/
mutual
def uptoBulk {H : Type} : DataW H → Nat
  | .lit (.string bytes) => bytes.length + 1
  | .lit _ => 1
  | .nil => 1
  | .ptr d => uptoBulk d + 1
  | .slice elems spare => uptoBulkAll elems + uptoBulkAll spare + 1
  | .agg parts => uptoBulkAll parts + 1
  | .iface _ d => uptoBulk d + 1
  | .map entries => uptoBulkEntries entries + 1
  | .held _ => 1
def uptoBulkAll {H : Type} : List (DataW H) → Nat
  | [] => 0
  | d :: r => uptoBulk d + uptoBulkAll r
def uptoBulkEntries {H : Type} : List (Lit × DataW H) → Nat
  | [] => 0
  | x :: r => uptoBulkEntry x + uptoBulkEntries r
def uptoBulkEntry {H : Type} : Lit × DataW H → Nat
  | (.string bytes, d) => bytes.length + uptoBulk d + 1
  | (_, d) => uptoBulk d + 1
 end
def uptoSmall : (H : Type) → List (DataW H) → Bool := fun _ ds => decide (uptoBulkAll ds ≤ 1048576)
def OpenSpec.upto (s : _root_.Go.ChangeSpec) : _root_.Go.OpenSpec := { _root_.Go.OpenSpec.ofChange s with cond := some uptoSmall }

/-- 'laws.FnIsBest', WHERE WHAT IT READS IS OF BULK AT MOST 1048576: true; the input reads as it did. -/
def fnIsBestUptoRow : OpenClaim := { program := "ytmehgchmnnbkfaa", sum := "c22e385d03fd62d3be2eeb232e3f6992f5efd4b1bf412207550c0d4cbdf1c87f", func := "loop.example/lostshares/laws.FnIsBest", spec := "fnIsBest", unfollowed := true, recurses := true, apart := false, narrowed := true }
def FnIsBestUptoSaid : Prop := fnIsBestUptoRow.holds Try.pinned (OpenSpec.upto fnIsBestSpec)

/-- 'laws.FnValidCode', WHERE WHAT IT READS IS OF BULK AT MOST 1048576: true; the input reads as it did. -/
def fnValidCodeUptoRow : OpenClaim := { program := "ytmehgchmnnbkfaa", sum := "c22e385d03fd62d3be2eeb232e3f6992f5efd4b1bf412207550c0d4cbdf1c87f", func := "loop.example/lostshares/laws.FnValidCode", spec := "fnValidCode", unfollowed := true, recurses := true, apart := false, narrowed := true }
def FnValidCodeUptoSaid : Prop := fnValidCodeUptoRow.holds Try.pinned (OpenSpec.upto fnValidCodeSpec)

/-- 'laws.FnWeightsOf', WHERE WHAT IT READS IS OF BULK AT MOST 1048576: true; the input reads as it did. -/
def fnWeightsOfUptoRow : OpenClaim := { program := "ytmehgchmnnbkfaa", sum := "c22e385d03fd62d3be2eeb232e3f6992f5efd4b1bf412207550c0d4cbdf1c87f", func := "loop.example/lostshares/laws.FnWeightsOf", spec := "fnWeightsOf", unfollowed := true, recurses := true, apart := false, narrowed := true }
def FnWeightsOfUptoSaid : Prop := fnWeightsOfUptoRow.holds Try.pinned (OpenSpec.upto fnWeightsOfSpec)

/-- 'laws.FnLossesOf', WHERE WHAT IT READS IS OF BULK AT MOST 1048576: true; the input reads as it did. -/
def fnLossesOfUptoRow : OpenClaim := { program := "ytmehgchmnnbkfaa", sum := "c22e385d03fd62d3be2eeb232e3f6992f5efd4b1bf412207550c0d4cbdf1c87f", func := "loop.example/lostshares/laws.FnLossesOf", spec := "fnLossesOf", unfollowed := true, recurses := true, apart := false, narrowed := true }
def FnLossesOfUptoSaid : Prop := fnLossesOfUptoRow.holds Try.pinned (OpenSpec.upto fnLossesOfSpec)

/-- 'laws.FnNearnessOf', WHERE WHAT IT READS IS OF BULK AT MOST 1048576: true; the input reads as it did. -/
def fnNearnessOfUptoRow : OpenClaim := { program := "ytmehgchmnnbkfaa", sum := "c22e385d03fd62d3be2eeb232e3f6992f5efd4b1bf412207550c0d4cbdf1c87f", func := "loop.example/lostshares/laws.FnNearnessOf", spec := "fnNearnessOf", unfollowed := true, recurses := true, apart := false, narrowed := true }
def FnNearnessOfUptoSaid : Prop := fnNearnessOfUptoRow.holds Try.pinned (OpenSpec.upto fnNearnessOfSpec)

/-- 'laws.FnPowersOf', WHERE WHAT IT READS IS OF BULK AT MOST 1048576: true; the input reads as it did. -/
def fnPowersOfUptoRow : OpenClaim := { program := "ytmehgchmnnbkfaa", sum := "c22e385d03fd62d3be2eeb232e3f6992f5efd4b1bf412207550c0d4cbdf1c87f", func := "loop.example/lostshares/laws.FnPowersOf", spec := "fnPowersOf", unfollowed := true, recurses := true, apart := false, narrowed := true }
def FnPowersOfUptoSaid : Prop := fnPowersOfUptoRow.holds Try.pinned (OpenSpec.upto fnPowersOfSpec)

/-- 'laws.FnQuotientsOf', WHERE WHAT IT READS IS OF BULK AT MOST 1048576: true; the input reads as it did. -/
def fnQuotientsOfUptoRow : OpenClaim := { program := "ytmehgchmnnbkfaa", sum := "c22e385d03fd62d3be2eeb232e3f6992f5efd4b1bf412207550c0d4cbdf1c87f", func := "loop.example/lostshares/laws.FnQuotientsOf", spec := "fnQuotientsOf", unfollowed := true, recurses := true, apart := false, narrowed := true }
def FnQuotientsOfUptoSaid : Prop := fnQuotientsOfUptoRow.holds Try.pinned (OpenSpec.upto fnQuotientsOfSpec)

/-- 'laws.FnGroupsOf', WHERE WHAT IT READS IS OF BULK AT MOST 1048576: true; the input reads as it did. -/
def fnGroupsOfUptoRow : OpenClaim := { program := "ytmehgchmnnbkfaa", sum := "c22e385d03fd62d3be2eeb232e3f6992f5efd4b1bf412207550c0d4cbdf1c87f", func := "loop.example/lostshares/laws.FnGroupsOf", spec := "fnGroupsOf", unfollowed := true, recurses := true, apart := false, narrowed := true }
def FnGroupsOfUptoSaid : Prop := fnGroupsOfUptoRow.holds Try.pinned (OpenSpec.upto fnGroupsOfSpec)

/-- 'laws.FnTurnedGroups', WHERE WHAT IT READS IS OF BULK AT MOST 1048576: true; the input reads as it did. -/
def fnTurnedGroupsUptoRow : OpenClaim := { program := "ytmehgchmnnbkfaa", sum := "c22e385d03fd62d3be2eeb232e3f6992f5efd4b1bf412207550c0d4cbdf1c87f", func := "loop.example/lostshares/laws.FnTurnedGroups", spec := "fnTurnedGroups", unfollowed := true, recurses := true, apart := false, narrowed := true }
def FnTurnedGroupsUptoSaid : Prop := fnTurnedGroupsUptoRow.holds Try.pinned (OpenSpec.upto fnTurnedGroupsSpec)

/-- 'laws.FnSecretOf', WHERE WHAT IT READS IS OF BULK AT MOST 1048576: true; the input reads as it did. -/
def fnSecretOfUptoRow : OpenClaim := { program := "ytmehgchmnnbkfaa", sum := "c22e385d03fd62d3be2eeb232e3f6992f5efd4b1bf412207550c0d4cbdf1c87f", func := "loop.example/lostshares/laws.FnSecretOf", spec := "fnSecretOf", unfollowed := true, recurses := true, apart := false, narrowed := true }
def FnSecretOfUptoSaid : Prop := fnSecretOfUptoRow.holds Try.pinned (OpenSpec.upto fnSecretOfSpec)

/-- 'laws.FnLeastSends', WHERE WHAT IT READS IS OF BULK AT MOST 1048576: true; the input reads as it did. -/
def fnLeastSendsUptoRow : OpenClaim := { program := "ytmehgchmnnbkfaa", sum := "c22e385d03fd62d3be2eeb232e3f6992f5efd4b1bf412207550c0d4cbdf1c87f", func := "loop.example/lostshares/laws.FnLeastSends", spec := "fnLeastSends", unfollowed := true, recurses := true, apart := false, narrowed := true }
def FnLeastSendsUptoSaid : Prop := fnLeastSendsUptoRow.holds Try.pinned (OpenSpec.upto fnLeastSendsSpec)

end Rows
end Go.Proofs.Ytmehgchmnnbkfaa
