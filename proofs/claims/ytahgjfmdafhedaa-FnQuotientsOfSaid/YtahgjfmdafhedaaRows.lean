/-
  No cell of these rows narrows 'for every input' (looked for: loops, veiled, ifaces, maps, wideKeys, modest, calm, conditions, laid).
  DERIVED. THE GIVEN ROWS OF THIS SEAT. 5 by the template 'for every input the law returns true; each argument reads behind the call as it read before'; 0 by the template 'total and deterministic' (their statements: YtahgjfmdafhedaaTotals.lean).
  GIVEN WITH THE SEED: the statements are not yours to turn. If you find one false, say at which input.
  Laid BY PROGRAM, IN A SANDBOX (cutbox-rows.mjs): the forced cells as the released guide's own fill.sh prints them over the translation 279c0888d33d57e7… (all of the seat's roots in one cut). By AI agents, Wed Nov 11 2026. No macro, syntax, notation, axiom, sorry.
-/
import Derived.Test.YtahgjfmdafhedaaChecked
import GoSem.Claim
import GoSem.ClaimJoined
import GoSem.ClaimMapViews
import Derived.JoinedTies
import Derived.KernelRfl
namespace Go.Proofs.Ytahgjfmdafhedaa
/- THE CELL 'sum', in the pinned program and in every row, IS THE sha256 OF THE DUMP (.gsa) THAT YtahgjfmdafhedaaProg.lean LOADS. Nothing in Lean hashes anything: it is a label: what it is worth is what the hold of that sum in a sandbox is worth. -/
noncomputable def Try.pinned : Pinned := { name := "ytahgjfmdafhedaa", sum := "279c0888d33d57e7af3729ee0adf4cc5e1faea51788f7c0d7c1a1d51a9ee98e1", checked := Try.checked }
namespace Rows
def none {H : Type} : Left H := { results := [], args := [] }

/-- 'laws.FnPowersOf': WHATEVER THE INPUT: true; the input reads as it did. -/
def fnPowersOfSpec : ChangeSpec := { name := "fnPowersOf", fn := fun _ => fun
  | [d] => { results := [.lit (.bool true)], args := [d] }
  | _ => none }
def fnPowersOfRow : OpenClaim := { program := "ytahgjfmdafhedaa", sum := "279c0888d33d57e7af3729ee0adf4cc5e1faea51788f7c0d7c1a1d51a9ee98e1", func := "loop.example/lostshares/laws.FnPowersOf", spec := "fnPowersOf", unfollowed := true, recurses := true, apart := false }
def FnPowersOfSaid : Prop := fnPowersOfRow.holds Try.pinned (OpenSpec.ofChange fnPowersOfSpec)

/-- ITS FALSE NEIGHBOUR: 'it returns false'. Refute it at one input. -/
def fnPowersOfWrong : ChangeSpec := { name := "fnPowersOf", fn := fun _ => fun
  | [d] => { results := [.lit (.bool false)], args := [d] }
  | _ => none }
def FnPowersOfWrongFalsely : Prop := fnPowersOfRow.holds Try.pinned (OpenSpec.ofChange fnPowersOfWrong)

/-- 'laws.FnQuotientsOf': WHATEVER THE INPUT: true; the input reads as it did. -/
def fnQuotientsOfSpec : ChangeSpec := { name := "fnQuotientsOf", fn := fun _ => fun
  | [d] => { results := [.lit (.bool true)], args := [d] }
  | _ => none }
def fnQuotientsOfRow : OpenClaim := { program := "ytahgjfmdafhedaa", sum := "279c0888d33d57e7af3729ee0adf4cc5e1faea51788f7c0d7c1a1d51a9ee98e1", func := "loop.example/lostshares/laws.FnQuotientsOf", spec := "fnQuotientsOf", unfollowed := true, recurses := true, apart := false }
def FnQuotientsOfSaid : Prop := fnQuotientsOfRow.holds Try.pinned (OpenSpec.ofChange fnQuotientsOfSpec)

/-- ITS FALSE NEIGHBOUR: 'it returns false'. Refute it at one input. -/
def fnQuotientsOfWrong : ChangeSpec := { name := "fnQuotientsOf", fn := fun _ => fun
  | [d] => { results := [.lit (.bool false)], args := [d] }
  | _ => none }
def FnQuotientsOfWrongFalsely : Prop := fnQuotientsOfRow.holds Try.pinned (OpenSpec.ofChange fnQuotientsOfWrong)

/-- 'laws.FnSecretOf': WHATEVER THE INPUT: true; the input reads as it did. -/
def fnSecretOfSpec : ChangeSpec := { name := "fnSecretOf", fn := fun _ => fun
  | [d] => { results := [.lit (.bool true)], args := [d] }
  | _ => none }
def fnSecretOfRow : OpenClaim := { program := "ytahgjfmdafhedaa", sum := "279c0888d33d57e7af3729ee0adf4cc5e1faea51788f7c0d7c1a1d51a9ee98e1", func := "loop.example/lostshares/laws.FnSecretOf", spec := "fnSecretOf", unfollowed := true, recurses := true, apart := false }
def FnSecretOfSaid : Prop := fnSecretOfRow.holds Try.pinned (OpenSpec.ofChange fnSecretOfSpec)

/-- ITS FALSE NEIGHBOUR: 'it returns false'. Refute it at one input. -/
def fnSecretOfWrong : ChangeSpec := { name := "fnSecretOf", fn := fun _ => fun
  | [d] => { results := [.lit (.bool false)], args := [d] }
  | _ => none }
def FnSecretOfWrongFalsely : Prop := fnSecretOfRow.holds Try.pinned (OpenSpec.ofChange fnSecretOfWrong)

/-- 'laws.FnExactLeastSends': WHATEVER THE INPUT: true; the input reads as it did. -/
def fnExactLeastSendsSpec : ChangeSpec := { name := "fnExactLeastSends", fn := fun _ => fun
  | [d] => { results := [.lit (.bool true)], args := [d] }
  | _ => none }
def fnExactLeastSendsRow : OpenClaim := { program := "ytahgjfmdafhedaa", sum := "279c0888d33d57e7af3729ee0adf4cc5e1faea51788f7c0d7c1a1d51a9ee98e1", func := "loop.example/lostshares/laws.FnExactLeastSends", spec := "fnExactLeastSends", unfollowed := true, recurses := true, apart := false }
def FnExactLeastSendsSaid : Prop := fnExactLeastSendsRow.holds Try.pinned (OpenSpec.ofChange fnExactLeastSendsSpec)

/-- ITS FALSE NEIGHBOUR: 'it returns false'. Refute it at one input. -/
def fnExactLeastSendsWrong : ChangeSpec := { name := "fnExactLeastSends", fn := fun _ => fun
  | [d] => { results := [.lit (.bool false)], args := [d] }
  | _ => none }
def FnExactLeastSendsWrongFalsely : Prop := fnExactLeastSendsRow.holds Try.pinned (OpenSpec.ofChange fnExactLeastSendsWrong)

/-- 'laws.FnLeastSends': WHATEVER THE INPUT: true; the input reads as it did. -/
def fnLeastSendsSpec : ChangeSpec := { name := "fnLeastSends", fn := fun _ => fun
  | [d] => { results := [.lit (.bool true)], args := [d] }
  | _ => none }
def fnLeastSendsRow : OpenClaim := { program := "ytahgjfmdafhedaa", sum := "279c0888d33d57e7af3729ee0adf4cc5e1faea51788f7c0d7c1a1d51a9ee98e1", func := "loop.example/lostshares/laws.FnLeastSends", spec := "fnLeastSends", unfollowed := true, recurses := true, apart := false }
def FnLeastSendsSaid : Prop := fnLeastSendsRow.holds Try.pinned (OpenSpec.ofChange fnLeastSendsSpec)

/-- ITS FALSE NEIGHBOUR: 'it returns false'. Refute it at one input. -/
def fnLeastSendsWrong : ChangeSpec := { name := "fnLeastSends", fn := fun _ => fun
  | [d] => { results := [.lit (.bool false)], args := [d] }
  | _ => none }
def FnLeastSendsWrongFalsely : Prop := fnLeastSendsRow.holds Try.pinned (OpenSpec.ofChange fnLeastSendsWrong)

/- THE SECOND FORM. 'bulk': how many values and letters a reading holds, each counted each time it is reached (what is shared counts as often as it is met; a slice's spare places count too). A statement '..UptoSaid' is the law's where the arguments, and the package variables that the reading takes, are together of bulk at most 1048576: NARROWER than '..Said'. Prove '..Said' where nothing that the law and all that it calls make is longer than what came in: it says more and counts as full. Else prove '..UptoSaid'. A law counts once. -/
mutual
def uptoBulk {H : Type} : DataW H → Nat
  | .lit (.string bytes) => bytes.length + 1
  | .lit _ => 1
  | .nil => 1
  | .ptr d => uptoBulk d + 1
  | .slice elems spare => uptoBulkAll elems + uptoBulkAll spare + 1
  | .agg parts => uptoBulkAll parts + 1
  | .iface _ d => uptoBulk d + 1
  | .map entries => uptoBulkEntries entries + 1
  | .held _ => 1
def uptoBulkAll {H : Type} : List (DataW H) → Nat
  | [] => 0
  | d :: r => uptoBulk d + uptoBulkAll r
def uptoBulkEntries {H : Type} : List (Lit × DataW H) → Nat
  | [] => 0
  | x :: r => uptoBulkEntry x + uptoBulkEntries r
def uptoBulkEntry {H : Type} : Lit × DataW H → Nat
  | (.string bytes, d) => bytes.length + uptoBulk d + 1
  | (_, d) => uptoBulk d + 1
 end
def uptoSmall : (H : Type) → List (DataW H) → Bool := fun _ ds => decide (uptoBulkAll ds ≤ 1048576)
def OpenSpec.upto (s : _root_.Go.ChangeSpec) : _root_.Go.OpenSpec := { _root_.Go.OpenSpec.ofChange s with cond := some uptoSmall }

/-- 'laws.FnPowersOf', WHERE WHAT IT READS IS OF BULK AT MOST 1048576: true; the input reads as it did. -/
def fnPowersOfUptoRow : OpenClaim := { program := "ytahgjfmdafhedaa", sum := "279c0888d33d57e7af3729ee0adf4cc5e1faea51788f7c0d7c1a1d51a9ee98e1", func := "loop.example/lostshares/laws.FnPowersOf", spec := "fnPowersOf", unfollowed := true, recurses := true, apart := false, narrowed := true }
def FnPowersOfUptoSaid : Prop := fnPowersOfUptoRow.holds Try.pinned (OpenSpec.upto fnPowersOfSpec)

/-- 'laws.FnQuotientsOf', WHERE WHAT IT READS IS OF BULK AT MOST 1048576: true; the input reads as it did. -/
def fnQuotientsOfUptoRow : OpenClaim := { program := "ytahgjfmdafhedaa", sum := "279c0888d33d57e7af3729ee0adf4cc5e1faea51788f7c0d7c1a1d51a9ee98e1", func := "loop.example/lostshares/laws.FnQuotientsOf", spec := "fnQuotientsOf", unfollowed := true, recurses := true, apart := false, narrowed := true }
def FnQuotientsOfUptoSaid : Prop := fnQuotientsOfUptoRow.holds Try.pinned (OpenSpec.upto fnQuotientsOfSpec)

/-- 'laws.FnSecretOf', WHERE WHAT IT READS IS OF BULK AT MOST 1048576: true; the input reads as it did. -/
def fnSecretOfUptoRow : OpenClaim := { program := "ytahgjfmdafhedaa", sum := "279c0888d33d57e7af3729ee0adf4cc5e1faea51788f7c0d7c1a1d51a9ee98e1", func := "loop.example/lostshares/laws.FnSecretOf", spec := "fnSecretOf", unfollowed := true, recurses := true, apart := false, narrowed := true }
def FnSecretOfUptoSaid : Prop := fnSecretOfUptoRow.holds Try.pinned (OpenSpec.upto fnSecretOfSpec)

/-- 'laws.FnExactLeastSends', WHERE WHAT IT READS IS OF BULK AT MOST 1048576: true; the input reads as it did. -/
def fnExactLeastSendsUptoRow : OpenClaim := { program := "ytahgjfmdafhedaa", sum := "279c0888d33d57e7af3729ee0adf4cc5e1faea51788f7c0d7c1a1d51a9ee98e1", func := "loop.example/lostshares/laws.FnExactLeastSends", spec := "fnExactLeastSends", unfollowed := true, recurses := true, apart := false, narrowed := true }
def FnExactLeastSendsUptoSaid : Prop := fnExactLeastSendsUptoRow.holds Try.pinned (OpenSpec.upto fnExactLeastSendsSpec)

/-- 'laws.FnLeastSends', WHERE WHAT IT READS IS OF BULK AT MOST 1048576: true; the input reads as it did. -/
def fnLeastSendsUptoRow : OpenClaim := { program := "ytahgjfmdafhedaa", sum := "279c0888d33d57e7af3729ee0adf4cc5e1faea51788f7c0d7c1a1d51a9ee98e1", func := "loop.example/lostshares/laws.FnLeastSends", spec := "fnLeastSends", unfollowed := true, recurses := true, apart := false, narrowed := true }
def FnLeastSendsUptoSaid : Prop := fnLeastSendsUptoRow.holds Try.pinned (OpenSpec.upto fnLeastSendsSpec)

end Rows
end Go.Proofs.Ytahgjfmdafhedaa
