/- spec.solve. (field).solve$1: all kept rows are taken off. -/
import Derived.Test.YtcdbeepphdfipaaGreatDoorPlaM
import Derived.Test.YtcdbeepphdfipaaGreatDoorNulk
import Derived.Test.YtcdbeepphdfipaaGreatDoorBase
import Derived.Test.YtcdbeepphdfipaaGreatDoorKnow
import Derived.Deep.QuietTactic
import Derived.BigQuiet
namespace Go.Proofs.YtcdbeepphdfipaaGreatDoor
open Go.RowKit Mat
set_option linter.unusedVariables false

/-- The answer: the factors, or nil and false. -/
def SolB (q : Nat) [NeZero q] (rows : List (List Int)) (goal out : List Int) (ok : Bool) : Prop :=
  (ok = true → SolR q rows goal (some out)) ∧ (ok = false → out = [] ∧ SolR q rows goal none)
theorem SolB.unique {q : Nat} [NeZero q] (hq : Pr q) {rows : List (List Int)} {goal a b : List Int} {x y : Bool} (h : SolB q rows goal a x) (h' : SolB q rows goal b y) : a = b ∧ x = y := by
  cases x with
  | true =>
    cases y with
    | true => have := (h.1 rfl).unique hq (h'.1 rfl); exact ⟨Option.some.inj this, rfl⟩
    | false => have := (h.1 rfl).unique hq (h'.2 rfl).2; cases this
  | false =>
    cases y with
    | true => have := (h.2 rfl).2.unique hq (h'.1 rfl); cases this
    | false => exact ⟨by rw [(h.2 rfl).1, (h'.2 rfl).1], rfl⟩
/-- It ends with factors of its own and an answer. -/
def GivesS (q : Nat) [NeZero q] (rows : List (List Int)) (goal : List Int) (w : World) (e : Ending) (w' : World) : Prop :=
  ∃ u out ok, e = .returned (.tuple #[u, .bool ok]) ∧ Own w' 3 u (out.map (Value.int .i64)) ∧ From w.heap.size u ∧ SolB q rows goal out ok ∧ New w w'
theorem SolB.len {q : Nat} [NeZero q] {rows : List (List Int)} {goal a : List Int} {x : Bool} (h : SolB q rows goal a x) : a.length ≤ rows.length := by
  cases x with
  | true => rw [(h.1 rfl).1.1]; exact Nat.le_refl _
  | false => rw [(h.2 rfl).1]; simp

theorem tab_succ (n : Nat) (f : Nat → Int) : tab (n + 1) f = tab n f ++ [f n] := by simp [tab, List.range_succ]
/-- The first k rows of what is reduced. -/
def augTo (rows : List (List Int)) (goal : List Int) (k : Nat) : List (List Int) := (List.range k).map (augRow rows goal)
theorem augTo_succ (rows : List (List Int)) (goal : List Int) (k : Nat) : augTo rows goal (k + 1) = augTo rows goal k ++ [augRow rows goal k] := by simp [augTo, List.range_succ]
theorem augTo_length (rows : List (List Int)) (goal : List Int) (k : Nat) : (augTo rows goal k).length = k := by simp [augTo]
theorem augRow_end (rows : List (List Int)) (goal : List Int) (k : Nat) : augRow rows goal k = tab rows.length (fun j => gi (gr rows j) k) ++ [gi goal k] := by
  unfold augRow
  rw [tab_succ, if_neg (by omega), tab_congr (g := fun j => gi (gr rows j) k) (fun i hi => by rw [if_pos hi])]
/-- What the first r reduced rows tell. -/
def sfTo (m : Nat) (a : List (List Int)) (r c : Nat) : Int := if 0 ≤ ldIx a c r then gi (gr a (ldIx a c r).toNat) m else 0
theorem sfTo_succ (m : Nat) (a : List (List Int)) (r c : Nat) : sfTo m a (r + 1) c = if ldN (gr a r) = c then gi (gr a r) m else sfTo m a r c := by
  unfold sfTo
  by_cases e : ldN (gr a r) = c
  · simp [ldIx, e]
  · simp [ldIx, e]
theorem ldIx_pos {a : List (List Int)} {c k r : Nat} (hr : r < k) (h : ldN (gr a r) = c) : 0 ≤ ldIx a c k := by
  apply Classical.byContradiction
  intro hc
  exact ldIx_neg (show ldIx a c k < 0 by omega) r hr h

end Go.Proofs.YtcdbeepphdfipaaGreatDoor

namespace Go.Proofs.YtcdbeepphdfipaaGreatDoor
open Go.RowKit Mat
set_option linter.unusedVariables false

end Go.Proofs.YtcdbeepphdfipaaGreatDoor
