/- spec.ahead, spec.nulls. spec.nulls. (field).nulls. NullsOf of both. -/
import Derived.Test.YtcdbeepphdfipaaGreatDoorPlaM
import Derived.Test.YtcdbeepphdfipaaGreatDoorRedu
import Derived.Test.YtcdbeepphdfipaaGreatDoorLeaf
import Derived.Test.YtcdbeepphdfipaaGreatDoorKnow
import Derived.Test.YtcdbeepphdfipaaGreatDoorBase
namespace Go.Proofs.YtcdbeepphdfipaaGreatDoor
open Go.RowKit Mat
set_option linter.unusedVariables false

/-- All numbers ahead of a place are 0. -/
def ahB (x : List Int) (k : Nat) : Bool := decide (∀ j, j < k → gi x j = 0)
theorem ahB_iff {x : List Int} {k : Nat} : ahB x k = true ↔ ∀ j, j < k → gi x j = 0 := by simp [ahB]

end Go.Proofs.YtcdbeepphdfipaaGreatDoor

namespace Go.Proofs.YtcdbeepphdfipaaGreatDoor
open Go.RowKit Mat
set_option linter.unusedVariables false

/-- The row of checks for column c, of which the first k places are told. -/
def nrTo (q : Int) (a : List (List Int)) (c k j : Nat) : Int := if j < k then (if 0 ≤ ldIx a j a.length then (-gi (gr a (ldIx a j a.length).toNat) c) % q else if j = c then 1 else 0) else if j = c then 1 else 0

theorem From.at0 (g n c : Nat) : From g (.slice (some ⟨g, 0, none⟩) n c) := fun g' h => by simp [Value.ownBlock] at h; omega

end Go.Proofs.YtcdbeepphdfipaaGreatDoor

namespace Go.Proofs.YtcdbeepphdfipaaGreatDoor
open Go.RowKit Mat
set_option linter.unusedVariables false

theorem zeroSl (w : World) : (zeroValue 53).run Tryz.prog w = .ok (.slice none 0 0) w := by kernel_rfl

/-- The leads of the first k rows. -/
def ldKeys (a : List (List Int)) (k : Nat) : List Int := (List.range k).map (fun i => ((ldN (gr a i) : Nat) : Int))
theorem ldKeys_length (a : List (List Int)) (k : Nat) : (ldKeys a k).length = k := by simp [ldKeys]
theorem ldKeys_get (a : List (List Int)) {k i : Nat} (hi : i < k) : gi (ldKeys a k) i = (ldN (gr a i) : Int) := by
  rw [gi_lt (by rw [ldKeys_length]; exact hi)]; simp [ldKeys]
theorem ldKeys_succ (a : List (List Int)) (k : Nat) : ldKeys a (k + 1) = ldKeys a k ++ [((ldN (gr a k) : Nat) : Int)] := by simp [ldKeys, List.range_succ]
theorem ldKeys_mem {a : List (List Int)} {k : Nat} {x : Int} : x ∈ ldKeys a k ↔ ∃ i, i < k ∧ (ldN (gr a i) : Int) = x := by simp [ldKeys]

theorem IsRed.inj {q : Nat} [NeZero q] {n : Nat} {R a : List (List Int)} (h : IsRed q n R a) {i j : Nat} (hi : i < a.length) (hj : j < a.length) (e : ldN (gr a i) = ldN (gr a j)) : i = j := by
  rcases Nat.lt_trichotomy i j with c | c | c
  · have := h.asc i j c hj; omega
  · exact c
  · have := h.asc j i c hi; omega

/-- The lead of row r stands in column c just if the index told is r. -/
theorem IsRed.ldIx {q : Nat} [NeZero q] {n : Nat} {R a : List (List Int)} (h : IsRed q n R a) {r : Nat} (hr : r < a.length) : ldIx a (ldN (gr a r)) a.length = r := by
  have hb := ldIx_bounds a (ldN (gr a r)) a.length
  by_cases c : 0 ≤ Go.Proofs.YtcdbeepphdfipaaGreatDoor.ldIx a (ldN (gr a r)) a.length
  · have := h.inj (i := (Go.Proofs.YtcdbeepphdfipaaGreatDoor.ldIx a (ldN (gr a r)) a.length).toNat) (j := r) (by omega) hr (hb.2.2 c)
    omega
  · exact absurd rfl (ldIx_neg (show Go.Proofs.YtcdbeepphdfipaaGreatDoor.ldIx a (ldN (gr a r)) a.length < 0 by omega) r hr)
theorem ldIx_mem {a : List (List Int)} {c : Nat} : (c : Int) ∈ ldKeys a a.length ↔ 0 ≤ ldIx a c a.length := by
  have hb := ldIx_bounds a c a.length
  rw [ldKeys_mem]
  constructor
  · rintro ⟨i, hi, e⟩
    apply Classical.byContradiction
    intro h
    exact ldIx_neg (show ldIx a c a.length < 0 by omega) i hi (by omega)
  · intro h
    exact ⟨(ldIx a c a.length).toNat, by omega, by rw [hb.2.2 h]⟩

/-- The row of checks for column c, where the leads in rem are still to come. -/
def mrTo (q : Int) (a : List (List Int)) (c : Nat) (rem : Int → Bool) (j : Nat) : Int := if 0 ≤ ldIx a j a.length ∧ rem j = false then (-gi (gr a (ldIx a j a.length).toNat) c) % q else if j = c then 1 else 0

theorem take_snoc_gv {vs : List Value} {k : Nat} (h : k < vs.length) : vs.take (k + 1) = vs.take k ++ [gv vs k] := by
  rw [List.take_succ_eq_append_getElem h, gv_lt h]

end Go.Proofs.YtcdbeepphdfipaaGreatDoor

namespace Go.Proofs.YtcdbeepphdfipaaGreatDoor
open Go.RowKit Mat
set_option linter.unusedVariables false

/-- The checks of a table. -/
def NulC (p : Int) (rows out : List (List Int)) : Prop :=
  ∃ (q : Nat) (_ : NeZero q), p = q ∧ Pr q ∧ ∃ a, IsRed q (gr rows 0).length rows a ∧ out = nlTo q (gr rows 0).length a (gr rows 0).length
theorem NulC.unique {p : Int} {rows a b : List (List Int)} (h : NulC p rows a) (h' : NulC p rows b) : a = b := by
  obtain ⟨q, i1, e1, hq, o1, r1, rfl⟩ := h
  obtain ⟨q', i2, e2, hq', o2, r2, rfl⟩ := h'
  obtain rfl : q = q' := by omega
  rw [IsRed.unique hq r1 r2]
theorem NulC.bounds {p : Int} {rows a : List (List Int)} (h : NulC p rows a) : a.length ≤ (gr rows 0).length ∧ ∀ i, i < a.length → (gr a i).length = (gr rows 0).length := by
  obtain ⟨q, i1, e1, hq, o1, r1, rfl⟩ := h
  exact ⟨nlTo_length _ _ _ _, nlTo_rows⟩

end Go.Proofs.YtcdbeepphdfipaaGreatDoor
