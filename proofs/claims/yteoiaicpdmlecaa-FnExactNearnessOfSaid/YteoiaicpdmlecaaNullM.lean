/- The checks of reduced rows, in plain Lean. -/
import Derived.Test.YteoiaicpdmlecaaRankM
namespace Go.Proofs.Yteoiaicpdmlecaa
open Go.RowKit Mat
set_option linter.unusedVariables false

/-- A list of n numbers, told by its places. -/
def tab (n : Nat) (f : Nat → Int) : List Int := (List.range n).map f
theorem tab_length (n : Nat) (f : Nat → Int) : (tab n f).length = n := by simp [tab]
theorem tab_get {n : Nat} {f : Nat → Int} {i : Nat} (hi : i < n) : gi (tab n f) i = f i := by
  rw [gi_lt (by rw [tab_length]; exact hi)]; simp [tab]
theorem tab_congr {n : Nat} {f g : Nat → Int} (h : ∀ i, i < n → f i = g i) : tab n f = tab n g :=
  ext_gi (by rw [tab_length, tab_length]) (fun i hi => by rw [tab_length] at hi; rw [tab_get hi, tab_get hi, h i hi])
theorem tab_set {n : Nat} {f g : Nat → Int} {k : Nat} {v : Int} (hv : k < n → g k = v) (h : ∀ i, i < n → i ≠ k → g i = f i) : (tab n f).set k v = tab n g :=
  ext_gi (by rw [List.length_set, tab_length, tab_length]) (fun i hi => by
    rw [List.length_set, tab_length] at hi
    rw [gi_set (by rw [tab_length]; exact hi), tab_get hi, tab_get hi]
    by_cases e : k = i
    · subst e; rw [if_pos rfl, hv hi]
    · rw [if_neg e, h i hi (fun e' => e e'.symm)])
theorem tab_zero (n : Nat) : tab n (fun _ => 0) = List.replicate n 0 :=
  ext_gi (by simp [tab]) (fun i hi => by rw [tab_length] at hi; rw [tab_get hi, gi_replicate])

/-- Which of the first k rows has its lead in column c; -1 if none. -/
def ldIx (a : List (List Int)) (c : Nat) : Nat → Int
  | 0 => -1
  | k + 1 => if ldN (gr a k) = c then (k : Int) else ldIx a c k

theorem ldIx_bounds (a : List (List Int)) (c k : Nat) : -1 ≤ ldIx a c k ∧ ldIx a c k < (k : Int) ∧ (0 ≤ ldIx a c k → ldN (gr a (ldIx a c k).toNat) = c) := by
  induction k with
  | zero => simp [ldIx]
  | succ k ih =>
    unfold ldIx
    split
    · rename_i h; exact ⟨by omega, by omega, fun _ => by simpa using h⟩
    · exact ⟨ih.1, by omega, ih.2.2⟩

theorem ldIx_neg {a : List (List Int)} {c k : Nat} (h : ldIx a c k < 0) : ∀ i, i < k → ldN (gr a i) ≠ c := by
  induction k with
  | zero => intro i hi; omega
  | succ k ih =>
    unfold ldIx at h
    split at h
    · omega
    · rename_i hne
      intro i hi
      by_cases e : i = k
      · rw [e]; exact hne
      · exact ih h i (by omega)

/-- The row of checks for column c. -/
def nullRow (q : Int) (n : Nat) (a : List (List Int)) (c : Nat) : List Int :=
  tab n (fun k => if 0 ≤ ldIx a k a.length then (-gi (gr a (ldIx a k a.length).toNat) c) % q else if k = c then 1 else 0)
/-- The checks of the columns below c. -/
def nlTo (q : Int) (n : Nat) (a : List (List Int)) : Nat → List (List Int)
  | 0 => []
  | c + 1 => if 0 ≤ ldIx a c a.length then nlTo q n a c else nlTo q n a c ++ [nullRow q n a c]

theorem nlTo_length (q : Int) (n : Nat) (a : List (List Int)) (c : Nat) : (nlTo q n a c).length ≤ c := by
  induction c with
  | zero => simp [nlTo]
  | succ c ih =>
    unfold nlTo
    split
    · omega
    · rw [List.length_append, List.length_singleton]; omega

theorem gr_snoc {rows : List (List Int)} {x : List Int} {i : Nat} (h : i < rows.length + 1) : gr (rows ++ [x]) i = if i < rows.length then gr rows i else x := by
  by_cases c : i < rows.length
  · rw [if_pos c, gr_lt (by simp; omega), gr_lt c, List.getElem_append_left c]
  · rw [if_neg c, gr_lt (by simp; omega), List.getElem_append_right (by omega)]
    simp

theorem nlTo_rows {q : Int} {n : Nat} {a : List (List Int)} {c : Nat} : ∀ i, i < (nlTo q n a c).length → (gr (nlTo q n a c) i).length = n := by
  induction c with
  | zero => intro i hi; simp [nlTo] at hi
  | succ c ih =>
    unfold nlTo
    split
    · exact ih
    · intro i hi
      rw [List.length_append, List.length_singleton] at hi
      rw [gr_snoc hi]
      split
      · rename_i h; exact ih i h
      · rw [nullRow, tab_length]

/-- The lead of a row: its first number that is not 0. -/
theorem ldN_iff {p : Nat} [NeZero p] {n : Nat} {x : List Int} (h : GoodRow p n x) (hl : 0 ≤ leadZ x) {k : Nat} (hk : k < n) : ldN x = k ↔ gi x k ≠ 0 ∧ ∀ j, j < k → gi x j = 0 := by
  have hs := lead_some h hl
  constructor
  · intro e
    subst e
    exact ⟨fun e => hs.2.1 ((vec_zero h).2 e), fun j hj => (vec_zero h).1 (hs.2.2 j hj)⟩
  · rintro ⟨h1, h2⟩
    have := lead_is h hk (fun e => h1 ((vec_zero h).1 e)) (fun j hj => (vec_zero h).2 (h2 j hj))
    unfold ldN
    omega
end Go.Proofs.Yteoiaicpdmlecaa
