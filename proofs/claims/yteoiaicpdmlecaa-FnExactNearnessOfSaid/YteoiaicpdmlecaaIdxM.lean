/- Plain lists: the index of the first number of a kind; a multiple of a list added to another one. -/
import Derived.Test.YteoiaicpdmlecaaLaw
import Derived.Test.YteoiaicpdmlecaaArith
namespace Go.Proofs.Yteoiaicpdmlecaa
set_option linter.unusedVariables false

/-- The index of the first number for which g holds, or -1. -/
def fiZ (g : Int → Bool) : List Int → Int
  | [] => -1
  | x :: xs => if g x then 0 else (let r := fiZ g xs; if r = -1 then -1 else r + 1)

theorem fiZ_ge (g : Int → Bool) (xs : List Int) : -1 ≤ fiZ g xs ∧ fiZ g xs < xs.length := by
  induction xs with
  | nil => simp [fiZ]
  | cons x xs ih => simp only [fiZ, List.length_cons]; split <;> (try split) <;> omega

theorem fiZ_found {g : Int → Bool} {xs : List Int} {k : Nat} (hk : k < xs.length) (h : g (gi xs k) = true) (hb : ∀ j, j < k → g (gi xs j) = false) : fiZ g xs = k := by
  induction xs generalizing k with
  | nil => simp at hk
  | cons x xs ih =>
    cases k with
    | zero =>
      have : gi (x :: xs) 0 = x := by simp [gi]
      rw [this] at h
      simp [fiZ, h]
    | succ k =>
      have h0 := hb 0 (by omega)
      have e0 : gi (x :: xs) 0 = x := by simp [gi]
      have es : ∀ j, gi (x :: xs) (j + 1) = gi xs j := fun j => by simp [gi]
      rw [e0] at h0
      rw [es] at h
      have := ih (k := k) (by simpa using hk) h (fun j hj => by have := hb (j + 1) (by omega); rwa [es] at this)
      simp only [fiZ, h0, this]
      simp

theorem fiZ_none {g : Int → Bool} {xs : List Int} (hb : ∀ j, j < xs.length → g (gi xs j) = false) : fiZ g xs = -1 := by
  induction xs with
  | nil => rfl
  | cons x xs ih =>
    have h0 := hb 0 (by simp)
    have e0 : gi (x :: xs) 0 = x := by simp [gi]
    have es : ∀ j, gi (x :: xs) (j + 1) = gi xs j := fun j => by simp [gi]
    rw [e0] at h0
    have := ih (fun j hj => by have := hb (j + 1) (by simpa using hj); rwa [es] at this)
    simp [fiZ, h0, this]

theorem fiZ_at {g : Int → Bool} {xs : List Int} {k : Nat} (h : fiZ g xs = k) : k < xs.length ∧ g (gi xs k) = true ∧ ∀ j, j < k → g (gi xs j) = false := by
  induction xs generalizing k with
  | nil => simp only [fiZ] at h; omega
  | cons x xs ih =>
    have e0 : gi (x :: xs) 0 = x := by simp [gi]
    have es : ∀ j, gi (x :: xs) (j + 1) = gi xs j := fun j => by simp [gi]
    simp only [fiZ] at h
    split at h
    · rename_i hx
      obtain rfl : k = 0 := by omega
      exact ⟨by simp, by rw [e0]; exact hx, fun j hj => absurd hj (Nat.not_lt_zero _)⟩
    · rename_i hx
      split at h
      · omega
      · have hr := fiZ_ge g xs
        obtain ⟨k', rfl⟩ : ∃ k', k = k' + 1 := ⟨k - 1, by omega⟩
        have := ih (k := k') (by omega)
        refine ⟨by simp; omega, by rw [es]; exact this.2.1, fun j hj => ?_⟩
        cases j with
        | zero => rw [e0]; simpa using hx
        | succ j => rw [es]; exact this.2.2 j (by omega)

theorem fiZ_all {g : Int → Bool} {xs : List Int} : fiZ g xs = -1 ↔ ∀ j, j < xs.length → g (gi xs j) = false := by
  constructor
  · intro h j hj
    apply Classical.byContradiction
    intro hc
    have hex : ∃ k, k < xs.length ∧ g (gi xs k) = true := ⟨j, hj, by simpa using hc⟩
    have hmin : ∃ k, (k < xs.length ∧ g (gi xs k) = true) ∧ ∀ i, i < k → ¬ (i < xs.length ∧ g (gi xs i) = true) := by
      have key : ∀ n, ∀ k, k ≤ n → (k < xs.length ∧ g (gi xs k) = true) → ∃ k, (k < xs.length ∧ g (gi xs k) = true) ∧ ∀ i, i < k → ¬ (i < xs.length ∧ g (gi xs i) = true) := by
        intro n
        induction n with
        | zero => intro k hk hh; exact ⟨k, hh, fun i hi => by omega⟩
        | succ n ih =>
          intro k hk hh
          by_cases hb : ∃ i, i < k ∧ (i < xs.length ∧ g (gi xs i) = true)
          · obtain ⟨i, hi, hi2⟩ := hb
            exact ih i (by omega) hi2
          · exact ⟨k, hh, fun i hi h2 => hb ⟨i, hi, h2⟩⟩
      exact key j j (Nat.le_refl _) ⟨hj, by simpa using hc⟩
    obtain ⟨k, ⟨hk, hg⟩, hb⟩ := hmin
    have := fiZ_found hk hg (fun i hi => by have := hb i hi; cases e : g (gi xs i) with
      | false => rfl
      | true => exact absurd ⟨by omega, e⟩ this)
    omega
  · exact fiZ_none

/-- A number is not 0. -/
def nzB (n : Int) : Bool := decide (n ≠ 0)
/-- The index of the first number that is not 0, or -1. -/
def leadZ (xs : List Int) : Int := fiZ nzB xs

/-- The first k numbers have had their multiple added. -/
def addTo (p : Int) (xs : List Int) (b : Int) (ys : List Int) (k : Nat) : List Int := xs.mapIdx (fun i a => if i < k then (a + b * gi ys i) % p else a)
/-- A list with a multiple of another one added. -/
def addZ (p : Int) (xs : List Int) (b : Int) (ys : List Int) : List Int := addTo p xs b ys ys.length

theorem addTo_length (p : Int) (xs : List Int) (b : Int) (ys : List Int) (k : Nat) : (addTo p xs b ys k).length = xs.length := by simp [addTo]
theorem addZ_length (p : Int) (xs : List Int) (b : Int) (ys : List Int) : (addZ p xs b ys).length = xs.length := by simp [addZ, addTo]

theorem addTo_get (p : Int) (xs : List Int) (b : Int) (ys : List Int) (k : Nat) {i : Nat} (hi : i < xs.length) : gi (addTo p xs b ys k) i = if i < k then (gi xs i + b * gi ys i) % p else gi xs i := by
  rw [gi_lt (by rw [addTo_length]; exact hi), gi_lt hi]
  simp [addTo]

theorem addTo_zero (p : Int) (xs : List Int) (b : Int) (ys : List Int) : addTo p xs b ys 0 = xs := by
  apply List.ext_getElem
  · simp [addTo]
  · intro i h1 h2; simp [addTo]

theorem ext_gi {xs ys : List Int} (hl : xs.length = ys.length) (h : ∀ i, i < xs.length → gi xs i = gi ys i) : xs = ys := by
  apply List.ext_getElem hl
  intro i h1 h2
  have := h i h1
  rwa [gi_lt h1, gi_lt h2] at this

theorem gi_set {xs : List Int} {k : Nat} {y : Int} {i : Nat} (hi : i < xs.length) : gi (xs.set k y) i = if k = i then y else gi xs i := by
  rw [gi_lt (by simpa using hi), List.getElem_set, gi_lt hi]

theorem addTo_succ (p : Int) (xs : List Int) (b : Int) (ys : List Int) (k : Nat) (hk : k < xs.length) : (addTo p xs b ys k).set k ((gi xs k + b * gi ys k) % p) = addTo p xs b ys (k + 1) := by
  apply ext_gi (by simp [addTo])
  intro i hi
  rw [List.length_set, addTo_length] at hi
  rw [gi_set (by rw [addTo_length]; exact hi), addTo_get _ _ _ _ _ hi, addTo_get _ _ _ _ _ hi]
  by_cases e : k = i
  · subst e; rw [if_pos rfl, if_pos (by omega)]
  · rw [if_neg e]
    by_cases h : i < k
    · rw [if_pos h, if_pos (by omega)]
    · rw [if_neg h, if_neg (by omega)]

theorem take_succ_gr {rows : List (List Int)} {k : Nat} (h : k < rows.length) : rows.take (k + 1) = rows.take k ++ [gr rows k] := by
  rw [gr_lt h, List.take_succ_eq_append_getElem h]

end Go.Proofs.Yteoiaicpdmlecaa
