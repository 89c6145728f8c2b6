/- Plain arithmetic that the walks use: rests, inverses, powers of 2, bits. No program in sight. -/
import Derived.Test.YteoiaicpdmlecaaMatA
namespace Go.Proofs.Yteoiaicpdmlecaa
set_option linter.unusedVariables false

theorem tmod_bounds (n p : Int) (hp : 0 < p) : -p < n.tmod p ∧ n.tmod p < p := by
  have h1 := Int.tmod_lt_of_pos n hp
  have h2 := Int.tmod_lt_of_pos (-n) hp
  rw [Int.neg_tmod] at h2
  omega

theorem tmod_pos (n p : Int) (hp : 0 < p) : (n.tmod p + p) % p = n % p := by
  rw [Int.add_emod_right, Int.tmod_eq_emod]
  split
  · simp
  · have : (p.natAbs : Int) = p := by omega
    rw [this, Int.sub_emod_right, Int.emod_emod]

/-- low ≤ n ≤ high, as the program tells it. -/
def inB (n lo hi : Int) : Bool := decide (lo ≤ n ∧ n ≤ hi)
theorem inB_iff {n lo hi : Int} : inB n lo hi = true ↔ lo ≤ n ∧ n ≤ hi := by simp [inB]
theorem inB_false {n lo hi : Int} : inB n lo hi = false ↔ ¬ (lo ≤ n ∧ n ≤ hi) := by simp only [inB, decide_eq_false_iff_not]

/-- p is one of the primes. -/
def prB (p : Int) : Bool := decide (p = 2 ∨ p = 3 ∨ p = 5 ∨ p = 7)
theorem prB_iff {p : Int} : prB p = true ↔ p = 2 ∨ p = 3 ∨ p = 5 ∨ p = 7 := by simp [prB]
theorem prB_bounds {p : Int} (h : prB p = true) : 2 ≤ p ∧ p ≤ 7 := by rw [prB_iff] at h; omega

/-- The inverse of a number: the first one whose product leaves 1. -/
def invZ (p x : Int) : Int := if x * 1 % p = 1 then 1 else if x * 2 % p = 1 then 2 else if x * 3 % p = 1 then 3 else if x * 4 % p = 1 then 4 else if x * 5 % p = 1 then 5 else 6

theorem invZ_spec {p x : Int} (hp : prB p = true) (h1 : 1 ≤ x) (h2 : x < p) : 1 ≤ invZ p x ∧ invZ p x < p ∧ x * invZ p x % p = 1 := by
  rw [prB_iff] at hp
  rcases hp with rfl | rfl | rfl | rfl
  · obtain rfl : x = 1 := by omega
    decide
  · rcases (show x = 1 ∨ x = 2 by omega) with rfl | rfl <;> decide
  · rcases (show x = 1 ∨ x = 2 ∨ x = 3 ∨ x = 4 by omega) with rfl | rfl | rfl | rfl <;> decide
  · rcases (show x = 1 ∨ x = 2 ∨ x = 3 ∨ x = 4 ∨ x = 5 ∨ x = 6 by omega) with rfl | rfl | rfl | rfl | rfl | rfl <;> decide

theorem mul_small {x y : Int} (h1 : 0 ≤ x) (h2 : x ≤ 100) (h3 : 0 ≤ y) (h4 : y ≤ 100) : 0 ≤ x * y ∧ x * y ≤ 10000 := by
  refine ⟨Int.mul_nonneg h1 h3, ?_⟩
  have := Int.mul_le_mul h2 h4 h3 (by omega : (0 : Int) ≤ 100)
  omega

/-- No number below the inverse has a product that leaves 1. -/
theorem invZ_first {p x y : Int} (hp : prB p = true) (h1 : 1 ≤ x) (h2 : x < p) (hy : 1 ≤ y) (hy2 : y < p) (h : x * y % p = 1) : y = invZ p x := by
  rw [prB_iff] at hp
  have hx : x = 1 ∨ x = 2 ∨ x = 3 ∨ x = 4 ∨ x = 5 ∨ x = 6 := by omega
  have hyy : y = 1 ∨ y = 2 ∨ y = 3 ∨ y = 4 ∨ y = 5 ∨ y = 6 := by omega
  rcases hp with rfl | rfl | rfl | rfl <;> rcases hx with rfl | rfl | rfl | rfl | rfl | rfl <;> rcases hyy with rfl | rfl | rfl | rfl | rfl | rfl <;>
    first | rfl | (revert h; decide) | omega

/-- 2 to a number. -/
def pw (n : Nat) : Int := 2 ^ n
theorem pw_zero : pw 0 = 1 := rfl
theorem pw_succ (n : Nat) : pw (n + 1) = 2 * pw n := by unfold pw; rw [Int.pow_succ]; omega
theorem pw_pos (n : Nat) : 1 ≤ pw n := by
  induction n with
  | zero => simp [pw]
  | succ n ih => rw [pw_succ]; omega
theorem pw_mono {m n : Nat} (h : m ≤ n) : pw m ≤ pw n := by
  induction n with
  | zero => obtain rfl : m = 0 := by omega
            omega
  | succ n ih =>
    by_cases e : m = n + 1
    · subst e; omega
    · have := ih (by omega); have := pw_pos n; rw [pw_succ]; omega
theorem pw_40 {n : Nat} (h : n ≤ 40) : pw n ≤ 1099511627776 := by have := pw_mono h; have e : pw 40 = 1099511627776 := by decide
                                                                  omega

/-- The bit of a number, 0 or 1. -/
def bt (x : Int) (j : Nat) : Int := x / pw j % 2
theorem bt_01 (x : Int) (j : Nat) : bt x j = 0 ∨ bt x j = 1 := by unfold bt; omega

/-- How many bits of a number below 2 to the n are 1. -/
def wt : Nat → Int → Int
  | 0, _ => 0
  | n + 1, x => x % 2 + wt n (x / 2)

theorem wt_zero (n : Nat) : wt n 0 = 0 := by
  induction n with
  | zero => rfl
  | succ n ih => simp [wt, ih]

theorem wt_bounds (n : Nat) (x : Int) : 0 ≤ wt n x ∧ wt n x ≤ n := by
  induction n generalizing x with
  | zero => simp [wt]
  | succ n ih => have := ih (x / 2); simp only [wt]; omega

/-- More places than a number has change nothing. -/
theorem wt_more (n : Nat) (x : Int) (h0 : 0 ≤ x) (h : x < pw n) : wt (n + 1) x = wt n x := by
  induction n generalizing x with
  | zero => have : x = 0 := by simp [pw] at h; omega
            subst this; rfl
  | succ n ih =>
    rw [wt, ih (x / 2) (by omega) (by rw [pw_succ] at h; omega)]
    rfl
end Go.Proofs.Yteoiaicpdmlecaa
