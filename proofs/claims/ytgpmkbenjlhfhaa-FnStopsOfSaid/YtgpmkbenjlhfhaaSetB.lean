/- Sets of columns as numbers: made of a question, complements, how many parts a set has. Plain. -/
import Derived.Test.YtgpmkbenjlhfhaaCountM
import Derived.Test.YtgpmkbenjlhfhaaHelp
import Derived.Test.YtgpmkbenjlhfhaaBitL
namespace Go.Proofs.Ytgpmkbenjlhfhaa
open Go.RowKit Mat
set_option linter.unusedVariables false

/-- The set of those below a number for which a question holds. -/
def setB (P : Nat → Bool) : Nat → Nat
  | 0 => 0
  | n + 1 => if P n then setB P n ||| 2 ^ n else setB P n
theorem setB_lt (P : Nat → Bool) : ∀ n, setB P n < 2 ^ n
  | 0 => by simp [setB]
  | n + 1 => by
    have h := setB_lt P n
    have h2 := Nat.two_pow_pos n
    unfold setB
    split
    · exact Nat.or_lt_two_pow (by rw [Nat.pow_succ]; omega) (by rw [Nat.pow_succ]; omega)
    · rw [Nat.pow_succ]; omega
theorem setB_test (P : Nat → Bool) : ∀ n j, (setB P n).testBit j = (decide (j < n) && P j)
  | 0, j => by simp [setB]
  | n + 1, j => by
    unfold setB
    by_cases e : j = n
    · subst e
      have h : (setB P j).testBit j = false := by rw [setB_test P j j]; simp
      cases hp : P j with
      | true => rw [if_pos rfl, Nat.testBit_or, h, Nat.testBit_two_pow_self]; simp
      | false => simp [h]
    · have h1 : decide (j < n + 1) = decide (j < n) := by
        rw [decide_eq_decide]; omega
      rw [h1]
      cases hp : P n with
      | true => rw [if_pos rfl, Nat.testBit_or, setB_test P n j, Nat.testBit_two_pow_of_ne (fun h => e h.symm), Bool.or_false]
      | false => simp [setB_test P n j]
theorem setB_bit (P : Nat → Bool) (n j : Nat) : bitN (setB P n) j = if j < n ∧ P j = true then 1 else 0 := by
  have h := setB_test P n j
  rw [testBit_bitN] at h
  have hb : bitN (setB P n) j = 0 ∨ bitN (setB P n) j = 1 := by unfold bitN; omega
  by_cases c : j < n ∧ P j = true
  · rw [if_pos c]
    rw [c.2] at h
    simp [c.1] at h
    exact h
  · rw [if_neg c]
    rcases hb with h0 | h0
    · exact h0
    · rw [h0] at h
      simp at h
      exact absurd ⟨h.1, h.2⟩ c
theorem bit01 (s i : Nat) : bitN s i = 0 ∨ bitN s i = 1 := by unfold bitN; omega
theorem bit_ge {n s i : Nat} (hs : s < 2 ^ n) (hi : n ≤ i) : bitN s i = 0 := by
  have h := Nat.testBit_lt_two_pow (Nat.lt_of_lt_of_le hs (two_pow_le hi))
  rw [testBit_bitN] at h
  simp at h
  have := bit01 s i
  omega
theorem set_ext {n s t : Nat} (hs : s < 2 ^ n) (ht : t < 2 ^ n) (h : ∀ j, j < n → bitN s j = bitN t j) : s = t := by
  apply Nat.eq_of_testBit_eq
  intro i
  rw [testBit_bitN, testBit_bitN]
  by_cases c : i < n
  · rw [h i c]
  · rw [bit_ge hs (by omega), bit_ge ht (by omega)]
theorem sub_bit {s t : Nat} : Sub s t ↔ ∀ i, bitN s i = 1 → bitN t i = 1 := by
  constructor
  · intro h i hi
    have := h.bit (i := i) (by rw [testBit_bitN, hi]; rfl)
    rw [testBit_bitN] at this
    simpa using this
  · intro h
    refine Sub.mk (fun i hi => ?_)
    rw [testBit_bitN] at hi ⊢
    rw [h i (by simpa using hi)]; rfl
theorem wtN_congr {s t : Nat} : ∀ {k : Nat}, (∀ j, j < k → bitN s j = bitN t j) → wtN s k = wtN t k
  | 0, _ => rfl
  | k + 1, h => by rw [wtN, wtN, wtN_congr (fun j hj => h j (by omega)), h k (by omega)]
theorem wtN_setB (P : Nat → Bool) (n : Nat) : ∀ k, k ≤ n → wtN (setB P n) k = cntB P k
  | 0, _ => rfl
  | k + 1, hk => by
    rw [wtN, wtN_setB P n k (by omega), setB_bit, cntB]
    cases hp : P k with
    | true => rw [if_pos ⟨by omega, rfl⟩, if_pos rfl]
    | false => rw [if_neg (fun h => by cases h.2)]; simp
theorem wt_one : ∀ s : Nat, s < 128 → wtN s 7 = 0 → s = 0 := by decide +kernel
theorem wt7 {n s : Nat} (hn : n ≤ 7) (hs : s < 2 ^ n) : wtN s 7 = wtN s n := (wt_cut n (by omega) s (Nat.lt_of_lt_of_le hs (pow_lt hn)) hs).symm
/-- All others. -/
theorem rest_bit : ∀ n : Nat, n < 8 → ∀ s : Nat, s < 2 ^ n → ∀ i : Nat, i < n → bitN (2 ^ n - 1 - s) i = 1 - bitN s i := by decide +kernel
theorem rest_wt : ∀ n : Nat, n < 8 → ∀ s : Nat, s < 2 ^ n → wtN (2 ^ n - 1 - s) 7 + wtN s 7 = n := by decide +kernel
theorem rest_lt {n s : Nat} : 2 ^ n - 1 - s < 2 ^ n := by have := Nat.two_pow_pos n; omega
theorem rest_rest {n s : Nat} (hs : s < 2 ^ n) : 2 ^ n - 1 - (2 ^ n - 1 - s) = s := by omega
theorem bit_rest {n s i : Nat} (hn : n ≤ 7) (hs : s < 2 ^ n) (hi : i < n) : bitN (2 ^ n - 1 - s) i = 1 - bitN s i := rest_bit n (by omega) s hs i hi
theorem wt_rest {n s : Nat} (hn : n ≤ 7) (hs : s < 2 ^ n) : wtN (2 ^ n - 1 - s) n + wtN s n = n := by
  rw [← wt7 hn rest_lt, ← wt7 hn hs]; exact rest_wt n (by omega) s hs

/-- How many sets of k of n there are. -/
def ch : Nat → Nat → Nat
  | _, 0 => 1
  | 0, _ + 1 => 0
  | n + 1, k + 1 => ch n k + ch n (k + 1)
/-- The parts of a size. -/
theorem parts_count : ∀ z : Nat, z < 128 → ∀ s : Nat, s < 8 → cntB (fun S => decide (S &&& z = S) && decide (wtN S 7 = s)) 128 = ch (wtN z 7) s := by decide +kernel
theorem cntP_cntB (b : Nat → Bool) : ∀ n, cntP (fun i => b i = true) n = cntB b n
  | 0 => rfl
  | n + 1 => by
    rw [cntP, cntB, cntP_cntB b n]
    cases b n <;> simp
theorem cntP_cut {P : Nat → Prop} {m : Nat} : ∀ {n : Nat}, m ≤ n → (∀ i, m ≤ i → i < n → ¬ P i) → cntP P n = cntP P m
  | 0, h, _ => by obtain rfl : m = 0 := by omega
                  rfl
  | n + 1, h, h0 => by
    by_cases e : m = n + 1
    · rw [e]
    · rw [cntP, cntP_cut (m := m) (n := n) (by omega) (fun i h1 h2 => h0 i h1 (by omega)), if_neg (h0 n (by omega) (by omega)), Nat.add_zero]
/-- The parts of a size, of n columns. -/
theorem parts {n z s : Nat} (hn : n ≤ 7) (hz : z < 2 ^ n) (hs : s ≤ n) : cntP (fun S => Sub S z ∧ wtN S 7 = s) (2 ^ n) = ch (wtN z n) s := by
  have hp := pow_lt hn
  have h := parts_count z (by omega) s (by omega)
  rw [wt7 hn hz] at h
  rw [← h, ← cntP_cntB, cntP_cut (m := 2 ^ n) hp (fun i h1 h2 h3 => by
    have h4 : i &&& z = i := by
      rw [Bool.and_eq_true, decide_eq_true_eq] at h3
      exact h3.1
    have : i &&& z ≤ z := Nat.and_le_right
    omega)]
  refine cntP_congr (fun S _ => ?_)
  rw [Bool.and_eq_true, decide_eq_true_eq, decide_eq_true_eq]
  rfl

/-- Sums in any order. -/
theorem sumN_mul (c : Nat) (f : Nat → Nat) : ∀ n, sumN (fun i => c * f i) n = c * sumN f n
  | 0 => rfl
  | n + 1 => by rw [sumN, sumN, sumN_mul c f n, Nat.mul_add]
theorem sumN_le {f g : Nat → Nat} : ∀ {n : Nat}, (∀ i, i < n → f i ≤ g i) → sumN f n ≤ sumN g n
  | 0, _ => Nat.le_refl _
  | n + 1, h => by have := sumN_le (n := n) (fun i hi => h i (by omega)); have := h n (by omega); rw [sumN, sumN]; omega
open Classical in
/-- One more at x. -/
theorem sumN_bump {f g : Nat → Nat} {x : Nat} {n : Nat} (hx : x < n) (c : Nat) (h : ∀ i, i < n → g i = f i + if x = i then c else 0) : sumN g n = sumN f n + c := by
  rw [sumN_congr h, sumN_add]
  rw [sumN_single (f := fun i => if x = i then c else 0) hx (fun i _ hne => if_neg (fun e => hne e.symm))]
  simp
end Go.Proofs.Ytgpmkbenjlhfhaa
