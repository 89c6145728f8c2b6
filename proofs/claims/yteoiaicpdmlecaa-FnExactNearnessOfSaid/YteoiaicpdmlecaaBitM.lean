/- Sets as numbers below 128: both, either, without; parts and places. Plain. -/
import Derived.Test.YteoiaicpdmlecaaSetA
namespace Go.Proofs.Yteoiaicpdmlecaa
open Go.RowKit
set_option linter.unusedVariables false

theorem and_i64 : ∀ s : Nat, s < 128 → ∀ t : Nat, t < 128 → bits BinOp.and IntKind.i64 (s : Int) (t : Int) = ((s &&& t : Nat) : Int) := by decide +kernel
theorem or_i64 : ∀ s : Nat, s < 128 → ∀ t : Nat, t < 128 → bits BinOp.or IntKind.i64 (s : Int) (t : Int) = ((s ||| t : Nat) : Int) := by decide +kernel
/-- a without b. -/
def wo (a b : Nat) : Nat := a - (a &&& b)
theorem andNot_i64 : ∀ s : Nat, s < 128 → ∀ t : Nat, t < 128 → bits BinOp.andNot IntKind.i64 (s : Int) (t : Int) = ((wo s t : Nat) : Int) := by decide +kernel
theorem wo_and : ∀ s : Nat, s < 128 → ∀ t : Nat, t < 128 → wo s (t &&& s) = wo s t ∧ wo s t &&& s = wo s t ∧ wo s t ≤ s := by decide +kernel

/-- a is a part of b. -/
def Sub (a b : Nat) : Prop := a &&& b = a
theorem Sub.refl (a : Nat) : Sub a a := Nat.and_self a
theorem Sub.bit {a b : Nat} (h : Sub a b) {i : Nat} (hi : a.testBit i = true) : b.testBit i = true := by
  have : (a &&& b).testBit i = true := by rw [h]; exact hi
  rw [Nat.testBit_and, Bool.and_eq_true] at this
  exact this.2
theorem Sub.mk {a b : Nat} (h : ∀ i, a.testBit i = true → b.testBit i = true) : Sub a b := by
  apply Nat.eq_of_testBit_eq
  intro i
  rw [Nat.testBit_and]
  cases ha : a.testBit i
  · rfl
  · rw [h i ha]; rfl
theorem Sub.trans {a b c : Nat} (h : Sub a b) (k : Sub b c) : Sub a c := Sub.mk (fun i hi => k.bit (h.bit hi))
theorem Sub.anti {a b : Nat} (h : Sub a b) (k : Sub b a) : a = b := by
  have h1 : a &&& b = a := h
  have h2 : b &&& a = b := k
  rw [Nat.and_comm] at h2
  rw [← h1, h2]
theorem Sub.le {a b : Nat} (h : Sub a b) : a ≤ b := by
  have h1 : a &&& b = a := h
  rw [← h1]
  exact Nat.and_le_right
theorem testBit_bitN (s i : Nat) : s.testBit i = decide (bitN s i = 1) := by rw [Nat.testBit_eq_decide_div_mod_eq]; rfl

/-- Just one: the place. -/
theorem one_place : ∀ h : Nat, h < 128 → wtN h 7 = 1 → ∃ j, j < 7 ∧ h = 2 ^ j := by decide +kernel
theorem place_one : ∀ j : Nat, j < 7 → wtN (2 ^ j) 7 = 1 := by decide +kernel
theorem wo_place : ∀ s : Nat, s < 128 → ∀ j : Nat, j < 7 → ∀ i : Nat, i < 7 → bitN (wo s (2 ^ j)) i = if i = j then 0 else bitN s i := by decide +kernel
theorem bit_big : ∀ s : Nat, s < 128 → ∀ i : Nat, 7 ≤ i → s.testBit i = false := fun s hs i hi => Nat.testBit_lt_two_pow (Nat.lt_of_lt_of_le hs (two_pow_le (m := 7) hi))
end Go.Proofs.Yteoiaicpdmlecaa
