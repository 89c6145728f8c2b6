/- What is peeled: the greatest part that no check meets in just one place. Plain. -/
import Derived.Test.YtdebkeicdfljlaaNullM
import Derived.Test.YtdebkeicdfljlaaBitM
namespace Go.Proofs.Ytdebkeicdfljlaa
open Go.RowKit
set_option linter.unusedVariables false

/-- The places below k of a check's numbers that are not 0. -/
def supTo (x : List Int) : Nat → Nat
  | 0 => 0
  | k + 1 => if gi x k = 0 then supTo x k else supTo x k ||| 2 ^ k
def supN (x : List Int) : Nat := supTo x x.length

theorem supTo_lt (x : List Int) (k : Nat) : supTo x k < 2 ^ k := by
  induction k with
  | zero => simp [supTo]
  | succ k ih =>
    unfold supTo
    split
    · rw [Nat.pow_succ]; omega
    · exact Nat.or_lt_two_pow (by rw [Nat.pow_succ]; omega) (by rw [Nat.pow_succ]; have := Nat.two_pow_pos k; omega)

theorem supTo_add (x : List Int) (k : Nat) (h : gi x k ≠ 0) : supTo x k + 2 ^ k = supTo x (k + 1) := by
  have h1 := Nat.two_pow_add_eq_or_of_lt (supTo_lt x k) 1
  have h2 : supTo x (k + 1) = supTo x k ||| 2 ^ k := by rw [supTo, if_neg h]
  rw [h2, Nat.or_comm]
  rw [Nat.mul_one] at h1
  omega

theorem supTo_same (x : List Int) (k : Nat) (h : gi x k = 0) : supTo x k = supTo x (k + 1) := by rw [supTo, if_pos h]

/-- No check meets s in just one place. -/
def Stop (checks : List (List Int)) (s : Nat) : Prop := ∀ i, i < checks.length → wtN (supN (gr checks i) &&& s) 7 ≠ 1

/-- out is what stays of lost. -/
def PeelR (checks : List (List Int)) (lost out : Nat) : Prop := Sub out lost ∧ Stop checks out ∧ ∀ t, Sub t lost → Stop checks t → Sub t out

theorem PeelR.unique {checks : List (List Int)} {lost a b : Nat} (h : PeelR checks lost a) (h' : PeelR checks lost b) : a = b :=
  (h'.2.2 a h.1 h.2.1).anti (h.2.2 b h'.1 h'.2.1)

theorem PeelR.self {checks : List (List Int)} {s out : Nat} (h : PeelR checks s out) : out = s ↔ Stop checks s := by
  constructor
  · intro e; rw [← e]; exact h.2.1
  · intro e; exact (h.1).anti (h.2.2 s (Sub.refl s) e)

/-- Where a check meets s in just one place, no part of s that stops has it. -/
theorem stop_without {checks : List (List Int)} {s u t : Nat} (hs : s < 128) (hu : u < 128) (hus : Sub u s) (i : Nat) (hi : i < checks.length) (h1 : wtN (supN (gr checks i) &&& s) 7 = 1) (hc : Sub t s) (htu : Sub t u) (ht : Stop checks t) :
    Sub t (wo u (supN (gr checks i) &&& s)) := by
  have hlt : supN (gr checks i) &&& s < 128 := Nat.lt_of_le_of_lt Nat.and_le_right hs
  obtain ⟨j, hj, he⟩ := one_place _ hlt h1
  rw [he]
  have htj : t.testBit j = false := by
    rw [Bool.eq_false_iff]
    intro htj
    refine ht i hi ?_
    have : supN (gr checks i) &&& t = 2 ^ j := by
      apply Nat.eq_of_testBit_eq
      intro k
      have hk : (supN (gr checks i) &&& s).testBit k = (2 ^ j).testBit k := by rw [he]
      rw [Nat.testBit_and] at hk ⊢
      by_cases e : j = k
      · subst e
        rw [Nat.testBit_two_pow_self] at hk ⊢
        rw [Bool.and_eq_true] at hk
        rw [hk.1, htj]; rfl
      · rw [Nat.testBit_two_pow_of_ne e] at hk ⊢
        cases htk : t.testBit k
        · simp
        · rw [hc.bit htk] at hk
          rw [Bool.and_true] at hk ⊢
          exact hk
    rw [this]
    exact place_one j hj
  refine Sub.mk (fun k hk => ?_)
  have hku := htu.bit hk
  by_cases h7 : k < 7
  · rw [testBit_bitN, wo_place u hu j hj k h7]
    have hne : k ≠ j := fun e => by rw [e, htj] at hk; cases hk
    rw [if_neg hne]
    rw [testBit_bitN] at hku
    exact hku
  · rw [bit_big u hu k (by omega)] at hku; cases hku

theorem wo_sub {a b : Nat} (ha : a < 128) (hb : b < 128) : Sub (wo a b) a ∧ wo a b ≤ a := ⟨(wo_and a ha b hb).2.1, (wo_and a ha b hb).2.2⟩

theorem wo_less : ∀ a : Nat, a < 128 → ∀ b : Nat, b < 128 → wtN (b &&& a) 7 = 1 → wo a (b &&& a) < a ∧ wo a (b &&& a) = wo a b := by decide +kernel

/-- What is known on the way: cur is a part of lost that has each part that stops. -/
def PeelI (checks : List (List Int)) (lost cur : Nat) : Prop := Sub cur lost ∧ ∀ t, Sub t lost → Stop checks t → Sub t cur
theorem PeelI.start (checks : List (List Int)) (lost : Nat) : PeelI checks lost lost := ⟨Sub.refl _, fun _ h _ => h⟩
theorem PeelI.done {checks : List (List Int)} {lost cur : Nat} (h : PeelI checks lost cur) (hs : Stop checks cur) : PeelR checks lost cur := ⟨h.1, hs, h.2⟩

/-- next: what stays of cur behind the first i checks, all looked at against cur. -/
structure PeelN (checks : List (List Int)) (cur next i : Nat) : Prop where
  le : next ≤ cur
  sub : Sub next cur
  all : ∀ t, Sub t cur → Stop checks t → Sub t next
  same : next = cur → ∀ j, j < i → wtN (supN (gr checks j) &&& cur) 7 ≠ 1
theorem PeelN.start (checks : List (List Int)) (cur : Nat) : PeelN checks cur cur 0 := ⟨Nat.le_refl _, Sub.refl _, fun _ h _ => h, fun _ j hj => by omega⟩
theorem PeelN.skip {checks : List (List Int)} {cur next i : Nat} (h : PeelN checks cur next i) (hne : wtN (supN (gr checks i) &&& cur) 7 ≠ 1) : PeelN checks cur next (i + 1) :=
  ⟨h.le, h.sub, h.all, fun e j hj => by
    by_cases c : j = i
    · rw [c]; exact hne
    · exact h.same e j (by omega)⟩
theorem place_left : ∀ a : Nat, a < 128 → ∀ j : Nat, j < 7 → bitN (wo a (2 ^ j)) j = 0 := by decide +kernel
theorem PeelN.take {checks : List (List Int)} {cur next i : Nat} (h : PeelN checks cur next i) (hc : cur < 128) (hi : i < checks.length) (h1 : wtN (supN (gr checks i) &&& cur) 7 = 1) :
    PeelN checks cur (wo next (supN (gr checks i) &&& cur)) (i + 1) := by
  have hn : next < 128 := Nat.lt_of_le_of_lt h.le hc
  have hlt : supN (gr checks i) &&& cur < 128 := Nat.lt_of_le_of_lt Nat.and_le_right hc
  have hw := wo_sub hn hlt
  refine ⟨Nat.le_trans hw.2 h.le, hw.1.trans h.sub, fun t ht hs => stop_without hc hn h.sub i hi h1 ht (h.all t ht hs) hs, fun e => ?_⟩
  exfalso
  obtain ⟨j, hj, he⟩ := one_place _ hlt h1
  have hb := place_left next hn j hj
  rw [he] at e
  rw [e] at hb
  have : (supN (gr checks i) &&& cur).testBit j = true := by rw [he]; exact Nat.testBit_two_pow_self
  rw [Nat.testBit_and, Bool.and_eq_true, testBit_bitN cur, hb] at this
  simp at this
theorem PeelI.next {checks : List (List Int)} {lost cur next i : Nat} (h : PeelI checks lost cur) (k : PeelN checks cur next i) : PeelI checks lost next :=
  ⟨k.sub.trans h.1, fun t ht hs => k.all t (h.2 t ht hs) hs⟩

/-- One check, looked at against what is left by now. -/
theorem PeelI.take {checks : List (List Int)} {lost cur i : Nat} (h : PeelI checks lost cur) (hc : cur < 128) (hi : i < checks.length) (h1 : wtN (supN (gr checks i) &&& cur) 7 = 1) :
    PeelI checks lost (wo cur (supN (gr checks i) &&& cur)) :=
  h.next ((⟨Nat.le_refl _, Sub.refl _, fun _ h _ => h, fun _ j hj => by omega⟩ : PeelN checks cur cur 0).all |> fun _ => (⟨(wo_sub hc (Nat.lt_of_le_of_lt Nat.and_le_right hc)).2, (wo_sub hc (Nat.lt_of_le_of_lt Nat.and_le_right hc)).1, fun t ht hs => stop_without hc hc (Sub.refl _) i hi h1 ht ht hs, fun _ j hj => by omega⟩ : PeelN checks cur (wo cur (supN (gr checks i) &&& cur)) 0))
end Go.Proofs.Ytdebkeicdfljlaa
