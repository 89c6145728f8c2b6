/- Sets that stop: they join, words have them, and what is not mendable has one. Plain. -/
import Derived.Test.YtmehgchmnnbkfaaCodQ
import Derived.Test.YtmehgchmnnbkfaaStopsOf
import Derived.Test.YtmehgchmnnbkfaaLawF
namespace Go.Proofs.Ytmehgchmnnbkfaa
open Go.RowKit Mat
set_option linter.unusedVariables false

theorem StopsTo.mem {checks : List (List Int)} : ∀ {k : Nat} {a : List Int}, StopsTo checks k a → ∀ x, inL a x ↔ ∃ s : Nat, x = s ∧ s < k ∧ 1 ≤ s ∧ Stop checks s
  | 0, a, h, x => by
    rw [show a = _ from h]
    exact ⟨fun ⟨i, hi, _⟩ => by simp at hi, fun ⟨s, _, hs, _⟩ => by omega⟩
  | k + 1, a, h, x => by
    obtain ⟨prev, hp, h⟩ := h
    have ih := StopsTo.mem hp x
    rcases h with ⟨m, rfl⟩ | ⟨m, rfl⟩
    · constructor
      · rintro ⟨i, hi, he⟩
        rw [List.length_append, List.length_singleton] at hi
        rw [gi_snoc] at he
        by_cases c : i < prev.length
        · rw [if_pos c] at he
          obtain ⟨s, h1, h2, h3⟩ := ih.1 ⟨i, c, he⟩
          exact ⟨s, h1, by omega, h3⟩
        · rw [if_neg c, if_pos (by omega)] at he
          exact ⟨k, he.symm, by omega, m⟩
      · rintro ⟨s, h1, h2, h3⟩
        by_cases c : s = k
        · subst c
          exact ⟨prev.length, by simp, by rw [gi_snoc, if_neg (by omega), if_pos rfl]; exact h1.symm⟩
        · obtain ⟨i, hi, he⟩ := ih.2 ⟨s, h1, by omega, h3⟩
          exact ⟨i, by simp; omega, by rw [gi_snoc, if_pos hi]; exact he⟩
    · rw [ih]
      constructor
      · rintro ⟨s, h1, h2, h3⟩; exact ⟨s, h1, by omega, h3⟩
      · rintro ⟨s, h1, h2, h3⟩
        refine ⟨s, h1, ?_, h3⟩
        apply Classical.byContradiction; intro c
        obtain rfl : s = k := by omega
        exact m h3
theorem StopsTo.asc {checks : List (List Int)} : ∀ {k : Nat} {a : List Int}, StopsTo checks k a → AscL a
  | 0, a, h => by rw [show a = _ from h]; intro i hi; simp at hi
  | k + 1, a, h => by
    obtain ⟨prev, hp, h⟩ := h
    have ih := StopsTo.asc hp
    rcases h with ⟨m, rfl⟩ | ⟨m, rfl⟩
    · intro i hi
      rw [List.length_append, List.length_singleton] at hi
      rw [gi_snoc (i := i), if_pos (show i < prev.length by omega), gi_snoc (i := i + 1)]
      by_cases c : i + 1 < prev.length
      · rw [if_pos c]; exact ih i c
      · rw [if_neg c, if_pos (by omega)]
        obtain ⟨s, h1, h2, _⟩ := (hp.mem (gi prev i)).1 ⟨i, by omega, rfl⟩
        omega
    · exact ih
theorem StopsTo.at {checks : List (List Int)} {k : Nat} {a : List Int} (h : StopsTo checks k a) {i : Nat} (hi : i < a.length) : ∃ s : Nat, gi a i = s ∧ s < k ∧ 1 ≤ s ∧ Stop checks s := (h.mem _).1 ⟨i, hi, rfl⟩

/-- Sets that stop join. -/
theorem Stop.or {checks : List (List Int)} {s t : Nat} (hs : s < 128) (ht : t < 128) (h : Stop checks s) (h' : Stop checks t) : Stop checks (s ||| t) := fun i hi h1 => by
  have hlt : supN (gr checks i) &&& (s ||| t) < 128 := Nat.lt_of_le_of_lt Nat.and_le_right (Nat.or_lt_two_pow (n := 7) hs ht)
  obtain ⟨j, hj, he⟩ := one_place _ hlt h1
  have key : ∀ u, (∀ k, u.testBit k = true → (s ||| t).testBit k = true) → u.testBit j = true → supN (gr checks i) &&& u = 2 ^ j := fun u hu huj => by
    apply Nat.eq_of_testBit_eq
    intro k
    have hk : (supN (gr checks i) &&& (s ||| t)).testBit k = (2 ^ j).testBit k := by rw [he]
    rw [Nat.testBit_and] at hk ⊢
    by_cases e : j = k
    · subst e
      rw [Nat.testBit_two_pow_self] at hk ⊢
      rw [Bool.and_eq_true] at hk
      rw [hk.1, huj]; rfl
    · rw [Nat.testBit_two_pow_of_ne e] at hk ⊢
      cases huk : u.testBit k with
      | false => simp
      | true => rw [hu k huk] at hk; exact hk
  have hj2 : (s ||| t).testBit j = true := by
    have hk : (supN (gr checks i) &&& (s ||| t)).testBit j = (2 ^ j).testBit j := by rw [he]
    rw [Nat.testBit_and, Nat.testBit_two_pow_self, Bool.and_eq_true] at hk
    exact hk.2
  rw [Nat.testBit_or, Bool.or_eq_true] at hj2
  rcases hj2 with c | c
  · refine h i hi ?_
    rw [key s (fun k hk => by rw [Nat.testBit_or, hk]; rfl) c]; exact place_one j hj
  · refine h' i hi ?_
    rw [key t (fun k hk => by rw [Nat.testBit_or, hk, Bool.or_true]) c]; exact place_one j hj

theorem supTo_setB (x : List Int) : ∀ k, supTo x k = setB (fun j => decide (gi x j ≠ 0)) k
  | 0 => rfl
  | k + 1 => by
    unfold supTo setB
    rw [supTo_setB x k]
    by_cases c : gi x k = 0
    · simp [c]
    · simp [c]
theorem supTo_test (x : List Int) (k j : Nat) : (supTo x k).testBit j = true ↔ j < k ∧ gi x j ≠ 0 := by
  rw [supTo_setB, setB_test, Bool.and_eq_true, decide_eq_true_eq, decide_eq_true_eq]

section
variable {q : Nat} [NeZero q]
theorem fin_mul_ne (hq : Pr q) {a b : Fin q} (ha : a ≠ 0) (hb : b ≠ 0) : a * b ≠ 0 := fun h => by
  obtain ⟨c, hc⟩ := fin_inv hq ha
  apply hb
  have : b = (a * c) * b := by rw [hc]; grind
  rw [this]
  have : a * c * b = c * (a * b) := by grind
  rw [this, h]; grind
/-- The places of a word stop. -/
theorem word_stop {n : Nat} {rows checks : List (List Int)} (h : CodeOk q n rows) (hc : NulC q rows checks) (t : Nat) : Stop checks (supTo (wordT q n rows t) n) := fun i hi h1 => by
  have hn := h.tab.n7
  obtain ⟨a, hra, rfl⟩ := hc.at h.tab
  have hw := wordT_good h.tab.pr h.tab.good t
  have hg := nlTo_good h.tab.pr n a n i hi
  have hlt : supTo (wordT q n rows t) n < 128 := Nat.lt_of_lt_of_le (supTo_lt _ _) (pow_lt hn)
  obtain ⟨j, hj, he⟩ := one_place _ (Nat.lt_of_le_of_lt Nat.and_le_right hlt) h1
  have hbit : ∀ k, (supN (gr (nlTo q n a n) i) &&& supTo (wordT q n rows t) n).testBit k = true ↔ (k < n ∧ gi (gr (nlTo q n a n) i) k ≠ 0) ∧ k < n ∧ gi (wordT q n rows t) k ≠ 0 := fun k => by
    rw [Nat.testBit_and, Bool.and_eq_true, supTo_test]
    unfold supN
    rw [supTo_test, hg.1]
  rw [he] at hbit
  have hjj := (hbit j).1 (Nat.testBit_two_pow_self)
  have h0 : dt n (vec q (gr (nlTo q n a n) i)) (vec q (wordT q n rows t)) = 0 :=
    dt_span (R := mat q rows) (n := rows.length) ⟨_, fun k => wordT_vec h.tab.good t k⟩ (fun k hk => nulls_orth h.tab.pr hra hi hk)
  unfold dt at h0
  rw [sm_single j hjj.1.1 (fun k hk hne => by
    apply Classical.byContradiction; intro hc
    have h2 : gi (gr (nlTo q n a n) i) k ≠ 0 := fun e => hc (by rw [(vec_zero hg).2 e]; grind)
    have h3 : gi (wordT q n rows t) k ≠ 0 := fun e => hc (by rw [(vec_zero hw).2 e]; grind)
    have := (hbit k).2 ⟨⟨hk, h2⟩, hk, h3⟩
    rw [Nat.testBit_two_pow_of_ne (fun e => hne e.symm)] at this
    cases this)] at h0
  exact fin_mul_ne h.tab.pr (fun e => hjj.1.2 ((vec_zero hg).1 e)) (fun e => hjj.2.2 ((vec_zero hw).1 e)) h0
/-- What is not mendable has a set in it that stops. -/
theorem CodeOk.stop_in {n : Nat} {rows checks : List (List Int)} (h : CodeOk q n rows) (hc : NulC q rows checks) {lost : Nat} (hl : lost < 2 ^ n) (hm : ¬ MendC q rows lost) : ∃ s, 1 ≤ s ∧ s < 2 ^ n ∧ Sub s lost ∧ Stop checks s := by
  rw [h.mend_words] at hm
  obtain ⟨t, ht⟩ := Classical.not_forall.1 hm
  obtain ⟨ht1, ht2⟩ := Classical.not_imp.1 ht
  obtain ⟨hv, hne⟩ := Classical.not_imp.1 ht2
  have hw0 : wtT q n rows t ≠ 0 := fun e => hne ((h.wt_zero ht1).1 e)
  refine ⟨supTo (wordT q n rows t) n, ?_, supTo_lt _ _, ?_, word_stop h hc t⟩
  · apply Classical.byContradiction; intro c
    have e0 : supTo (wordT q n rows t) n = 0 := by omega
    refine hw0 ((hvTo_zero _ _).2 (fun j hj => ?_))
    apply Classical.byContradiction; intro c2
    have := (supTo_test _ n j).2 ⟨hj, c2⟩
    rw [e0] at this
    simp at this
  · refine Sub.mk (fun j hj => ?_)
    have h1 := (supTo_test _ n j).1 hj
    rw [testBit_bitN]
    have h2 := bit01 lost j
    have h3 : bitN lost j = 1 := by
      apply Classical.byContradiction; intro c
      exact h1.2 (hv j h1.1 (by rw [bit_rest h.tab.n7 hl h1.1]; omega))
    simp [h3]
theorem CodeOk.peel_mend {n : Nat} {rows checks : List (List Int)} (h : CodeOk q n rows) (hc : NulC q rows checks) {lost : Nat} (hl : lost < 2 ^ n) (hp : PeelR checks lost 0) : MendC q rows lost := by
  apply Classical.byContradiction; intro hm
  obtain ⟨s, h1, h2, h3, h4⟩ := h.stop_in hc hl hm
  have := (hp.2.2 s h3 h4).le
  omega
end
end Go.Proofs.Ytmehgchmnnbkfaa
