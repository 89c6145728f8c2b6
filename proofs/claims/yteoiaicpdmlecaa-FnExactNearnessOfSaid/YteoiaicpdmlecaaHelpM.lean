/- Which sets help a column: by the solver and by the ranks. Plain. -/
import Derived.Test.YteoiaicpdmlecaaRankHelp
import Derived.Test.YteoiaicpdmlecaaSolveS
import Derived.Test.YteoiaicpdmlecaaLeastM
namespace Go.Proofs.Yteoiaicpdmlecaa
open Go.RowKit Mat
set_option linter.unusedVariables false

/-- The set does not hold i and helps it. -/
def HelpQ (q : Nat) [NeZero q] (rows : List (List Int)) (n i s : Nat) : Prop := bitN s i = 0 ∧ HelpC q rows n s i

theorem SolB.help {q : Nat} [NeZero q] {rows : List (List Int)} {n s i : Nat} {out : List Int} {ok : Bool} (h : SolB q (colsTo rows s n) (colN rows i) out ok) : ok = true ↔ HelpC q rows n s i := by
  unfold HelpC
  rw [← colsTo_length rows s n]
  cases ok with
  | true => exact ⟨fun _ => (h.1 rfl).spans, fun _ => rfl⟩
  | false => exact ⟨(fun h2 => by cases h2), fun h2 => absurd h2 (h.2 rfl).2⟩

theorem help_none {q : Nat} [NeZero q] {rows : List (List Int)} {n s i : Nat} (hg : GoodRows q n rows) (hi : i < n) (h0 : wtN s n = 0) : HelpC q rows n s i ↔ ∀ r, r < (colN rows i).length → gi (colN rows i) r = 0 := by
  unfold HelpC
  rw [h0]
  have hc := colN_good hg hi
  constructor
  · rintro ⟨c, hc0⟩ r hr
    have h1 := hc0 r
    rw [hc.1] at hr
    have h2 := hc.2 r hr
    exact (phi_eq_zero h2.1 h2.2).1 h1
  · intro h
    refine ⟨fun _ => 0, fun k => ?_⟩
    show phi q (gi (colN rows i) k) = 0
    by_cases hk : k < (colN rows i).length
    · rw [h k hk, phi_zero]
    · rw [gi_ge (by omega), phi_zero]

theorem or_bits : ∀ s : Nat, s < 128 → ∀ i : Nat, i < 7 → ∀ k : Nat, k < 7 → bitN (s ||| 2 ^ i) k = if k = i then 1 else bitN s k := by decide +kernel
theorem or_small : ∀ s : Nat, s < 128 → ∀ i : Nat, i < 7 → s ||| 2 ^ i < 128 := by decide +kernel
theorem wt_full : ∀ n : Nat, n < 8 → ∀ s : Nat, s < 128 → s < 2 ^ n → wtN s 7 = n → ∀ i : Nat, i < n → bitN s i = 1 := by decide +kernel
theorem wt_less : ∀ n : Nat, n < 8 → ∀ s : Nat, s < 128 → ∀ i : Nat, i < n → bitN s i = 0 → wtN s n ≤ 6 := by decide +kernel
theorem wt_cut : ∀ n : Nat, n < 8 → ∀ s : Nat, s < 128 → s < 2 ^ n → wtN s n = wtN s 7 := by decide +kernel

theorem rank_help {q : Nat} [NeZero q] (hq : Pr q) {rows : List (List Int)} {n s i a b : Nat} (hg : GoodRows q n rows) (hc : (gr rows 0).length = n) (hn : n ≤ 7) (hs : s < 128) (hi : i < n) (hb : bitN s i = 0) (h1 : RkOf q rows s a) (h2 : RkOf q rows (s ||| 2 ^ i) b) : a = b ↔ HelpC q rows n s i := by
  obtain ⟨q1, i1, e1, _, o1, r1, rfl⟩ := h1
  obtain ⟨q2, i2, e2, _, o2, r2, rfl⟩ := h2
  obtain rfl : q = q1 := by omega
  obtain rfl : q = q2 := by omega
  rw [hc] at r1 r2
  exact (help_rank hq hg hi hb (fun k hk => or_bits s hs i (by omega) k (by omega)) r1 r2).symm
end Go.Proofs.Yteoiaicpdmlecaa
