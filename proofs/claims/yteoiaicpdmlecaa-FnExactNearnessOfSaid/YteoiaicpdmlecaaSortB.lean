/- slices.SortFunc of at most seven rows is the insertion sort. -/
import Derived.Test.YteoiaicpdmlecaaSort
namespace Go.Proofs.Yteoiaicpdmlecaa
open Go.RowKit
set_option linter.unusedVariables false

set_option maxRecDepth 100000 in
theorem len64_any (n : Nat) (w : World) (h : n ≤ 7) : Calls Try.prog 149 #[.int .u64 n] w fun e w' => (∃ m : Int, e = .returned (.int .i64 m)) ∧ w = w' := by
  rcases (show n = 0 ∨ n = 1 ∨ n = 2 ∨ n = 3 ∨ n = 4 ∨ n = 5 ∨ n = 6 ∨ n = 7 by omega) with rfl | rfl | rfl | rfl | rfl | rfl | rfl | rfl
  all_goals
    go_enter Try.func149, Try.ntmps149
    go_wp2
    go_ret
    exact ⟨⟨_, rfl⟩, rfl⟩

theorem bitsLen_any (n : Nat) (w : World) (h : n ≤ 7) : Calls Try.prog 137 #[.int .u64 n] w fun e w' => (∃ m : Int, e = .returned (.int .i64 m)) ∧ w = w' := by
  go_enter Try.func137, Try.ntmps137
  go_wp2_with fail
  refine (len64_any _ _ h).mono ?_
  rintro e w' ⟨⟨m, rfl⟩, rfl⟩
  go_wp2_with fail
  go_ret
  exact ⟨⟨m, rfl⟩, rfl⟩

/-- What the sort leaves. -/
def Sorted (v : Value) (B : Nat) (Φ : List (List Int) → Prop) (n : Nat) (w w' : World) : Prop :=
  ∃ vs' rows', OwnR w' 31 3 v vs' rows' ∧ FromR B v vs' rows' ∧ Φ rows' ∧ rows'.length = n ∧ (∀ a b, a < b → b < rows'.length → leadZ (gr rows' a) ≤ leadZ (gr rows' b)) ∧ Chg (fun k => v.ownBlock = some k) w w'

theorem pdq_any (v : Value) (vs : List Value) (rows : List (List Int)) (w : World) (B : Nat) (Φ : List (List Int) → Prop) (hΦ : ∀ A j, 0 < j → j < A.length → Φ A → Φ (swp A j))
    (ho : OwnR w 31 3 v vs rows) (hf : FromR B v vs rows) (hphi : Φ rows) (hm : rows.length ≤ 7) (hms : ∀ A, A.length = rows.length → Φ A → ∀ i, i < A.length → Mid (gr A i).length) (m : Int) :
    Calls Try.prog 136 #[v, .int .i64 0, .int .i64 rows.length, .int .i64 m, .func (.func 121) #[] #[]] w fun e w' => e = .returned (.tuple #[]) ∧ Sorted v B Φ rows.length w w' := by
  obtain ⟨ao, n, cap, rfl, HN, hn, _⟩ := ho.outer.opened (by rw [ho.len]; unfold Mid; omega)
  have en : n = rows.length := by rw [HN.out, ho.len]
  have hc := insSort_any _ vs rows w B Φ hΦ ho hf hphi (by omega) hms
  rw [← en] at hm hc ⊢
  have HC := Lib.hid hc
  clear hc ho hf hphi hΦ hms en
  go_enter Try.func136, Try.ntmps136
  go_wp2_with fail
  refine wp_loop_rounds 1 ?_
  rw [rounds_succ]
  go_wp2_with fail
  refine HC.out.mono ?_
  rintro e w' ⟨vs', rows', rfl, hq⟩
  go_wp2_with fail
  (try simp only [Exit.inBlock, Exit.then])
  refine bodyPost_ret (results_none rfl _ _ _) rfl ?_
  exact ⟨rfl, vs', rows', hq⟩

theorem sortFunc_any (v : Value) (vs : List Value) (rows : List (List Int)) (w : World) (B : Nat) (Φ : List (List Int) → Prop) (hΦ : ∀ A j, 0 < j → j < A.length → Φ A → Φ (swp A j))
    (ho : OwnR w 31 3 v vs rows) (hf : FromR B v vs rows) (hphi : Φ rows) (hm : rows.length ≤ 7) (hms : ∀ A, A.length = rows.length → Φ A → ∀ i, i < A.length → Mid (gr A i).length) :
    Calls Try.prog 120 #[v, .func (.func 121) #[] #[]] w fun e w' => e = .returned (.tuple #[]) ∧ Sorted v B Φ rows.length w w' := by
  obtain ⟨ao, n, cap, rfl, HN, hn, _⟩ := ho.outer.opened (by rw [ho.len]; unfold Mid; omega)
  have en : n = rows.length := by rw [HN.out, ho.len]
  have hc := fun m => pdq_any _ vs rows w B Φ hΦ ho hf hphi hm hms m
  rw [← en] at hm hc ⊢
  have HC := Lib.hid hc
  clear hc ho hf hphi hΦ hms en
  go_enter Try.func120, Try.ntmps120
  go_wp2_with fail
  refine (bitsLen_any _ _ hm).mono ?_
  rintro e w' ⟨⟨m, rfl⟩, rfl⟩
  go_wp2_with fail
  refine (HC.out m).mono ?_
  rintro e w' ⟨rfl, hq⟩
  go_wp2_with fail
  go_end0
  exact ⟨rfl, hq⟩
end Go.Proofs.Yteoiaicpdmlecaa
