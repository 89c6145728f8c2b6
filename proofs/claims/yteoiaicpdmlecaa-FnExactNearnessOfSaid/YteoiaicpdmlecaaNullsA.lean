/- spec.ahead, spec.nulls. -/
import Derived.Test.YteoiaicpdmlecaaNullM
import Derived.Test.YteoiaicpdmlecaaReduce
import Derived.Test.YteoiaicpdmlecaaCopy
namespace Go.Proofs.Yteoiaicpdmlecaa
open Go.RowKit Mat
set_option linter.unusedVariables false

/-- All numbers ahead of a place are 0. -/
def ahB (x : List Int) (k : Nat) : Bool := decide (∀ j, j < k → gi x j = 0)
theorem ahB_iff {x : List Int} {k : Nat} : ahB x k = true ↔ ∀ j, j < k → gi x j = 0 := by simp [ahB]

theorem ahead_any (v : Value) (xs : List Int) (k : Nat) (w : World) (hx : IsI w v xs) (hk : k ≤ xs.length) :
    Calls Try.prog 107 #[v, .int .i64 k] w fun e w' => e = .returned (.bool (ahB xs k)) ∧ w = w' := by
  obtain ⟨ao, n, cap, rfl, HN, hn⟩ := hx.shape
  have hkn : k ≤ n := by rw [HN.out]; exact hk
  have HX := Lib.hid hx
  clear hx hk
  go_enter Try.func107, Try.ntmps107
  go_wp2_with fail
  go_loop [5] (fun i => ∃ j : Nat, i = .int .i64 j ∧ j ≤ k ∧ Hid (∀ l, l < j → gi xs l = 0)) (fun i => k - (intOf i).toNat)
  case atStart => exact ⟨0, rfl, Nat.zero_le _, fun l hl => by omega⟩
  case round =>
    obtain ⟨j, rfl, hj, HD⟩ := hrel
    by_cases hjk : j < k
    · obtain ⟨b, o, rfl, c⟩ := HX.out.at (i := j) (by omega)
      have hjn : j < n := by omega
      obtain ⟨x, hx⟩ : ∃ x, x = gi xs j := ⟨_, rfl⟩
      rw [← hx] at c
      have HXX := Lib.hid hx
      clear hx
      by_cases h0 : x = 0
      · subst h0
        go_wp2_with fail
        go_round
        case rel =>
          refine ⟨j + 1, by go_num, by omega, fun l hl => ?_⟩
          by_cases e : l = j
          · rw [e]; exact HXX.out.symm
          · exact HD.out l (by omega)
        case measure => simp [intOf]; omega
      · have hd : decide (x = 0) = false := by simp; exact h0
        have hd2 : (x != 0) = true := by simp; exact h0
        have hf : ahB xs k = false := by
          rw [Bool.eq_false_iff]
          intro h
          exact h0 (HXX.out.trans (ahB_iff.1 h j hjk))
        have HF := Lib.hid hf
        clear hf
        go_wp2_with fail
        go_ret
        exact ⟨ret_bool HF.out.symm, rfl⟩
    · obtain rfl : j = k := by omega
      have hf : ahB xs j = true := ahB_iff.2 HD.out
      have HF := Lib.hid hf
      clear hf
      go_wp2_with fail
      go_ret
      exact ⟨ret_bool HF.out.symm, rfl⟩
end Go.Proofs.Yteoiaicpdmlecaa
