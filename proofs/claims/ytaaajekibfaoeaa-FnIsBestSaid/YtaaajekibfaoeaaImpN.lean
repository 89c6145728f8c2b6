/- The program's own choices and powers. -/
import Derived.Test.YtaaajekibfaoeaaLawU
namespace Go.Proofs.Ytaaajekibfaoeaa
open Go.RowKit Mat
set_option linter.unusedVariables false

set_option maxHeartbeats 1000000 in
theorem implChoices_any (n k : Nat) (w : World) (hn : n ≤ 7) (hk : k ≤ n) :
    Calls Try.prog 70 #[.int .i64 n, .int .i64 k] w fun e w' => e = .returned (.int .i64 (ch n k)) ∧ w = w' := by
  go_enter Try.func70, Try.ntmps70
  go_wp2_with fail
  go_loop [5, 6, 8] (fun t5 _ t8 => ∃ (i c : Nat), t5 = .int .i64 c ∧ t8 = .int .i64 i ∧ i ≤ k ∧ c ≤ 35 ∧ Hid (c = ch n i)) (fun _ _ t8 => k - (intOf t8).toNat)
  case atStart => exact ⟨0, 1, rfl, rfl, Nat.zero_le _, by omega, by show 1 = ch n 0; cases n <;> rfl⟩
  case round =>
    obtain ⟨i, c, rfl, rfl, hi, hc, HC⟩ := hrel
    by_cases hik : i < k
    · have hst := ch_step n (by omega) i (by omega)
      have hsm := ch_small n (by omega) (i + 1) (by omega)
      rw [← HC.out] at hst
      obtain ⟨d, hde⟩ : ∃ d, d = n - i := ⟨_, rfl⟩
      rw [← hde] at hst
      have hsub : (n : Int) - (i : Int) = (d : Int) := by omega
      have hd7 : d ≤ 7 := by omega
      have hcd : c * d ≤ 35 * 7 := Nat.mul_le_mul hc hd7
      obtain ⟨e, he⟩ : ∃ e, e = c * d := ⟨_, rfl⟩
      have hmul : (c : Int) * (d : Int) = (e : Int) := by rw [he]; push_cast; rfl
      rw [← he] at hst hcd
      obtain ⟨f, hf⟩ : ∃ f, f = ch n (i + 1) := ⟨_, rfl⟩
      rw [← hf] at hst hsm
      have hq1 : (e : Int) / ((i : Int) + 1) = (f : Int) := by rw [← hst]; push_cast; rfl
      have hq2 : (e : Int).tdiv ((i : Int) + 1) = (f : Int) := by rw [Int.tdiv_eq_ediv_of_nonneg (by omega)]; exact hq1
      have HF := Lib.hid hf
      clear hst he hf hde
      go_wp2_with fail
      go_round
      case rel => exact ⟨i + 1, f, by first | rfl | go_num, by go_num, by omega, hsm, HF.out⟩
      case measure => simp [intOf]; omega
    · obtain rfl : i = k := by omega
      go_wp2_with fail
      go_ret
      exact ⟨ret_int (by rw [HC.out]), rfl⟩
theorem implPower_any (x k : Nat) (w : World) (hx : x ≤ 7) (hx1 : 1 ≤ x) (hk : k ≤ 7) :
    Calls Try.prog 71 #[.int .i64 x, .int .i64 k] w fun e w' => e = .returned (.int .i64 ((x ^ k : Nat) : Int)) ∧ w = w' := by
  go_enter Try.func71, Try.ntmps71
  go_wp2_with fail
  go_loop [5, 7] (fun t5 t7 => ∃ (i y : Nat), t5 = .int .i64 y ∧ t7 = .int .i64 i ∧ i ≤ k ∧ Hid (y = x ^ i)) (fun _ t7 => k - (intOf t7).toNat)
  case atStart => exact ⟨0, 1, rfl, rfl, Nat.zero_le _, by show 1 = x ^ 0; rfl⟩
  case round =>
    obtain ⟨i, y, rfl, rfl, hi, HY⟩ := hrel
    by_cases hik : i < k
    · have hy : y ≤ 823543 := by
        rw [HY.out]
        exact Nat.le_trans (Nat.pow_le_pow_left hx i) (Nat.pow_le_pow_right (by omega) (by omega) : 7 ^ i ≤ 7 ^ 7)
      have hm : y * x ≤ 823543 * 7 := Nat.mul_le_mul hy hx
      obtain ⟨z, hz⟩ : ∃ z, z = y * x := ⟨_, rfl⟩
      have hz2 : (y : Int) * (x : Int) = (z : Int) := by rw [hz]; push_cast; rfl
      rw [← hz] at hm
      have HS : Hid (z = x ^ (i + 1)) := by show z = x ^ (i + 1); rw [hz, HY.out, Nat.pow_succ]
      clear hz
      go_wp2_with fail
      go_round
      case rel => exact ⟨i + 1, z, by first | rfl | go_num, by go_num, by omega, HS⟩
      case measure => simp [intOf]; omega
    · obtain rfl : i = k := by omega
      have HE := Lib.hid HY.out
      go_wp2_with fail
      go_ret
      exact ⟨ret_int (by rw [HY.out]; first | rfl | simp), rfl⟩
/-- The list as far as it is filled. -/
def bestL (q n k t : Nat) : List Int := tab (n + 1) (fun i => if i < t then bwZ q n k i else 0)
theorem bestL_set {q n k t : Nat} (ht : t ≤ n) : (bestL q n k t).set t (bwZ q n k t) = bestL q n k (t + 1) := by
  refine ext_gi (by rw [List.length_set]; unfold bestL; rw [tab_length, tab_length]) (fun i hi => ?_)
  rw [List.length_set] at hi
  have hi' : i < n + 1 := by unfold bestL at hi; rwa [tab_length] at hi
  rw [gi_lt (by rw [List.length_set]; exact hi), List.getElem_set]
  unfold bestL
  rw [tab_get hi']
  by_cases c : t = i
  · subst c; rw [if_pos rfl, if_pos (by omega)]
  · rw [if_neg c, ← gi_lt, tab_get hi']
    by_cases c2 : i < t
    · rw [if_pos c2, if_pos (by omega)]
    · rw [if_neg c2, if_neg (by omega)]
theorem bestL_zero {q n k : Nat} (hk : 1 ≤ k) (hkn : k ≤ n) : (List.replicate (n + 1) (0 : Int)).set 0 1 = bestL q n k (n - k + 1) := by
  refine ext_gi (by rw [List.length_set, List.length_replicate]; unfold bestL; rw [tab_length]) (fun i hi => ?_)
  rw [List.length_set, List.length_replicate] at hi
  rw [gi_lt (by rw [List.length_set, List.length_replicate]; exact hi), List.getElem_set]
  unfold bestL
  rw [tab_get hi]
  by_cases c : 0 = i
  · subst c; rw [if_pos rfl, if_pos (by omega)]; rfl
  · rw [if_neg c, List.getElem_replicate]
    by_cases c2 : i < n - k + 1
    · rw [if_pos c2]; unfold bwZ; rw [if_neg (by omega), if_pos c2]
    · rw [if_neg c2]
theorem bestL_all (q n k : Nat) : bestL q n k (n + 1) = tab (n + 1) (fun i => bwZ q n k i) := by
  refine ext_gi (by unfold bestL; rw [tab_length, tab_length]) (fun i hi => ?_)
  have hi' : i < n + 1 := by unfold bestL at hi; rwa [tab_length] at hi
  unfold bestL
  rw [tab_get hi', tab_get hi', if_pos hi']
end Go.Proofs.Ytaaajekibfaoeaa
