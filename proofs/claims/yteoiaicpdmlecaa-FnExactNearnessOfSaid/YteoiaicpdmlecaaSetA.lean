/- Sets as numbers: powers of 2, bits, sizes. -/
import Derived.Test.YteoiaicpdmlecaaLeafA
namespace Go.Proofs.Yteoiaicpdmlecaa
open Go.RowKit
set_option linter.unusedVariables false

theorem two_pow_le {m n : Nat} (h : m ≤ n) : 2 ^ m ≤ 2 ^ n := Nat.pow_le_pow_right (by omega) h

theorem power_any (n : Nat) (w : World) (hn : n ≤ 40) :
    Calls Try.prog 99 #[.int .i64 n] w fun e w' => e = .returned (.int .i64 ((2 ^ n : Nat) : Int)) ∧ w = w' := by
  go_enter Try.func99, Try.ntmps99
  go_wp2_with fail
  go_loop [0, 3] (fun t0 t3 => ∃ (k x : Nat), t0 = .int .i64 k ∧ t3 = .int .i64 x ∧ k ≤ n ∧ Hid (x * 2 ^ k = 2 ^ n) ∧ x ≤ 1099511627776) (fun t0 _ => (intOf t0).toNat)
  case atStart => exact ⟨n, 1, rfl, rfl, Nat.le_refl _, by show 1 * 2 ^ n = 2 ^ n; omega, by omega⟩
  case round =>
    obtain ⟨k, x, rfl, rfl, hk, HX, hx⟩ := hrel
    by_cases hk0 : 0 < k
    · go_wp2_with fail
      go_round
      case rel =>
        have hx2 : 2 * x * 2 ^ (k - 1) = 2 ^ n := by
          rw [← HX.out]
          obtain ⟨j, rfl⟩ : ∃ j, k = j + 1 := ⟨k - 1, by omega⟩
          rw [Nat.add_sub_cancel, Nat.pow_succ, Nat.mul_comm 2 x, Nat.mul_assoc, Nat.mul_comm 2]
        have h40 : 2 ^ n ≤ 1099511627776 := two_pow_le (m := n) (n := 40) hn
        have hle : 2 * x ≤ 2 ^ n := by rw [← hx2]; exact Nat.le_mul_of_pos_right _ (Nat.two_pow_pos _)
        refine ⟨k - 1, 2 * x, by apply val_int; omega, by apply val_int; omega, by omega, hx2, by omega⟩
      case measure => simp [intOf]; omega
    · obtain rfl : k = 0 := by omega
      have e : x = 2 ^ n := by have := HX.out; rw [Nat.pow_zero] at this; omega
      have HE := Lib.hid e
      clear e
      go_wp2_with fail
      go_ret
      exact ⟨ret_int (by rw [HE.out]; first | rfl | simp), rfl⟩

/-- Bit i of a set. -/
def bitN (s i : Nat) : Nat := s / 2 ^ i % 2

theorem bit_any (s i : Nat) (w : World) (hs : s ≤ 1099511627776) (hi : i ≤ 40) :
    Calls Try.prog 101 #[.int .i64 s, .int .i64 i] w fun e w' => e = .returned (.int .i64 (bitN s i)) ∧ w = w' := by
  have hp : 2 ^ i ≤ 1099511627776 := two_pow_le (m := i) (n := 40) hi
  have hp0 : 0 < 2 ^ i := Nat.two_pow_pos _
  have hb : bitN s i = s / 2 ^ i % 2 := rfl
  obtain ⟨p, hpe⟩ : ∃ p, p = 2 ^ i := ⟨_, rfl⟩
  rw [← hpe] at hp hp0 hb
  obtain ⟨q, hq⟩ : ∃ q, q = s / p := ⟨_, rfl⟩
  rw [← hq] at hb
  have hqi : (s : Int) / (p : Int) = (q : Int) := by rw [hq]; simp
  have hqs : q ≤ s := by rw [hq]; exact Nat.div_le_self _ _
  have htm : (q : Int).tmod 2 = ((bitN s i : Nat) : Int) := by rw [hb, Int.tmod_eq_emod_of_nonneg (by omega)]; omega
  have HP := Lib.hid hpe
  clear hpe hb hq
  go_enter Try.func101, Try.ntmps101
  go_wp2_with (go_at_call 99; refine (power_any _ _ hi).mono ?_; rintro e w' ⟨rfl, rfl⟩; rw [← HP.out])
  go_ret
  exact ⟨rfl, rfl⟩

/-- How many bits of the first k are set. -/
def wtN (s : Nat) : Nat → Nat
  | 0 => 0
  | k + 1 => wtN s k + bitN s k

theorem ones64_any (s : Nat) (w : World) (hs : s < 128) :
    Calls Try.prog 127 #[.int .u64 s] w fun e w' => e = .returned (.int .i64 (wtN s 7)) ∧ w = w' := by
  go_enter Try.func127, Try.ntmps127
  go_wp2_with fail
  go_ret
  refine ⟨ret_int ?_, rfl⟩
  revert hs
  revert s
  decide +kernel

theorem ones_any (s : Nat) (w : World) (hs : s < 128) :
    Calls Try.prog 105 #[.int .u64 s] w fun e w' => e = .returned (.int .i64 (wtN s 7)) ∧ w = w' := by
  go_enter Try.func105, Try.ntmps105
  go_wp2_with (go_at_call 127; refine (ones64_any _ _ hs).mono ?_; rintro e w' ⟨rfl, rfl⟩)
  go_ret
  exact ⟨rfl, rfl⟩

theorem size_any (s : Nat) (w : World) (hs : s < 128) :
    Calls Try.prog 71 #[.int .i64 s] w fun e w' => e = .returned (.int .i64 (wtN s 7)) ∧ w = w' := by
  go_enter Try.func71, Try.ntmps71
  go_wp2_with (go_at_call 105; refine (ones_any _ _ hs).mono ?_; rintro e w' ⟨rfl, rfl⟩)
  go_ret
  exact ⟨rfl, rfl⟩

theorem wt_done : ∀ s, s < 128 → ∀ j, j < 8 → s / 2 ^ j = 0 → wtN s j = wtN s 7 := by decide +kernel

theorem weight_any (s : Nat) (w : World) (hs : s < 128) :
    Calls Try.prog 100 #[.int .i64 s] w fun e w' => e = .returned (.int .i64 (wtN s 7)) ∧ w = w' := by
  go_enter Try.func100, Try.ntmps100
  go_wp2_with fail
  go_loop [0, 3] (fun t0 t3 => ∃ (j x y : Nat), t0 = .int .i64 x ∧ t3 = .int .i64 y ∧ j ≤ 7 ∧ Hid (x = s / 2 ^ j) ∧ Hid (y = wtN s j) ∧ x ≤ s ∧ y ≤ j) (fun t0 _ => (intOf t0).toNat)
  case atStart => exact ⟨0, s, 0, rfl, rfl, by omega, by show s = s / 2 ^ 0; simp, rfl, Nat.le_refl _, Nat.le_refl _⟩
  case round =>
    obtain ⟨j, x, y, rfl, rfl, hj, HX, HY, hxs, hyj⟩ := hrel
    by_cases hx0 : 0 < x
    · have hj7 : j < 7 := by
        apply Classical.byContradiction
        intro h
        have e : j = 7 := by omega
        have := HX.out
        rw [e] at this
        omega
      have hdiv : (x : Int) / 2 = ((x / 2 : Nat) : Int) := by omega
      have htm : (x : Int).tmod 2 = ((x % 2 : Nat) : Int) := by rw [Int.tmod_eq_emod_of_nonneg (by omega)]; omega
      obtain ⟨x2, hx2⟩ : ∃ x2, x2 = x / 2 := ⟨_, rfl⟩
      obtain ⟨r2, hr2⟩ : ∃ r2, r2 = x % 2 := ⟨_, rfl⟩
      rw [← hx2] at hdiv
      rw [← hr2] at htm
      have hx2s : x2 ≤ s ∧ x2 < x := by omega
      have hr : r2 ≤ 1 := by omega
      have H1 : Hid (x2 = s / 2 ^ (j + 1)) := by show x2 = _; rw [hx2, HX.out, Nat.pow_succ, Nat.div_div_eq_div_mul]
      have H2 : Hid (y + r2 = wtN s (j + 1)) := by show y + r2 = _; rw [hr2, HX.out, HY.out]; rfl
      clear hx2 hr2
      go_wp2_with fail
      go_round
      case rel => exact ⟨j + 1, x2, y + r2, rfl, by apply val_int; omega, by omega, H1, H2, by omega, by omega⟩
      case measure => simp [intOf]; omega
    · obtain rfl : x = 0 := by omega
      have HE : Hid (y = wtN s 7) := by show y = _; rw [HY.out]; exact wt_done s hs j (by omega) HX.out.symm
      go_wp2_with fail
      go_ret
      exact ⟨ret_int (by rw [HE.out]), rfl⟩
end Go.Proofs.Yteoiaicpdmlecaa
