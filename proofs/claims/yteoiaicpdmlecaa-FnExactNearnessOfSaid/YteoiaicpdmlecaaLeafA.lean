/- The small functions on numbers: what each hands back. -/
import Derived.Test.YteoiaicpdmlecaaLaw
import Derived.Test.YteoiaicpdmlecaaArith
import Derived.Test.YteoiaicpdmlecaaProg
namespace Go.Proofs.Yteoiaicpdmlecaa
open Go.RowKit
set_option linter.unusedVariables false

theorem ret_int {k : IntKind} {a b : Int} (h : a = b) : Ending.returned (.int k a) = .returned (.int k b) := by rw [h]
theorem ret_bool {a b : Bool} (h : a = b) : Ending.returned (.bool a) = .returned (.bool b) := by rw [h]
theorem val_int {k : IntKind} {a b : Int} (h : a = b) : Value.int k a = .int k b := by rw [h]
theorem val_bool {a b : Bool} (h : a = b) : Value.bool a = .bool b := by rw [h]

theorem inRange_any (n lo hi : Int) (w : World) :
    Calls Try.prog 64 #[.int .i64 n, .int .i64 lo, .int .i64 hi] w fun e w' => e = .returned (.bool (inB n lo hi)) ∧ w = w' := by
  go_enter Try.func64, Try.ntmps64
  go_wp2
  all_goals
    go_ret
    refine ⟨ret_bool ?_, rfl⟩
    unfold inB
    simp
    try omega

theorem within_any (n lo hi : Int) (w : World) :
    Calls Try.prog 67 #[.int .i64 n, .int .i64 lo, .int .i64 hi] w fun e w' => e = .returned (.bool (inB n lo hi)) ∧ w = w' := by
  go_enter Try.func67, Try.ntmps67
  go_wp2
  all_goals
    go_ret
    refine ⟨ret_bool ?_, rfl⟩
    unfold inB
    simp
    try omega

theorem rest_any (p n : Int) (w : World) (hp : 0 < p) (hp2 : p ≤ 1000000) :
    Calls Try.prog 111 #[.int .i64 p, .int .i64 n] w fun e w' => e = .returned (.int .i64 (n % p)) ∧ w = w' := by
  have hb := tmod_bounds n p hp
  have H := Lib.hid (tmod_pos n p hp)
  go_enter Try.func111, Try.ntmps111
  go_wp2
  go_ret
  exact ⟨by rw [← H.out]; rfl, rfl⟩

theorem isPrime_any (p : Int) (w : World) :
    Calls Try.prog 106 #[.int .i64 p] w fun e w' => e = .returned (.bool (prB p)) ∧ w = w' := by
  go_enter Try.func106, Try.ntmps106
  go_wp2
  all_goals
    go_ret
    refine ⟨ret_bool ?_, rfl⟩
    unfold prB
    rw [Bool.eq_iff_iff]
    simp
    try omega

theorem specInverse_any (p x : Int) (w : World) (hp : prB p = true) (h1 : 1 ≤ x) (h2 : x < p) :
    Calls Try.prog 122 #[.int .i64 p, .int .i64 x] w fun e w' => e = .returned (.int .i64 (invZ p x)) ∧ w = w' := by
  have hb := prB_bounds hp
  have HP := Lib.hid hp
  clear hp
  go_enter Try.func122, Try.ntmps122
  go_wp2
  go_loop [5] (fun y => ∃ k : Int, y = .int .i64 k ∧ 1 ≤ k ∧ k ≤ invZ p x) (fun y => (p - intOf y).toNat)
  case atStart => exact ⟨1, rfl, by omega, (invZ_spec HP.out h1 h2).1⟩
  case round =>
    obtain ⟨k, rfl, hk1, hk2⟩ := hrel
    have hs := invZ_spec HP.out h1 h2
    have hkp : k < p := by omega
    have hm := mul_small (x := x) (y := k) (by omega) (by omega) (by omega) (by omega)
    have HI := Lib.hid hs.2.2
    clear hs
    by_cases hf : x * k % p = 1
    · have HF := Lib.hid (invZ_first HP.out h1 h2 hk1 hkp hf)
      go_wp2
      go_ret
      exact ⟨ret_int HF.out, rfl⟩
    · have hne : k ≠ invZ p x := fun e => hf (by rw [e]; exact HI.out)
      go_wp2
      go_round
      case rel => exact ⟨k + 1, rfl, by omega, by omega⟩
      case measure => simp [intOf]; omega

theorem inverse_any (p x : Int) (w : World) (hp : prB p = true) (h1 : 1 ≤ x) (h2 : x < p) :
    Calls Try.prog 119 #[.int .i64 p, .int .i64 x] w fun e w' => e = .returned (.int .i64 (invZ p x)) ∧ w = w' := by
  have hb := prB_bounds hp
  have HP := Lib.hid hp
  clear hp
  go_enter Try.func119, Try.ntmps119
  go_wp2
  go_loop [5] (fun y => ∃ k : Int, y = .int .i64 k ∧ 1 ≤ k ∧ k ≤ invZ p x) (fun y => (p - intOf y).toNat)
  case atStart => exact ⟨1, rfl, by omega, (invZ_spec HP.out h1 h2).1⟩
  case round =>
    obtain ⟨k, rfl, hk1, hk2⟩ := hrel
    have hs := invZ_spec HP.out h1 h2
    have hkp : k < p := by omega
    have hm := mul_small (x := x) (y := k) (by omega) (by omega) (by omega) (by omega)
    have HI := Lib.hid hs.2.2
    clear hs
    by_cases hf : x * k % p = 1
    · have HF := Lib.hid (invZ_first HP.out h1 h2 hk1 hkp hf)
      go_wp2_with (go_at_call 111; refine (rest_any _ _ _ (by omega) (by omega)).mono ?_; rintro e w' ⟨rfl, rfl⟩)
      go_ret
      exact ⟨ret_int HF.out, rfl⟩
    · have hne : k ≠ invZ p x := fun e => hf (by rw [e]; exact HI.out)
      go_wp2_with (go_at_call 111; refine (rest_any _ _ _ (by omega) (by omega)).mono ?_; rintro e w' ⟨rfl, rfl⟩)
      go_round
      case rel => exact ⟨k + 1, rfl, by omega, by omega⟩
      case measure => simp [intOf]; omega
end Go.Proofs.Yteoiaicpdmlecaa
