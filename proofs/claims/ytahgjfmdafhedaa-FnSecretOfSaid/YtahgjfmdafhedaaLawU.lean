/- The laws' numbers: choices, powers, totals, what weights tell of checks. What weights tell of checks, as the laws compute it. -/
import Derived.Test.YtahgjfmdafhedaaLawF
import Derived.Test.YtahgjfmdafhedaaCodU
namespace Go.Proofs.Ytahgjfmdafhedaa
open Go.RowKit Mat
set_option linter.unusedVariables false

theorem ch_step : ∀ n : Nat, n < 8 → ∀ i : Nat, i < n → ch n i * (n - i) / (i + 1) = ch n (i + 1) := by decide +kernel
theorem ch_small : ∀ n : Nat, n < 8 → ∀ i : Nat, i < 8 → ch n i ≤ 35 := by decide +kernel
/-- The sum of a list. -/
def totL (xs : List Int) : Int := sumZ (fun i => gi xs i) xs.length
theorem sumZ_range {f : Nat → Int} {b : Int} : ∀ n : Nat, (∀ i, i < n → 0 ≤ f i ∧ f i ≤ b) → 0 ≤ sumZ f n ∧ sumZ f n ≤ b * n
  | 0, _ => ⟨Int.le_refl _, by simp [sumZ]⟩
  | n + 1, h => by
    have h1 := sumZ_range n (fun i hi => h i (by omega))
    have h2 := h n (by omega)
    rw [sumZ]
    have : b * ((n + 1 : Nat) : Int) = b * n + b := by push_cast; rw [Int.mul_add, Int.mul_one]
    omega
set_option maxHeartbeats 1000000 in
theorem lawTotal_any (v : Value) (xs : List Int) (w : World) (hx : IsI w v xs) (hl : xs.length ≤ 8) (hb : ∀ i, i < xs.length → 0 ≤ gi xs i ∧ gi xs i ≤ 10000) :
    Calls Try.prog 23 #[v] w fun e w' => e = .returned (.int .i64 (totL xs)) ∧ w = w' := by
  obtain ⟨ao, n, cap, rfl, HN, hn⟩ := hx.shape
  have hn8 : n ≤ 8 := by rw [HN.out]; exact hl
  have HX := Lib.hid (And.intro hx hb)
  clear hx hb hl
  go_enter Try.func23, Try.ntmps23
  go_wp2_with fail
  go_loop [3, 4] (fun t3 t4 => ∃ (k : Nat) (s : Int), t3 = .int .i64 s ∧ t4 = .int .i64 k ∧ k ≤ n ∧ (0 ≤ s ∧ s ≤ 80000) ∧ Hid (s = sumZ (fun i => gi xs i) k)) (fun _ t4 => n - (intOf t4).toNat)
  case atStart => exact ⟨0, 0, rfl, rfl, Nat.zero_le _, by omega, rfl⟩
  case round =>
    obtain ⟨k, s, rfl, rfl, hk, hs, HS⟩ := hrel
    by_cases hkn : k < n
    · obtain ⟨b, o, rfl, ck⟩ := HX.out.1.at hkn
      have hb := HX.out.2 k (by rw [← HN.out]; exact hkn)
      obtain ⟨x, hxe⟩ : ∃ x, x = gi xs k := ⟨_, rfl⟩
      rw [← hxe] at ck hb
      have hr := sumZ_range (f := fun i => gi xs i) (b := 10000) (k + 1) (fun i hi => HX.out.2 i (by rw [← HN.out]; omega))
      have e : sumZ (fun i => gi xs i) (k + 1) = s + x := by rw [sumZ, ← HS.out, hxe]
      rw [e] at hr
      have hle : 0 ≤ s + x ∧ s + x ≤ 80000 := by constructor <;> omega
      have HE := Lib.hid e
      clear hxe e hr
      go_wp2_with fail
      go_round
      case rel => exact ⟨k + 1, s + x, by first | rfl | go_num, by go_num, by omega, hle, HE.out.symm⟩
      case measure => simp [intOf]; omega
    · obtain rfl : k = n := by omega
      go_wp2_with fail
      go_ret
      exact ⟨ret_int (by unfold totL; rw [HS.out, HN.out]), rfl⟩
end Go.Proofs.Ytahgjfmdafhedaa

namespace Go.Proofs.Ytahgjfmdafhedaa
open Go.RowKit Mat
set_option linter.unusedVariables false


/-- One term of Krawtchouk's number. -/
def krT (q n j w s : Nat) : Nat := (q - 1) ^ (j - s) * ch w s * ch (n - w) (j - s)
theorem krT_le {q n j w s : Nat} (hq : q ≤ 7) (hn : n ≤ 7) (hj : j ≤ 7) (hw : w ≤ n) (hs : s ≤ j) : krT q n j w s ≤ 342921600 := by
  have h1 : (q - 1) ^ (j - s) ≤ 279936 := Nat.le_trans (Nat.pow_le_pow_left (show q - 1 ≤ 6 by omega) _) (Nat.pow_le_pow_right (by omega) (show j - s ≤ 7 by omega) : 6 ^ (j - s) ≤ 6 ^ 7)
  have h2 := ch_small w (by omega) s (by omega)
  have h3 := ch_small (n - w) (by omega) (j - s) (by omega)
  exact Nat.mul_le_mul (Nat.mul_le_mul h1 h2) h3
theorem kraw_T (q n j w : Nat) : kraw q n j w = sumZ (fun s => (if s % 2 = 1 then -1 else 1) * (krT q n j w s : Int)) (j + 1) := rfl
theorem kr_part {q n j w : Nat} (hq : q ≤ 7) (hn : n ≤ 7) (hj : j ≤ 7) (hw : w ≤ n) : ∀ k, k ≤ j + 1 → -(342921600 * (k : Int)) ≤ sumZ (fun s => (if s % 2 = 1 then -1 else 1) * (krT q n j w s : Int)) k ∧ sumZ (fun s => (if s % 2 = 1 then -1 else 1) * (krT q n j w s : Int)) k ≤ 342921600 * k
  | 0, _ => by simp [sumZ]
  | k + 1, hk => by
    have h := kr_part hq hn hj hw k (by omega)
    have h2 := krT_le (q := q) (n := n) (j := j) (w := w) (s := k) hq hn hj hw (by omega)
    rw [sumZ]
    by_cases c : k % 2 = 1
    · rw [if_pos c]; push_cast; omega
    · rw [if_neg c]; push_cast; omega

end Go.Proofs.Ytahgjfmdafhedaa
