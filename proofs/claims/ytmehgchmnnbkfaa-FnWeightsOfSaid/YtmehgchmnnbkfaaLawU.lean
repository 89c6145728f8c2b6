/- The laws' numbers: choices, powers, totals, what weights tell of checks. What weights tell of checks, as the laws compute it. -/
import Derived.Test.YtmehgchmnnbkfaaLawF
import Derived.Test.YtmehgchmnnbkfaaCodU
namespace Go.Proofs.Ytmehgchmnnbkfaa
open Go.RowKit Mat
set_option linter.unusedVariables false

theorem ch_step : ∀ n : Nat, n < 8 → ∀ i : Nat, i < n → ch n i * (n - i) / (i + 1) = ch n (i + 1) := by decide +kernel
theorem ch_small : ∀ n : Nat, n < 8 → ∀ i : Nat, i < 8 → ch n i ≤ 35 := by decide +kernel
set_option maxHeartbeats 1000000 in
theorem lawChoose_any (n k : Nat) (w : World) (hn : n ≤ 7) (hk : k ≤ 7) :
    Calls Try.prog 34 #[.int .i64 n, .int .i64 k] w fun e w' => e = .returned (.int .i64 (ch n k)) ∧ w = w' := by
  by_cases hkn : n < k
  · have h0 : ch n k = 0 := ch_over n k hkn
    have H0 := Lib.hid h0
    clear h0
    go_enter Try.func34, Try.ntmps34
    go_wp2_with fail
    go_ret
    exact ⟨ret_int (by rw [H0.out]; rfl), rfl⟩
  · have hd : decide ((n : Int) < (k : Int)) = false := by simp; omega
    go_enter Try.func34, Try.ntmps34
    go_wp2_with fail
    clear hd
    go_loop [5, 6] (fun t5 t6 => ∃ (i c : Nat), t5 = .int .i64 c ∧ t6 = .int .i64 i ∧ i ≤ k ∧ c ≤ 35 ∧ Hid (c = ch n i)) (fun _ t6 => k - (intOf t6).toNat)
    case atStart => exact ⟨0, 1, rfl, rfl, Nat.zero_le _, by omega, by show 1 = ch n 0; cases n <;> rfl⟩
    case round =>
      obtain ⟨i, c, rfl, rfl, hi, hc, HC⟩ := hrel
      by_cases hik : i < k
      · have hst := ch_step n (by omega) i (by omega)
        have hsm := ch_small n (by omega) (i + 1) (by omega)
        rw [← HC.out] at hst
        obtain ⟨d, hde⟩ : ∃ d, d = n - i := ⟨_, rfl⟩
        rw [← hde] at hst
        have hsub : (n : Int) - (i : Int) = (d : Int) := by omega
        have hd7 : d ≤ 7 := by omega
        have hcd : c * d ≤ 35 * 7 := Nat.mul_le_mul hc hd7
        obtain ⟨e, he⟩ : ∃ e, e = c * d := ⟨_, rfl⟩
        have hmul : (c : Int) * (d : Int) = (e : Int) := by rw [he]; push_cast; rfl
        rw [← he] at hst hcd
        obtain ⟨f, hf⟩ : ∃ f, f = ch n (i + 1) := ⟨_, rfl⟩
        rw [← hf] at hst hsm
        have hq1 : (e : Int) / ((i : Int) + 1) = (f : Int) := by rw [← hst]; push_cast; rfl
        have hq2 : (e : Int).tdiv ((i : Int) + 1) = (f : Int) := by rw [Int.tdiv_eq_ediv_of_nonneg (by omega)]; exact hq1
        have HF := Lib.hid hf
        clear hst he hf hde
        go_wp2_with fail
        go_round
        case rel => exact ⟨i + 1, f, by first | rfl | go_num, by go_num, by omega, hsm, HF.out⟩
        case measure => simp [intOf]; omega
      · obtain rfl : i = k := by omega
        go_wp2_with fail
        go_ret
        exact ⟨ret_int (by rw [HC.out]), rfl⟩

/-- Powers of small numbers. -/
theorem lawTimes_any (x k : Nat) (w : World) (hx : x ≤ 7) (hx1 : 1 ≤ x) (hk : k ≤ 7) :
    Calls Try.prog 27 #[.int .i64 x, .int .i64 k] w fun e w' => e = .returned (.int .i64 ((x ^ k : Nat) : Int)) ∧ w = w' := by
  have hxk : x ^ k ≤ 823543 := Nat.le_trans (Nat.pow_le_pow_left hx k) (Nat.pow_le_pow_right (by omega) hk : 7 ^ k ≤ 7 ^ 7)
  have HXK := Lib.hid hxk
  clear hxk
  go_enter Try.func27, Try.ntmps27
  go_wp2_with fail
  go_loop [1, 5] (fun t1 t5 => ∃ (j y : Nat), t1 = .int .i64 j ∧ t5 = .int .i64 y ∧ j ≤ k ∧ Hid (y * x ^ j = x ^ k) ∧ y ≤ 823543) (fun t1 _ => (intOf t1).toNat)
  case atStart => exact ⟨k, 1, rfl, rfl, Nat.le_refl _, by show 1 * x ^ k = x ^ k; omega, by omega⟩
  case round =>
    obtain ⟨j, y, rfl, rfl, hj, HY, hy⟩ := hrel
    by_cases hj0 : 0 < j
    · have hm : y * x ≤ 823543 * 7 := Nat.mul_le_mul hy hx
      obtain ⟨z, hz⟩ : ∃ z, z = y * x := ⟨_, rfl⟩
      have hz2 : (y : Int) * (x : Int) = (z : Int) := by rw [hz]; push_cast; rfl
      rw [← hz] at hm
      have HZ := Lib.hid hz
      have hw : IntKind.i64.wrap ((y : Int) * (x : Int)) = (z : Int) := by rw [hz2]; exact IntWalk.i64_in _ (by omega)
      clear hz
      have HS : Hid (z * x ^ (j - 1) = x ^ k) := by
        show z * x ^ (j - 1) = x ^ k
        rw [← HY.out, HZ.out]
        obtain ⟨i, rfl⟩ : ∃ i, j = i + 1 := ⟨j - 1, by omega⟩
        rw [Nat.add_sub_cancel, Nat.pow_succ, Nat.mul_assoc, Nat.mul_comm x]
      have hle : z ≤ 823543 := by
        have h1 : z ≤ z * x ^ (j - 1) := Nat.le_mul_of_pos_right _ (Nat.pow_pos (by omega))
        rw [HS.out] at h1
        have := HXK.out
        omega
      clear hm
      go_wp2_with fail
      go_round
      case rel => exact ⟨j - 1, z, by apply val_int; omega, by first | rfl | go_num, by omega, HS, hle⟩
      case measure => simp [intOf]; omega
    · obtain rfl : j = 0 := by omega
      have e : y = x ^ k := by have := HY.out; rw [Nat.pow_zero] at this; omega
      have HE := Lib.hid e
      clear e
      go_wp2_with fail
      go_ret
      exact ⟨ret_int (by rw [HE.out]; first | rfl | simp), rfl⟩

/-- The sum of a list. -/
def totL (xs : List Int) : Int := sumZ (fun i => gi xs i) xs.length
theorem sumZ_range {f : Nat → Int} {b : Int} : ∀ n : Nat, (∀ i, i < n → 0 ≤ f i ∧ f i ≤ b) → 0 ≤ sumZ f n ∧ sumZ f n ≤ b * n
  | 0, _ => ⟨Int.le_refl _, by simp [sumZ]⟩
  | n + 1, h => by
    have h1 := sumZ_range n (fun i hi => h i (by omega))
    have h2 := h n (by omega)
    rw [sumZ]
    have : b * ((n + 1 : Nat) : Int) = b * n + b := by push_cast; rw [Int.mul_add, Int.mul_one]
    omega
set_option maxHeartbeats 1000000 in
theorem lawTotal_any (v : Value) (xs : List Int) (w : World) (hx : IsI w v xs) (hl : xs.length ≤ 8) (hb : ∀ i, i < xs.length → 0 ≤ gi xs i ∧ gi xs i ≤ 10000) :
    Calls Try.prog 29 #[v] w fun e w' => e = .returned (.int .i64 (totL xs)) ∧ w = w' := by
  obtain ⟨ao, n, cap, rfl, HN, hn⟩ := hx.shape
  have hn8 : n ≤ 8 := by rw [HN.out]; exact hl
  have HX := Lib.hid (And.intro hx hb)
  clear hx hb hl
  go_enter Try.func29, Try.ntmps29
  go_wp2_with fail
  go_loop [3, 4] (fun t3 t4 => ∃ (k : Nat) (s : Int), t3 = .int .i64 s ∧ t4 = .int .i64 k ∧ k ≤ n ∧ (0 ≤ s ∧ s ≤ 80000) ∧ Hid (s = sumZ (fun i => gi xs i) k)) (fun _ t4 => n - (intOf t4).toNat)
  case atStart => exact ⟨0, 0, rfl, rfl, Nat.zero_le _, by omega, rfl⟩
  case round =>
    obtain ⟨k, s, rfl, rfl, hk, hs, HS⟩ := hrel
    by_cases hkn : k < n
    · obtain ⟨b, o, rfl, ck⟩ := HX.out.1.at hkn
      have hb := HX.out.2 k (by rw [← HN.out]; exact hkn)
      obtain ⟨x, hxe⟩ : ∃ x, x = gi xs k := ⟨_, rfl⟩
      rw [← hxe] at ck hb
      have hr := sumZ_range (f := fun i => gi xs i) (b := 10000) (k + 1) (fun i hi => HX.out.2 i (by rw [← HN.out]; omega))
      have e : sumZ (fun i => gi xs i) (k + 1) = s + x := by rw [sumZ, ← HS.out, hxe]
      rw [e] at hr
      have hle : 0 ≤ s + x ∧ s + x ≤ 80000 := by constructor <;> omega
      have HE := Lib.hid e
      clear hxe e hr
      go_wp2_with fail
      go_round
      case rel => exact ⟨k + 1, s + x, by first | rfl | go_num, by go_num, by omega, hle, HE.out.symm⟩
      case measure => simp [intOf]; omega
    · obtain rfl : k = n := by omega
      go_wp2_with fail
      go_ret
      exact ⟨ret_int (by unfold totL; rw [HS.out, HN.out]), rfl⟩
end Go.Proofs.Ytmehgchmnnbkfaa

namespace Go.Proofs.Ytmehgchmnnbkfaa
open Go.RowKit Mat
set_option linter.unusedVariables false


/-- One term of Krawtchouk's number. -/
def krT (q n j w s : Nat) : Nat := (q - 1) ^ (j - s) * ch w s * ch (n - w) (j - s)
theorem krT_le {q n j w s : Nat} (hq : q ≤ 7) (hn : n ≤ 7) (hj : j ≤ 7) (hw : w ≤ n) (hs : s ≤ j) : krT q n j w s ≤ 342921600 := by
  have h1 : (q - 1) ^ (j - s) ≤ 279936 := Nat.le_trans (Nat.pow_le_pow_left (show q - 1 ≤ 6 by omega) _) (Nat.pow_le_pow_right (by omega) (show j - s ≤ 7 by omega) : 6 ^ (j - s) ≤ 6 ^ 7)
  have h2 := ch_small w (by omega) s (by omega)
  have h3 := ch_small (n - w) (by omega) (j - s) (by omega)
  exact Nat.mul_le_mul (Nat.mul_le_mul h1 h2) h3
theorem kraw_T (q n j w : Nat) : kraw q n j w = sumZ (fun s => (if s % 2 = 1 then -1 else 1) * (krT q n j w s : Int)) (j + 1) := rfl
theorem kr_part {q n j w : Nat} (hq : q ≤ 7) (hn : n ≤ 7) (hj : j ≤ 7) (hw : w ≤ n) : ∀ k, k ≤ j + 1 → -(342921600 * (k : Int)) ≤ sumZ (fun s => (if s % 2 = 1 then -1 else 1) * (krT q n j w s : Int)) k ∧ sumZ (fun s => (if s % 2 = 1 then -1 else 1) * (krT q n j w s : Int)) k ≤ 342921600 * k
  | 0, _ => by simp [sumZ]
  | k + 1, hk => by
    have h := kr_part hq hn hj hw k (by omega)
    have h2 := krT_le (q := q) (n := n) (j := j) (w := w) (s := k) hq hn hj hw (by omega)
    rw [sumZ]
    by_cases c : k % 2 = 1
    · rw [if_pos c]; push_cast; omega
    · rw [if_neg c]; push_cast; omega

set_option maxRecDepth 100000 in
set_option maxHeartbeats 4000000 in
theorem lawTurned_any (q n j : Nat) (v : Value) (xs : List Int) (w : World) (hx : IsI w v xs) (hl : xs.length = n + 1) (hn : n ≤ 7) (hj : j ≤ n) (hq : 2 ≤ q ∧ q ≤ 7) (hb : ∀ i, i < xs.length → 0 ≤ gi xs i ∧ gi xs i ≤ 10000) :
    Calls Try.prog 28 #[.int .i64 q, v, .int .i64 j] w fun e w' => e = .returned (.int .i64 (sumZ (fun i => gi xs i * kraw q n j i) (n + 1))) ∧ w = w' := by
  obtain ⟨ao, m, cap, rfl, HM, hm⟩ := hx.shape
  obtain rfl : n + 1 = m := by rw [HM.out, hl]
  have HX := Lib.hid (And.intro hx (And.intro hb hl))
  have hsub : ((n + 1 : Nat) : Int) - 1 = (n : Int) := by push_cast; omega
  obtain ⟨q1, hq1n⟩ : ∃ q1, q1 = q - 1 := ⟨_, rfl⟩
  have hq1 : (q : Int) - 1 = (q1 : Int) := by omega
  have HQ1 := Lib.hid hq1n
  clear hq1n
  clear hx hb hl
  go_enter Try.func28, Try.ntmps28
  go_wp2_with fail
  go_loop [8, 9] (fun t8 t9 => ∃ (k : Nat) (o : Int), t8 = .int .i64 o ∧ t9 = .int .i64 k ∧ k ≤ n + 1 ∧ (-(30000000000000 * (k : Int)) ≤ o ∧ o ≤ 30000000000000 * (k : Int)) ∧ Hid (o = sumZ (fun i => gi xs i * kraw q n j i) k)) (fun _ t9 => n + 1 - (intOf t9).toNat)
  case atStart => exact ⟨0, 0, rfl, rfl, Nat.zero_le _, by omega, rfl⟩
  case round =>
    obtain ⟨k, o, rfl, rfl, hk, ho, HO⟩ := hrel
    by_cases hkn : k < n + 1
    · have hkn' : (k : Int) ≤ (n : Int) := by omega
      go_wp2_with fail
      go_loop [10, 11] (fun t10 t11 => ∃ (s : Nat) (y : Int), t10 = .int .i64 y ∧ t11 = .int .i64 s ∧ s ≤ j + 1 ∧ (-(342921600 * (s : Int)) ≤ y ∧ y ≤ 342921600 * (s : Int)) ∧ Hid (y = sumZ (fun s => (if s % 2 = 1 then -1 else 1) * (krT q n j k s : Int)) s)) (fun _ t11 => j + 1 - (intOf t11).toNat)
      case atStart => exact ⟨0, 0, rfl, rfl, Nat.zero_le _, by omega, rfl⟩
      case round =>
        obtain ⟨s, y, rfl, rfl, hs, hy, HY⟩ := hrel
        by_cases hsj : s < j + 1
        · have hsj' : (s : Int) ≤ (j : Int) := by omega
          have hjs : (j : Int) - (s : Int) = ((j - s : Nat) : Int) := by omega
          have hnk : (n : Int) - (k : Int) = ((n - k : Nat) : Int) := by omega
          obtain ⟨d, hd⟩ : ∃ d, d = j - s := ⟨_, rfl⟩
          obtain ⟨u, hu⟩ : ∃ u, u = n - k := ⟨_, rfl⟩
          rw [← hd] at hjs
          rw [← hu] at hnk
          have h1 : (q - 1) ^ d ≤ 279936 := Nat.le_trans (Nat.pow_le_pow_left (show q - 1 ≤ 6 by omega) _) (Nat.pow_le_pow_right (by omega) (show d ≤ 7 by omega) : 6 ^ d ≤ 6 ^ 7)
          have h2 := ch_small k (by omega) s (by omega)
          have h3 := ch_small u (by omega) d (by omega)
          obtain ⟨P, hP⟩ : ∃ P, P = (q - 1) ^ d := ⟨_, rfl⟩
          obtain ⟨C1, hC1⟩ : ∃ C1, C1 = ch k s := ⟨_, rfl⟩
          obtain ⟨C2, hC2⟩ : ∃ C2, C2 = ch u d := ⟨_, rfl⟩
          rw [← hP] at h1
          rw [← hC1] at h2
          rw [← hC2] at h3
          have hm1 := Nat.mul_le_mul h1 h2
          have hm2 := Nat.mul_le_mul hm1 h3
          obtain ⟨M1, hM1⟩ : ∃ M1, M1 = P * C1 := ⟨_, rfl⟩
          obtain ⟨M2, hM2⟩ : ∃ M2, M2 = M1 * C2 := ⟨_, rfl⟩
          rw [← hM1] at hm1 hm2
          rw [← hM2] at hm2
          have e1 : (P : Int) * (C1 : Int) = (M1 : Int) := by rw [hM1]; push_cast; rfl
          have e2 : (M1 : Int) * (C2 : Int) = (M2 : Int) := by rw [hM2]; push_cast; rfl
          have hT : M2 = krT q n j k s := by unfold krT; rw [hM2, hM1, hP, hC1, hC2, hd, hu]
          have hd7 : d ≤ 7 := by omega
          have hu7 : u ≤ 7 := by omega
          have K1 : Hid (∀ w, Calls Try.prog 27 #[.int .i64 q1, .int .i64 d] w fun e w' => e = .returned (.int .i64 (P : Int)) ∧ w = w') := fun w => by rw [hP, ← HQ1.out]; exact lawTimes_any q1 d w (by omega) (by omega) hd7
          have K2 : Hid (∀ w, Calls Try.prog 34 #[.int .i64 k, .int .i64 s] w fun e w' => e = .returned (.int .i64 (C1 : Int)) ∧ w = w') := fun w => by rw [hC1]; exact lawChoose_any k s w (by omega) (by omega)
          have K3 : Hid (∀ w, Calls Try.prog 34 #[.int .i64 u, .int .i64 d] w fun e w' => e = .returned (.int .i64 (C2 : Int)) ∧ w = w') := fun w => by rw [hC2]; exact lawChoose_any u d w hu7 hd7
          have HT := Lib.hid hT
          clear hT hM1 hM2 hP hC1 hC2 hd hu
          rcases Nat.mod_two_eq_zero_or_one s with hpar | hpar
          · have hz : ((s : Int).tmod 2 == 1) = false := by rw [Int.tmod_eq_emod_of_nonneg (by omega)]; simp; omega
            have hz2 : ((s : Int) % 2 == 1) = false := by simp; omega
            have HS : Hid (y + (M2 : Int) = sumZ (fun s => (if s % 2 = 1 then -1 else 1) * (krT q n j k s : Int)) (s + 1)) := by
              show y + (M2 : Int) = _
              rw [sumZ, ← HY.out, if_neg (by omega), ← HT.out]; omega
            clear hpar
            go_wp2_with (first
              | (go_at_call 27; with_reducible refine (K1.out _).mono ?_; rintro e w' ⟨rfl, rfl⟩)
              | (go_at_call 34; with_reducible refine (K2.out _).mono ?_; rintro e w' ⟨rfl, rfl⟩)
              | (go_at_call 34; with_reducible refine (K3.out _).mono ?_; rintro e w' ⟨rfl, rfl⟩))
            go_round
            case rel => exact ⟨s + 1, y + M2, by first | rfl | go_num, by go_num, by omega, by push_cast; omega, HS⟩
            case measure => simp [intOf]; omega
          · have hz : ((s : Int).tmod 2 == 1) = true := by rw [Int.tmod_eq_emod_of_nonneg (by omega)]; simp; omega
            have hz2 : ((s : Int) % 2 == 1) = true := by simp; omega
            have HS : Hid (y + -(M2 : Int) = sumZ (fun s => (if s % 2 = 1 then -1 else 1) * (krT q n j k s : Int)) (s + 1)) := by
              show y + -(M2 : Int) = _
              rw [sumZ, ← HY.out, if_pos hpar, ← HT.out]; omega
            clear hpar
            go_wp2_with (first
              | (go_at_call 27; with_reducible refine (K1.out _).mono ?_; rintro e w' ⟨rfl, rfl⟩)
              | (go_at_call 34; with_reducible refine (K2.out _).mono ?_; rintro e w' ⟨rfl, rfl⟩)
              | (go_at_call 34; with_reducible refine (K3.out _).mono ?_; rintro e w' ⟨rfl, rfl⟩))
            go_round
            case rel => exact ⟨s + 1, y + -M2, by first | rfl | go_num, by go_num, by omega, by push_cast; omega, HS⟩
            case measure => simp [intOf]; omega
        · obtain rfl : j + 1 = s := by omega
          obtain ⟨b, ob, rfl, ck⟩ := HX.out.1.at hkn
          have hbx := HX.out.2.1 k (by rw [HX.out.2.2]; exact hkn)
          obtain ⟨x, hxe⟩ : ∃ x, x = gi xs k := ⟨_, rfl⟩
          rw [← hxe] at ck hbx
          have hy2 : -2743372800 ≤ y ∧ y ≤ 2743372800 := by push_cast at hy; omega
          have hxy : -27433728000000 ≤ x * y ∧ x * y ≤ 27433728000000 := by
            have h1 := Int.mul_le_mul_of_nonneg_left hy2.1 hbx.1
            have h2 := Int.mul_le_mul_of_nonneg_left hy2.2 hbx.1
            omega
          obtain ⟨z, hz⟩ : ∃ z, x * y = z := ⟨_, rfl⟩
          rw [hz] at hxy
          have HS : Hid (o + z = sumZ (fun i => gi xs i * kraw q n j i) (k + 1)) := by
            show o + z = _
            rw [sumZ, ← HO.out, kraw_T, ← HY.out, ← hz, hxe]
          clear hxe
          go_wp2_with fail
          go_round
          case rel => exact ⟨k + 1, o + z, by first | rfl | go_num, by go_num, by omega, by push_cast; omega, HS⟩
          case measure => simp [intOf]; omega
    · obtain rfl : n + 1 = k := by omega
      have hkn' : ¬ ((n + 1 : Nat) : Int) ≤ (n : Int) := by push_cast; omega
      go_wp2_with fail
      go_ret
      exact ⟨ret_int HO.out, rfl⟩
end Go.Proofs.Ytmehgchmnnbkfaa
