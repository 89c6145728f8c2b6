/- The laws' own small helpers. -/
import Derived.Test.YtmehgchmnnbkfaaCodP
import Derived.Test.YtmehgchmnnbkfaaHelp
namespace Go.Proofs.Ytmehgchmnnbkfaa
open Go.RowKit Mat
set_option linter.unusedVariables false

theorem lawPower_any (n : Nat) (w : World) (hn : n ≤ 40) :
    Calls Try.prog 52 #[.int .i64 n] w fun e w' => e = .returned (.int .i64 ((2 ^ n : Nat) : Int)) ∧ w = w' := by
  go_enter Try.func52, Try.ntmps52
  go_wp2_with fail
  go_loop [0, 3] (fun t0 t3 => ∃ (k x : Nat), t0 = .int .i64 k ∧ t3 = .int .i64 x ∧ k ≤ n ∧ Hid (x * 2 ^ k = 2 ^ n) ∧ x ≤ 1099511627776) (fun t0 _ => (intOf t0).toNat)
  case atStart => exact ⟨n, 1, rfl, rfl, Nat.le_refl _, by show 1 * 2 ^ n = 2 ^ n; omega, by omega⟩
  case round =>
    obtain ⟨k, x, rfl, rfl, hk, HX, hx⟩ := hrel
    by_cases hk0 : 0 < k
    · go_wp2_with fail
      go_round
      case rel =>
        have hx2 : 2 * x * 2 ^ (k - 1) = 2 ^ n := by
          rw [← HX.out]
          obtain ⟨j, rfl⟩ : ∃ j, k = j + 1 := ⟨k - 1, by omega⟩
          rw [Nat.add_sub_cancel, Nat.pow_succ, Nat.mul_comm 2 x, Nat.mul_assoc, Nat.mul_comm 2]
        have h40 : 2 ^ n ≤ 1099511627776 := two_pow_le (m := n) (n := 40) hn
        have hle : 2 * x ≤ 2 ^ n := by rw [← hx2]; exact Nat.le_mul_of_pos_right _ (Nat.two_pow_pos _)
        refine ⟨k - 1, 2 * x, by apply val_int; omega, by apply val_int; omega, by omega, hx2, by omega⟩
      case measure => simp [intOf]; omega
    · obtain rfl : k = 0 := by omega
      have e : x = 2 ^ n := by have := HX.out; rw [Nat.pow_zero] at this; omega
      have HE := Lib.hid e
      clear e
      go_wp2_with fail
      go_ret
      exact ⟨ret_int (by rw [HE.out]; first | rfl | simp), rfl⟩

theorem lawBit_any (s i : Nat) (w : World) (hs : s ≤ 1099511627776) (hi : i ≤ 40) :
    Calls Try.prog 51 #[.int .i64 s, .int .i64 i] w fun e w' => e = .returned (.int .i64 (bitN s i)) ∧ w = w' := by
  have hp : 2 ^ i ≤ 1099511627776 := two_pow_le (m := i) (n := 40) hi
  have hp0 : 0 < 2 ^ i := Nat.two_pow_pos _
  have hb : bitN s i = s / 2 ^ i % 2 := rfl
  obtain ⟨p, hpe⟩ : ∃ p, p = 2 ^ i := ⟨_, rfl⟩
  rw [← hpe] at hp hp0 hb
  obtain ⟨q, hq⟩ : ∃ q, q = s / p := ⟨_, rfl⟩
  rw [← hq] at hb
  have hqi : (s : Int) / (p : Int) = (q : Int) := by rw [hq]; simp
  have hqs : q ≤ s := by rw [hq]; exact Nat.div_le_self _ _
  have htm : (q : Int).tmod 2 = ((bitN s i : Nat) : Int) := by rw [hb, Int.tmod_eq_emod_of_nonneg (by omega)]; omega
  have HP := Lib.hid hpe
  clear hpe hb hq
  go_enter Try.func51, Try.ntmps51
  go_wp2_with (go_at_call 52; refine (lawPower_any _ _ hi).mono ?_; rintro e w' ⟨rfl, rfl⟩; rw [← HP.out])
  go_ret
  exact ⟨rfl, rfl⟩

set_option maxHeartbeats 1000000 in
theorem equalCode_any (p p' : Int) (v v' : Value) (A B : List (List Int)) (w : World) (hx : IsR w v A) (hy : IsR w v' B) :
    Calls Try.prog 41 #[.agg #[.int .i64 p, v], .agg #[.int .i64 p', v']] w fun e w' => e = .returned (.bool (decide (p = p') && eqLL A B)) ∧ New w w' := by
  obtain ⟨ao, n, cap, rfl, _, hn⟩ := hx.shape
  obtain ⟨ao', n', cap', rfl, _, hn'⟩ := hy.shape
  have HX := Lib.hid hx
  have HY := Lib.hid hy
  clear hx hy
  have h1 : New w ((w.alloc (.cells #[.int .i64 p, .slice ao n cap] 25)).alloc (.cells #[.int .i64 p', .slice ao' n' cap'] 25)) := (New.alloc _ _).trans (New.alloc _ _)
  by_cases hp : p = p'
  · subst hp
    obtain ⟨b, hb⟩ : ∃ b, b = eqLL A B := ⟨_, rfl⟩
    have HE := Lib.hid hb
    rw [← hb]
    clear hb
    go_enter Try.func41, Try.ntmps41
    go_wp2_with fail
    refine (equalLists_any _ _ A B _ (HX.out.new h1) (HY.out.new h1)).mono ?_
    rintro e w2 ⟨rfl, m, rfl⟩
    rw [← HE.out]
    go_wp2_with fail
    go_ret
    exact ⟨ret_bool (by simp), h1.trans (New.drewN _ _)⟩
  · have hd : (p == p') = false := by simpa using hp
    go_enter Try.func41, Try.ntmps41
    go_wp2_with fail
    go_ret
    exact ⟨ret_bool (by simp [hp]), h1⟩

/-- It ends with the answer to a question; nothing has turned. -/
def TellsT (w : World) (e : Ending) (w' : World) (Q : Prop) : Prop := ∃ b : Bool, e = .returned (.bool b) ∧ Told b Q ∧ w = w'
/-- A list has a number. -/
def inL (xs : List Int) (x : Int) : Prop := ∃ i, i < xs.length ∧ gi xs i = x
theorem times_any (x k : Nat) (w : World) (hx : 2 ≤ x ∧ x ≤ 7) (hk : k ≤ 4) :
    Calls Try.prog 27 #[.int .i64 x, .int .i64 k] w fun e w' => e = .returned (.int .i64 ((x ^ k : Nat) : Int)) ∧ w = w' := by
  go_enter Try.func27, Try.ntmps27
  go_wp2_with fail
  go_loop [1, 5] (fun t1 t5 => ∃ (j y : Nat), t1 = .int .i64 j ∧ t5 = .int .i64 y ∧ j ≤ k ∧ Hid (y * x ^ j = x ^ k) ∧ y ≤ 2401) (fun t1 _ => (intOf t1).toNat)
  case atStart => exact ⟨k, 1, rfl, rfl, Nat.le_refl _, by show 1 * x ^ k = x ^ k; omega, by omega⟩
  case round =>
    obtain ⟨j, y, rfl, rfl, hj, HY, hy⟩ := hrel
    by_cases hj0 : 0 < j
    · have hm : y * x ≤ 2401 * 7 := Nat.mul_le_mul hy hx.2
      obtain ⟨z, hz⟩ : ∃ z, z = y * x := ⟨_, rfl⟩
      have hz2 : (y : Int) * (x : Int) = (z : Int) := by rw [hz]; push_cast; rfl
      rw [← hz] at hm
      have HZ := Lib.hid hz
      have hw : IntKind.i64.wrap ((y : Int) * (x : Int)) = (z : Int) := by rw [hz2]; exact IntWalk.i64_in _ (by omega)
      clear hz
      have HS : Hid (z * x ^ (j - 1) = x ^ k) := by
        show z * x ^ (j - 1) = x ^ k
        rw [← HY.out, HZ.out]
        obtain ⟨i, rfl⟩ : ∃ i, j = i + 1 := ⟨j - 1, by omega⟩
        rw [Nat.add_sub_cancel, Nat.pow_succ, Nat.mul_assoc, Nat.mul_comm x]
      have hle : z ≤ 2401 := by
        have h1 : z ≤ z * x ^ (j - 1) := Nat.le_mul_of_pos_right _ (Nat.pow_pos (by omega))
        rw [HS.out] at h1
        have h2 : x ^ k ≤ 2401 := pow_all (by omega) hk
        omega
      clear hm
      go_wp2_with fail
      go_round
      case rel => exact ⟨j - 1, z, by apply val_int; omega, by first | rfl | go_num, by omega, HS, hle⟩
      case measure => simp [intOf]; omega
    · obtain rfl : j = 0 := by omega
      have e : y = x ^ k := by have := HY.out; rw [Nat.pow_zero] at this; omega
      have HE := Lib.hid e
      clear e
      go_wp2_with fail
      go_ret
      exact ⟨ret_int (by rw [HE.out]; first | rfl | simp), rfl⟩

/-- Each number is greater than that ahead. -/
def AscL (xs : List Int) : Prop := ∀ i, i + 1 < xs.length → gi xs i < gi xs (i + 1)
/-- The places whose numbers are below 0. -/
def lostN (xs : List Int) (n : Nat) : Nat := setB (fun j => decide (gi xs j < 0)) n
theorem setB_add (P : Nat → Bool) (n : Nat) : setB P (n + 1) = setB P n + if P n then 2 ^ n else 0 := by
  show (if P n then setB P n ||| 2 ^ n else setB P n) = _
  cases h : P n with
  | false => simp
  | true =>
    simp only [if_true]
    have h1 := Nat.two_pow_add_eq_or_of_lt (setB_lt P n) 1
    rw [Nat.mul_one, Nat.or_comm] at h1
    rw [← h1, Nat.add_comm]
end Go.Proofs.Ytmehgchmnnbkfaa
