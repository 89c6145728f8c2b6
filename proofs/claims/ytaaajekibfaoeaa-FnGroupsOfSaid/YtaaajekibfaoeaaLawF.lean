/- The laws' own small helpers. -/
import Derived.Test.YtaaajekibfaoeaaCodP
import Derived.Test.YtaaajekibfaoeaaHelp
namespace Go.Proofs.Ytaaajekibfaoeaa
open Go.RowKit Mat
set_option linter.unusedVariables false

theorem lawPower_any (n : Nat) (w : World) (hn : n ≤ 40) :
    Calls Try.prog 35 #[.int .i64 n] w fun e w' => e = .returned (.int .i64 ((2 ^ n : Nat) : Int)) ∧ w = w' := by
  go_enter Try.func35, Try.ntmps35
  go_wp2_with fail
  go_loop [0, 3] (fun t0 t3 => ∃ (k x : Nat), t0 = .int .i64 k ∧ t3 = .int .i64 x ∧ k ≤ n ∧ Hid (x * 2 ^ k = 2 ^ n) ∧ x ≤ 1099511627776) (fun t0 _ => (intOf t0).toNat)
  case atStart => exact ⟨n, 1, rfl, rfl, Nat.le_refl _, by show 1 * 2 ^ n = 2 ^ n; omega, by omega⟩
  case round =>
    obtain ⟨k, x, rfl, rfl, hk, HX, hx⟩ := hrel
    by_cases hk0 : 0 < k
    · go_wp2_with fail
      go_round
      case rel =>
        have hx2 : 2 * x * 2 ^ (k - 1) = 2 ^ n := by
          rw [← HX.out]
          obtain ⟨j, rfl⟩ : ∃ j, k = j + 1 := ⟨k - 1, by omega⟩
          rw [Nat.add_sub_cancel, Nat.pow_succ, Nat.mul_comm 2 x, Nat.mul_assoc, Nat.mul_comm 2]
        have h40 : 2 ^ n ≤ 1099511627776 := two_pow_le (m := n) (n := 40) hn
        have hle : 2 * x ≤ 2 ^ n := by rw [← hx2]; exact Nat.le_mul_of_pos_right _ (Nat.two_pow_pos _)
        refine ⟨k - 1, 2 * x, by apply val_int; omega, by apply val_int; omega, by omega, hx2, by omega⟩
      case measure => simp [intOf]; omega
    · obtain rfl : k = 0 := by omega
      have e : x = 2 ^ n := by have := HX.out; rw [Nat.pow_zero] at this; omega
      have HE := Lib.hid e
      clear e
      go_wp2_with fail
      go_ret
      exact ⟨ret_int (by rw [HE.out]; first | rfl | simp), rfl⟩

theorem lawBit_any (s i : Nat) (w : World) (hs : s ≤ 1099511627776) (hi : i ≤ 40) :
    Calls Try.prog 34 #[.int .i64 s, .int .i64 i] w fun e w' => e = .returned (.int .i64 (bitN s i)) ∧ w = w' := by
  have hp : 2 ^ i ≤ 1099511627776 := two_pow_le (m := i) (n := 40) hi
  have hp0 : 0 < 2 ^ i := Nat.two_pow_pos _
  have hb : bitN s i = s / 2 ^ i % 2 := rfl
  obtain ⟨p, hpe⟩ : ∃ p, p = 2 ^ i := ⟨_, rfl⟩
  rw [← hpe] at hp hp0 hb
  obtain ⟨q, hq⟩ : ∃ q, q = s / p := ⟨_, rfl⟩
  rw [← hq] at hb
  have hqi : (s : Int) / (p : Int) = (q : Int) := by rw [hq]; simp
  have hqs : q ≤ s := by rw [hq]; exact Nat.div_le_self _ _
  have htm : (q : Int).tmod 2 = ((bitN s i : Nat) : Int) := by rw [hb, Int.tmod_eq_emod_of_nonneg (by omega)]; omega
  have HP := Lib.hid hpe
  clear hpe hb hq
  go_enter Try.func34, Try.ntmps34
  go_wp2_with (go_at_call 35; refine (lawPower_any _ _ hi).mono ?_; rintro e w' ⟨rfl, rfl⟩; rw [← HP.out])
  go_ret
  exact ⟨rfl, rfl⟩

set_option maxHeartbeats 1000000 in
theorem equalCode_any (p p' : Int) (v v' : Value) (A B : List (List Int)) (w : World) (hx : IsR w v A) (hy : IsR w v' B) :
    Calls Try.prog 24 #[.agg #[.int .i64 p, v], .agg #[.int .i64 p', v']] w fun e w' => e = .returned (.bool (decide (p = p') && eqLL A B)) ∧ New w w' := by
  obtain ⟨ao, n, cap, rfl, _, hn⟩ := hx.shape
  obtain ⟨ao', n', cap', rfl, _, hn'⟩ := hy.shape
  have HX := Lib.hid hx
  have HY := Lib.hid hy
  clear hx hy
  have h1 : New w ((w.alloc (.cells #[.int .i64 p, .slice ao n cap] 25)).alloc (.cells #[.int .i64 p', .slice ao' n' cap'] 25)) := (New.alloc _ _).trans (New.alloc _ _)
  by_cases hp : p = p'
  · subst hp
    obtain ⟨b, hb⟩ : ∃ b, b = eqLL A B := ⟨_, rfl⟩
    have HE := Lib.hid hb
    rw [← hb]
    clear hb
    go_enter Try.func24, Try.ntmps24
    go_wp2_with fail
    refine (equalLists_any _ _ A B _ (HX.out.new h1) (HY.out.new h1)).mono ?_
    rintro e w2 ⟨rfl, m, rfl⟩
    rw [← HE.out]
    go_wp2_with fail
    go_ret
    exact ⟨ret_bool (by simp), h1.trans (New.drewN _ _)⟩
  · have hd : (p == p') = false := by simpa using hp
    go_enter Try.func24, Try.ntmps24
    go_wp2_with fail
    go_ret
    exact ⟨ret_bool (by simp [hp]), h1⟩

/-- It ends with the answer to a question; nothing has turned. -/
def TellsT (w : World) (e : Ending) (w' : World) (Q : Prop) : Prop := ∃ b : Bool, e = .returned (.bool b) ∧ Told b Q ∧ w = w'
/-- A list has a number. -/
def inL (xs : List Int) (x : Int) : Prop := ∃ i, i < xs.length ∧ gi xs i = x
/-- Each number is greater than that ahead. -/
def AscL (xs : List Int) : Prop := ∀ i, i + 1 < xs.length → gi xs i < gi xs (i + 1)
/-- The places whose numbers are below 0. -/
def lostN (xs : List Int) (n : Nat) : Nat := setB (fun j => decide (gi xs j < 0)) n
theorem setB_add (P : Nat → Bool) (n : Nat) : setB P (n + 1) = setB P n + if P n then 2 ^ n else 0 := by
  show (if P n then setB P n ||| 2 ^ n else setB P n) = _
  cases h : P n with
  | false => simp
  | true =>
    simp only [if_true]
    have h1 := Nat.two_pow_add_eq_or_of_lt (setB_lt P n) 1
    rw [Nat.mul_one, Nat.or_comm] at h1
    rw [← h1, Nat.add_comm]
end Go.Proofs.Ytaaajekibfaoeaa
