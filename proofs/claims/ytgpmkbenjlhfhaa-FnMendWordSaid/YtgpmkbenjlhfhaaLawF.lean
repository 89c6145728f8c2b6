/- The laws' own small helpers. -/
import Derived.Test.YtgpmkbenjlhfhaaCodP
import Derived.Test.YtgpmkbenjlhfhaaHelp
namespace Go.Proofs.Ytgpmkbenjlhfhaa
open Go.RowKit Mat
set_option linter.unusedVariables false

theorem lawPower_any (n : Nat) (w : World) (hn : n ≤ 40) :
    Calls Try.prog 36 #[.int .i64 n] w fun e w' => e = .returned (.int .i64 ((2 ^ n : Nat) : Int)) ∧ w = w' := by
  go_enter Try.func36, Try.ntmps36
  go_wp2_with fail
  go_loop [0, 3] (fun t0 t3 => ∃ (k x : Nat), t0 = .int .i64 k ∧ t3 = .int .i64 x ∧ k ≤ n ∧ Hid (x * 2 ^ k = 2 ^ n) ∧ x ≤ 1099511627776) (fun t0 _ => (intOf t0).toNat)
  case atStart => exact ⟨n, 1, rfl, rfl, Nat.le_refl _, by show 1 * 2 ^ n = 2 ^ n; omega, by omega⟩
  case round =>
    obtain ⟨k, x, rfl, rfl, hk, HX, hx⟩ := hrel
    by_cases hk0 : 0 < k
    · go_wp2_with fail
      go_round
      case rel =>
        have hx2 : 2 * x * 2 ^ (k - 1) = 2 ^ n := by
          rw [← HX.out]
          obtain ⟨j, rfl⟩ : ∃ j, k = j + 1 := ⟨k - 1, by omega⟩
          rw [Nat.add_sub_cancel, Nat.pow_succ, Nat.mul_comm 2 x, Nat.mul_assoc, Nat.mul_comm 2]
        have h40 : 2 ^ n ≤ 1099511627776 := two_pow_le (m := n) (n := 40) hn
        have hle : 2 * x ≤ 2 ^ n := by rw [← hx2]; exact Nat.le_mul_of_pos_right _ (Nat.two_pow_pos _)
        refine ⟨k - 1, 2 * x, by apply val_int; omega, by apply val_int; omega, by omega, hx2, by omega⟩
      case measure => simp [intOf]; omega
    · obtain rfl : k = 0 := by omega
      have e : x = 2 ^ n := by have := HX.out; rw [Nat.pow_zero] at this; omega
      have HE := Lib.hid e
      clear e
      go_wp2_with fail
      go_ret
      exact ⟨ret_int (by rw [HE.out]; first | rfl | simp), rfl⟩

theorem lawBit_any (s i : Nat) (w : World) (hs : s ≤ 1099511627776) (hi : i ≤ 40) :
    Calls Try.prog 37 #[.int .i64 s, .int .i64 i] w fun e w' => e = .returned (.int .i64 (bitN s i)) ∧ w = w' := by
  have hp : 2 ^ i ≤ 1099511627776 := two_pow_le (m := i) (n := 40) hi
  have hp0 : 0 < 2 ^ i := Nat.two_pow_pos _
  have hb : bitN s i = s / 2 ^ i % 2 := rfl
  obtain ⟨p, hpe⟩ : ∃ p, p = 2 ^ i := ⟨_, rfl⟩
  rw [← hpe] at hp hp0 hb
  obtain ⟨q, hq⟩ : ∃ q, q = s / p := ⟨_, rfl⟩
  rw [← hq] at hb
  have hqi : (s : Int) / (p : Int) = (q : Int) := by rw [hq]; simp
  have hqs : q ≤ s := by rw [hq]; exact Nat.div_le_self _ _
  have htm : (q : Int).tmod 2 = ((bitN s i : Nat) : Int) := by rw [hb, Int.tmod_eq_emod_of_nonneg (by omega)]; omega
  have HP := Lib.hid hpe
  clear hpe hb hq
  go_enter Try.func37, Try.ntmps37
  go_wp2_with (go_at_call 36; refine (lawPower_any _ _ hi).mono ?_; rintro e w' ⟨rfl, rfl⟩; rw [← HP.out])
  go_ret
  exact ⟨rfl, rfl⟩

theorem lawHeavy_any (v : Value) (xs : List Int) (w : World) (hx : IsI w v xs) (hl : xs.length ≤ 1000) :
    Calls Try.prog 54 #[v] w fun e w' => e = .returned (.int .i64 (hvTo xs xs.length)) ∧ w = w' := by
  obtain ⟨ao, n, cap, rfl, HN, hn⟩ := hx.shape
  have hn1 : n ≤ 1000 := by rw [HN.out]; exact hl
  have HX := Lib.hid hx
  clear hx
  go_enter Try.func54, Try.ntmps54
  go_wp2_with fail
  go_loop [3, 4] (fun t i => ∃ k c : Nat, t = .int .i64 c ∧ i = .int .i64 k ∧ k ≤ n ∧ c ≤ k ∧ Hid (c = hvTo xs k)) (fun _ i => n - (intOf i).toNat)
  case atStart => exact ⟨0, 0, rfl, rfl, Nat.zero_le _, Nat.le_refl _, rfl⟩
  case round =>
    obtain ⟨k, c, rfl, rfl, hk, hck, HC⟩ := hrel
    by_cases hkn : k < n
    · obtain ⟨b, o, rfl, ck⟩ := HX.out.at hkn
      obtain ⟨x, hx⟩ : ∃ x, x = gi xs k := ⟨_, rfl⟩
      rw [← hx] at ck
      have HXX := Lib.hid hx
      clear hx
      by_cases h0 : x = 0
      · subst h0
        go_wp2_with fail
        go_round
        case rel => exact ⟨k + 1, c, by go_num, by go_num, by omega, by omega, by show c = _; rw [HC.out, hvTo, if_pos HXX.out.symm]⟩
        case measure => simp [intOf]; omega
      · have hd2 : (x != 0) = true := by simp; exact h0
        have HS : Hid (c + 1 = hvTo xs (k + 1)) := by show c + 1 = _; rw [HC.out, hvTo, if_neg (by rw [← HXX.out]; exact h0)]
        go_wp2_with fail
        go_round
        case rel => exact ⟨k + 1, c + 1, by go_num, by go_num, by omega, by omega, HS⟩
        case measure => simp [intOf]; omega
    · obtain rfl : k = n := by omega
      go_wp2_with fail
      go_ret
      exact ⟨ret_int (by rw [HC.out, HN.out]), rfl⟩


set_option maxHeartbeats 1000000 in
theorem equalCode_any (p p' : Int) (v v' : Value) (A B : List (List Int)) (w : World) (hx : IsR w v A) (hy : IsR w v' B) :
    Calls Try.prog 23 #[.agg #[.int .i64 p, v], .agg #[.int .i64 p', v']] w fun e w' => e = .returned (.bool (decide (p = p') && eqLL A B)) ∧ New w w' := by
  obtain ⟨ao, n, cap, rfl, _, hn⟩ := hx.shape
  obtain ⟨ao', n', cap', rfl, _, hn'⟩ := hy.shape
  have HX := Lib.hid hx
  have HY := Lib.hid hy
  clear hx hy
  have h1 : New w ((w.alloc (.cells #[.int .i64 p, .slice ao n cap] 25)).alloc (.cells #[.int .i64 p', .slice ao' n' cap'] 25)) := (New.alloc _ _).trans (New.alloc _ _)
  by_cases hp : p = p'
  · subst hp
    obtain ⟨b, hb⟩ : ∃ b, b = eqLL A B := ⟨_, rfl⟩
    have HE := Lib.hid hb
    rw [← hb]
    clear hb
    go_enter Try.func23, Try.ntmps23
    go_wp2_with fail
    refine (equalLists_any _ _ A B _ (HX.out.new h1) (HY.out.new h1)).mono ?_
    rintro e w2 ⟨rfl, m, rfl⟩
    rw [← HE.out]
    go_wp2_with fail
    go_ret
    exact ⟨ret_bool (by simp), h1.trans (New.drewN _ _)⟩
  · have hd : (p == p') = false := by simpa using hp
    go_enter Try.func23, Try.ntmps23
    go_wp2_with fail
    go_ret
    exact ⟨ret_bool (by simp [hp]), h1⟩

/-- It ends with the answer to a question; nothing has turned. -/
def TellsT (w : World) (e : Ending) (w' : World) (Q : Prop) : Prop := ∃ b : Bool, e = .returned (.bool b) ∧ Told b Q ∧ w = w'
/-- A list has a number. -/
def inL (xs : List Int) (x : Int) : Prop := ∃ i, i < xs.length ∧ gi xs i = x
set_option maxHeartbeats 1000000 in
theorem isIn_any (v : Value) (xs : List Int) (x : Int) (w : World) (hx : IsI w v xs) :
    Calls Try.prog 47 #[v, .int .i64 x] w fun e w' => TellsT w e w' (inL xs x) := by
  obtain ⟨ao, n, cap, rfl, HN, hn⟩ := hx.shape
  have HX := Lib.hid hx
  clear hx
  go_enter Try.func47, Try.ntmps47
  go_wp2_with fail
  go_loop [5] (fun t => ∃ k : Nat, t = .int .i64 k ∧ k ≤ n ∧ Hid (∀ j, j < k → gi xs j ≠ x)) (fun t => n - (intOf t).toNat)
  case atStart => exact ⟨0, rfl, Nat.zero_le _, fun j hj => by omega⟩
  case round =>
    obtain ⟨k, rfl, hk, HD⟩ := hrel
    by_cases hkn : k < n
    · obtain ⟨b, o, rfl, ck⟩ := HX.out.at hkn
      by_cases he : gi xs k = x
      · rw [he] at ck
        have HE := Lib.hid he
        clear he
        go_wp2_with fail
        go_ret
        exact ⟨true, rfl, ⟨fun _ => ⟨k, by rw [← HN.out]; exact hkn, HE.out⟩, fun _ => rfl⟩, rfl⟩
      · obtain ⟨y, hy⟩ : ∃ y, y = gi xs k := ⟨_, rfl⟩
        rw [← hy] at ck he
        have hd : (y == x) = false := by simpa using he
        have HE := Lib.hid (And.intro hy he)
        clear he hy
        go_wp2_with fail
        go_round
        case rel => exact ⟨k + 1, by go_num, by omega, fun j hj => by
          by_cases e : j = k
          · rw [e, ← HE.out.1]; exact HE.out.2
          · exact HD.out j (by omega)⟩
        case measure => simp [intOf]; omega
    · obtain rfl : k = n := by omega
      go_wp2_with fail
      go_ret
      exact ⟨false, rfl, ⟨(fun h => by cases h), (fun ⟨i, hi, e⟩ => absurd e (HD.out i (by rw [HN.out]; exact hi)))⟩, rfl⟩

theorem isIn_yes (v : Value) (xs : List Int) (x : Int) (w : World) (hx : IsI w v xs) (h : inL xs x) :
    Calls Try.prog 47 #[v, .int .i64 x] w fun e w' => e = .returned (.bool true) ∧ w = w' :=
  (isIn_any v xs x w hx).mono (fun e w' ⟨b, h1, h2, h3⟩ => ⟨by rw [h1, h2.2 h], h3⟩)

theorem times_any (x k : Nat) (w : World) (hx : 2 ≤ x ∧ x ≤ 7) (hk : k ≤ 4) :
    Calls Try.prog 60 #[.int .i64 x, .int .i64 k] w fun e w' => e = .returned (.int .i64 ((x ^ k : Nat) : Int)) ∧ w = w' := by
  go_enter Try.func60, Try.ntmps60
  go_wp2_with fail
  go_loop [1, 5] (fun t1 t5 => ∃ (j y : Nat), t1 = .int .i64 j ∧ t5 = .int .i64 y ∧ j ≤ k ∧ Hid (y * x ^ j = x ^ k) ∧ y ≤ 2401) (fun t1 _ => (intOf t1).toNat)
  case atStart => exact ⟨k, 1, rfl, rfl, Nat.le_refl _, by show 1 * x ^ k = x ^ k; omega, by omega⟩
  case round =>
    obtain ⟨j, y, rfl, rfl, hj, HY, hy⟩ := hrel
    by_cases hj0 : 0 < j
    · have hm : y * x ≤ 2401 * 7 := Nat.mul_le_mul hy hx.2
      obtain ⟨z, hz⟩ : ∃ z, z = y * x := ⟨_, rfl⟩
      have hz2 : (y : Int) * (x : Int) = (z : Int) := by rw [hz]; push_cast; rfl
      rw [← hz] at hm
      have HZ := Lib.hid hz
      have hw : IntKind.i64.wrap ((y : Int) * (x : Int)) = (z : Int) := by rw [hz2]; exact IntWalk.i64_in _ (by omega)
      clear hz
      have HS : Hid (z * x ^ (j - 1) = x ^ k) := by
        show z * x ^ (j - 1) = x ^ k
        rw [← HY.out, HZ.out]
        obtain ⟨i, rfl⟩ : ∃ i, j = i + 1 := ⟨j - 1, by omega⟩
        rw [Nat.add_sub_cancel, Nat.pow_succ, Nat.mul_assoc, Nat.mul_comm x]
      have hle : z ≤ 2401 := by
        have h1 : z ≤ z * x ^ (j - 1) := Nat.le_mul_of_pos_right _ (Nat.pow_pos (by omega))
        rw [HS.out] at h1
        have h2 : x ^ k ≤ 2401 := pow_all (by omega) hk
        omega
      clear hm
      go_wp2_with fail
      go_round
      case rel => exact ⟨j - 1, z, by apply val_int; omega, by first | rfl | go_num, by omega, HS, hle⟩
      case measure => simp [intOf]; omega
    · obtain rfl : j = 0 := by omega
      have e : y = x ^ k := by have := HY.out; rw [Nat.pow_zero] at this; omega
      have HE := Lib.hid e
      clear e
      go_wp2_with fail
      go_ret
      exact ⟨ret_int (by rw [HE.out]; first | rfl | simp), rfl⟩

/-- Each number is greater than that ahead. -/
def AscL (xs : List Int) : Prop := ∀ i, i + 1 < xs.length → gi xs i < gi xs (i + 1)
set_option maxHeartbeats 1000000 in
theorem ascends_yes (v : Value) (xs : List Int) (w : World) (hx : IsI w v xs) (ha : AscL xs) :
    Calls Try.prog 50 #[v] w fun e w' => e = .returned (.bool true) ∧ New w w' := by
  obtain ⟨ao, n, cap, rfl, HN, hn⟩ := hx.shape
  have HX := Lib.hid hx
  have HA := Lib.hid ha
  clear hx ha
  go_enter Try.func50, Try.ntmps50
  go_wp2_with fail
  go_loopw [3] (fun t wr => ∃ k : Nat, t = .int .i64 k ∧ 1 ≤ k ∧ (k ≤ n ∨ k = 1) ∧ Hid (New w wr)) (fun t _ => n - (intOf t).toNat)
  case atStart => exact ⟨1, rfl, Nat.le_refl _, .inr rfl, Chg.refl _ _⟩
  case round =>
    obtain ⟨k, rfl, hk1, hk, HD⟩ := hrel
    by_cases hkn : k < n
    · obtain ⟨b, o, rfl, ck⟩ := (HX.out.new HD.out).at hkn
      obtain ⟨b1, o1, e1, cj⟩ := (HX.out.new HD.out).at (show k - 1 < n by omega)
      simp only [Option.some.injEq, Addr.mk.injEq, and_true] at e1
      obtain ⟨rfl, rfl⟩ := e1
      obtain ⟨x, hx⟩ : ∃ x, x = gi xs k := ⟨_, rfl⟩
      obtain ⟨y, hy⟩ : ∃ y, y = gi xs (k - 1) := ⟨_, rfl⟩
      have hlt : y < x := by
        have := HA.out (k - 1) (by rw [← HN.out]; omega)
        rw [show k - 1 + 1 = k by omega] at this
        rw [hx, hy]; exact this
      rw [← hx] at ck
      rw [← hy] at cj
      have hw : IntKind.i64.wrap ((k : Int) - 1) = ((k - 1 : Nat) : Int) := by rw [IntWalk.i64_in _ (by omega)]; omega
      have hd : decide (x ≤ y) = false := by simp; omega
      clear hx hy
      go_wp2_with fail
      go_quiet (fail)
      go_wp2_with fail
      go_roundw
      case rel => exact ⟨k + 1, by go_num, by omega, by omega, HD.out.trans (New.drewN _ _)⟩
      case measure => simp [intOf]; omega
    · go_wp2_with fail
      go_ret
      exact ⟨rfl, HD.out⟩

/-- The places whose numbers are below 0. -/
def lostN (xs : List Int) (n : Nat) : Nat := setB (fun j => decide (gi xs j < 0)) n
theorem setB_add (P : Nat → Bool) (n : Nat) : setB P (n + 1) = setB P n + if P n then 2 ^ n else 0 := by
  show (if P n then setB P n ||| 2 ^ n else setB P n) = _
  cases h : P n with
  | false => simp
  | true =>
    simp only [if_true]
    have h1 := Nat.two_pow_add_eq_or_of_lt (setB_lt P n) 1
    rw [Nat.mul_one, Nat.or_comm] at h1
    rw [← h1, Nat.add_comm]
set_option maxHeartbeats 1000000 in
theorem lostOf_any (v : Value) (xs : List Int) (w : World) (hx : IsI w v xs) (hl : xs.length ≤ 7) :
    Calls Try.prog 65 #[v] w fun e w' => e = .returned (.int .i64 (lostN xs xs.length)) ∧ w = w' := by
  obtain ⟨ao, n, cap, rfl, HN, hn⟩ := hx.shape
  have hn7 : n ≤ 7 := by rw [HN.out]; exact hl
  have HX := Lib.hid hx
  clear hx
  go_enter Try.func65, Try.ntmps65
  go_wp2_with fail
  go_loop [3, 4] (fun t i => ∃ k c : Nat, t = .int .i64 c ∧ i = .int .i64 k ∧ k ≤ n ∧ c ≤ 128 ∧ Hid (c = lostN xs k)) (fun _ i => n - (intOf i).toNat)
  case atStart => exact ⟨0, 0, rfl, rfl, Nat.zero_le _, by omega, rfl⟩
  case round =>
    obtain ⟨k, c, rfl, rfl, hk, hck, HC⟩ := hrel
    by_cases hkn : k < n
    · obtain ⟨b, o, rfl, ck⟩ := HX.out.at hkn
      obtain ⟨x, hx⟩ : ∃ x, x = gi xs k := ⟨_, rfl⟩
      rw [← hx] at ck
      have hlt : lostN xs (k + 1) < 2 ^ (k + 1) := setB_lt _ _
      have hp : 2 ^ (k + 1) ≤ 128 := pow_lt (by omega)
      have hs := setB_add (fun j => decide (gi xs j < 0)) k
      change lostN xs (k + 1) = lostN xs k + _ at hs
      rw [← hx, ← HC.out] at hs
      have HXX := Lib.hid hx
      clear hx
      by_cases h0 : x < 0
      · rw [decide_eq_true h0, if_pos rfl] at hs
        obtain ⟨y, hy⟩ : ∃ y, y = 2 ^ k := ⟨_, rfl⟩
        rw [← hy] at hs
        have HS := Lib.hid (And.intro hs hy)
        have hcy : c + y ≤ 128 := by omega
        clear hs hy hlt hp
        go_wp2_with (go_at_call 36; refine (lawPower_any k _ (by omega)).mono ?_; rintro e w' ⟨rfl, rfl⟩; rw [← HS.out.2])
        go_round
        case rel => exact ⟨k + 1, c + y, by first | rfl | go_num, by go_num, by omega, hcy, HS.out.1.symm⟩
        case measure => simp [intOf]; omega
      · rw [decide_eq_false h0] at hs
        simp at hs
        have HS := Lib.hid hs
        clear hs hlt hp
        go_wp2_with fail
        go_round
        case rel => exact ⟨k + 1, c, by go_num, by go_num, by omega, by omega, HS.out.symm⟩
        case measure => simp [intOf]; omega
    · obtain rfl : k = n := by omega
      go_wp2_with fail
      go_ret
      exact ⟨ret_int (by rw [HC.out, HN.out]), rfl⟩
end Go.Proofs.Ytgpmkbenjlhfhaa
