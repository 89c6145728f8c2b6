/- The reference's texts: number, rowsText. -/
import Derived.Test.YtcdbeepphdfipaaGreatDoorTxt
import Derived.Test.YtcdbeepphdfipaaGreatDoorKnow
import Derived.Laws.Concat
namespace Go.Proofs.YtcdbeepphdfipaaGreatDoor
open Go.RowKit
set_option linter.unusedVariables false

theorem ret_str {a b : ByteArray} (h : a = b) : Ending.returned (.string a) = .returned (.string b) := by rw [h]

set_option maxHeartbeats 1000000 in
theorem number_any (x : Int) (h0 : 0 ≤ x) (h9 : x ≤ 9) (w : World) :
    Calls Tryz.prog 40 #[.int .i64 x] w fun e w' => e = .returned (.string (bs [digB x])) ∧ w = w' := by
  have h : x = 0 ∨ x = 1 ∨ x = 2 ∨ x = 3 ∨ x = 4 ∨ x = 5 ∨ x = 6 ∨ x = 7 ∨ x = 8 ∨ x = 9 := by omega
  clear h0 h9
  go_enter Tryz.func40, Tryz.ntmps40
  rcases h with rfl | rfl | rfl | rfl | rfl | rfl | rfl | rfl | rfl | rfl <;> (go_wp2_with fail; go_ret; exact ⟨rfl, rfl⟩)

set_option maxHeartbeats 1000000 in
theorem rowsText_any (v : Value) (rows : List (List Int)) (w : World) (hr : IsR w v rows) (hd : ∀ i k, i < rows.length → k < (gr rows i).length → 0 ≤ gi (gr rows i) k ∧ gi (gr rows i) k ≤ 9) (h4 : rows.length ≤ 6) (h7 : ∀ i, i < rows.length → (gr rows i).length ≤ 7) :
    Calls Tryz.prog 41 #[v] w fun e w' => e = .returned (.string (bs (rowsTo rows rows.length))) ∧ w = w' := by
  obtain ⟨ao, n, cap, rfl, HN, hn⟩ := hr.shape
  have HR := Lib.hid hr
  have HD := Lib.hid hd
  have H7 := Lib.hid h7
  have hn6 : n ≤ 6 := by rw [HN.out]; exact h4
  clear hr hd h4 h7
  go_enter Tryz.func41, Tryz.ntmps41
  go_wp2_with fail
  go_loop [3, 4] (fun t3 t4 => ∃ (i : Nat) (s : ByteArray), t3 = .string s ∧ t4 = .int .i64 i ∧ i ≤ n ∧ s.size ≤ 16 * i ∧ Hid (s = bs (rowsTo rows i))) (fun _ t4 => n - (intOf t4).toNat)
  case atStart => exact ⟨0, _, rfl, rfl, Nat.zero_le _, Nat.le_refl _, rfl⟩
  case round =>
    obtain ⟨i, s, rfl, rfl, hi, hsz, HS⟩ := hrel
    by_cases hin : i < n
    rotate_left
    · obtain rfl : i = n := by omega
      go_wp2_with fail
      go_ret
      exact ⟨ret_str (by rw [HS.out, HN.out]), rfl⟩
    obtain ⟨b, o, u, rfl, ck, hu⟩ := HR.out.at (i := i) hin
    obtain ⟨au, m, cu, rfl, HM, hm⟩ := hu.shape
    have hm7 : m ≤ 7 := by rw [HM.out]; exact H7.out i (by rw [← HN.out]; exact hin)
    have HU := Lib.hid hu
    clear hu
    obtain ⟨P, hP⟩ : ∃ P, P = rowsTo rows i ++ (if i = 0 then [] else [47]) := ⟨_, rfl⟩
    have HP := Lib.hid hP
    clear hP
    by_cases hi0 : 0 < i
    rotate_left
    · obtain rfl : i = 0 := by omega
      rw [Nat.add_zero] at ck
      go_wp2_with fail
      go_loop [3, 5] (fun t3 t5 => ∃ (k : Nat) (z : ByteArray), t3 = .string z ∧ t5 = .int .i64 k ∧ k ≤ m ∧ z.size ≤ 16 * 0 + 1 + k ∧ Hid (z = bs (P ++ rowT ((gr rows 0).take k)))) (fun _ t5 => m - (intOf t5).toNat)
      case atStart => exact ⟨0, _, rfl, rfl, Nat.zero_le _, by omega, by show _ = _; rw [HS.out, HP.out]; rfl⟩
      case round =>
        obtain ⟨k, z, rfl, rfl, hk, hzs, HZ⟩ := hrel
        by_cases hkm : k < m
        · obtain ⟨bb, oo, rfl, cx⟩ := HU.out.at (i := k) hkm
          obtain ⟨x, hx⟩ : ∃ x, gi (gr rows 0) k = x := ⟨_, rfl⟩
          rw [hx] at cx
          have hd : 0 ≤ x ∧ x ≤ 9 := by rw [← hx]; exact HD.out 0 k (by rw [← HN.out]; exact hin) (by rw [← HM.out]; exact hkm)
          have HX := Lib.hid hx
          clear hx
          have hadd := fun w => run_string_add_sum (P := Tryz.prog) w z (bs [digB x]) (by rw [bs_size]; simp; omega)
          go_wp2_with (go_at_call 40; refine (number_any x hd.1 hd.2 _).mono ?_; rintro e w' ⟨rfl, rfl⟩)
          go_round
          case rel => exact ⟨k + 1, _, rfl, by go_num, by omega, by rw [ByteArray.size_append, bs_size]; simp; omega, by show _ = _; rw [HZ.out, bs_append, rowT_take (by rw [← HM.out]; exact hkm), HX.out, List.append_assoc]⟩
          case measure => simp [intOf]; omega
        · obtain rfl : k = m := by omega
          go_wp2_with fail
          go_round
          case rel => exact ⟨0 + 1, _, rfl, by go_num, by omega, by omega, by show _ = _; rw [HZ.out, HM.out, rowT_all, HP.out]; rfl⟩
          case measure => simp [intOf]; omega
    have hadd := fun w => run_string_add_sum (P := Tryz.prog) w s ⟨#[47]⟩ (by show s.size + 1 ≤ _; omega)
    go_wp2_with fail
    go_loop [3, 5] (fun t3 t5 => ∃ (k : Nat) (z : ByteArray), t3 = .string z ∧ t5 = .int .i64 k ∧ k ≤ m ∧ z.size ≤ 16 * i + 1 + k ∧ Hid (z = bs (P ++ rowT ((gr rows i).take k)))) (fun _ t5 => m - (intOf t5).toNat)
    case atStart => exact ⟨0, _, rfl, rfl, Nat.zero_le _, by rw [ByteArray.size_append]; show s.size + 1 ≤ _; omega, by show _ = _; rw [HS.out, HP.out, if_neg (by omega), List.take_zero, show rowT [] = [] from rfl, List.append_nil, ← bs_append]; rfl⟩
    case round =>
      obtain ⟨k, z, rfl, rfl, hk, hzs, HZ⟩ := hrel
      by_cases hkm : k < m
      · obtain ⟨bb, oo, rfl, cx⟩ := HU.out.at (i := k) hkm
        obtain ⟨x, hx⟩ : ∃ x, gi (gr rows i) k = x := ⟨_, rfl⟩
        rw [hx] at cx
        have hd : 0 ≤ x ∧ x ≤ 9 := by rw [← hx]; exact HD.out i k (by rw [← HN.out]; exact hin) (by rw [← HM.out]; exact hkm)
        have HX := Lib.hid hx
        clear hx
        have hadd := fun w => run_string_add_sum (P := Tryz.prog) w z (bs [digB x]) (by rw [bs_size]; simp; omega)
        go_wp2_with (go_at_call 40; refine (number_any x hd.1 hd.2 _).mono ?_; rintro e w' ⟨rfl, rfl⟩)
        go_round
        case rel => exact ⟨k + 1, _, rfl, by go_num, by omega, by rw [ByteArray.size_append, bs_size]; simp; omega, by show _ = _; rw [HZ.out, bs_append, rowT_take (by rw [← HM.out]; exact hkm), HX.out, List.append_assoc]⟩
        case measure => simp [intOf]; omega
      · obtain rfl : k = m := by omega
        go_wp2_with fail
        go_round
        case rel => exact ⟨i + 1, _, rfl, by go_num, by omega, by omega, by show _ = _; rw [HZ.out, HM.out, rowT_all, HP.out]; rfl⟩
        case measure => simp [intOf]; omega

end Go.Proofs.YtcdbeepphdfipaaGreatDoor
