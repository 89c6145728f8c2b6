/- The weights of the best codes, as the program computes them. -/
import Derived.Test.YtaaajekibfaoeaaImpN
import Derived.Test.YtaaajekibfaoeaaWtsI
import Derived.Test.YtaaajekibfaoeaaLeaf
namespace Go.Proofs.Ytaaajekibfaoeaa
open Go.RowKit Mat
set_option linter.unusedVariables false

set_option maxHeartbeats 2000000 in
theorem implBestWeights_any (q n k : Nat) (w : World) (hpr : prB (q : Int) = true) (hq2 : 2 ≤ q ∧ q ≤ 7) (hn : 1 ≤ n ∧ n ≤ 7) (hk : 1 ≤ k ∧ k ≤ 4) (hkn : k ≤ n) :
    Calls Try.prog 20 #[.int .i64 q, .int .i64 n, .int .i64 k] w fun e w' => GivesI w e w' (fun out => out = tab (n + 1) (fun i => bwZ q n k i)) := by
  have HP := Lib.hid hpr
  clear hpr
  obtain ⟨d, hd⟩ : ∃ d, d = n - k + 1 := ⟨_, rfl⟩
  have e1 : (n : Int) - (k : Int) + 1 = (d : Int) := by omega
  obtain ⟨x1, hx1⟩ : ∃ x1, x1 = n - k := ⟨_, rfl⟩
  have e0 : (n : Int) - (k : Int) = (x1 : Int) := by omega
  have e2 : (x1 : Int) + 1 = (d : Int) := by omega
  have hdn : 1 ≤ d ∧ d ≤ n := by omega
  have HD := Lib.hid hd
  have HX1 := Lib.hid hx1
  clear hd hx1
  go_enter Try.func20, Try.ntmps20
  go_wp2_with fail
  refine (fieldOf_any q w).mono ?_
  rintro e w1 ⟨rfl, hn1⟩
  rw [HP.out]
  have H1 := Lib.hid hn1
  clear hn1
  go_wp2_with fail
  refine (within_any _ 1 7 _).mono ?_
  rintro e w' ⟨rfl, rfl⟩
  rw [inB_iff.2 (by omega : (1 : Int) ≤ (n : Int) ∧ (n : Int) ≤ 7)]
  go_wp2_with fail
  all_goals
    refine (within_any _ 1 _ _).mono ?_
    rintro e w' ⟨rfl, hw⟩
    obtain rfl := hw
    rw [inB_iff.2 (by omega)]
    go_wp2_with (at_make; refine wpList_mk rfl _ _ _ rfl tyInt _ _ _ _ (n + 1) (n + 1) rfl rfl (by push_cast; rfl) (by push_cast; rfl) (Nat.le_refl _) (by omega) ?_; intro v2 w2 hv2 ho2 hn2 hs2; subst hv2; have ho2 : Own w2 3 (.slice (some ⟨w1.heap.size, 0, none⟩) (n + 1) (n + 1)) ((List.replicate (n + 1) (0 : Int)).map (Value.int .i64)) := (by rw [List.map_replicate]; exact ho2); obtain ⟨ck, fz⟩ := ho2.cell (i := 0) (by simp); rw [show gv ((List.replicate (n + 1) (0 : Int)).map (Value.int .i64)) 0 = .int .i64 0 from rfl] at ck; have H2 := Lib.hid (And.intro ho2 (And.intro (H1.out.trans hn2) H1.out.size)); clear ho2 hn2 hs2)
    have ho3 := H2.out.1.set 0 (.int .i64 1)
    rw [set_map_int, bestL_zero (q := q) hk.1 hkn, ← HD.out] at ho3
    have hc3 : New w (w2.setCell ⟨w1.heap.size, 0, none⟩ (.int .i64 1)) := H2.out.2.1.then (Chg.setCell w2 ⟨w1.heap.size, 0, none⟩ _) (fun i hi => by have h9 : i = w1.heap.size := hi; rw [h9]; exact H2.out.2.2)
    obtain ⟨w3, hw3⟩ : ∃ w3, w3 = w2.setCell ⟨w1.heap.size, 0, none⟩ (.int .i64 1) := ⟨_, rfl⟩
    rw [← hw3] at ho3 hc3
    rw [← hw3]
    have H3 := Lib.hid (And.intro ho3 hc3)
    clear ho3 hc3 hw3
    go_loopw [11] (fun t11 wr => ∃ t : Nat, t11 = .int .i64 t ∧ d ≤ t ∧ t ≤ n + 1 ∧ Hid (Own wr 3 (.slice (some ⟨w1.heap.size, 0, none⟩) (n + 1) (n + 1)) ((bestL q n k t).map (Value.int .i64)) ∧ New w wr)) (fun t11 _ => n + 1 - (intOf t11).toNat)
    case atStart => exact ⟨d, rfl, Nat.le_refl _, by omega, H3.out⟩
    case round =>
      obtain ⟨t, rfl, hdt, htn, HR⟩ := hrel
      obtain ⟨wo, hwo⟩ : ∃ wo : World, wo = wr := ⟨_, rfl⟩
      rw [← hwo] at HR
      rw [← hwo]
      clear hwo
      by_cases htn' : t ≤ n
      · obtain ⟨x, hx⟩ : ∃ x, x = t - d := ⟨_, rfl⟩
        have hs1 : (t : Int) - (d : Int) = (x : Int) := by omega
        have hx6 : x ≤ 6 ∧ x ≤ t ∧ t ≤ 7 := by omega
        obtain ⟨F, hF⟩ : ∃ F : Nat → Int, F = fun j => (if j % 2 = 1 then -1 else 1) * ((ch t j : Int) * ((q : Int) ^ (t - (n - k + 1) - j + 1) - 1)) := ⟨_, rfl⟩
        have HF := Lib.hid hF
        have HX := Lib.hid hx
        clear hF hx
        go_wp2_with fail
        go_loopw [12, 53] (fun t12 t53 wr => ∃ (j : Nat) (s : Int), t12 = .int .i64 s ∧ t53 = .int .i64 j ∧ j ≤ x + 1 ∧ (-28824005 * j ≤ s ∧ s ≤ 28824005 * j) ∧ Hid (s = sumZ F j) ∧ wr = wo) (fun _ t53 _ => x + 1 - (intOf t53).toNat)
        case atStart => exact ⟨0, 0, rfl, rfl, Nat.zero_le _, by omega, rfl, rfl⟩
        case round =>
          obtain ⟨j, s, rfl, rfl, hj, hs, HS, rfl⟩ := hrel
          by_cases hjx : j ≤ x
          · obtain ⟨y, hy⟩ : ∃ y, y = x - j := ⟨_, rfl⟩
            obtain ⟨e, he⟩ : ∃ e, e = y + 1 := ⟨_, rfl⟩
            have hs2 : (x : Int) - (j : Int) = (y : Int) := by omega
            have hs3 : (y : Int) + 1 = (e : Int) := by omega
            have he7 : e ≤ 7 := by omega
            have HE := Lib.hid (show e = t - (n - k + 1) - j + 1 by have := HX.out; have := HD.out; omega)
            clear hy he
            go_wp2_with fail
            refine (implChoices_any t j _ (by omega) (by omega)).mono ?_
            rintro e' w' ⟨rfl, rfl⟩
            obtain ⟨c, hc⟩ : ∃ c, c = ch t j := ⟨_, rfl⟩
            rw [← hc]
            have hc35 : c ≤ 35 := by rw [hc]; exact ch_small t (by omega) j (by omega)
            have HC := Lib.hid hc
            clear hc
            go_wp2_with fail
            refine (implPower_any q e _ (by omega) (by omega) he7).mono ?_
            rintro e' w' ⟨rfl, rfl⟩
            obtain ⟨P, hP⟩ : ∃ P, P = q ^ e := ⟨_, rfl⟩
            rw [← hP]
            have hP1 : 1 ≤ P ∧ P ≤ 823543 := by
              rw [hP]
              exact ⟨Nat.one_le_pow _ _ (by omega), Nat.le_trans (Nat.pow_le_pow_left hq2.2 e) (Nat.pow_le_pow_right (by omega) he7 : 7 ^ e ≤ 7 ^ 7)⟩
            have HPP := Lib.hid hP
            clear hP
            obtain ⟨r, hr⟩ : ∃ r, r = c * (P - 1) := ⟨_, rfl⟩
            have hr8 : r ≤ 28824005 := by rw [hr]; exact Nat.le_trans (Nat.mul_le_mul hc35 (show P - 1 ≤ 823543 by omega)) (by omega)
            have hmul : (c : Int) * ((P : Int) - 1) = (r : Int) := by rw [hr, show (P : Int) - 1 = ((P - 1 : Nat) : Int) by omega]; push_cast; rfl
            have HR := Lib.hid (show F j = (if j % 2 = 1 then -1 else 1) * (r : Int) by
              rw [HF.out]
              show (if j % 2 = 1 then -1 else 1) * ((ch t j : Int) * ((q : Int) ^ (t - (n - k + 1) - j + 1) - 1)) = _
              rw [← HE.out, ← HC.out, ← hmul, HPP.out]; push_cast; rfl)
            clear hr
            by_cases hod : j % 2 = 1
            · have ht1 : (j : Int).tmod 2 = 1 := by rw [Int.tmod_eq_emod_of_nonneg (by omega)]; omega
              have ht2 : (j : Int) % 2 = 1 := by omega
              have HS2 := Lib.hid (show s + -(r : Int) = sumZ F (j + 1) by rw [sumZ, ← HS.out, HR.out, if_pos hod]; omega)
              go_wp2_with fail
              go_roundw
              case rel => exact ⟨j + 1, s + -(r : Int), by first | rfl | go_num, by go_num, by omega, by omega, HS2.out, trivial⟩
              case measure => simp [intOf]; omega
            · have ht1 : (j : Int).tmod 2 = 0 := by rw [Int.tmod_eq_emod_of_nonneg (by omega)]; omega
              have ht2 : (j : Int) % 2 = 0 := by omega
              have HS2 := Lib.hid (show s + (r : Int) = sumZ F (j + 1) by rw [sumZ, ← HS.out, HR.out, if_neg hod]; omega)
              go_wp2_with fail
              go_roundw
              case rel => exact ⟨j + 1, s + (r : Int), by first | rfl | go_num, by go_num, by omega, by omega, HS2.out, trivial⟩
              case measure => simp [intOf]; omega
          · obtain rfl : j = x + 1 := by omega
            have hch := ch_small n (by omega) t (by omega)
            go_wp2_with fail
            refine (implChoices_any n t _ (by omega) htn').mono ?_
            rintro e' w' ⟨rfl, rfl⟩
            obtain ⟨c, hc⟩ : ∃ c, c = ch n t := ⟨_, rfl⟩
            rw [← hc] at hch ⊢
            have hs8 : -230592040 ≤ s ∧ s ≤ 230592040 := by omega
            obtain ⟨v, hv⟩ : ∃ v, v = (c : Int) * s := ⟨_, rfl⟩
            have hvb : -8070721400 ≤ v ∧ v ≤ 8070721400 := by
              rw [hv]
              constructor
              · have h1 : (c : Int) * (-230592040) ≤ (c : Int) * s := Int.mul_le_mul_of_nonneg_left hs8.1 (by omega)
                have h2 : (c : Int) * (-230592040) ≥ 35 * (-230592040) := by omega
                omega
              · have h1 : (c : Int) * s ≤ (c : Int) * 230592040 := Int.mul_le_mul_of_nonneg_left hs8.2 (by omega)
                omega
            have hmul : (c : Int) * s = v := hv.symm
            have HV := Lib.hid (show v = bwZ q n k t by
              rw [hv, hc, HS.out]
              unfold bwZ
              rw [if_neg (by omega), if_neg (by have := HD.out; omega), HF.out]
              have hxx : x = t - (n - k + 1) := by have := HX.out; have := HD.out; omega
              rw [hxx])
            clear hv hs hc
            obtain ⟨ck, fz⟩ := HR.out.1.cell (i := t) (by rw [List.length_map]; unfold bestL; rw [tab_length]; omega)
            have hin : t < n + 1 := by omega
            go_wp2_with fail
            go_roundw
            case rel =>
              have hset := HR.out.1.set t (.int .i64 v)
              rw [set_map_int] at hset
              have hset2 : (bestL q n k t).set t v = bestL q n k (t + 1) := by rw [HV.out]; exact bestL_set htn'
              rw [hset2] at hset
              exact ⟨t + 1, by go_num, by omega, by omega, hset, HR.out.2.then (Chg.setCell _ _ _) (fun g hg => by have h9 : g = w1.heap.size := hg; have := H1.out.size; omega)⟩
            case measure => simp [intOf]; omega
      · obtain rfl : t = n + 1 := by omega
        go_wp2_with fail
        go_ret
        exact ⟨_, _, rfl, by rw [← bestL_all]; exact HR.out.1, (fun g hg => by have h9 : w1.heap.size = g := Option.some.inj hg; have := H1.out.size; omega), rfl, HR.out.2⟩
end Go.Proofs.Ytaaajekibfaoeaa
