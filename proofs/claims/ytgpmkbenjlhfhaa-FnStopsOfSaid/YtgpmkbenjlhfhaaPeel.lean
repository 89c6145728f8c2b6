/- spec.peel, impl.peel: what stays lost. -/
import Derived.Test.YtgpmkbenjlhfhaaBitL
import Derived.Test.YtgpmkbenjlhfhaaMend
namespace Go.Proofs.Ytgpmkbenjlhfhaa
open Go.RowKit
set_option linter.unusedVariables false

/-- It ends with a number that is so, and nothing has turned. -/
def GivesN (w : World) (e : Ending) (w' : World) (Q : Nat → Prop) : Prop := ∃ out : Nat, e = .returned (.int .i64 out) ∧ Q out ∧ w = w'

theorem sup_bit {x : List Int} {k cur : Nat} (h : gi x k ≠ 0) : (supTo x k &&& cur) ||| (cur &&& 2 ^ k) = supTo x (k + 1) &&& cur := by
  rw [supTo, if_neg h, Nat.and_comm cur, ← Nat.and_or_distrib_right]

set_option maxHeartbeats 1000000 in
theorem specPeel_any (v : Value) (checks : List (List Int)) (lost : Nat) (w : World) (hr : IsR w v checks) (hm : checks.length ≤ 7) (hc : ∀ i, i < checks.length → (gr checks i).length ≤ 7) (hl : lost < 128) :
    Calls Try.prog 97 #[v, .int .i64 lost] w fun e w' => GivesN w e w' (PeelR checks lost) := by
  obtain ⟨ao, m, cap, rfl, HN, hmm⟩ := hr.shape
  have hm7 : m ≤ 7 := by rw [HN.out]; exact hm
  have HR := Lib.hid hr
  have HC := Lib.hid hc
  clear hr hc hm
  go_enter Try.func97, Try.ntmps97
  go_wp2_with fail
  go_loop [1] (fun t1 => ∃ cur : Nat, t1 = .int .i64 cur ∧ cur < 128 ∧ Hid (PeelI checks lost cur)) (fun t1 => (intOf t1).toNat)
  case atStart => exact ⟨lost, rfl, hl, PeelI.start _ _⟩
  case round =>
    obtain ⟨cur, rfl, hcur, HI⟩ := hrel
    go_wp2_with fail
    go_loop [5, 6] (fun t5 t6 => ∃ (nx i : Nat), t5 = .int .i64 nx ∧ t6 = .int .i64 i ∧ i ≤ m ∧ nx ≤ cur ∧ Hid (PeelN checks cur nx i)) (fun _ t6 => m - (intOf t6).toNat)
    case atStart => exact ⟨cur, 0, rfl, rfl, Nat.zero_le _, Nat.le_refl _, PeelN.start _ _⟩
    case round =>
      obtain ⟨nx, i, rfl, rfl, hi, hnx, HP⟩ := hrel
      by_cases him : i < m
      · have hic : i < checks.length := by rw [← HN.out]; exact him
        obtain ⟨b, o, u, rfl, ck, hu⟩ := HR.out.at him
        obtain ⟨au, nu, cu, rfl, HNU, hnu⟩ := hu.shape
        have hnu7 : nu ≤ 7 := by rw [HNU.out]; exact HC.out i hic
        have HU := Lib.hid hu
        clear hu
        go_wp2_with fail
        go_loop [7, 8] (fun t7 t8 => ∃ k y : Nat, t7 = .int .i64 y ∧ t8 = .int .i64 k ∧ k ≤ nu ∧ y < 128 ∧ Hid (y = supTo (gr checks i) k)) (fun _ t8 => nu - (intOf t8).toNat)
        case atStart => exact ⟨0, 0, rfl, rfl, Nat.zero_le _, by omega, rfl⟩
        case round =>
          obtain ⟨k, y, rfl, rfl, hk, hy, HY⟩ := hrel
          by_cases hkn : k < nu
          · obtain ⟨bx, ox, rfl, cx⟩ := HU.out.at hkn
            obtain ⟨x, hx⟩ : ∃ x, x = gi (gr checks i) k := ⟨_, rfl⟩
            rw [← hx] at cx
            have HX := Lib.hid hx
            clear hx
            by_cases h0 : x = 0
            · subst h0
              go_wp2_with fail
              go_round
              case rel => exact ⟨k + 1, y, by go_num, by go_num, by omega, by omega, by show y = _; rw [HY.out, supTo_same _ _ HX.out.symm]⟩
              case measure => simp [intOf]; omega
            · have hd : decide (x = 0) = false := by simp; exact h0
              have hd2 : (x != 0) = true := by simp; exact h0
              have hs := supTo_add (gr checks i) k (by rw [← HX.out]; exact h0)
              have hlt := supTo_lt (gr checks i) (k + 1)
              have h7 := pow_lt (n := k + 1) (by omega)
              obtain ⟨p, hp⟩ : ∃ p, p = 2 ^ k := ⟨_, rfl⟩
              have hyp : y + p < 128 := by rw [HY.out, hp]; omega
              have HS : Hid (y + p = supTo (gr checks i) (k + 1)) := by show y + p = _; rw [HY.out, hp]; exact hs
              have HPP := Lib.hid hp
              clear hs hlt h7 hp
              go_wp2_with (go_at_call 88; refine (power_any k _ (by omega)).mono ?_; rintro e w' ⟨rfl, rfl⟩; rw [← HPP.out])
              go_round
              case rel => exact ⟨k + 1, y + p, by go_num, by go_num, by omega, by omega, HS⟩
              case measure => simp [intOf]; omega
          · obtain rfl : k = nu := by omega
            have hand := and_i64 y hy cur hcur
            have hnx8 : nx < 128 := by omega
            have hys : y = supN (gr checks i) := by rw [HY.out, supN, ← HNU.out]
            obtain ⟨h, hh⟩ : ∃ h, h = y &&& cur := ⟨_, rfl⟩
            have hh8 : h < 128 := by rw [hh]; exact Nat.lt_of_le_of_lt Nat.and_le_right hcur
            rw [← hh] at hand
            have hano := andNot_i64 nx hnx8 h hh8
            obtain ⟨c, hcc⟩ : ∃ c, c = wtN h 7 := ⟨_, rfl⟩
            obtain ⟨z, hz⟩ : ∃ z, z = wo nx h := ⟨_, rfl⟩
            rw [← hz] at hano
            have HH : Hid (h = supN (gr checks i) &&& cur) := by show h = _; rw [hh, hys]
            have HCC := Lib.hid hcc
            have HZ := Lib.hid hz
            clear hh hcc hz hys
            by_cases h1 : c = 1
            · have hpn := HP.out.take hcur hic (by rw [← HH.out, ← HCC.out]; exact h1)
              rw [← HH.out, ← HZ.out] at hpn
              have hzle := hpn.le
              have HPN := Lib.hid hpn
              have HC1 := Lib.hid h1
              have hd : ((c : Int) == 1) = true := by rw [h1]; rfl
              clear hpn h1
              go_wp2_with (go_at_call 131; refine (weight_any h _ hh8).mono ?_; rintro e w' ⟨rfl, rfl⟩; rw [← HCC.out])
              go_round
              case rel => exact ⟨z, i + 1, rfl, by go_num, by omega, hzle, HPN⟩
              case measure => simp [intOf]; omega
            · have hpn := HP.out.skip (by rw [← HH.out, ← HCC.out]; exact h1)
              have HPN := Lib.hid hpn
              have hd : ((c : Int) == 1) = false := by simp; omega
              clear hpn
              go_wp2_with (go_at_call 131; refine (weight_any h _ hh8).mono ?_; rintro e w' ⟨rfl, rfl⟩; rw [← HCC.out])
              go_round
              case rel => exact ⟨nx, i + 1, rfl, by go_num, by omega, hnx, HPN⟩
              case measure => simp [intOf]; omega
      · obtain rfl : i = m := by omega
        by_cases he : nx = cur
        · have hst : PeelR checks lost cur := HI.out.done (fun j hj => HP.out.same he j (by rw [HN.out]; exact hj))
          have HST := Lib.hid hst
          have hd : ((nx : Int) == (cur : Int)) = true := by rw [he]; simp
          clear hst he
          go_wp2_with fail
          go_ret
          exact ⟨cur, rfl, HST.out, rfl⟩
        · have hin := HI.out.next HP.out
          have HIN := Lib.hid hin
          have hd : ((nx : Int) == (cur : Int)) = false := by simp; omega
          clear hin
          go_wp2_with fail
          go_round
          case rel => exact ⟨nx, rfl, by omega, HIN⟩
          case measure => simp [intOf]; omega

/-- 1 while something was mended. -/
def mdN (v : Value) : Nat := match v with | .bool true => 1 | _ => 0

set_option maxHeartbeats 1000000 in
theorem implPeel_any (v : Value) (checks : List (List Int)) (lost : Nat) (w : World) (hr : IsR w v checks) (hm : checks.length ≤ 7) (hc : ∀ i, i < checks.length → (gr checks i).length ≤ 7) (hl : lost < 128) :
    Calls Try.prog 96 #[v, .int .i64 lost] w fun e w' => GivesN w e w' (PeelR checks lost) := by
  obtain ⟨ao, m, cap, rfl, HN, hmm⟩ := hr.shape
  have hm7 : m ≤ 7 := by rw [HN.out]; exact hm
  have HR := Lib.hid hr
  have HC := Lib.hid hc
  clear hr hc hm
  go_enter Try.func96, Try.ntmps96
  go_wp2_with fail
  go_loop [1, 5] (fun t1 t5 => ∃ (cur : Nat) (md : Bool), t1 = .int .i64 cur ∧ t5 = .bool md ∧ cur < 128 ∧ Hid (PeelI checks lost cur ∧ (md = false → Stop checks cur))) (fun t1 t5 => 2 * (intOf t1).toNat + mdN t5)
  case atStart => exact ⟨lost, true, rfl, rfl, hl, PeelI.start _ _, (fun h => by cases h)⟩
  case round =>
    obtain ⟨cur, md, rfl, rfl, hcur, HI⟩ := hrel
    cases md with
    | false =>
      have hst : PeelR checks lost cur := HI.out.1.done (HI.out.2 rfl)
      have HST := Lib.hid hst
      clear hst
      go_wp2_with fail
      go_ret
      exact ⟨cur, rfl, HST.out, rfl⟩
    | true =>
      go_wp2_with fail
      go_loop [1, 5, 14] (fun t1 t5 t14 => ∃ (nx i : Nat) (md : Bool), t1 = .int .i64 nx ∧ t5 = .bool md ∧ t14 = .int .i64 i ∧ i ≤ m ∧ nx ≤ cur ∧ Hid (PeelI checks lost nx ∧ (md = true → nx < cur) ∧ (md = false → ∀ j, j < i → wtN (supN (gr checks j) &&& nx) 7 ≠ 1))) (fun _ _ t14 => m - (intOf t14).toNat)
      case atStart => exact ⟨cur, 0, false, rfl, rfl, rfl, Nat.zero_le _, Nat.le_refl _, HI.out.1, (fun h => by cases h), (fun _ j hj => by omega)⟩
      case round =>
        obtain ⟨nx, i, md, rfl, rfl, rfl, hi, hnx, HP⟩ := hrel
        have hnx8 : nx < 128 := by omega
        by_cases him : i < m
        · have hic : i < checks.length := by rw [← HN.out]; exact him
          obtain ⟨b, o, u, rfl, ck, hu⟩ := HR.out.at him
          obtain ⟨au, nu, cu, rfl, HNU, hnu⟩ := hu.shape
          have hnu7 : nu ≤ 7 := by rw [HNU.out]; exact HC.out i hic
          have HU := Lib.hid hu
          clear hu
          go_wp2_with fail
          go_loop [8, 20] (fun t8 t20 => ∃ k y : Nat, t8 = .int .i64 y ∧ t20 = .int .i64 k ∧ k ≤ nu ∧ y < 128 ∧ Hid (y = supTo (gr checks i) k &&& nx)) (fun _ t20 => nu - (intOf t20).toNat)
          case atStart => exact ⟨0, 0, rfl, rfl, Nat.zero_le _, by omega, by show 0 = _; rw [supTo, Nat.zero_and]⟩
          case round =>
            obtain ⟨k, y, rfl, rfl, hk, hy, HY⟩ := hrel
            by_cases hkn : k < nu
            · obtain ⟨bx, ox, rfl, cx⟩ := HU.out.at hkn
              obtain ⟨x, hx⟩ : ∃ x, x = gi (gr checks i) k := ⟨_, rfl⟩
              rw [← hx] at cx
              have HX := Lib.hid hx
              clear hx
              by_cases h0 : x = 0
              · subst h0
                go_wp2_with fail
                go_round
                case rel => exact ⟨k + 1, y, by go_num, by go_num, by omega, by omega, by show y = _; rw [HY.out, supTo_same _ _ HX.out.symm]⟩
                case measure => simp [intOf]; omega
              · have hd : decide (x = 0) = false := by simp; exact h0
                have hd2 : (x != 0) = true := by simp; exact h0
                have hwp := wrap_pow k (by omega)
                have hp8 : 2 ^ k < 128 := Nat.lt_of_lt_of_le (Nat.pow_lt_pow_right (by omega) (show k < 7 by omega)) (Nat.le_refl _)
                have hb := sup_bit (x := gr checks i) (k := k) (cur := nx) (by rw [← HX.out]; exact h0)
                rw [← HY.out] at hb
                obtain ⟨p, hp⟩ : ∃ p, p = 2 ^ k := ⟨_, rfl⟩
                rw [← hp] at hwp hp8 hb
                have hand := and_i64 nx hnx8 p hp8
                obtain ⟨z, hz⟩ : ∃ z, z = nx &&& p := ⟨_, rfl⟩
                rw [← hz] at hand hb
                have hz8 : z < 128 := by rw [hz]; exact Nat.lt_of_le_of_lt Nat.and_le_left hnx8
                have hor := or_i64 y hy z hz8
                obtain ⟨y', hy'⟩ : ∃ y', y' = y ||| z := ⟨_, rfl⟩
                rw [← hy'] at hor hb
                have hy8 : y' < 128 := by rw [hb]; exact Nat.lt_of_le_of_lt Nat.and_le_right hnx8
                have HB := Lib.hid hb
                clear hp hz hy' hb
                go_wp2_with fail
                go_round
                case rel => exact ⟨k + 1, y', rfl, by go_num, by omega, hy8, HB⟩
                case measure => simp [intOf]; omega
            · obtain rfl : k = nu := by omega
              have HH : Hid (y = supN (gr checks i) &&& nx) := by show y = _; rw [HY.out, supN, ← HNU.out]
              have hano := andNot_i64 nx hnx8 y hy
              obtain ⟨c, hcc⟩ : ∃ c, c = wtN y 7 := ⟨_, rfl⟩
              obtain ⟨z, hz⟩ : ∃ z, z = wo nx y := ⟨_, rfl⟩
              rw [← hz] at hano
              have HCC := Lib.hid hcc
              have HZ := Lib.hid hz
              clear hcc hz
              by_cases h1 : c = 1
              · have h1' : wtN (supN (gr checks i) &&& nx) 7 = 1 := by rw [← HH.out, ← HCC.out]; exact h1
                have hpi := HP.out.1.take hnx8 hic h1'
                have hsn : supN (gr checks i) < 128 := Nat.lt_of_lt_of_le (supTo_lt _ _) (pow_lt (n := (gr checks i).length) (by rw [← HNU.out]; exact hnu7))
                have hless := (wo_less nx hnx8 _ hsn h1').1
                rw [← HH.out, ← HZ.out] at hpi hless
                have HPI := Lib.hid hpi
                have HC1 := Lib.hid h1
                have hd : ((c : Int) == 1) = true := by rw [h1]; rfl
                clear hpi h1 h1'
                go_wp2_with (go_at_call 94; refine (size_any y _ hy).mono ?_; rintro e w' ⟨rfl, rfl⟩; rw [← HCC.out])
                go_round
                case rel => exact ⟨z, i + 1, true, rfl, rfl, by go_num, by omega, by omega, HPI.out, (fun _ => by omega), (fun h => by cases h)⟩
                case measure => simp [intOf]; omega
              · have hne : wtN (supN (gr checks i) &&& nx) 7 ≠ 1 := by rw [← HH.out, ← HCC.out]; exact h1
                have HNE := Lib.hid hne
                have hd : ((c : Int) == 1) = false := by simp; omega
                clear hne
                go_wp2_with (go_at_call 94; refine (size_any y _ hy).mono ?_; rintro e w' ⟨rfl, rfl⟩; rw [← HCC.out])
                go_round
                case rel => exact ⟨nx, i + 1, md, rfl, rfl, by go_num, by omega, hnx, HP.out.1, HP.out.2.1, fun h j hj => by
                  by_cases e : j = i
                  · rw [e]; exact HNE.out
                  · exact HP.out.2.2 h j (by omega)⟩
                case measure => simp [intOf]; omega
        · obtain rfl : i = m := by omega
          have hms : md = true → nx < cur := HP.out.2.1
          have hmd : 2 * nx + mdN (.bool md) < 2 * cur + 1 := by
            cases md with
            | true => have := hms rfl; simp [mdN]; omega
            | false => simp [mdN]; omega
          have HMD := Lib.hid hmd
          clear hms hmd
          go_wp2_with fail
          go_round
          case rel => exact ⟨nx, md, rfl, rfl, hnx8, HP.out.1, fun h j hj => HP.out.2.2 h j (by rw [HN.out]; exact hj)⟩
          case measure =>
            have := HMD.out
            simp [intOf, mdN] at this ⊢
            omega
end Go.Proofs.Ytgpmkbenjlhfhaa
