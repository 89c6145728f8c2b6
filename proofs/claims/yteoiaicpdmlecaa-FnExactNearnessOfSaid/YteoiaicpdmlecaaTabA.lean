/- spec.validTable tells what a table is. -/
import Derived.Test.YteoiaicpdmlecaaLeafA
import Derived.Test.YteoiaicpdmlecaaTabM
import Derived.Deep.QuietTactic
import Derived.BigQuiet
import Derived.Outline
namespace Go.Proofs.Yteoiaicpdmlecaa
open Go.RowKit
set_option linter.unusedVariables false

set_option maxHeartbeats 2000000 in
theorem validTable_any (p : Int) (v : Value) (rows : List (List Int)) (w : World) (hr : IsR w v rows) :
    Calls Try.prog 73 #[.int .i64 p, v] w fun e w' => e = .returned (.bool (vtB p rows)) ∧ New w w' := by
  obtain ⟨ao, n, cap, rfl, HN, hn⟩ := hr.shape
  cases hp : prB p with
  | false =>
    have HP := Lib.hid (vtB_p (rows := rows) hp)
    go_enter Try.func73, Try.ntmps73
    go_wp2_with (go_at_call 106; refine (isPrime_any _ _).mono ?_; rintro e w' ⟨rfl, rfl⟩)
    go_ret
    exact ⟨ret_bool HP.out.symm, Chg.refl _ _⟩
  | true =>
    have hpb : -1000 ≤ p ∧ p ≤ 1000 := by have := prB_bounds hp; omega
    have HP := Lib.hid hp
    cases h1 : inB n 1 6 with
    | false =>
      have HQ := Lib.hid (vtB_n (p := p) (rows := rows) (by rw [← HN.out]; exact h1))
      go_enter Try.func73, Try.ntmps73
      go_wp2_with (first | (go_at_call 106; refine (isPrime_any _ _).mono ?_; rintro e w' ⟨rfl, rfl⟩) | (go_at_call 64; refine (inRange_any _ _ _ _).mono ?_; rintro e w' ⟨rfl, rfl⟩))
      go_ret
      exact ⟨ret_bool HQ.out.symm, Chg.refl _ _⟩
    | true =>
      have hn1 := inB_iff.1 h1
      obtain ⟨b, o, u, rfl, c0, hu⟩ := hr.at (i := 0) (by omega)
      rw [Nat.add_zero] at c0
      obtain ⟨a0, m, cap0, rfl, HM, hm⟩ := hu.shape
      cases h2 : inB m 1 7 with
      | false =>
        have HQ := Lib.hid (vtB_m (p := p) (rows := rows) (by rw [← HM.out]; exact h2))
        go_enter Try.func73, Try.ntmps73
        go_wp2_with (first | (go_at_call 106; refine (isPrime_any _ _).mono ?_; rintro e w' ⟨rfl, rfl⟩) | (go_at_call 64; refine (inRange_any _ _ _ _).mono ?_; rintro e w' ⟨rfl, rfl⟩))
        go_ret
        exact ⟨ret_bool HQ.out.symm, Chg.refl _ _⟩
      | true =>
        have hm1 := inB_iff.1 h2
        go_enter Try.func73, Try.ntmps73
        go_wp2_with (first | (go_at_call 106; refine (isPrime_any _ _).mono ?_; rintro e w' ⟨rfl, rfl⟩) | (go_at_call 64; refine (inRange_any _ _ _ _).mono ?_; rintro e w' ⟨rfl, rfl⟩))
        clear hp h1 h2
        go_loopw [5] (fun i wr => ∃ k : Nat, i = .int .i64 k ∧ k ≤ n ∧ New w wr ∧ ∀ j, j < k → rowOk p m (gr rows j) = true) (fun i _ => n - (intOf i).toNat)
        case atStart => exact ⟨0, rfl, Nat.zero_le _, Chg.refl _ _, fun j hj => by omega⟩
        case round =>
          obtain ⟨k, rfl, hk, hnew, hdone⟩ := hrel
          have HD := Lib.hid hdone
          clear hdone
          have c0' := hnew.cellNew c0
          by_cases hkn : k < n
          · obtain ⟨b', o', u, e, ck, hu'⟩ := (hr.new hnew).at hkn
            simp at e
            obtain ⟨rfl, rfl⟩ := e
            obtain ⟨ak, mk, capk, rfl, HMK, hmk⟩ := hu'.shape
            by_cases hl : mk = m
            · subst hl
              go_wp2
              go_quiet (fail)
              go_wp2
              obtain ⟨wo, hwo⟩ : ∃ wo : World, wo = wr.drewN nq := ⟨_, rfl⟩
              have hnewo : New w wo := by rw [hwo]; exact hnew.trans (New.drewN _ _)
              have hcko : wo.cell? ⟨b, o + k, none⟩ = some (.slice ak mk capk) := by rw [hwo]; exact ck
              have huo : IsI wo (.slice ak mk capk) (gr rows k) := by rw [hwo]; exact hu'.new (New.drewN _ _)
              rw [← hwo]
              clear hwo ck hu' c0' hnew
              go_loop [6] (fun i => ∃ j : Nat, i = .int .i64 j ∧ j ≤ mk ∧ ∀ l, l < j → inB (gi (gr rows k) l) 0 (p - 1) = true) (fun i => mk - (intOf i).toNat)
              case atStart => exact ⟨0, rfl, Nat.zero_le _, fun l hl => by omega⟩
              case round =>
                obtain ⟨j, rfl, hj, hin⟩ := hrel
                have HI := Lib.hid hin
                clear hin
                by_cases hjm : j < mk
                · obtain ⟨bj, oj, rfl, cj⟩ := huo.at hjm
                  cases hb : inB (gi (gr rows k) j) 0 (p - 1) with
                  | false =>
                    have HQ := Lib.hid (vtB_r (p := p) (rows := rows) (i := k) (by rw [← HN.out]; exact hkn) (rowOk_no (n := (gr rows 0).length) (by rw [← HMK.out]; exact hjm) hb))
                    go_wp2_with (go_at_call 64; refine (inRange_any _ _ _ _).mono ?_; rintro e w' ⟨rfl, rfl⟩)
                    go_ret
                    exact ⟨ret_bool HQ.out.symm, hnewo⟩
                  | true =>
                    have HB := Lib.hid hb
                    go_wp2_with (go_at_call 64; refine (inRange_any _ _ _ _).mono ?_; rintro e w' ⟨rfl, rfl⟩)
                    go_round
                    case rel =>
                      refine ⟨j + 1, by go_num, by omega, fun l hl => ?_⟩
                      by_cases e : l = j
                      · rw [e]; exact HB.out
                      · exact HI.out l (by omega)
                    case measure => simp [intOf]; omega
                · have HK : rowOk p mk (gr rows k) = true := rowOk_mk HMK.out.symm (fun i hi => HI.out i (by rw [← HMK.out] at hi; omega))
                  have HKH := Lib.hid HK
                  clear HK
                  go_wp2
                  go_roundw
                  case rel =>
                    refine ⟨k + 1, by go_num, by omega, hnewo, fun l hl => ?_⟩
                    by_cases e : l = k
                    · rw [e]; exact HKH.out
                    · exact HD.out l (by omega)
                  case measure => simp [intOf]; omega
            · have HQ := Lib.hid (vtB_r (p := p) (rows := rows) (i := k) (by rw [← HN.out]; exact hkn) (rowOk_len (by rw [← HM.out, ← HMK.out]; exact hl)))
              go_wp2
              go_quiet (fail)
              go_wp2
              go_ret
              exact ⟨ret_bool HQ.out.symm, hnew.trans (New.drewN _ _)⟩
          · have HQ : Hid (vtB p rows = true) := vtB_mk HP.out (by rw [← HN.out]; exact inB_iff.2 (by omega)) (by rw [← HM.out]; exact inB_iff.2 (by omega)) (fun i hi => by rw [← HM.out]; exact HD.out i (by rw [← HN.out] at hi; omega))
            go_wp2
            go_ret
            exact ⟨ret_bool HQ.out.symm, hnew⟩
end Go.Proofs.Yteoiaicpdmlecaa
