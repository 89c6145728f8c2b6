/- impl.tableOf tells what a table is. -/
import Derived.Test.YteoiaicpdmlecaaIdx
import Derived.Test.YteoiaicpdmlecaaTabM
import Derived.Deep.QuietTactic
import Derived.BigQuiet
import Derived.Outline
namespace Go.Proofs.Yteoiaicpdmlecaa
open Go.RowKit
set_option linter.unusedVariables false

set_option maxHeartbeats 2000000 in
theorem tableOf_any (p : Int) (v : Value) (rows : List (List Int)) (w : World) (hr : IsR w v rows) :
    Calls Try.prog 75 #[.int .i64 p, v] w fun e w' => e = .returned (.tuple #[.int .i64 p, .bool (vtB p rows)]) ∧ New w w' := by
  obtain ⟨ao, n, cap, rfl, HN, hn⟩ := hr.shape
  cases hp : prB p with
  | false =>
    have HP := Lib.hid (vtB_p (rows := rows) hp)
    have HPP := Lib.hid hp
    clear hp
    go_enter Try.func75, Try.ntmps75
    go_wp2_with fail
    refine (fieldOf_any _ _).mono ?_
    rintro e w1 ⟨rfl, hn1⟩
    rw [HPP.out]
    go_wp2_with fail
    go_ret2
    exact ⟨by rw [HP.out]; rfl, hn1⟩
  | true =>
    have hpb : -1000 ≤ p ∧ p ≤ 1000 := by have := prB_bounds hp; omega
    have HP := Lib.hid hp
    clear hp
    cases h1 : inB n 1 6 with
    | false =>
      have HQ := Lib.hid (vtB_n (p := p) (rows := rows) (by rw [← HN.out]; exact h1))
      go_enter Try.func75, Try.ntmps75
      go_wp2_with fail
      refine (fieldOf_any _ _).mono ?_
      rintro e w1 ⟨rfl, hn1⟩
      rw [HP.out]
      go_wp2_with (go_at_call 67; refine (within_any _ _ _ _).mono ?_; rintro e w' ⟨rfl, rfl⟩)
      go_ret2
      exact ⟨by rw [HQ.out]; rfl, hn1⟩
    | true =>
      have hnb := inB_iff.1 h1
      obtain ⟨b, o, u, rfl, c0, hu⟩ := hr.at (i := 0) (by omega)
      rw [Nat.add_zero] at c0
      obtain ⟨a0, m, cap0, rfl, HM, hm⟩ := hu.shape
      cases h2 : inB m 1 7 with
      | false =>
        have HQ := Lib.hid (vtB_m (p := p) (rows := rows) (by rw [← HM.out]; exact h2))
        go_enter Try.func75, Try.ntmps75
        go_wp2_with fail
        refine (fieldOf_any _ _).mono ?_
        rintro e w1 ⟨rfl, hn1⟩
        rw [HP.out]
        have c0' := hn1.cellNew c0
        go_wp2_with (go_at_call 67; refine (within_any _ _ _ _).mono ?_; rintro e w' ⟨rfl, rfl⟩)
        go_ret2
        exact ⟨by rw [HQ.out]; rfl, hn1⟩
      | true =>
        have hmb := inB_iff.1 h2
        go_enter Try.func75, Try.ntmps75
        go_wp2_with fail
        refine (fieldOf_any _ _).mono ?_
        rintro e w1 ⟨rfl, hn1⟩
        rw [HP.out]
        have c0' := hn1.cellNew c0
        go_wp2_with (go_at_call 67; refine (within_any _ _ _ _).mono ?_; rintro e w' ⟨rfl, rfl⟩)
        clear h1 h2 c0'
        go_loopw [34] (fun i wr => ∃ k : Nat, i = .int .i64 k ∧ k ≤ n ∧ New w wr ∧ ∀ j, j < k → rowOk p m (gr rows j) = true) (fun i _ => n - (intOf i).toNat)
        case atStart => exact ⟨0, rfl, Nat.zero_le _, hn1, fun j hj => by omega⟩
        case round =>
          obtain ⟨k, rfl, hk, hnew, hdone⟩ := hrel
          have HD := Lib.hid hdone
          clear hdone
          have c0' := hnew.cellNew c0
          by_cases hkn : k < n
          · obtain ⟨b', o', u, e, ck, hu'⟩ := (hr.new hnew).at hkn
            simp at e
            obtain ⟨rfl, rfl⟩ := e
            obtain ⟨ak, mk, capk, rfl, HMK, hmk⟩ := hu'.shape
            have HU := Lib.hid hu'
            clear hu'
            by_cases hl : mk = m
            · subst hl
              cases hh : hasB p (gr rows k) with
              | false =>
                have HQ := Lib.hid (vtB_r (p := p) (rows := rows) (i := k) (by rw [← HN.out]; exact hkn) (by unfold rowOk; rw [hh, Bool.and_false]))
                have HH := Lib.hid hh
                clear hh
                go_wp2_with (go_at_call 109; refine (has_any _ _ _ _ HU.out hpb).mono ?_; rintro e w2 ⟨rfl, hn2⟩; rw [HH.out])
                go_ret2
                exact ⟨by rw [HQ.out]; rfl, hnew.trans ‹New wr _›⟩
              | true =>
                have HH := Lib.hid hh
                clear hh
                go_wp2_with (go_at_call 109; refine (has_any _ _ _ _ HU.out hpb).mono ?_; rintro e w2 ⟨rfl, hn2⟩; rw [HH.out])
                go_roundw
                case rel =>
                  refine ⟨k + 1, by go_num, by omega, hnew.trans ‹New wr _›, fun l hl => ?_⟩
                  by_cases e : l = k
                  · rw [e]; unfold rowOk; rw [HH.out, ← HMK.out]; simp
                  · exact HD.out l (by omega)
                case measure => simp [intOf]; omega
            · have HQ := Lib.hid (vtB_r (p := p) (rows := rows) (i := k) (by rw [← HN.out]; exact hkn) (rowOk_len (by rw [← HM.out, ← HMK.out]; exact hl)))
              go_wp2_with fail
              go_ret2
              exact ⟨by rw [HQ.out]; rfl, hnew⟩
          · have HQ : Hid (vtB p rows = true) := vtB_mk HP.out (by rw [← HN.out]; exact inB_iff.2 (by omega)) (by rw [← HM.out]; exact inB_iff.2 (by omega)) (fun i hi => by rw [← HM.out]; exact HD.out i (by rw [← HN.out] at hi; omega))
            go_wp2_with fail
            go_ret2
            exact ⟨by rw [HQ.out]; rfl, hnew⟩
end Go.Proofs.Yteoiaicpdmlecaa
