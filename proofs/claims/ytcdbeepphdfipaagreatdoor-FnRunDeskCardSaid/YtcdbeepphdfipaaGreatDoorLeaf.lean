/- The small functions on numbers: what each hands back. spec.validTable tells what a table is. slices.Index, Contains, IndexFunc, ContainsFunc at numbers; what rests on them: fieldOf, has, lead. impl.tableOf tells what a table is. spec.validTable writes and makes nothing. (field).add: a multiple of a list is added to another one; slices.Clone and slices.Clip. slices.Clone, slices.Clip at numbers and at rows; spec.copyRows. spec.copyRows hands back rows of its own. -/
import Derived.Test.YtcdbeepphdfipaaGreatDoorBase
import Derived.Test.YtcdbeepphdfipaaGreatDoorProg
import Derived.Deep.QuietTactic
import Derived.BigQuiet
import Derived.Outline
namespace Go.Proofs.YtcdbeepphdfipaaGreatDoor
open Go.RowKit
set_option linter.unusedVariables false

theorem ret_int {k : IntKind} {a b : Int} (h : a = b) : Ending.returned (.int k a) = .returned (.int k b) := by rw [h]
theorem ret_bool {a b : Bool} (h : a = b) : Ending.returned (.bool a) = .returned (.bool b) := by rw [h]
theorem val_int {k : IntKind} {a b : Int} (h : a = b) : Value.int k a = .int k b := by rw [h]
theorem val_bool {a b : Bool} (h : a = b) : Value.bool a = .bool b := by rw [h]

theorem inRange_any (n lo hi : Int) (w : World) :
    Calls Tryz.prog 106 #[.int .i64 n, .int .i64 lo, .int .i64 hi] w fun e w' => e = .returned (.bool (inB n lo hi)) ∧ w = w' := by
  go_enter Tryz.func106, Tryz.ntmps106
  go_wp2
  all_goals
    go_ret
    refine ⟨ret_bool ?_, rfl⟩
    unfold inB
    simp
    try omega

theorem within_any (n lo hi : Int) (w : World) :
    Calls Tryz.prog 109 #[.int .i64 n, .int .i64 lo, .int .i64 hi] w fun e w' => e = .returned (.bool (inB n lo hi)) ∧ w = w' := by
  go_enter Tryz.func109, Tryz.ntmps109
  go_wp2
  all_goals
    go_ret
    refine ⟨ret_bool ?_, rfl⟩
    unfold inB
    simp
    try omega

theorem rest_any (p n : Int) (w : World) (hp : 0 < p) (hp2 : p ≤ 1000000) :
    Calls Tryz.prog 148 #[.int .i64 p, .int .i64 n] w fun e w' => e = .returned (.int .i64 (n % p)) ∧ w = w' := by
  have hb := tmod_bounds n p hp
  have H := Lib.hid (tmod_pos n p hp)
  go_enter Tryz.func148, Tryz.ntmps148
  go_wp2
  go_ret
  exact ⟨by rw [← H.out]; rfl, rfl⟩

theorem isPrime_any (p : Int) (w : World) :
    Calls Tryz.prog 105 #[.int .i64 p] w fun e w' => e = .returned (.bool (prB p)) ∧ w = w' := by
  go_enter Tryz.func105, Tryz.ntmps105
  go_wp2
  all_goals
    go_ret
    refine ⟨ret_bool ?_, rfl⟩
    unfold prB
    rw [Bool.eq_iff_iff]
    simp
    try omega

theorem specInverse_any (p x : Int) (w : World) (hp : prB p = true) (h1 : 1 ≤ x) (h2 : x < p) :
    Calls Tryz.prog 107 #[.int .i64 p, .int .i64 x] w fun e w' => e = .returned (.int .i64 (invZ p x)) ∧ w = w' := by
  have hb := prB_bounds hp
  have HP := Lib.hid hp
  clear hp
  go_enter Tryz.func107, Tryz.ntmps107
  go_wp2
  go_loop [5] (fun y => ∃ k : Int, y = .int .i64 k ∧ 1 ≤ k ∧ k ≤ invZ p x) (fun y => (p - intOf y).toNat)
  case atStart => exact ⟨1, rfl, by omega, (invZ_spec HP.out h1 h2).1⟩
  case round =>
    obtain ⟨k, rfl, hk1, hk2⟩ := hrel
    have hs := invZ_spec HP.out h1 h2
    have hkp : k < p := by omega
    have hm := mul_small (x := x) (y := k) (by omega) (by omega) (by omega) (by omega)
    have HI := Lib.hid hs.2.2
    clear hs
    by_cases hf : x * k % p = 1
    · have HF := Lib.hid (invZ_first HP.out h1 h2 hk1 hkp hf)
      go_wp2
      go_ret
      exact ⟨ret_int HF.out, rfl⟩
    · have hne : k ≠ invZ p x := fun e => hf (by rw [e]; exact HI.out)
      go_wp2
      go_round
      case rel => exact ⟨k + 1, rfl, by omega, by omega⟩
      case measure => simp [intOf]; omega

theorem inverse_any (p x : Int) (w : World) (hp : prB p = true) (h1 : 1 ≤ x) (h2 : x < p) :
    Calls Tryz.prog 114 #[.int .i64 p, .int .i64 x] w fun e w' => e = .returned (.int .i64 (invZ p x)) ∧ w = w' := by
  have hb := prB_bounds hp
  have HP := Lib.hid hp
  clear hp
  go_enter Tryz.func114, Tryz.ntmps114
  go_wp2
  go_loop [5] (fun y => ∃ k : Int, y = .int .i64 k ∧ 1 ≤ k ∧ k ≤ invZ p x) (fun y => (p - intOf y).toNat)
  case atStart => exact ⟨1, rfl, by omega, (invZ_spec HP.out h1 h2).1⟩
  case round =>
    obtain ⟨k, rfl, hk1, hk2⟩ := hrel
    have hs := invZ_spec HP.out h1 h2
    have hkp : k < p := by omega
    have hm := mul_small (x := x) (y := k) (by omega) (by omega) (by omega) (by omega)
    have HI := Lib.hid hs.2.2
    clear hs
    by_cases hf : x * k % p = 1
    · have HF := Lib.hid (invZ_first HP.out h1 h2 hk1 hkp hf)
      go_wp2_with (go_at_call 148; refine (rest_any _ _ _ (by omega) (by omega)).mono ?_; rintro e w' ⟨rfl, rfl⟩)
      go_ret
      exact ⟨ret_int HF.out, rfl⟩
    · have hne : k ≠ invZ p x := fun e => hf (by rw [e]; exact HI.out)
      go_wp2_with (go_at_call 148; refine (rest_any _ _ _ (by omega) (by omega)).mono ?_; rintro e w' ⟨rfl, rfl⟩)
      go_round
      case rel => exact ⟨k + 1, rfl, by omega, by omega⟩
      case measure => simp [intOf]; omega
end Go.Proofs.YtcdbeepphdfipaaGreatDoor

namespace Go.Proofs.YtcdbeepphdfipaaGreatDoor
open Go.RowKit
set_option linter.unusedVariables false

set_option maxHeartbeats 2000000 in
theorem validTable_any (p : Int) (v : Value) (rows : List (List Int)) (w : World) (hr : IsR w v rows) :
    Calls Tryz.prog 68 #[.int .i64 p, v] w fun e w' => e = .returned (.bool (vtB p rows)) ∧ New w w' := by
  obtain ⟨ao, n, cap, rfl, HN, hn⟩ := hr.shape
  cases hp : prB p with
  | false =>
    have HP := Lib.hid (vtB_p (rows := rows) hp)
    go_enter Tryz.func68, Tryz.ntmps68
    go_wp2_with (go_at_call 105; refine (isPrime_any _ _).mono ?_; rintro e w' ⟨rfl, rfl⟩)
    go_ret
    exact ⟨ret_bool HP.out.symm, Chg.refl _ _⟩
  | true =>
    have hpb : -1000 ≤ p ∧ p ≤ 1000 := by have := prB_bounds hp; omega
    have HP := Lib.hid hp
    cases h1 : inB n 1 6 with
    | false =>
      have HQ := Lib.hid (vtB_n (p := p) (rows := rows) (by rw [← HN.out]; exact h1))
      go_enter Tryz.func68, Tryz.ntmps68
      go_wp2_with (first | (go_at_call 105; refine (isPrime_any _ _).mono ?_; rintro e w' ⟨rfl, rfl⟩) | (go_at_call 106; refine (inRange_any _ _ _ _).mono ?_; rintro e w' ⟨rfl, rfl⟩))
      go_ret
      exact ⟨ret_bool HQ.out.symm, Chg.refl _ _⟩
    | true =>
      have hn1 := inB_iff.1 h1
      obtain ⟨b, o, u, rfl, c0, hu⟩ := hr.at (i := 0) (by omega)
      rw [Nat.add_zero] at c0
      obtain ⟨a0, m, cap0, rfl, HM, hm⟩ := hu.shape
      cases h2 : inB m 1 7 with
      | false =>
        have HQ := Lib.hid (vtB_m (p := p) (rows := rows) (by rw [← HM.out]; exact h2))
        go_enter Tryz.func68, Tryz.ntmps68
        go_wp2_with (first | (go_at_call 105; refine (isPrime_any _ _).mono ?_; rintro e w' ⟨rfl, rfl⟩) | (go_at_call 106; refine (inRange_any _ _ _ _).mono ?_; rintro e w' ⟨rfl, rfl⟩))
        go_ret
        exact ⟨ret_bool HQ.out.symm, Chg.refl _ _⟩
      | true =>
        have hm1 := inB_iff.1 h2
        go_enter Tryz.func68, Tryz.ntmps68
        go_wp2_with (first | (go_at_call 105; refine (isPrime_any _ _).mono ?_; rintro e w' ⟨rfl, rfl⟩) | (go_at_call 106; refine (inRange_any _ _ _ _).mono ?_; rintro e w' ⟨rfl, rfl⟩))
        clear hp h1 h2
        go_loopw [5] (fun i wr => ∃ k : Nat, i = .int .i64 k ∧ k ≤ n ∧ New w wr ∧ ∀ j, j < k → rowOk p m (gr rows j) = true) (fun i _ => n - (intOf i).toNat)
        case atStart => exact ⟨0, rfl, Nat.zero_le _, Chg.refl _ _, fun j hj => by omega⟩
        case round =>
          obtain ⟨k, rfl, hk, hnew, hdone⟩ := hrel
          have HD := Lib.hid hdone
          clear hdone
          have c0' := hnew.cellNew c0
          by_cases hkn : k < n
          · obtain ⟨b', o', u, e, ck, hu'⟩ := (hr.new hnew).at hkn
            simp at e
            obtain ⟨rfl, rfl⟩ := e
            obtain ⟨ak, mk, capk, rfl, HMK, hmk⟩ := hu'.shape
            by_cases hl : mk = m
            · subst hl
              go_wp2
              go_quiet (fail)
              go_wp2
              obtain ⟨wo, hwo⟩ : ∃ wo : World, wo = wr.drewN nq := ⟨_, rfl⟩
              have hnewo : New w wo := by rw [hwo]; exact hnew.trans (New.drewN _ _)
              have hcko : wo.cell? ⟨b, o + k, none⟩ = some (.slice ak mk capk) := by rw [hwo]; exact ck
              have huo : IsI wo (.slice ak mk capk) (gr rows k) := by rw [hwo]; exact hu'.new (New.drewN _ _)
              rw [← hwo]
              clear hwo ck hu' c0' hnew
              go_loop [6] (fun i => ∃ j : Nat, i = .int .i64 j ∧ j ≤ mk ∧ ∀ l, l < j → inB (gi (gr rows k) l) 0 (p - 1) = true) (fun i => mk - (intOf i).toNat)
              case atStart => exact ⟨0, rfl, Nat.zero_le _, fun l hl => by omega⟩
              case round =>
                obtain ⟨j, rfl, hj, hin⟩ := hrel
                have HI := Lib.hid hin
                clear hin
                by_cases hjm : j < mk
                · obtain ⟨bj, oj, rfl, cj⟩ := huo.at hjm
                  cases hb : inB (gi (gr rows k) j) 0 (p - 1) with
                  | false =>
                    have HQ := Lib.hid (vtB_r (p := p) (rows := rows) (i := k) (by rw [← HN.out]; exact hkn) (rowOk_no (n := (gr rows 0).length) (by rw [← HMK.out]; exact hjm) hb))
                    go_wp2_with (go_at_call 106; refine (inRange_any _ _ _ _).mono ?_; rintro e w' ⟨rfl, rfl⟩)
                    go_ret
                    exact ⟨ret_bool HQ.out.symm, hnewo⟩
                  | true =>
                    have HB := Lib.hid hb
                    go_wp2_with (go_at_call 106; refine (inRange_any _ _ _ _).mono ?_; rintro e w' ⟨rfl, rfl⟩)
                    go_round
                    case rel =>
                      refine ⟨j + 1, by go_num, by omega, fun l hl => ?_⟩
                      by_cases e : l = j
                      · rw [e]; exact HB.out
                      · exact HI.out l (by omega)
                    case measure => simp [intOf]; omega
                · have HK : rowOk p mk (gr rows k) = true := rowOk_mk HMK.out.symm (fun i hi => HI.out i (by rw [← HMK.out] at hi; omega))
                  have HKH := Lib.hid HK
                  clear HK
                  go_wp2
                  go_roundw
                  case rel =>
                    refine ⟨k + 1, by go_num, by omega, hnewo, fun l hl => ?_⟩
                    by_cases e : l = k
                    · rw [e]; exact HKH.out
                    · exact HD.out l (by omega)
                  case measure => simp [intOf]; omega
            · have HQ := Lib.hid (vtB_r (p := p) (rows := rows) (i := k) (by rw [← HN.out]; exact hkn) (rowOk_len (by rw [← HM.out, ← HMK.out]; exact hl)))
              go_wp2
              go_quiet (fail)
              go_wp2
              go_ret
              exact ⟨ret_bool HQ.out.symm, hnew.trans (New.drewN _ _)⟩
          · have HQ : Hid (vtB p rows = true) := vtB_mk HP.out (by rw [← HN.out]; exact inB_iff.2 (by omega)) (by rw [← HM.out]; exact inB_iff.2 (by omega)) (fun i hi => by rw [← HM.out]; exact HD.out i (by rw [← HN.out] at hi; omega))
            go_wp2
            go_ret
            exact ⟨ret_bool HQ.out.symm, hnew⟩
end Go.Proofs.YtcdbeepphdfipaaGreatDoor

namespace Go.Proofs.YtcdbeepphdfipaaGreatDoor
open Go.RowKit
set_option linter.unusedVariables false

/-- A function value that tells g of a number and turns nothing. -/
def Tells (P : Program) (w : World) (f : Nat) (caps : Array Value) (g : Int → Bool) : Prop :=
  (∀ (xs : Array Value) (w' : World), (callFunc f xs).run P w' = .ok (.enter f xs) w') ∧
  ∀ (x : Int) (w' : World), New w w' → Calls P f (#[.int .i64 x] ++ caps) w' fun e w'' => e = .returned (.bool (g x)) ∧ w' = w''

theorem indexFunc_any (v : Value) (xs : List Int) (f : Nat) (caps : Array Value) (g : Int → Bool) (w : World) (hx : IsI w v xs) (hf : Tells Tryz.prog w f caps g) :
    Calls Tryz.prog 149 #[v, .func (.func f) #[] caps] w fun e w' => e = .returned (.int .i64 (fiZ g xs)) ∧ w = w' := by
  obtain ⟨ao, n, cap, rfl, HN, hn⟩ := hx.shape
  obtain ⟨hcf, hf⟩ := hf
  have HF := Lib.hid hf
  clear hf
  go_enter Tryz.func149, Tryz.ntmps149
  go_wp2
  go_loop [8] (fun i => ∃ k : Nat, i = .int .i64 k ∧ k ≤ n ∧ ∀ j, j < k → g (gi xs j) = false) (fun i => n - (intOf i).toNat)
  case atStart => exact ⟨0, rfl, Nat.zero_le _, fun j hj => by omega⟩
  case round =>
    obtain ⟨k, rfl, hk, hno⟩ := hrel
    have HD := Lib.hid hno
    clear hno
    by_cases hkn : k < n
    · obtain ⟨b, o, rfl, ck⟩ := hx.at hkn
      cases hg : g (gi xs k) with
      | true =>
        have HQ := Lib.hid (fiZ_found (g := g) (xs := xs) (k := k) (by rw [← HN.out]; exact hkn) hg HD.out)
        go_wp2_with fail
        refine (HF.out _ _ (Chg.refl _ _)).mono ?_
        rintro e w' ⟨rfl, rfl⟩
        go_wp2_with fail
        go_ret
        exact ⟨ret_int HQ.out.symm, rfl⟩
      | false =>
        have HG := Lib.hid hg
        go_wp2_with fail
        refine (HF.out _ _ (Chg.refl _ _)).mono ?_
        rintro e w' ⟨rfl, rfl⟩
        go_wp2_with fail
        go_round
        case rel =>
          refine ⟨k + 1, by go_num, by omega, fun j hj => ?_⟩
          by_cases e : j = k
          · rw [e]; exact HG.out
          · exact HD.out j (by omega)
        case measure => simp [intOf]; omega
    · have HQ := Lib.hid (fiZ_none (g := g) (xs := xs) (fun j hj => HD.out j (by rw [← HN.out] at hj; omega)))
      go_wp2
      go_ret
      exact ⟨ret_int HQ.out.symm, rfl⟩

/-- Some number of the list has g. -/
def anyB (g : Int → Bool) (xs : List Int) : Bool := xs.any g
theorem anyB_fiZ (g : Int → Bool) (xs : List Int) : decide (0 ≤ fiZ g xs) = anyB g xs := by
  have h1 := fiZ_ge g xs
  rw [Bool.eq_iff_iff]
  simp only [decide_eq_true_eq, anyB, List.any_eq_true]
  constructor
  · intro h
    obtain ⟨k, hk⟩ : ∃ k : Nat, fiZ g xs = k := ⟨(fiZ g xs).toNat, by omega⟩
    obtain ⟨a, b, _⟩ := fiZ_at hk
    exact ⟨xs[k], List.getElem_mem a, by rw [gi_lt a] at b; exact b⟩
  · rintro ⟨x, hx, hg⟩
    apply Classical.byContradiction
    intro hc
    obtain ⟨j, hj, rfl⟩ := List.getElem_of_mem hx
    have := fiZ_all.1 (show fiZ g xs = -1 by omega) j hj
    rw [gi_lt hj] at this
    rw [hg] at this; cases this

theorem containsFunc_any (v : Value) (xs : List Int) (f : Nat) (caps : Array Value) (g : Int → Bool) (w : World) (hx : IsI w v xs) (hf : Tells Tryz.prog w f caps g) :
    Calls Tryz.prog 146 #[v, .func (.func f) #[] caps] w fun e w' => e = .returned (.bool (anyB g xs)) ∧ w = w' := by
  have HX := Lib.hid hx
  have HF := Lib.hid hf
  clear hf hx
  go_enter Tryz.func146, Tryz.ntmps146
  go_wp2_with (go_at_call 149; refine (indexFunc_any _ _ _ _ _ _ HX.out HF.out).mono ?_; rintro e w' ⟨rfl, rfl⟩)
  go_ret
  exact ⟨ret_bool (anyB_fiZ g xs), rfl⟩

theorem lead1_any (w : World) : Tells Tryz.prog w 150 #[] nzB := by
  refine ⟨fun xs w' => by kernel_rfl, fun x w' _ => ?_⟩
  show Calls Tryz.prog 150 #[.int .i64 x] w' _
  go_enter Tryz.func150, Tryz.ntmps150
  go_wp2
  go_ret
  refine ⟨ret_bool ?_, rfl⟩
  simp [nzB]; rfl

theorem lead_any (v : Value) (xs : List Int) (w : World) (hx : IsI w v xs) :
    Calls Tryz.prog 113 #[v] w fun e w' => e = .returned (.int .i64 (leadZ xs)) ∧ w = w' := by
  have HX := Lib.hid hx
  clear hx
  go_enter Tryz.func113, Tryz.ntmps113
  go_wp2_with (go_at_call 149; refine (indexFunc_any _ _ _ _ _ _ HX.out (lead1_any _)).mono ?_; rintro e w' ⟨rfl, rfl⟩)
  go_ret
  exact ⟨rfl, rfl⟩

theorem index_any (v : Value) (xs : List Int) (y : Int) (w : World) (hx : IsI w v xs) :
    Calls Tryz.prog 173 #[v, .int .i64 y] w fun e w' => e = .returned (.int .i64 (fiZ (fun z => decide (y = z)) xs)) ∧ w = w' := by
  obtain ⟨ao, n, cap, rfl, HN, hn⟩ := hx.shape
  obtain ⟨g, hg0⟩ : ∃ g : Int → Bool, g = fun z => decide (y = z) := ⟨_, rfl⟩
  rw [← hg0]
  have HG0 := Lib.hid hg0
  clear hg0
  go_enter Tryz.func173, Tryz.ntmps173
  go_wp2
  go_loop [8] (fun i => ∃ k : Nat, i = .int .i64 k ∧ k ≤ n ∧ ∀ j, j < k → g (gi xs j) = false) (fun i => n - (intOf i).toNat)
  case atStart => exact ⟨0, rfl, Nat.zero_le _, fun j hj => by omega⟩
  case round =>
    obtain ⟨k, rfl, hk, hno⟩ := hrel
    have HD := Lib.hid hno
    clear hno
    by_cases hkn : k < n
    · obtain ⟨b, o, rfl, ck⟩ := hx.at hkn
      by_cases hg : y = gi xs k
      · have HQ := Lib.hid (fiZ_found (g := g) (xs := xs) (k := k) (by rw [← HN.out]; exact hkn) (by rw [HG0.out]; simpa using hg) HD.out)
        have hb : (y == gi xs k) = true := by simpa using hg
        clear hg
        go_wp2
        go_ret
        exact ⟨ret_int HQ.out.symm, rfl⟩
      · have HG : Hid (g (gi xs k) = false) := by show g (gi xs k) = false; rw [HG0.out]; simpa using hg
        have hb : (y == gi xs k) = false := by simpa using hg
        clear hg
        go_wp2
        go_round
        case rel =>
          refine ⟨k + 1, by go_num, by omega, fun j hj => ?_⟩
          by_cases e : j = k
          · rw [e]; exact HG.out
          · exact HD.out j (by omega)
        case measure => simp [intOf]; omega
    · have HQ := Lib.hid (fiZ_none (g := g) (xs := xs) (fun j hj => HD.out j (by rw [← HN.out] at hj; omega)))
      go_wp2
      go_ret
      exact ⟨ret_int HQ.out.symm, rfl⟩

theorem contains_any (v : Value) (xs : List Int) (y : Int) (w : World) (hx : IsI w v xs) :
    Calls Tryz.prog 145 #[v, .int .i64 y] w fun e w' => e = .returned (.bool (anyB (fun z => decide (y = z)) xs)) ∧ w = w' := by
  have HX := Lib.hid hx
  clear hx
  go_enter Tryz.func145, Tryz.ntmps145
  go_wp2_with (go_at_call 173; refine (index_any _ _ _ _ HX.out).mono ?_; rintro e w' ⟨rfl, rfl⟩)
  go_ret
  exact ⟨ret_bool (anyB_fiZ _ xs), rfl⟩

theorem has1_any (p : Int) (hp : -1000 ≤ p ∧ p ≤ 1000) (w : World) (a : Addr) (h : w.cell? a = some (.int .i64 p)) : Tells Tryz.prog w 147 #[.pointer (some a)] (fun x => !inB x 0 (p - 1)) := by
  refine ⟨fun xs w' => by kernel_rfl, fun x w' hn => ?_⟩
  have hc := hn.cellNew h
  show Calls Tryz.prog 147 #[.int .i64 x, .pointer (some a)] w' _
  go_enter Tryz.func147, Tryz.ntmps147
  go_wp2_with (go_at_call 109; refine (within_any _ _ _ _).mono ?_; rintro e w' ⟨rfl, rfl⟩)
  go_ret
  exact ⟨rfl, rfl⟩

theorem not_any_not (f : Int → Bool) (xs : List Int) : (!xs.any fun x => !f x) = xs.all f := by
  induction xs with
  | nil => rfl
  | cons x xs ih => simp only [List.any_cons, List.all_cons, ← ih]; cases f x <;> simp

theorem has_any (p : Int) (v : Value) (xs : List Int) (w : World) (hx : IsI w v xs) (hp : -1000 ≤ p ∧ p ≤ 1000) :
    Calls Tryz.prog 110 #[.int .i64 p, v] w fun e w' => e = .returned (.bool (hasB p xs)) ∧ New w w' := by
  have HX := Lib.hid hx
  clear hx
  go_enter Tryz.func110, Tryz.ntmps110
  go_wp2_with (go_at_call 146; refine (containsFunc_any _ _ _ _ _ _ (HX.out.new (New.alloc _ _)) (has1_any p hp _ _ (by rw [cell_of_heap (heap_alloc_new w _)]; rfl))).mono ?_; rintro e w' ⟨rfl, rfl⟩)
  go_ret
  exact ⟨ret_bool (not_any_not _ _), New.alloc _ _⟩

theorem fieldOf_any (p : Int) (w : World) :
    Calls Tryz.prog 108 #[.int .i64 p] w fun e w' => e = .returned (.tuple #[.int .i64 p, .bool (prB p)]) ∧ New w w' := by
  have hlit : ∀ w0 : World, IsI (w0.alloc (.cells #[.int .i64 2, .int .i64 3, .int .i64 5, .int .i64 7] 3)) (.slice (some ⟨w0.heap.size, 0, none⟩) 4 4) [2, 3, 5, 7] := fun w0 =>
    (Own.isI (e := 3) (.inr ⟨w0.heap.size, 4, #[.int .i64 2, .int .i64 3, .int .i64 5, .int .i64 7], rfl, heap_alloc_new w0 _, by simp, by simp [maxLen], by simp, rfl⟩) (by simp [Mid]))
  have HL := Lib.hid hlit
  clear hlit
  go_enter Tryz.func108, Tryz.ntmps108
  go_wp2_with (go_at_call 145; refine (contains_any _ _ _ _ (HL.out _)).mono ?_; rintro e w' ⟨rfl, rfl⟩)
  go_ret2
  have e : anyB (fun z => decide (p = z)) [2, 3, 5, 7] = prB p := by
    rw [Bool.eq_iff_iff]; simp [anyB, prB]
  exact ⟨by rw [← e]; rfl, New.alloc _ _⟩
end Go.Proofs.YtcdbeepphdfipaaGreatDoor

namespace Go.Proofs.YtcdbeepphdfipaaGreatDoor
open Go.RowKit
set_option linter.unusedVariables false

set_option maxHeartbeats 2000000 in
theorem tableOf_any (p : Int) (v : Value) (rows : List (List Int)) (w : World) (hr : IsR w v rows) :
    Calls Tryz.prog 70 #[.int .i64 p, v] w fun e w' => e = .returned (.tuple #[.int .i64 p, .bool (vtB p rows)]) ∧ New w w' := by
  obtain ⟨ao, n, cap, rfl, HN, hn⟩ := hr.shape
  cases hp : prB p with
  | false =>
    have HP := Lib.hid (vtB_p (rows := rows) hp)
    have HPP := Lib.hid hp
    clear hp
    go_enter Tryz.func70, Tryz.ntmps70
    go_wp2_with fail
    refine (fieldOf_any _ _).mono ?_
    rintro e w1 ⟨rfl, hn1⟩
    rw [HPP.out]
    go_wp2_with fail
    go_ret2
    exact ⟨by rw [HP.out]; rfl, hn1⟩
  | true =>
    have hpb : -1000 ≤ p ∧ p ≤ 1000 := by have := prB_bounds hp; omega
    have HP := Lib.hid hp
    clear hp
    cases h1 : inB n 1 6 with
    | false =>
      have HQ := Lib.hid (vtB_n (p := p) (rows := rows) (by rw [← HN.out]; exact h1))
      go_enter Tryz.func70, Tryz.ntmps70
      go_wp2_with fail
      refine (fieldOf_any _ _).mono ?_
      rintro e w1 ⟨rfl, hn1⟩
      rw [HP.out]
      go_wp2_with (go_at_call 109; refine (within_any _ _ _ _).mono ?_; rintro e w' ⟨rfl, rfl⟩)
      go_ret2
      exact ⟨by rw [HQ.out]; rfl, hn1⟩
    | true =>
      have hnb := inB_iff.1 h1
      obtain ⟨b, o, u, rfl, c0, hu⟩ := hr.at (i := 0) (by omega)
      rw [Nat.add_zero] at c0
      obtain ⟨a0, m, cap0, rfl, HM, hm⟩ := hu.shape
      cases h2 : inB m 1 7 with
      | false =>
        have HQ := Lib.hid (vtB_m (p := p) (rows := rows) (by rw [← HM.out]; exact h2))
        go_enter Tryz.func70, Tryz.ntmps70
        go_wp2_with fail
        refine (fieldOf_any _ _).mono ?_
        rintro e w1 ⟨rfl, hn1⟩
        rw [HP.out]
        have c0' := hn1.cellNew c0
        go_wp2_with (go_at_call 109; refine (within_any _ _ _ _).mono ?_; rintro e w' ⟨rfl, rfl⟩)
        go_ret2
        exact ⟨by rw [HQ.out]; rfl, hn1⟩
      | true =>
        have hmb := inB_iff.1 h2
        go_enter Tryz.func70, Tryz.ntmps70
        go_wp2_with fail
        refine (fieldOf_any _ _).mono ?_
        rintro e w1 ⟨rfl, hn1⟩
        rw [HP.out]
        have c0' := hn1.cellNew c0
        go_wp2_with (go_at_call 109; refine (within_any _ _ _ _).mono ?_; rintro e w' ⟨rfl, rfl⟩)
        clear h1 h2 c0'
        go_loopw [34] (fun i wr => ∃ k : Nat, i = .int .i64 k ∧ k ≤ n ∧ New w wr ∧ ∀ j, j < k → rowOk p m (gr rows j) = true) (fun i _ => n - (intOf i).toNat)
        case atStart => exact ⟨0, rfl, Nat.zero_le _, hn1, fun j hj => by omega⟩
        case round =>
          obtain ⟨k, rfl, hk, hnew, hdone⟩ := hrel
          have HD := Lib.hid hdone
          clear hdone
          have c0' := hnew.cellNew c0
          by_cases hkn : k < n
          · obtain ⟨b', o', u, e, ck, hu'⟩ := (hr.new hnew).at hkn
            simp at e
            obtain ⟨rfl, rfl⟩ := e
            obtain ⟨ak, mk, capk, rfl, HMK, hmk⟩ := hu'.shape
            have HU := Lib.hid hu'
            clear hu'
            by_cases hl : mk = m
            · subst hl
              cases hh : hasB p (gr rows k) with
              | false =>
                have HQ := Lib.hid (vtB_r (p := p) (rows := rows) (i := k) (by rw [← HN.out]; exact hkn) (by unfold rowOk; rw [hh, Bool.and_false]))
                have HH := Lib.hid hh
                clear hh
                go_wp2_with (go_at_call 110; refine (has_any _ _ _ _ HU.out hpb).mono ?_; rintro e w2 ⟨rfl, hn2⟩; rw [HH.out])
                go_ret2
                exact ⟨by rw [HQ.out]; rfl, hnew.trans ‹New wr _›⟩
              | true =>
                have HH := Lib.hid hh
                clear hh
                go_wp2_with (go_at_call 110; refine (has_any _ _ _ _ HU.out hpb).mono ?_; rintro e w2 ⟨rfl, hn2⟩; rw [HH.out])
                go_roundw
                case rel =>
                  refine ⟨k + 1, by go_num, by omega, hnew.trans ‹New wr _›, fun l hl => ?_⟩
                  by_cases e : l = k
                  · rw [e]; unfold rowOk; rw [HH.out, ← HMK.out]; simp
                  · exact HD.out l (by omega)
                case measure => simp [intOf]; omega
            · have HQ := Lib.hid (vtB_r (p := p) (rows := rows) (i := k) (by rw [← HN.out]; exact hkn) (rowOk_len (by rw [← HM.out, ← HMK.out]; exact hl)))
              go_wp2_with fail
              go_ret2
              exact ⟨by rw [HQ.out]; rfl, hnew⟩
          · have HQ : Hid (vtB p rows = true) := vtB_mk HP.out (by rw [← HN.out]; exact inB_iff.2 (by omega)) (by rw [← HM.out]; exact inB_iff.2 (by omega)) (fun i hi => by rw [← HM.out]; exact HD.out i (by rw [← HN.out] at hi; omega))
            go_wp2_with fail
            go_ret2
            exact ⟨by rw [HQ.out]; rfl, hnew⟩
end Go.Proofs.YtcdbeepphdfipaaGreatDoor

namespace Go.Proofs.YtcdbeepphdfipaaGreatDoor
open Go.RowKit
set_option linter.unusedVariables false

/-- Some draws alone. -/
def Qt (w w' : World) : Prop := ∃ m, w' = w.drewN m
theorem Qt.refl (w : World) : Qt w w := ⟨0, rfl⟩
theorem Qt.drewN (w : World) (m : Nat) : Qt w (w.drewN m) := ⟨m, rfl⟩
theorem Qt.trans {a b c : World} (h : Qt a b) (k : Qt b c) : Qt a c := by
  obtain ⟨m, rfl⟩ := h
  obtain ⟨n, rfl⟩ := k
  exact ⟨m + n, by simp only [World.drewN, Nat.add_assoc]⟩
theorem Qt.new {a b : World} (h : Qt a b) : New a b := by
  obtain ⟨m, rfl⟩ := h
  exact New.drewN _ _

set_option maxHeartbeats 2000000 in
theorem validTable_quiet (p : Int) (v : Value) (rows : List (List Int)) (w : World) (hr : IsR w v rows) :
    Calls Tryz.prog 68 #[.int .i64 p, v] w fun e w' => e = .returned (.bool (vtB p rows)) ∧ Qt w w' := by
  obtain ⟨ao, n, cap, rfl, HN, hn⟩ := hr.shape
  cases hp : prB p with
  | false =>
    have HP := Lib.hid (vtB_p (rows := rows) hp)
    go_enter Tryz.func68, Tryz.ntmps68
    go_wp2_with (go_at_call 105; refine (isPrime_any _ _).mono ?_; rintro e w' ⟨rfl, rfl⟩)
    go_ret
    exact ⟨ret_bool HP.out.symm, Qt.refl _⟩
  | true =>
    have hpb : -1000 ≤ p ∧ p ≤ 1000 := by have := prB_bounds hp; omega
    have HP := Lib.hid hp
    cases h1 : inB n 1 6 with
    | false =>
      have HQ := Lib.hid (vtB_n (p := p) (rows := rows) (by rw [← HN.out]; exact h1))
      go_enter Tryz.func68, Tryz.ntmps68
      go_wp2_with (first | (go_at_call 105; refine (isPrime_any _ _).mono ?_; rintro e w' ⟨rfl, rfl⟩) | (go_at_call 106; refine (inRange_any _ _ _ _).mono ?_; rintro e w' ⟨rfl, rfl⟩))
      go_ret
      exact ⟨ret_bool HQ.out.symm, Qt.refl _⟩
    | true =>
      have hn1 := inB_iff.1 h1
      obtain ⟨b, o, u, rfl, c0, hu⟩ := hr.at (i := 0) (by omega)
      rw [Nat.add_zero] at c0
      obtain ⟨a0, m, cap0, rfl, HM, hm⟩ := hu.shape
      cases h2 : inB m 1 7 with
      | false =>
        have HQ := Lib.hid (vtB_m (p := p) (rows := rows) (by rw [← HM.out]; exact h2))
        go_enter Tryz.func68, Tryz.ntmps68
        go_wp2_with (first | (go_at_call 105; refine (isPrime_any _ _).mono ?_; rintro e w' ⟨rfl, rfl⟩) | (go_at_call 106; refine (inRange_any _ _ _ _).mono ?_; rintro e w' ⟨rfl, rfl⟩))
        go_ret
        exact ⟨ret_bool HQ.out.symm, Qt.refl _⟩
      | true =>
        have hm1 := inB_iff.1 h2
        go_enter Tryz.func68, Tryz.ntmps68
        go_wp2_with (first | (go_at_call 105; refine (isPrime_any _ _).mono ?_; rintro e w' ⟨rfl, rfl⟩) | (go_at_call 106; refine (inRange_any _ _ _ _).mono ?_; rintro e w' ⟨rfl, rfl⟩))
        clear hp h1 h2
        go_loopw [5] (fun i wr => ∃ k : Nat, i = .int .i64 k ∧ k ≤ n ∧ Qt w wr ∧ ∀ j, j < k → rowOk p m (gr rows j) = true) (fun i _ => n - (intOf i).toNat)
        case atStart => exact ⟨0, rfl, Nat.zero_le _, Qt.refl _, fun j hj => by omega⟩
        case round =>
          obtain ⟨k, rfl, hk, hnew, hdone⟩ := hrel
          have HD := Lib.hid hdone
          clear hdone
          have c0' := hnew.new.cellNew c0
          by_cases hkn : k < n
          · obtain ⟨b', o', u, e, ck, hu'⟩ := (hr.new hnew.new).at hkn
            simp at e
            obtain ⟨rfl, rfl⟩ := e
            obtain ⟨ak, mk, capk, rfl, HMK, hmk⟩ := hu'.shape
            by_cases hl : mk = m
            · subst hl
              go_wp2
              go_quiet (fail)
              go_wp2
              obtain ⟨wo, hwo⟩ : ∃ wo : World, wo = wr.drewN nq := ⟨_, rfl⟩
              have hnewo : Qt w wo := by rw [hwo]; exact hnew.trans (Qt.drewN _ _)
              have hcko : wo.cell? ⟨b, o + k, none⟩ = some (.slice ak mk capk) := by rw [hwo]; exact ck
              have huo : IsI wo (.slice ak mk capk) (gr rows k) := by rw [hwo]; exact hu'.new (New.drewN _ _)
              rw [← hwo]
              clear hwo ck hu' c0' hnew
              go_loop [6] (fun i => ∃ j : Nat, i = .int .i64 j ∧ j ≤ mk ∧ ∀ l, l < j → inB (gi (gr rows k) l) 0 (p - 1) = true) (fun i => mk - (intOf i).toNat)
              case atStart => exact ⟨0, rfl, Nat.zero_le _, fun l hl => by omega⟩
              case round =>
                obtain ⟨j, rfl, hj, hin⟩ := hrel
                have HI := Lib.hid hin
                clear hin
                by_cases hjm : j < mk
                · obtain ⟨bj, oj, rfl, cj⟩ := huo.at hjm
                  cases hb : inB (gi (gr rows k) j) 0 (p - 1) with
                  | false =>
                    have HQ := Lib.hid (vtB_r (p := p) (rows := rows) (i := k) (by rw [← HN.out]; exact hkn) (rowOk_no (n := (gr rows 0).length) (by rw [← HMK.out]; exact hjm) hb))
                    go_wp2_with (go_at_call 106; refine (inRange_any _ _ _ _).mono ?_; rintro e w' ⟨rfl, rfl⟩)
                    go_ret
                    exact ⟨ret_bool HQ.out.symm, hnewo⟩
                  | true =>
                    have HB := Lib.hid hb
                    go_wp2_with (go_at_call 106; refine (inRange_any _ _ _ _).mono ?_; rintro e w' ⟨rfl, rfl⟩)
                    go_round
                    case rel =>
                      refine ⟨j + 1, by go_num, by omega, fun l hl => ?_⟩
                      by_cases e : l = j
                      · rw [e]; exact HB.out
                      · exact HI.out l (by omega)
                    case measure => simp [intOf]; omega
                · have HK : rowOk p mk (gr rows k) = true := rowOk_mk HMK.out.symm (fun i hi => HI.out i (by rw [← HMK.out] at hi; omega))
                  have HKH := Lib.hid HK
                  clear HK
                  go_wp2
                  go_roundw
                  case rel =>
                    refine ⟨k + 1, by go_num, by omega, hnewo, fun l hl => ?_⟩
                    by_cases e : l = k
                    · rw [e]; exact HKH.out
                    · exact HD.out l (by omega)
                  case measure => simp [intOf]; omega
            · have HQ := Lib.hid (vtB_r (p := p) (rows := rows) (i := k) (by rw [← HN.out]; exact hkn) (rowOk_len (by rw [← HM.out, ← HMK.out]; exact hl)))
              go_wp2
              go_quiet (fail)
              go_wp2
              go_ret
              exact ⟨ret_bool HQ.out.symm, hnew.trans (Qt.drewN _ _)⟩
          · have HQ : Hid (vtB p rows = true) := vtB_mk HP.out (by rw [← HN.out]; exact inB_iff.2 (by omega)) (by rw [← HM.out]; exact inB_iff.2 (by omega)) (fun i hi => by rw [← HM.out]; exact HD.out i (by rw [← HN.out] at hi; omega))
            go_wp2
            go_ret
            exact ⟨ret_bool HQ.out.symm, hnew⟩
end Go.Proofs.YtcdbeepphdfipaaGreatDoor

namespace Go.Proofs.YtcdbeepphdfipaaGreatDoor
open Go.RowKit
set_option linter.unusedVariables false

theorem set_map_int {xs : List Int} {k : Nat} {y : Int} : (xs.map (Value.int .i64)).set k (.int .i64 y) = (xs.set k y).map (Value.int .i64) := by rw [List.map_set]

theorem gv_map_int {xs : List Int} {k : Nat} (h : k < xs.length) : gv (xs.map (Value.int .i64)) k = .int .i64 (gi xs k) := by
  rw [gv_lt (by simpa using h), gi_lt h]; simp

theorem mul_small' {x y : Int} (h1 : -1000 ≤ x) (h2 : x ≤ 1000) (h3 : -1000 ≤ y) (h4 : y ≤ 1000) : -1000000 ≤ x * y ∧ x * y ≤ 1000000 := by
  have a := Int.mul_nonneg (show 0 ≤ 1000 - x by omega) (show 0 ≤ 1000 - y by omega)
  have b := Int.mul_nonneg (show 0 ≤ 1000 + x by omega) (show 0 ≤ 1000 + y by omega)
  have c := Int.mul_nonneg (show 0 ≤ 1000 - x by omega) (show 0 ≤ 1000 + y by omega)
  have d := Int.mul_nonneg (show 0 ≤ 1000 + x by omega) (show 0 ≤ 1000 - y by omega)
  simp only [Int.sub_mul, Int.mul_sub, Int.add_mul, Int.mul_add] at a b c d
  omega

/-- All numbers of a list are small. -/
def Sm (xs : List Int) : Prop := ∀ i, i < xs.length → -1000 ≤ gi xs i ∧ gi xs i ≤ 1000

set_option maxHeartbeats 1000000 in
theorem add_any (p by' : Int) (vt vl : Value) (xs ys : List Int) (w : World) (hp : 0 < p ∧ p ≤ 1000) (hby : -1000 ≤ by' ∧ by' ≤ 1000) (ht : Own w 3 vt (xs.map (Value.int .i64))) (hl : IsI w vl ys) (hap : Apart vt vl)
    (hlen : ys.length ≤ xs.length) (hsx : Sm xs) (hsy : Sm ys) (hmx : Mid xs.length) :
    Calls Tryz.prog 112 #[.int .i64 p, vt, .int .i64 by', vl] w fun e w' => e = .returned (.tuple #[]) ∧ Own w' 3 vt ((addZ p xs by' ys).map (Value.int .i64)) ∧ Chg (fun k => vt.ownBlock = some k) w w' := by
  obtain ⟨al, n, cl, rfl, HN, hn⟩ := hl.shape
  have HT := Lib.hid ht
  have HL := Lib.hid hl
  have HX := Lib.hid hsx
  have HY := Lib.hid hsy
  have HA := Lib.hid hap
  have HLEN := Lib.hid hlen
  obtain ⟨at', nx, ct, rfl, HNX, hmx', _⟩ := ht.opened (by rw [List.length_map]; exact hmx)
  have hle : n ≤ nx := by rw [HN.out, HNX.out, List.length_map]; exact hlen
  clear ht hl hsx hsy hap hlen hmx
  go_enter Tryz.func112, Tryz.ntmps112
  go_wp2_with fail
  go_loopw [12] (fun i wr => ∃ k : Nat, i = .int .i64 k ∧ k ≤ n ∧ Own wr 3 (.slice at' nx ct) ((addTo p xs by' ys k).map (Value.int .i64)) ∧ Chg (fun k => (Value.slice at' nx ct).ownBlock = some k) w wr) (fun i _ => n - (intOf i).toNat)
  case atStart => exact ⟨0, rfl, Nat.zero_le _, by rw [addTo_zero]; exact HT.out, Chg.refl _ _⟩
  case round =>
    obtain ⟨k, rfl, hk, hown, hchg⟩ := hrel
    have HO := Lib.hid hown
    have HC := Lib.hid hchg
    clear hown hchg
    by_cases hkn : k < n
    · have hkx : k < xs.length := by have := HNX.out; rw [List.length_map] at this; omega
      have hl' := HL.out.chg HC.out (fun g hg hs => HA.out g hs hg)
      obtain ⟨bl, ol, rfl, cl'⟩ := hl'.at hkn
      obtain ⟨g, rfl⟩ := HO.out.head (i := k) (by rw [List.length_map, addTo_length]; exact hkx)
      have hcell := HO.out.cell (i := k) (by rw [List.length_map, addTo_length]; exact hkx)
      rw [gv_map_int (by rw [addTo_length]; exact hkx), addTo_get _ _ _ _ _ hkx, if_neg (by omega)] at hcell
      obtain ⟨ct1, ct2⟩ := hcell
      have hx1 := HX.out k hkx
      have hy1 := HY.out k (by rw [← HN.out]; exact hkn)
      have hm := mul_small' hby.1 hby.2 hy1.1 hy1.2
      have hb0 := Int.emod_nonneg (gi xs k + by' * gi ys k) (show p ≠ 0 by omega)
      have hb1 := Int.emod_lt_of_pos (gi xs k + by' * gi ys k) hp.1
      clear hl'
      go_wp2_with (go_at_call 148; refine (rest_any _ _ _ (by omega) (by omega)).mono ?_; rintro e w' ⟨rfl, rfl⟩)
      go_roundw
      case rel =>
        refine ⟨k + 1, by go_num, by omega, ?_, ?_⟩
        · have := HO.out.set k (.int .i64 ((gi xs k + by' * gi ys k) % p))
          rw [set_map_int, addTo_succ _ _ _ _ _ hkx] at this
          exact this
        · exact Chg.trans HC.out (Chg.setCell _ _ _) (fun _ _ x => x) (fun i _ x => by rw [x]; rfl)
      case measure => simp [intOf]; omega
    · obtain rfl : k = n := by omega
      go_wp2_with fail
      go_end0
      exact ⟨rfl, by rw [addZ, ← HN.out]; exact HO.out, HC.out⟩
end Go.Proofs.YtcdbeepphdfipaaGreatDoor

namespace Go.Proofs.YtcdbeepphdfipaaGreatDoor
open Go.RowKit
set_option linter.unusedVariables false

theorem tyInt : OneTy Tryz.prog 53 3 (.int .i64 0) := OneTy.mk (n := 1) (b := 8) Tryz.underlying53 (by kernel_rfl) rfl (by decide) rfl
theorem tyRow : OneTy Tryz.prog 22 53 (.slice none 0 0) := OneTy.mk (n := 1) (b := 24) Tryz.underlying22 (by kernel_rfl) rfl (by decide) rfl

/-- What append asks of a source of numbers. -/
theorem IsI.src {w : World} {so : Option Addr} {n c : Nat} {xs : List Int} (h : IsI w (.slice so n c) xs) :
    (xs.map (Value.int .i64)).length = n ∧ (so = none → n = 0 ∧ c = 0) ∧ (∀ ad, so = some ad → ∀ j u, (xs.map (Value.int .i64))[j]? = some u → w.cell? (ad.add j) = some u) ∧ (∀ u ∈ xs.map (Value.int .i64), u.oneCell' = true) := by
  refine ⟨by rw [List.length_map, h.len], fun hs => by subst hs; exact h.nilCap, fun ad had j u hj => ?_, fun u hu => ?_⟩
  · have hjl : j < xs.length := by have := (List.getElem?_eq_some_iff.1 hj).1; simpa using this
    obtain ⟨b, o, e, hc⟩ := h.at (i := j) (by rw [h.len]; exact hjl)
    rw [had] at e
    obtain rfl := Option.some.inj e
    rw [Addr.add_lit, hc, gi_lt hjl]
    rw [List.getElem?_map, List.getElem?_eq_getElem hjl] at hj
    simpa using hj
  · obtain ⟨x, _, rfl⟩ := List.mem_map.1 hu; rfl

theorem Own.empty (w : World) (e : TypeId) : Own (w.alloc (.cells #[] e)) e (.slice (some ⟨w.heap.size, 0, none⟩) 0 0) [] :=
  .inr ⟨w.heap.size, 0, #[], rfl, heap_alloc_new w _, by simp, by simp [maxLen], by simp, rfl⟩

theorem From.new (w : World) (n c : Nat) : From w.heap.size (.slice (some ⟨w.heap.size, 0, none⟩) n c) := fun g hg => by simp [Value.ownBlock] at hg; omega

theorem From.nil (B : Nat) : From B (.slice none 0 0) := fun g hg => by simp [Value.ownBlock] at hg

set_option maxHeartbeats 1000000 in
theorem clone_any (v : Value) (xs : List Int) (w : World) (hx : IsI w v xs) :
    Calls Tryz.prog 111 #[v] w fun e w' => ∃ u, e = .returned u ∧ Own w' 3 u (xs.map (Value.int .i64)) ∧ From w.heap.size u ∧ New w w' := by
  obtain ⟨ao, n, cap, rfl, HN, hn⟩ := hx.shape
  have hnil := Lib.run_eql_slice_nil (P := Tryz.prog) w 53 3 ao n cap 0 0 Tryz.underlying53
  have HX := Lib.hid hx
  cases ao with
  | none =>
    obtain ⟨rfl, rfl⟩ := hx.nilCap
    have hxs : xs = [] := List.eq_nil_of_length_eq_zero HN.out.symm
    clear hx
    subst hxs
    go_enter Tryz.func111, Tryz.ntmps111
    go_wp2
    go_ret
    exact ⟨_, rfl, Own.nil _ _, From.nil _, Chg.refl _ _⟩
  | some ad =>
    have hsrc := (hx.new (New.alloc w (.cells #[] 3))).src
    have HS := Lib.hid hsrc
    clear hx hsrc
    go_enter Tryz.func111, Tryz.ntmps111
    go_wp2_with (at_builtin; refine wpList_app rfl _ _ _ rfl tyInt (Own.empty w 3) rfl (some ad) n cap (xs.map (Value.int .i64)) rfl HS.out.1 HS.out.2.1 HS.out.2.2.1 HS.out.2.2.2 (by simpa using hn) ?_; intro v' w' k1 k2 k3; have K := Lib.hid (And.intro k1 (And.intro k2 k3)); clear k1 k2 k3)
    go_ret
    obtain ⟨k1, k2, k3⟩ := K.out
    refine ⟨_, rfl, k1, fun g hg => ?_, New.then (New.alloc _ _) k2 (fun i hi => ?_)⟩
    · rcases k3 g hg with k | k
      · have k := Option.some.inj (show some w.heap.size = some g from k); omega
      · simp at k; omega
    · have k := Option.some.inj (show some w.heap.size = some i from hi); omega

theorem clipR_any (v : Value) (xs : List Value) (w : World) (hx : Own w 53 v xs) (hm : Mid xs.length) :
    Calls Tryz.prog 30 #[v] w fun e w' => ∃ u, e = .returned u ∧ Own w' 53 u xs ∧ u.ownBlock = v.ownBlock ∧ w = w' := by
  obtain ⟨ao, n, cap, rfl, HN, hn, HC⟩ := hx.opened hm
  have hc := HC.out.1
  go_enter Tryz.func30, Tryz.ntmps30
  go_wp2
  go_ret
  refine ⟨_, rfl, ?_, ?_, rfl⟩
  · rcases hx with ⟨h, rfl⟩ | ⟨g, cap', cur, hv, hh, h1, h2, h3, ht⟩
    · simp at h
      obtain ⟨rfl, rfl, rfl⟩ := h
      exact .inl ⟨rfl, rfl⟩
    · simp at hv
      obtain ⟨rfl, rfl, rfl⟩ := hv
      exact .inr ⟨g, xs.length, cur, rfl, hh, Nat.le_refl _, by omega, by omega, ht⟩
  · cases ao <;> rfl
end Go.Proofs.YtcdbeepphdfipaaGreatDoor

namespace Go.Proofs.YtcdbeepphdfipaaGreatDoor
open Go.RowKit
set_option linter.unusedVariables false

/-- Rows whose blocks are all from B on. -/
def FromR (B : Nat) (v : Value) (vs : List Value) (rows : List (List Int)) : Prop := From B v ∧ ∀ i, i < rows.length → From B (gv vs i)

theorem gv_snoc_lt {vs : List Value} {u : Value} {i : Nat} (h : i < vs.length) : gv (vs ++ [u]) i = gv vs i := by
  rw [gv_lt (by simp; omega), gv_lt h, List.getElem_append_left h]

theorem gv_snoc_eq {vs : List Value} {u : Value} {i : Nat} (h : i = vs.length) : gv (vs ++ [u]) i = u := by
  rw [gv_lt (by simp; omega)]; simp [h]

/-- A row of one's own is laid behind the others. -/
theorem OwnR.push {w w1 w2 : World} {v v' u : Value} {vs : List Value} {rows : List (List Int)} {xs : List Int} {B : Nat}
    (h : OwnR w 53 3 v vs rows) (hf : FromR B v vs rows) (hB : B ≤ w.heap.size) (h1 : New w w1) (hu : Own w1 3 u (xs.map (Value.int .i64))) (hfu : From w.heap.size u)
    (hv' : Own w2 53 v' (vs ++ [u])) (h2 : Chg (fun k => v.ownBlock = some k) w1 w2) (hn : ∀ g, v'.ownBlock = some g → v.ownBlock = some g ∨ w1.heap.size ≤ g) :
    OwnR w2 53 3 v' (vs ++ [u]) (rows ++ [xs]) ∧ FromR B v' (vs ++ [u]) (rows ++ [xs]) ∧ Chg (fun k => v.ownBlock = some k) w w2 := by
  have hne : (53 : Nat) ≠ 3 := by decide
  have hs := h1.size
  have hvu : ∀ g, v.ownBlock = some g → u.ownBlock ≠ some g := fun g hg hg' => by have := h.outer.lt hg; have := hfu g hg'; omega
  refine ⟨OwnR.snoc hv' h.len (fun i hi => ((h.inner i hi).new h1).chg h2 (fun g hg hs => h.outer_apart hne hi g hs hg)) h.apart (hu.chg h2 (fun g hg hs => hvu g hs hg)) (fun i hi => From.apart hfu (h.inner i hi)), ⟨fun g hg => ?_, fun i hi => ?_⟩,
    Chg.trans h1 h2 (fun _ _ x => x.elim) (fun _ _ x => x)⟩
  · rcases hn g hg with k | k
    · exact hf.1 g k
    · omega
  · simp at hi
    by_cases e : i < rows.length
    · rw [gv_snoc_lt (by rw [h.len]; exact e)]; exact hf.2 i e
    · rw [gv_snoc_eq (by rw [h.len]; omega)]; exact hfu.mono hB

set_option maxHeartbeats 1000000 in
theorem copyRows_any (v : Value) (rows : List (List Int)) (w : World) (hr : IsR w v rows) :
    Calls Tryz.prog 65 #[v] w fun e w' => ∃ u vs, e = .returned u ∧ OwnR w' 53 3 u vs rows ∧ FromR w.heap.size u vs rows ∧ New w w' := by
  obtain ⟨ao, n, cap, rfl, HN, hn⟩ := hr.shape
  have HR := Lib.hid hr
  clear hr
  go_enter Tryz.func65, Tryz.ntmps65
  go_wp2
  go_loopw [3, 4] (fun v3 i wr => ∃ (k : Nat) (vs : List Value), i = .int .i64 k ∧ k ≤ n ∧ OwnR wr 53 3 v3 vs (rows.take k) ∧ FromR w.heap.size v3 vs (rows.take k) ∧ New w wr) (fun _ i _ => n - (intOf i).toNat)
  case atStart =>
    exact ⟨0, [], rfl, Nat.zero_le _, ⟨Own.empty _ _, rfl, fun i hi => by simp at hi, fun i j hi => by simp at hi⟩, ⟨From.new _ _ _, fun i hi => by simp at hi⟩, New.alloc _ _⟩
  case round =>
    obtain ⟨k, vs, rfl, hk, hown, hfrom, hnew⟩ := hrel
    have HO := Lib.hid hown
    have HF := Lib.hid hfrom
    clear hown hfrom
    by_cases hkn : k < n
    · have hkr : k < rows.length := by rw [← HN.out]; exact hkn
      obtain ⟨b, o, u, rfl, ck, hu⟩ := (HR.out.new hnew).at hkn
      obtain ⟨au, nu, cu, rfl, HNU, hnu⟩ := hu.shape
      have HS := Lib.hid (hu.new (New.alloc wr (.cells #[] 3))).src
      have hlen : vs.length ≤ 1099511627775 := by rw [HO.out.len]; simp; omega
      have HNEW := Lib.hid hnew
      have ck' := (New.alloc wr (.cells #[] 3)).cellNew ck
      clear hu hnew ck
      go_wp2_with (first
        | (at_builtin; refine wpList_app rfl (.tmp 13) (.tmp 17) _ rfl tyInt (Own.empty wr 3) rfl au nu cu ((gr rows k).map (Value.int .i64)) rfl HS.out.1 HS.out.2.1 HS.out.2.2.1 HS.out.2.2.2 (by simpa using hnu) ?_; intro v1 w1 k1 k2 k3; obtain ⟨a1, l1, c1, rfl, _, _, _⟩ := k1.opened (by rw [List.length_append, HS.out.1]; simpa [Mid] using hnu); have K1 := Lib.hid (And.intro k1 (And.intro k2 k3)); clear k1 k2 k3)
        | (at_builtin; refine wpList_app1 rfl (.tmp 12) (.tmp 19) _ rfl tyRow w1 (HO.out.outer.new (New.then (New.alloc _ _) K1.out.2.1 (fun i hi => Nat.le_of_eq (Option.some.inj hi)))) rfl _ _ rfl rfl rfl (by omega) ?_; intro v2 w2 k1 k2 k3; have K2 := Lib.hid (And.intro k1 (And.intro k2 k3)); clear k1 k2 k3))
      go_roundw
      case rel =>
        obtain ⟨k1, k2, k3⟩ := K1.out
        obtain ⟨m1, m2, m3⟩ := K2.out
        have n1 : New wr w1 := New.then (New.alloc _ _) k2 (fun i hi => Nat.le_of_eq (Option.some.inj hi))
        have hf1 : From wr.heap.size (Value.slice a1 l1 c1) := fun g hg => by
          rcases k3 g hg with x | x
          · exact Nat.le_of_eq (Option.some.inj x)
          · simp at x; omega
        obtain ⟨p1, p2, p3⟩ := OwnR.push HO.out HF.out HNEW.out.size n1 (by simpa using k1) hf1 m1 m2 m3
        refine ⟨k + 1, vs ++ [Value.slice a1 l1 c1], by go_num, by omega, ?_, ?_, New.then HNEW.out p3 (fun i hi => HF.out.1 i hi)⟩
        · rw [take_succ_gr hkr]; exact p1
        · rw [take_succ_gr hkr]; exact p2
      case measure => simp [intOf]; omega
    · obtain rfl : k = n := by omega
      go_wp2
      go_ret
      have e : rows.take k = rows := List.take_of_length_le (by rw [← HN.out]; exact Nat.le_refl _)
      have h1 := HO.out
      have h2 := HF.out
      rw [e] at h1 h2
      exact ⟨_, vs, rfl, h1, h2, hnew⟩
end Go.Proofs.YtcdbeepphdfipaaGreatDoor
