/- apart of both: functions that call themselves. -/
import Derived.Test.YtgpmkbenjlhfhaaBitL
import Derived.Test.YtgpmkbenjlhfhaaRedP
import Derived.Test.YtgpmkbenjlhfhaaLeaf
import Derived.IntWalk
namespace Go.Proofs.Ytgpmkbenjlhfhaa
open Go.RowKit
set_option linter.unusedVariables false

theorem IsI.nothing (w : World) (ao : Option Addr) (cap : Nat) (h : ao = none → cap = 0) (hm : cap ≤ maxLen) : IsI w (.slice ao 0 cap) [] :=
  ⟨ao, cap, rfl, ⟨Nat.zero_le _, h⟩, hm, by simp [Mid], fun i hi => by simp at hi⟩
theorem and_cast (y u : Nat) (hy : y < 128) (hu : u < 128) {c : Nat} (hc : c = y &&& u) : bits BinOp.and IntKind.i64 (y : Int) (u : Int) = (c : Int) := by rw [hc]; exact and_i64 y hy u hu
theorem or_cast (y u : Nat) (hy : y < 128) (hu : u < 128) {c : Nat} (hc : c = y ||| u) : bits BinOp.or IntKind.i64 (y : Int) (u : Int) = (c : Int) := by rw [hc]; exact or_i64 y hy u hu
theorem or_128 : ∀ s : Nat, s < 128 → ∀ t : Nat, t < 128 → s ||| t < 128 := fun s hs t ht => Nat.or_lt_two_pow (n := 7) hs ht

set_option maxRecDepth 100000 in
set_option maxHeartbeats 1000000 in
theorem implApart_any (xs : List Int) : ∀ (u : Nat) (v : Value) (w : World) (hx : IsI w v xs) (hb : ∀ j, j < xs.length → 0 ≤ gi xs j ∧ gi xs j < 128) (hu : u < 128) (hl : xs.length ≤ 1200),
    Calls Try.prog 102 #[v, .int .i64 u] w fun e w' => e = .returned (.int .i64 (apt xs u)) ∧ Qt w w' := by
  induction xs with
  | nil =>
    intro u v w hx hb hu hl
    obtain ⟨ao, n, cap, rfl, HN, hn⟩ := hx.shape
    have hn0 : n = 0 := HN.out
    subst hn0
    clear hx hb
    go_enter Try.func102, Try.ntmps102
    go_wp2_with fail
    go_ret
    exact ⟨rfl, Qt.refl _⟩
  | cons x xs ih =>
    intro u v w hx hb hu hl
    obtain ⟨ao, n, cap, rfl, HN, hcap, hn, HM, -⟩ := hx.opened
    have hnl : n = xs.length + 1 := HN.out
    obtain ⟨m, rfl⟩ : ∃ m, n = m + 1 := ⟨xs.length, hnl⟩
    have hml : m = xs.length := by omega
    have hcm := HM.out
    unfold maxLen at hcm
    obtain ⟨b, o, rfl, c0⟩ := hx.at (i := 0) (by omega)
    rw [Nat.add_zero] at c0
    have hx0 := hb 0 (by simp)
    obtain ⟨y, rfl⟩ : ∃ y : Nat, x = y := ⟨x.toNat, by have : gi (x :: xs) 0 = x := rfl; omega⟩
    have hy : y < 128 := by have : gi ((y : Int) :: xs) 0 = y := rfl; omega
    change w.cell? ⟨b, o, none⟩ = some (.int .i64 (y : Int)) at c0
    obtain ⟨o', c', ht, hoc⟩ : ∃ o' c', IsI w (.slice (some ⟨b, o', none⟩) m c') xs ∧ ((cap = 1 → o' = o ∧ c' = 0) ∧ (cap ≠ 1 → o' = o + 1 ∧ c' = cap - 1)) := by
      by_cases hc1 : cap = 1
      · subst hc1
        have : xs = [] := List.eq_nil_of_length_eq_zero (by omega)
        subst this
        obtain rfl : m = 0 := hml
        exact ⟨o, 0, IsI.nothing _ _ _ (by simp) (by simp [maxLen]), fun _ => ⟨rfl, rfl⟩, fun h => absurd rfl h⟩
      · exact ⟨o + 1, cap - 1, hx.drop (k := 1) (by omega), fun h => absurd h hc1, fun _ => ⟨rfl, rfl⟩⟩
    have hbt : ∀ j, j < xs.length → 0 ≤ gi xs j ∧ gi xs j < 128 := fun j hj => hb (j + 1) (by simpa using hj)
    have hl' : xs.length ≤ 1200 := by simp at hl; omega
    have HIH := Lib.hid (fun (u : Nat) (hu : u < 128) (w' : World) (hn : New w w') => ih u _ w' (ht.new hn) hbt hu hl')
    obtain ⟨c, hc⟩ : ∃ c, c = y &&& u := ⟨_, rfl⟩
    obtain ⟨d, hd⟩ : ∃ d, d = u ||| y := ⟨_, rfl⟩
    have hand := and_cast y u hy hu hc
    have hor := or_cast u y hu hy hd
    have hd128 : d < 128 := by rw [hd]; exact or_128 u hu y hy
    obtain ⟨a1, ha1⟩ : ∃ a, a = apt xs u := ⟨_, rfl⟩
    obtain ⟨a2, ha2⟩ : ∃ a, a = apt xs d := ⟨_, rfl⟩
    have hb1 : a1 ≤ 1200 := by rw [ha1]; exact Nat.le_trans (apt_le _ _) hl'
    have hb2 : a2 ≤ 1200 := by rw [ha2]; exact Nat.le_trans (apt_le _ _) hl'
    have hend : apt ((y : Int) :: xs) u = if c = 0 then max a1 (1 + a2) else a1 := by
      rw [apt, Int.toNat_natCast, hc, ha1, ha2, hd]
    have HE := Lib.hid (And.intro hend (And.intro ha1 ha2))
    have HI2 := Lib.hid (fun (w' : World) (hn : New w w') => HIH.out d hd128 w' hn)
    rw [← ha2] at HI2
    have hcap1 : 1 ≤ cap := by omega
    clear hx hb ht hbt hx0 hc hd ha1 ha2 hend ih hnl hl hl'
    by_cases hc1 : cap = 1
    all_goals
      first
        | (obtain ⟨h1, h2⟩ := hoc.1 hc1; subst hc1 h1 h2; obtain rfl : m = 0 := by omega)
        | (obtain ⟨h1, h2⟩ := hoc.2 hc1; subst h1 h2)
    all_goals
      clear hoc hml
      try have hm10 : ((m : Int) + 1 == 0) = false := by simp; omega
      try have hcd : ((1 : Int) == (cap : Int)) = false := by simp; omega
      go_enter Try.func102, Try.ntmps102
      go_wp2_with fail
      refine (HIH.out u hu _ (Chg.refl _ _)).mono ?_
      rintro e w1 ⟨rfl, hq1⟩
      rw [← HE.out.2.1]
      have c1 := hq1.new.cellNew c0
      have HQ := Lib.hid hq1
      clear c0 hq1
      by_cases hz : c = 0
      · subst hz
        go_wp2_with fail
        have hwr : IntKind.i64.wrap (1 + (a2 : Int)) = 1 + (a2 : Int) := IntWalk.i64_in _ (by omega)
        go_quiet ((go_at_call 102; exact Calls.quiet_of (HI2.out _ (HQ.out.new.trans (New.drewN _ _)))))
        all_goals
          clear hwr
          go_wp2_with fail
          all_goals
            go_ret
            refine ⟨ret_int ?_, HQ.out.trans (Qt.drewN _ _)⟩
            rw [HE.out.1]
            simp only [if_true]
            omega
      · have hcz : ((c : Int) == 0) = false := by simp; omega
        go_wp2_with fail
        go_ret
        exact ⟨ret_int (by rw [HE.out.1, if_neg hz]), HQ.out⟩

set_option maxRecDepth 100000 in
set_option maxHeartbeats 1000000 in
theorem specApart_any : ∀ (N : Nat) (xs : List Int) (u : Nat) (v : Value) (w : World) (hN : xs.length ≤ N) (hx : IsI w v xs) (hb : ∀ j, j < xs.length → 0 ≤ gi xs j ∧ gi xs j < 128) (hu : u < 128) (hl : xs.length ≤ 1200),
    Calls Try.prog 103 #[v, .int .i64 u] w fun e w' => e = .returned (.int .i64 (apt xs u)) ∧ Qt w w' := by
  intro N
  induction N with
  | zero =>
    intro xs u v w hN hx hb hu hl
    obtain ⟨ao, n, cap, rfl, HN, hn⟩ := hx.shape
    obtain rfl : xs = [] := List.eq_nil_of_length_eq_zero (by omega)
    have hn0 : n = 0 := HN.out
    subst hn0
    clear hx hb
    go_enter Try.func103, Try.ntmps103
    go_wp2_with fail
    go_loop [5, 6] (fun t5 t6 => t5 = .int .i64 0 ∧ t6 = .int .i64 0) (fun _ _ => 0)
    case atStart => exact ⟨rfl, rfl⟩
    case round =>
      obtain ⟨rfl, rfl⟩ := hrel
      go_wp2_with fail
      go_ret
      exact ⟨rfl, Qt.refl _⟩
  | succ N ih =>
    intro xs u v w hN hx hb hu hl
    obtain ⟨ao, n, cap, rfl, HN, hcap, hn, HM, -⟩ := hx.opened
    have hcm := HM.out
    unfold maxLen at hcm
    have HX := Lib.hid hx
    have HB := Lib.hid hb
    have HL := Lib.hid (And.intro hN hl)
    have HIH := Lib.hid ih
    have hn12 : n ≤ 1200 := by rw [HN.out]; exact hl
    clear hx hb hN hl ih
    go_enter Try.func103, Try.ntmps103
    go_wp2_with fail
    go_loopw [5, 6] (fun t5 t6 wr => ∃ k a : Nat, t5 = .int .i64 a ∧ t6 = .int .i64 k ∧ k ≤ n ∧ a ≤ 1200 ∧ Hid (a = aptTo xs u k ∧ Qt w wr)) (fun _ t6 _ => n - (intOf t6).toNat)
    case atStart => exact ⟨0, 0, rfl, rfl, Nat.zero_le _, by omega, rfl, Qt.refl _⟩
    case round =>
      obtain ⟨k, a, rfl, rfl, hk, ha, HD⟩ := hrel
      obtain ⟨wz, hwz⟩ : ∃ wz : World, wz = wr := ⟨_, rfl⟩
      rw [← hwz] at HD
      rw [← hwz]
      clear hwz
      by_cases hkn : k < n
      · obtain ⟨b, o, rfl, c0⟩ := (HX.out.new HD.out.2.new).at hkn
        have hkx : k < xs.length := by rw [← HN.out]; exact hkn
        have hx0 := HB.out k hkx
        obtain ⟨y, hy0⟩ : ∃ y : Nat, gi xs k = y := ⟨(gi xs k).toNat, by omega⟩
        rw [hy0] at c0 hx0
        have hy : y < 128 := by omega
        obtain ⟨c, hc⟩ : ∃ c, c = y &&& u := ⟨_, rfl⟩
        obtain ⟨d, hd⟩ : ∃ d, d = u ||| y := ⟨_, rfl⟩
        have hand := and_cast y u hy hu hc
        have hor := or_cast u y hu hy hd
        have hd128 : d < 128 := by rw [hd]; exact or_128 u hu y hy
        obtain ⟨a2, ha2⟩ : ∃ a, a = apt (xs.drop (k + 1)) d := ⟨_, rfl⟩
        have hb2 : a2 ≤ 1200 := by rw [ha2]; exact Nat.le_trans (apt_le _ _) (by rw [List.length_drop]; have := HL.out.2; omega)
        have hend : aptTo xs u (k + 1) = if c = 0 then max a (1 + a2) else a := by
          rw [aptTo, hy0, Int.toNat_natCast, hc, ← HD.out.1, ha2, hd]
        have hle := aptTo_le xs u (k + 1) (by omega)
        rw [hend] at hle
        have hmx : c = 0 → max a (1 + a2) ≤ 1200 := fun h => by
          rw [if_pos h] at hle
          have := HL.out.2
          omega
        have HE := Lib.hid (And.intro hend (And.intro ha2 hmx))
        clear hle hmx
        clear hc hd hend hx0 hy0 ha2
        by_cases hz : c = 0
        · subst hz
          have hk1 : k + 1 ≤ n := hkn
          have hdl : (xs.drop (k + 1)).length = n - (k + 1) := by rw [List.length_drop, ← HN.out]
          have hbd : ∀ j, j < (xs.drop (k + 1)).length → 0 ≤ gi (xs.drop (k + 1)) j ∧ gi (xs.drop (k + 1)) j < 128 := fun j hj => by
            rw [gi_drop]; exact HB.out _ (by rw [← HN.out]; omega)
          obtain ⟨o', l', c', ht, hoc⟩ : ∃ o' l' c', IsI wz (.slice (some ⟨b, o', none⟩) l' c') (xs.drop (k + 1)) ∧ ((cap = k + 1 → o' = o ∧ l' = 0 ∧ c' = 0) ∧ (cap ≠ k + 1 → o' = o + (k + 1) ∧ l' = n - (k + 1) ∧ c' = cap - (k + 1))) := by
            by_cases hc1 : cap = k + 1
            · have e0 : xs.drop (k + 1) = [] := List.eq_nil_of_length_eq_zero (by omega)
              rw [e0]
              exact ⟨o, 0, 0, IsI.nothing _ _ _ (by simp) (by simp [maxLen]), fun _ => ⟨rfl, rfl, rfl⟩, fun h => absurd hc1 h⟩
            · exact ⟨o + (k + 1), n - (k + 1), cap - (k + 1), (HX.out.new HD.out.2.new).drop hk1, fun h => absurd h hc1, fun _ => ⟨rfl, rfl, rfl⟩⟩
          have HC := Lib.hid (fun (w' : World) (hn : New wz w') => HIH.out (xs.drop (k + 1)) d _ w' (by have := HL.out.1; have := HN.out; omega) (ht.new hn) hbd hd128 (by omega))
          rw [← HE.out.2.1] at HC
          clear ht hbd hdl
          by_cases hc1 : cap = k + 1
          · obtain ⟨h1, h2, h3⟩ := hoc.1 hc1
            obtain rfl : n = k + 1 := by omega
            subst hc1 h1 h2 h3
            clear hoc
            go_wp2_with fail
            have hw1 : IntKind.i64.wrap ((k : Int) + 1) = (k : Int) + 1 := IntWalk.i64_in _ (by omega)
            have hw2 : IntKind.i64.wrap (1 + (a2 : Int)) = 1 + (a2 : Int) := IntWalk.i64_in _ (by omega)
            have hw3 : (0 : Int) ≤ (k : Int) + 1 := by omega
            have hw4 : ((k : Int) + 1).toNat = k + 1 := by omega
            go_quiet ((go_at_call 103; exact Calls.quiet_of (HC.out _ (New.drewN _ _))))
            all_goals
              clear hw1 hw2 hw3 hw4
              go_wp2_with fail
              go_roundw
              case rel => exact ⟨k + 1, max a (1 + a2), by apply val_int; omega, by go_num, by omega, HE.out.2.2 trivial, by rw [HE.out.1]; simp only [if_true], HD.out.2.trans (Qt.drewN _ _)⟩
              case measure => simp [intOf]
          · obtain ⟨h1, h2, h3⟩ := hoc.2 hc1
            subst h1 h2 h3
            clear hoc
            go_wp2_with fail
            have hw1 : IntKind.i64.wrap ((k : Int) + 1) = (k : Int) + 1 := IntWalk.i64_in _ (by omega)
            have hw2 : IntKind.i64.wrap (1 + (a2 : Int)) = 1 + (a2 : Int) := IntWalk.i64_in _ (by omega)
            have hw3 : (0 : Int) ≤ (k : Int) + 1 := by omega
            have hw4 : ((k : Int) + 1).toNat = k + 1 := by omega
            go_quiet ((go_at_call 103; exact Calls.quiet_of (HC.out _ (New.drewN _ _))))
            all_goals
              clear hw1 hw2 hw3 hw4
              go_wp2_with fail
              go_roundw
              case rel => exact ⟨k + 1, max a (1 + a2), by apply val_int; omega, by go_num, by omega, HE.out.2.2 trivial, by rw [HE.out.1]; simp only [if_true], HD.out.2.trans (Qt.drewN _ _)⟩
              case measure => simp [intOf]; omega
        · have hcz : ((c : Int) == 0) = false := by simp; omega
          go_wp2_with fail
          go_roundw
          case rel => exact ⟨k + 1, a, rfl, by go_num, by omega, ha, by rw [HE.out.1, if_neg hz], HD.out.2⟩
          case measure => simp [intOf]; omega
      · obtain rfl : k = n := by omega
        go_wp2_with fail
        go_ret
        exact ⟨ret_int (by rw [HD.out.1, HN.out, aptTo_all]), HD.out.2⟩
end Go.Proofs.Ytgpmkbenjlhfhaa
