/- spec.leastGroups and spec.turnedGroups. -/
import Derived.Test.YtaaajekibfaoeaaSchS
import Derived.Test.YtaaajekibfaoeaaHelp
namespace Go.Proofs.Ytaaajekibfaoeaa
open Go.RowKit Mat
set_option linter.unusedVariables false

set_option maxRecDepth 100000 in
set_option maxHeartbeats 4000000 in
theorem leastGroups_any (q : Nat) [NeZero q] (n : Nat) (v o : Value) (rows : List (List Int)) (own : List Int) (w : World) (hr : IsR w v rows) (ho : IsI w o own) (ht : TabOk q n rows) (hv : own.length = rows.length ∧ ∀ j, j < own.length → 0 ≤ gi own j ∧ gi own j ≤ 4) :
    Calls Try.prog 94 #[.agg #[.int .i64 q, v, o]] w fun e w' => GivesI w e w' (LeastTo 32 (KnowsQ q n rows own) 192) := by
  obtain ⟨ao, m, cap, rfl, HN, hn⟩ := hr.shape
  obtain ⟨ay, my, cay, rfl, HM, hm⟩ := ho.shape
  have h1 : New w (w.alloc (.cells #[.int .i64 q, .slice ao m cap, .slice ay my cay] 43)) := New.alloc _ _
  have b1 := Blk3.alloc w (.int .i64 q) (.slice ao m cap) (.slice ay my cay) 43
  have HR := Lib.hid hr
  have HO := Lib.hid ho
  have HT := Lib.hid ht
  have HV := Lib.hid hv
  clear hr ho ht hv
  obtain ⟨wA, hwA⟩ : ∃ wA : World, wA = w.alloc (.cells #[.int .i64 q, .slice ao m cap, .slice ay my cay] 43) := ⟨_, rfl⟩
  rw [← hwA] at h1 b1
  have HWA := Lib.hid hwA
  have hszA : wA.heap.size = w.heap.size + 1 := by rw [hwA]; simp
  clear hwA
  go_enter Try.func94, Try.ntmps94
  go_wp2_with fail
  rw [← HWA.out]
  go_loopw [3, 4] (fun t x wr => ∃ (a : Nat) (res : List Int), x = .int .i64 a ∧ a ≤ 6 ∧ Hid (New wA wr ∧ Own wr 3 t (res.map (Value.int .i64)) ∧ From wA.heap.size t ∧ LeastTo 32 (KnowsQ q n rows own) (a * 32) res)) (fun _ x _ => 6 - (intOf x).toNat)
  case atStart =>
    exact ⟨0, [], rfl, Nat.zero_le _, New.alloc _ _, (by have := Own.empty wA 3; rw [hszA] at this; exact this), (fun g hg => by simp [Value.ownBlock] at hg; omega), by rfl⟩
  case round =>
    obtain ⟨a, res, rfl, han, HD⟩ := hrel
    obtain ⟨wo, hwo⟩ : ∃ wo : World, wo = wr := ⟨_, rfl⟩
    rw [← hwo] at HD
    rw [← hwo]
    clear hwo
    by_cases hal : a < 6
    · have hdl : decide ((a : Int) ≤ (5 : Int)) = true := by simp; omega
      go_wp2_with fail
      clear hdl
      go_loopw [3, 5] (fun t x wr => ∃ (s : Nat) (res : List Int), x = .int .i64 s ∧ s ≤ 32 ∧ Hid (New wA wr ∧ Own wr 3 t (res.map (Value.int .i64)) ∧ From wA.heap.size t ∧ LeastTo 32 (KnowsQ q n rows own) (a * 32 + s) res)) (fun _ x _ => 32 - (intOf x).toNat)
      case atStart => exact ⟨0, res, rfl, by omega, HD.out⟩
      case round =>
        clear HD
        clear res
        obtain ⟨s, res, rfl, hs, HD⟩ := hrel
        obtain ⟨wz, hwz⟩ : ∃ wz : World, wz = wr := ⟨_, rfl⟩
        rw [← hwz] at HD
        rw [← hwz]
        clear hwz
        have hbd := HD.out.2.2.2.bounds (by omega)
        have hrl : res.length ≤ 1200 := by
          have : a * 32 ≤ 6 * 32 := Nat.mul_le_mul (by omega) (by omega)
          omega
        have hlen : (res.map (Value.int .i64)).length + 1 ≤ 1099511627776 := by rw [List.length_map]; omega
        have hml : Mid res.length := by unfold Mid; omega
        have HBD := Lib.hid hbd
        obtain ⟨a3, l3, c3, rfl, HL3, _, _⟩ := HD.out.2.1.opened (by unfold Mid; omega)
        have hl3 : l3 = res.length := by rw [HL3.out, List.length_map]
        have HL := Lib.hid hl3
        have HIN := Lib.hid (HD.out.2.1.isI hml)
        have hbz := b1.new HD.out.1
        obtain ⟨c0, c1, c2, _, _, _⟩ := hbz.cells
        have hb0 : w.heap.size < wz.heap.size := by have := HD.out.1.size; omega
        clear hbd hl3
        by_cases hsN : s < 32
        · have hs128 : s < 128 := by omega
          obtain ⟨c, hc⟩ : ∃ c, c = wtN s 7 := ⟨_, rfl⟩
          go_wp2_with (go_at_call 109; refine (power_any 5 _ (by omega)).mono ?_; rintro e w' ⟨rfl, rfl⟩; rw [show ((2 ^ 5 : Nat) : Int) = 32 from rfl])
          refine (weight_any s _ hs128).mono ?_
          rintro e w' ⟨rfl, rfl⟩
          rw [← hc]
          have HC := Lib.hid hc
          clear hc
          by_cases hsz : c = a
          · subst hsz
            go_wp2_with fail
            refine (specKnows_any q n _ _ rows own s _ (HR.out.new (h1.trans HD.out.1)) (HO.out.new (h1.trans HD.out.1)) HT.out HV.out hsN).mono ?_
            rintro e w5 ⟨b5, rfl, hb5, hn5⟩
            have HB5 := Lib.hid hb5
            have HO5 := Lib.hid (And.intro (HD.out.2.1.new hn5) (And.intro HD.out.2.2.1 (And.intro (HD.out.1.trans hn5) (HIN.out.new hn5))))
            clear hb5 hn5 c0 c1 c2 hbz
            cases b5 with
            | false =>
              go_wp2_with fail
              go_roundw
              case rel => exact ⟨s + 1, res, by go_num, by omega, HO5.out.2.2.1, HO5.out.1, HO5.out.2.1, HD.out.2.2.2.no hsN (fun h => by have := HB5.out.2 h.2.1; simp at this)⟩
              case measure => simp [intOf]; omega
            | true =>
              go_wp2_with fail
              go_loopw [6, 7] (fun t9 t10 wr => ∃ (j : Nat) (b : Bool), t9 = .bool b ∧ t10 = .int .i64 j ∧ j ≤ l3 ∧ Hid ((b = true ↔ ∀ x, x < j → ¬ Sub (gi res x).toNat s) ∧ New w5 wr)) (fun _ t10 _ => l3 - (intOf t10).toNat)
              case atStart => exact ⟨0, true, rfl, rfl, Nat.zero_le _, ⟨fun _ x hx => by omega, fun _ => rfl⟩, Chg.refl _ _⟩
              case round =>
                obtain ⟨j, bl, rfl, rfl, hj, HJ⟩ := hrel
                obtain ⟨wy, hwy⟩ : ∃ wy : World, wy = wr := ⟨_, rfl⟩
                rw [← hwy] at HJ
                rw [← hwy]
                clear hwy
                have HO6 := Lib.hid (And.intro (HO5.out.1.new HJ.out.2) (And.intro HO5.out.2.1 (HO5.out.2.2.1.trans HJ.out.2)))
                by_cases hjl : j < l3
                · obtain ⟨bx, ox, rfl, cx⟩ := (HO5.out.2.2.2.new HJ.out.2).at hjl
                  have hjb := HBD.out.2 j (by rw [← HL.out]; exact hjl)
                  obtain ⟨y, hy⟩ : ∃ y : Nat, gi res j = y := ⟨(gi res j).toNat, by omega⟩
                  rw [hy] at cx hjb
                  have hy128 : y < 128 := by omega
                  have hand := and_i64 y hy128 s hs128
                  obtain ⟨h, hh⟩ : ∃ h, h = y &&& s := ⟨_, rfl⟩
                  rw [← hh] at hand
                  have HY := Lib.hid (And.intro hy hh)
                  clear hy hh hjb
                  cases bl with
                  | false =>
                    go_wp2_with fail
                    go_quiet (fail)
                    go_wp2_with fail
                    go_roundw
                    case rel => exact ⟨j + 1, false, rfl, by go_num, by omega, ⟨fun h => by simp at h, fun h => HJ.out.1.2 (fun x hx => h x (by omega))⟩, HJ.out.2.trans (New.drewN _ _)⟩
                    case measure => simp [intOf]; omega
                  | true =>
                    by_cases hhy : h = y
                    · subst hhy
                      go_wp2_with fail
                      go_quiet (fail)
                      go_wp2_with fail
                      go_roundw
                      case rel => exact ⟨j + 1, false, rfl, by go_num, by omega, ⟨fun h => by simp at h, fun h2 => absurd (show Sub (gi res j).toNat s by rw [HY.out.1]; exact HY.out.2.symm) (h2 j (by omega))⟩, HJ.out.2.trans (New.drewN _ _)⟩
                      case measure => simp [intOf]; omega
                    · have hd2 : ((h : Int) != (y : Int)) = true := by simp; omega
                      go_wp2_with fail
                      go_quiet (fail)
                      go_wp2_with fail
                      go_roundw
                      case rel => exact ⟨j + 1, true, rfl, by go_num, by omega, ⟨fun _ x hx => (by
                        by_cases e : x = j
                        · rw [e, HY.out.1]; intro h2; exact hhy (by rw [HY.out.2]; exact h2)
                        · exact HJ.out.1.1 (by trivial) x (by omega)), fun _ => rfl⟩, HJ.out.2.trans (New.drewN _ _)⟩
                      case measure => simp [intOf]; omega
                · obtain rfl : j = l3 := by omega
                  cases bl with
                  | false =>
                    go_wp2_with fail
                    go_roundw
                    case rel => exact ⟨s + 1, res, by go_num, by omega, HO6.out.2.2, HO6.out.1, HO6.out.2.1, HD.out.2.2.2.no hsN (fun h => by have := HJ.out.1.2 (fun x hx => h.2.2 x (by rw [← HL.out]; exact hx)); simp at this)⟩
                    case measure => simp [intOf]; omega
                  | true =>
                    go_wp2_with (at_builtin; refine wpList_app1 rfl _ _ _ rfl tyInt _ HO6.out.1 rfl _ _ rfl rfl rfl hlen ?_; intro v2 w6 k1 k2 k3; have K2 := Lib.hid (And.intro k1 (And.intro k2 k3)); clear k1 k2 k3)
                    go_roundw
                    case rel =>
                      obtain ⟨k1, k2, k3⟩ := K2.out
                      exact ⟨s + 1, res ++ [(s : Int)], by go_num, by omega, HO6.out.2.2.then k2 (fun i hi => HO6.out.2.1 i hi), by rw [List.map_append]; exact k1, (fun g hg => by
                        rcases k3 g hg with x | x
                        · exact HO6.out.2.1 g x
                        · exact Nat.le_trans HO6.out.2.2.size x), HD.out.2.2.2.yes hsN HC.out.symm (HB5.out.1 (by first | trivial | rfl)) (fun x hx => HJ.out.1.1 (by trivial) x (by rw [HL.out]; exact hx))⟩
                    case measure => simp [intOf]; omega
          · have hd : ((c : Int) != (a : Int)) = true := by simp; omega
            have HSZ := Lib.hid hsz
            clear hsz
            go_wp2_with fail
            go_roundw
            case rel => exact ⟨s + 1, res, by go_num, by omega, HD.out.1, HD.out.2.1, HD.out.2.2.1, HD.out.2.2.2.no hsN (fun h => HSZ.out (by rw [HC.out]; exact h.1))⟩
            case measure => simp [intOf]; omega
        · obtain rfl : s = 32 := by omega
          go_wp2_with (go_at_call 109; refine (power_any 5 _ (by omega)).mono ?_; rintro e w' ⟨rfl, rfl⟩; rw [show ((2 ^ 5 : Nat) : Int) = 32 from rfl])
          go_roundw
          case rel => exact ⟨a + 1, res, by go_num, by omega, HD.out.1, HD.out.2.1, HD.out.2.2.1, by have := HD.out.2.2.2.turn; rw [Nat.add_zero] at this; exact this⟩
          case measure => simp [intOf]; omega
    · obtain rfl : a = 6 := by omega
      go_wp2_with fail
      go_ret
      exact ⟨_, res, rfl, HD.out.2.1, (fun g hg => by have := HD.out.2.2.1 g hg; omega), HD.out.2.2.2, h1.trans HD.out.1⟩

set_option maxRecDepth 100000 in
set_option maxHeartbeats 4000000 in
theorem turnedGroups_any (q : Nat) [NeZero q] (n : Nat) (v o : Value) (rows : List (List Int)) (own : List Int) (w : World) (hr : IsR w v rows) (ho : IsI w o own) (ht : TabOk q n rows) (hv : own.length = rows.length ∧ ∀ j, j < own.length → 0 ≤ gi own j ∧ gi own j ≤ 4) :
    Calls Try.prog 101 #[.agg #[.int .i64 q, v, o]] w fun e w' => GivesI w e w' (LeastTo 32 (fun s => ¬ KnowsQ q n rows own (31 - s)) 192) := by
  obtain ⟨ao, m, cap, rfl, HN, hn⟩ := hr.shape
  obtain ⟨ay, my, cay, rfl, HM, hm⟩ := ho.shape
  have h1 : New w (w.alloc (.cells #[.int .i64 q, .slice ao m cap, .slice ay my cay] 43)) := New.alloc _ _
  have b1 := Blk3.alloc w (.int .i64 q) (.slice ao m cap) (.slice ay my cay) 43
  have HR := Lib.hid hr
  have HO := Lib.hid ho
  have HT := Lib.hid ht
  have HV := Lib.hid hv
  clear hr ho ht hv
  obtain ⟨wA, hwA⟩ : ∃ wA : World, wA = w.alloc (.cells #[.int .i64 q, .slice ao m cap, .slice ay my cay] 43) := ⟨_, rfl⟩
  rw [← hwA] at h1 b1
  have HWA := Lib.hid hwA
  have hszA : wA.heap.size = w.heap.size + 1 := by rw [hwA]; simp
  clear hwA
  go_enter Try.func101, Try.ntmps101
  go_wp2_with (go_at_call 109; refine (power_any 5 _ (by omega)).mono ?_; rintro e w' ⟨rfl, rfl⟩; rw [show ((2 ^ 5 : Nat) : Int) = 32 from rfl])
  rw [← HWA.out]
  go_loopw [3, 5] (fun t x wr => ∃ (a : Nat) (res : List Int), x = .int .i64 a ∧ a ≤ 6 ∧ Hid (New wA wr ∧ Own wr 3 t (res.map (Value.int .i64)) ∧ From wA.heap.size t ∧ LeastTo 32 (fun s => ¬ KnowsQ q n rows own (31 - s)) (a * 32) res)) (fun _ x _ => 6 - (intOf x).toNat)
  case atStart =>
    exact ⟨0, [], rfl, Nat.zero_le _, New.alloc _ _, (by have := Own.empty wA 3; rw [hszA] at this; exact this), (fun g hg => by simp [Value.ownBlock] at hg; omega), by rfl⟩
  case round =>
    obtain ⟨a, res, rfl, han, HD⟩ := hrel
    obtain ⟨wo, hwo⟩ : ∃ wo : World, wo = wr := ⟨_, rfl⟩
    rw [← hwo] at HD
    rw [← hwo]
    clear hwo
    by_cases hal : a < 6
    · have hdl : decide ((a : Int) ≤ (5 : Int)) = true := by simp; omega
      go_wp2_with fail
      clear hdl
      go_loopw [3, 6] (fun t x wr => ∃ (s : Nat) (res : List Int), x = .int .i64 s ∧ s ≤ 32 ∧ Hid (New wA wr ∧ Own wr 3 t (res.map (Value.int .i64)) ∧ From wA.heap.size t ∧ LeastTo 32 (fun s => ¬ KnowsQ q n rows own (31 - s)) (a * 32 + s) res)) (fun _ x _ => 32 - (intOf x).toNat)
      case atStart => exact ⟨0, res, rfl, by omega, HD.out⟩
      case round =>
        clear HD
        clear res
        obtain ⟨s, res, rfl, hs, HD⟩ := hrel
        obtain ⟨wz, hwz⟩ : ∃ wz : World, wz = wr := ⟨_, rfl⟩
        rw [← hwz] at HD
        rw [← hwz]
        clear hwz
        have hbd := HD.out.2.2.2.bounds (by omega)
        have hrl : res.length ≤ 1200 := by
          have : a * 32 ≤ 6 * 32 := Nat.mul_le_mul (by omega) (by omega)
          omega
        have hlen : (res.map (Value.int .i64)).length + 1 ≤ 1099511627776 := by rw [List.length_map]; omega
        have hml : Mid res.length := by unfold Mid; omega
        have HBD := Lib.hid hbd
        obtain ⟨a3, l3, c3, rfl, HL3, _, _⟩ := HD.out.2.1.opened (by unfold Mid; omega)
        have hl3 : l3 = res.length := by rw [HL3.out, List.length_map]
        have HL := Lib.hid hl3
        have HIN := Lib.hid (HD.out.2.1.isI hml)
        have hbz := b1.new HD.out.1
        obtain ⟨c0, c1, c2, _, _, _⟩ := hbz.cells
        have hb0 : w.heap.size < wz.heap.size := by have := HD.out.1.size; omega
        clear hbd hl3
        by_cases hsN : s < 32
        · have hs128 : s < 128 := by omega
          obtain ⟨c, hc⟩ : ∃ c, c = wtN s 7 := ⟨_, rfl⟩
          go_wp2_with fail
          refine (weight_any s _ hs128).mono ?_
          rintro e w' ⟨rfl, rfl⟩
          rw [← hc]
          have HC := Lib.hid hc
          clear hc
          by_cases hsz : c = a
          · subst hsz
            obtain ⟨r, hr⟩ : ∃ r, r = 31 - s := ⟨_, rfl⟩
            have hsub : (31 : Int) - (s : Int) = (r : Int) := by omega
            have hr32 : r < 32 := by omega
            have HRR := Lib.hid hr
            clear hr
            go_wp2_with fail
            refine (specKnows_any q n _ _ rows own r _ (HR.out.new (h1.trans HD.out.1)) (HO.out.new (h1.trans HD.out.1)) HT.out HV.out hr32).mono ?_
            rintro e w5 ⟨b5, rfl, hb5, hn5⟩
            rw [HRR.out] at hb5
            have HB5 := Lib.hid hb5
            have HO5 := Lib.hid (And.intro (HD.out.2.1.new hn5) (And.intro HD.out.2.2.1 (And.intro (HD.out.1.trans hn5) (HIN.out.new hn5))))
            clear hb5 hn5 c0 c1 c2 hbz hsub
            cases b5 with
            | true =>
              go_wp2_with fail
              go_roundw
              case rel => exact ⟨s + 1, res, by go_num, by omega, HO5.out.2.2.1, HO5.out.1, HO5.out.2.1, HD.out.2.2.2.no hsN (fun h => h.2.1 (HB5.out.1 (by first | trivial | rfl)))⟩
              case measure => simp [intOf]; omega
            | false =>
              go_wp2_with fail
              go_loopw [7, 8] (fun t9 t10 wr => ∃ (j : Nat) (b : Bool), t9 = .bool b ∧ t10 = .int .i64 j ∧ j ≤ l3 ∧ Hid ((b = true ↔ ∀ x, x < j → ¬ Sub (gi res x).toNat s) ∧ New w5 wr)) (fun _ t10 _ => l3 - (intOf t10).toNat)
              case atStart => exact ⟨0, true, rfl, rfl, Nat.zero_le _, ⟨fun _ x hx => by omega, fun _ => rfl⟩, Chg.refl _ _⟩
              case round =>
                obtain ⟨j, bl, rfl, rfl, hj, HJ⟩ := hrel
                obtain ⟨wy, hwy⟩ : ∃ wy : World, wy = wr := ⟨_, rfl⟩
                rw [← hwy] at HJ
                rw [← hwy]
                clear hwy
                have HO6 := Lib.hid (And.intro (HO5.out.1.new HJ.out.2) (And.intro HO5.out.2.1 (HO5.out.2.2.1.trans HJ.out.2)))
                by_cases hjl : j < l3
                · obtain ⟨bx, ox, rfl, cx⟩ := (HO5.out.2.2.2.new HJ.out.2).at hjl
                  have hjb := HBD.out.2 j (by rw [← HL.out]; exact hjl)
                  obtain ⟨y, hy⟩ : ∃ y : Nat, gi res j = y := ⟨(gi res j).toNat, by omega⟩
                  rw [hy] at cx hjb
                  have hy128 : y < 128 := by omega
                  have hand := and_i64 y hy128 s hs128
                  obtain ⟨h, hh⟩ : ∃ h, h = y &&& s := ⟨_, rfl⟩
                  rw [← hh] at hand
                  have HY := Lib.hid (And.intro hy hh)
                  clear hy hh hjb
                  cases bl with
                  | false =>
                    go_wp2_with fail
                    go_quiet (fail)
                    go_wp2_with fail
                    go_roundw
                    case rel => exact ⟨j + 1, false, rfl, by go_num, by omega, ⟨fun h => by simp at h, fun h => HJ.out.1.2 (fun x hx => h x (by omega))⟩, HJ.out.2.trans (New.drewN _ _)⟩
                    case measure => simp [intOf]; omega
                  | true =>
                    by_cases hhy : h = y
                    · subst hhy
                      go_wp2_with fail
                      go_quiet (fail)
                      go_wp2_with fail
                      go_roundw
                      case rel => exact ⟨j + 1, false, rfl, by go_num, by omega, ⟨fun h => by simp at h, fun h2 => absurd (show Sub (gi res j).toNat s by rw [HY.out.1]; exact HY.out.2.symm) (h2 j (by omega))⟩, HJ.out.2.trans (New.drewN _ _)⟩
                      case measure => simp [intOf]; omega
                    · have hd2 : ((h : Int) != (y : Int)) = true := by simp; omega
                      go_wp2_with fail
                      go_quiet (fail)
                      go_wp2_with fail
                      go_roundw
                      case rel => exact ⟨j + 1, true, rfl, by go_num, by omega, ⟨fun _ x hx => (by
                        by_cases e : x = j
                        · rw [e, HY.out.1]; intro h2; exact hhy (by rw [HY.out.2]; exact h2)
                        · exact HJ.out.1.1 (by trivial) x (by omega)), fun _ => rfl⟩, HJ.out.2.trans (New.drewN _ _)⟩
                      case measure => simp [intOf]; omega
                · obtain rfl : j = l3 := by omega
                  cases bl with
                  | false =>
                    go_wp2_with fail
                    go_roundw
                    case rel => exact ⟨s + 1, res, by go_num, by omega, HO6.out.2.2, HO6.out.1, HO6.out.2.1, HD.out.2.2.2.no hsN (fun h => by have := HJ.out.1.2 (fun x hx => h.2.2 x (by rw [← HL.out]; exact hx)); simp at this)⟩
                    case measure => simp [intOf]; omega
                  | true =>
                    go_wp2_with (at_builtin; refine wpList_app1 rfl _ _ _ rfl tyInt _ HO6.out.1 rfl _ _ rfl rfl rfl hlen ?_; intro v2 w6 k1 k2 k3; have K2 := Lib.hid (And.intro k1 (And.intro k2 k3)); clear k1 k2 k3)
                    go_roundw
                    case rel =>
                      obtain ⟨k1, k2, k3⟩ := K2.out
                      exact ⟨s + 1, res ++ [(s : Int)], by go_num, by omega, HO6.out.2.2.then k2 (fun i hi => HO6.out.2.1 i hi), by rw [List.map_append]; exact k1, (fun g hg => by
                        rcases k3 g hg with x | x
                        · exact HO6.out.2.1 g x
                        · exact Nat.le_trans HO6.out.2.2.size x), HD.out.2.2.2.yes hsN HC.out.symm (fun hK => by have := HB5.out.2 hK; simp at this) (fun x hx => HJ.out.1.1 (by trivial) x (by rw [HL.out]; exact hx))⟩
                    case measure => simp [intOf]; omega
          · have hd : ((c : Int) != (a : Int)) = true := by simp; omega
            have HSZ := Lib.hid hsz
            clear hsz
            go_wp2_with fail
            go_roundw
            case rel => exact ⟨s + 1, res, by go_num, by omega, HD.out.1, HD.out.2.1, HD.out.2.2.1, HD.out.2.2.2.no hsN (fun h => HSZ.out (by rw [HC.out]; exact h.1))⟩
            case measure => simp [intOf]; omega
        · obtain rfl : s = 32 := by omega
          go_wp2_with fail
          go_roundw
          case rel => exact ⟨a + 1, res, by go_num, by omega, HD.out.1, HD.out.2.1, HD.out.2.2.1, by have := HD.out.2.2.2.turn; rw [Nat.add_zero] at this; exact this⟩
          case measure => simp [intOf]; omega
    · obtain rfl : a = 6 := by omega
      go_wp2_with fail
      go_ret
      exact ⟨_, res, rfl, HD.out.2.1, (fun g hg => by have := HD.out.2.2.1 g hg; omega), HD.out.2.2.2, h1.trans HD.out.1⟩

end Go.Proofs.Ytaaajekibfaoeaa
