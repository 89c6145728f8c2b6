/- The walk of FnIsMendable. -/
import Derived.Test.YtgpmkbenjlhfhaaCodF
import Derived.Test.YtgpmkbenjlhfhaaDrawL
import Derived.Test.YtgpmkbenjlhfhaaMend
import Derived.Test.YtgpmkbenjlhfhaaMends
import Derived.Test.YtgpmkbenjlhfhaaKnow
namespace Go.Proofs.Ytgpmkbenjlhfhaa
open Go.RowKit Mat
set_option linter.unusedVariables false

set_option maxRecDepth 100000 in
set_option maxHeartbeats 8000000 in
theorem lawIsMendable_any (v : Value) (n : Nat) (w : World) (hb : RawB w v n) :
    Calls Try.prog 7 #[v] w fun e w' => e = .returned (.bool true) ∧ New w w' := by
  obtain ⟨ao, cap, rfl, hcap, hmx, -⟩ := id hb
  unfold maxLen at hmx
  have HB := Lib.hid hb
  clear hb
  by_cases hbig : 1048576 < n
  · go_enter Try.func7, Try.ntmps7
    go_wp2_with fail
    go_ret
    exact ⟨rfl, Chg.refl _ _⟩
  · go_enter Try.func7, Try.ntmps7
    go_wp2_with fail
    refine (drawIsMendable_any _ _ _ HB.out).mono ?_
    rintro e w1 ⟨a, l, c, vs, rows, p, x, rfl, ho, hk, hp, hn1⟩
    have hr := ho.isR hk.mid.1 hk.mid.2
    go_upto_region 4 with fail
    have b2 := Blk2.alloc w1 (.int .i64 p) (.slice a l c) 25
    have n2 := New.alloc w1 (.cells #[.int .i64 p, .slice a l c] 25)
    obtain ⟨w2, hw2⟩ : ∃ w2, w2 = w1.alloc (.cells #[.int .i64 p, .slice a l c] 25) := ⟨_, rfl⟩
    rw [← hw2] at b2 n2
    rw [← hw2]
    clear hw2
    have HLL := Lib.hid hr.len
    have H2 := Lib.hid (And.intro (hr.new n2) (And.intro (hn1.trans n2) b2))
    obtain ⟨q0, q1, _, _⟩ := b2.cells
    clear hr hn1 b2 n2 hk ho
    go_wp2_with fail
    refine (implIsMendable_any p _ x rows _ H2.out.1).mono ?_
    rintro e w3 ⟨y, rfl, hy, hn3⟩
    have H3 := Lib.hid (And.intro hy hn3)
    replace q0 := hn3.cellNew q0
    replace q1 := hn3.cellNew q1
    clear hy hn3
    go_wp2_with fail
    refine (specIsMendable_any p _ x rows _ (H2.out.1.new H3.out.2)).mono ?_
    rintro e w4 ⟨y', rfl, hy, hn4⟩
    obtain rfl : y = y' := by rw [Bool.eq_iff_iff, hy, H3.out.1]
    have H4 := Lib.hid (H3.out.2.trans hn4)
    replace q0 := hn4.cellNew q0
    replace q1 := hn4.cellNew q1
    clear hy hn4
    go_wp2_with fail
    refine (implValidCode_any p _ rows _ (H2.out.1.new H4.out)).mono ?_
    rintro e w5 ⟨⟨z, rfl, hz⟩, hn5⟩
    have H5 := Lib.hid (And.intro hz (H4.out.trans hn5))
    replace q0 := hn5.cellNew q0
    replace q1 := hn5.cellNew q1
    clear hz hn5
    have HFIN : Hid (∀ w', New w5 w' → ∃ y', Calls Try.prog 35 #[.agg #[.int .i64 p, .slice a l c], .int .i64 x] w' (fun e w'' => e = .returned (.bool y') ∧ y' = y ∧ New w' w'')) := fun w' hw' => ⟨y, (specIsMendable_any p _ x rows _ (H2.out.1.new (H5.out.2.trans hw'))).mono (fun e w'' ⟨z, h1, h2, h3⟩ => by
      obtain rfl : z = y := by rw [Bool.eq_iff_iff, h2, H3.out.1]
      exact ⟨h1, rfl, h3⟩)⟩
    cases z with
    | false =>
      go_wp2_with fail
      obtain ⟨y2, hcall⟩ := HFIN.out w5 (Chg.refl _ _)
      refine hcall.mono ?_
      rintro e w6 ⟨rfl, rfl, hn6⟩
      go_wp2_with fail
      go_ret
      exact ⟨ret_bool (by simp), H2.out.2.1.trans (H5.out.2.trans hn6)⟩
    | true =>
      have hv := H5.out.1.1 rfl
      obtain ⟨q, rfl, hq⟩ := prime_nat (vtB_pr hv.1)
      haveI := hq.nz
      have hc := hv.code
      have hl0 : 0 < l := by rw [HLL.out]; exact hc.tab.r1
      obtain ⟨b0, o0, u0, rfl, ck0, hu0⟩ := (H2.out.1.new H5.out.2).at hl0
      rw [Nat.add_zero] at ck0
      obtain ⟨a0, m, c0, rfl, HM, _⟩ := hu0.shape
      have hm7 : m ≤ 7 := by rw [HM.out]; exact hc.tab.n7
      have hp7 := pow_lt hm7
      have hp1 : 1 ≤ 2 ^ m := Nat.two_pow_pos m
      obtain ⟨P, hP⟩ : ∃ P, P = 2 ^ m := ⟨_, rfl⟩
      rw [← hP] at hp7 hp1
      have hPb : P = 2 ^ (gr rows 0).length := by rw [hP, HM.out]
      have HP := Lib.hid (And.intro hP hPb)
      have b5 := Lib.hid (H2.out.2.2.new H5.out.2)
      have HV := Lib.hid (And.intro hv hc)
      clear hv hc hq hu0 hP hPb
      by_cases hx0 : x < 0
      · go_wp2_with fail
        obtain ⟨y2, hcall⟩ := HFIN.out w5 (Chg.refl _ _)
        refine hcall.mono ?_
        rintro e w6 ⟨rfl, rfl, hn6⟩
        go_wp2_with fail
        go_ret
        exact ⟨ret_bool (by simp), H2.out.2.1.trans (H5.out.2.trans hn6)⟩
      · by_cases hxP : x ≥ (P : Int)
        · go_wp2_with (go_at_call 36; refine (lawPower_any m _ (by omega)).mono ?_; rintro e w' ⟨rfl, rfl⟩; rw [← HP.out.1])
          obtain ⟨y2, hcall⟩ := HFIN.out w5 (Chg.refl _ _)
          refine hcall.mono ?_
          rintro e w6 ⟨rfl, rfl, hn6⟩
          go_wp2_with fail
          go_ret
          exact ⟨ret_bool (by simp), H2.out.2.1.trans (H5.out.2.trans hn6)⟩
        · obtain ⟨L, rfl⟩ : ∃ L : Nat, x = L := ⟨x.toNat, by omega⟩
          have hLP : L < P := by omega
          have hym : y = true ↔ MendC q rows L := by
            rw [H3.out.1]
            unfold IsMendC
            rw [Int.toNat_natCast]
            exact ⟨fun h => h.2.2, fun h => ⟨HV.out.1, inB_iff.2 (by rw [← HP.out.2]; omega), h⟩⟩
          have HY := Lib.hid hym
          clear HFIN hx0 hxP hym
          go_wp2_with (go_at_call 36; refine (lawPower_any m _ (by omega)).mono ?_; rintro e w' ⟨rfl, rfl⟩; rw [← HP.out.1])
          clear q0 q1 ck0
          go_loopw [7] (fun t7 wr => ∃ i : Nat, t7 = .int .i64 i ∧ i ≤ m ∧ Hid (New w5 wr)) (fun t7 _ => m - (intOf t7).toNat)
          case atStart => exact ⟨0, rfl, Nat.zero_le _, Chg.refl _ _⟩
          case round =>
            obtain ⟨i, rfl, hi, HN⟩ := hrel
            obtain ⟨wy, hwy⟩ : ∃ wy : World, wy = wr := ⟨_, rfl⟩
            rw [← hwy] at HN
            rw [← hwy]
            clear hwy
            by_cases him : i < m
            · go_upto_region 11 with fail
              cases y with
              | false =>
                refine wp_region_held_drew (S := fun w' => New wy w') (by kernel_rfl) (New.drew _) (fun hY => ?_)
                refine held_take 0 (some 60) rfl rfl (by kernel_rfl) (by kernel_rfl) (by kernel_rfl) (fun _ _ _ h => h) rfl hY (v := ?_) (fun w' hS => by skip; go_simp; try with_reducible rfl) ?_
                simp only [Act.put, List.setIfInBounds_toArray, List.set_cons_zero, List.set_cons_succ]
                refine held_take 1 (some 61) rfl rfl (by kernel_rfl) (by kernel_rfl) (by kernel_rfl) (fun _ _ _ h => h) rfl hY (v := ?_) (fun w' hS => by skip; go_simp; try with_reducible rfl) ?_
                simp only [Act.put, List.setIfInBounds_toArray, List.set_cons_zero, List.set_cons_succ]
                refine held_skip 2 (some 62) rfl rfl (by kernel_rfl) (by kernel_rfl) (by kernel_rfl) (fun _ _ _ h => h) rfl hY ?_
                simp only [Act.put, List.setIfInBounds_toArray, List.set_cons_zero, List.set_cons_succ]
                refine held_skip 3 (some 63) rfl rfl (by kernel_rfl) (by kernel_rfl) (by kernel_rfl) (fun _ _ _ h => h) rfl hY ?_
                simp only [Act.put, List.setIfInBounds_toArray, List.set_cons_zero, List.set_cons_succ]
                refine held_skip 4 (some 64) rfl rfl (by kernel_rfl) (by kernel_rfl) (by kernel_rfl) (fun _ _ _ h => h) rfl hY ?_
                simp only [Act.put, List.setIfInBounds_toArray, List.set_cons_zero, List.set_cons_succ]
                refine held_skip 5 (some 65) rfl rfl (by kernel_rfl) (by kernel_rfl) (by kernel_rfl) (fun _ _ _ h => h) rfl hY ?_
                simp only [Act.put, List.setIfInBounds_toArray, List.set_cons_zero, List.set_cons_succ]
                refine held_take 6 (some 66) rfl rfl (by kernel_rfl) (by kernel_rfl) (by kernel_rfl) (fun _ _ _ h => h) rfl hY (v := ?_) (fun w' hS => by skip; go_simp; try with_reducible rfl) ?_
                simp only [Act.put, List.setIfInBounds_toArray, List.set_cons_zero, List.set_cons_succ]
                refine held_take 7 (some 67) rfl rfl (by kernel_rfl) (by kernel_rfl) (by kernel_rfl) (fun _ _ _ h => h) rfl hY (v := ?_) (fun w' hS => by skip; go_simp; try with_reducible rfl) ?_
                simp only [Act.put, List.setIfInBounds_toArray, List.set_cons_zero, List.set_cons_succ]
                refine held_skip 8 (some 68) rfl rfl (by kernel_rfl) (by kernel_rfl) (by kernel_rfl) (fun _ _ _ h => h) rfl hY ?_
                simp only [Act.put, List.setIfInBounds_toArray, List.set_cons_zero, List.set_cons_succ]
                refine held_skip 9 (some 69) rfl rfl (by kernel_rfl) (by kernel_rfl) (by kernel_rfl) (fun _ _ _ h => h) rfl hY ?_
                simp only [Act.put, List.setIfInBounds_toArray, List.set_cons_zero, List.set_cons_succ]
                refine held_skip 10 (some 70) rfl rfl (by kernel_rfl) (by kernel_rfl) (by kernel_rfl) (fun _ _ _ h => h) rfl hY ?_
                simp only [Act.put, List.setIfInBounds_toArray, List.set_cons_zero, List.set_cons_succ]
                refine held_skip 11 (some 71) rfl rfl (by kernel_rfl) (by kernel_rfl) (by kernel_rfl) (fun _ _ _ h => h) rfl hY ?_
                simp only [Act.put, List.setIfInBounds_toArray, List.set_cons_zero, List.set_cons_succ]
                refine held_skip 12 (some 72) rfl rfl (by kernel_rfl) (by kernel_rfl) (by kernel_rfl) (fun _ _ _ h => h) rfl hY ?_
                simp only [Act.put, List.setIfInBounds_toArray, List.set_cons_zero, List.set_cons_succ]
                refine held_skip 13 (some 73) rfl rfl (by kernel_rfl) (by kernel_rfl) (by kernel_rfl) (fun _ _ _ h => h) rfl hY ?_
                simp only [Act.put, List.setIfInBounds_toArray, List.set_cons_zero, List.set_cons_succ]
                refine held_skip 14 (some 74) rfl rfl (by kernel_rfl) (by kernel_rfl) (by kernel_rfl) (fun _ _ _ h => h) rfl hY ?_
                simp only [Act.put, List.setIfInBounds_toArray, List.set_cons_zero, List.set_cons_succ]
                refine held_take 15 (some 75) rfl rfl (by kernel_rfl) (by kernel_rfl) (by kernel_rfl) (fun _ _ _ h => h) rfl hY (v := ?_) (fun w' hS => by skip; go_simp; try with_reducible rfl) ?_
                simp only [Act.put, List.setIfInBounds_toArray, List.set_cons_zero, List.set_cons_succ]
                refine wpAnyH_done (by kernel_rfl) ?_ _
                go_wp2_with fail
                go_roundw
                case rel => exact ⟨i + 1, by go_num, by omega, HN.out.trans hY⟩
                case measure => simp [intOf]; omega
              | true =>
                have hb01 := bit01 L i
                rcases hb01 with hb | hb
                · have HB := Lib.hid hb
                  clear hb
                  refine wp_region_held_drew (S := fun w' => New wy w') (by kernel_rfl) (New.drew _) (fun hY => ?_)
                  refine held_take 0 (some 60) rfl rfl (by kernel_rfl) (by kernel_rfl) (by kernel_rfl) (fun _ _ _ h => h) rfl hY (v := ?_) (fun w' hS => by skip; go_simp; try with_reducible rfl) ?_
                  simp only [Act.put, List.setIfInBounds_toArray, List.set_cons_zero, List.set_cons_succ]
                  refine held_take 1 (some 61) rfl rfl (by kernel_rfl) (by kernel_rfl) (by kernel_rfl) (fun _ _ _ h => h) rfl hY (v := ?_) (fun w' hS => by skip; go_simp; try with_reducible rfl) ?_
                  simp only [Act.put, List.setIfInBounds_toArray, List.set_cons_zero, List.set_cons_succ]
                  refine held_take 2 (some 62) rfl rfl (by kernel_rfl) (by kernel_rfl) (by kernel_rfl) (fun _ _ _ h => h) rfl hY (v := ?_) (fun w' hS => by skip; go_simp; try with_reducible rfl) ?_
                  simp only [Act.put, List.setIfInBounds_toArray, List.set_cons_zero, List.set_cons_succ]
                  refine held_take 3 (some 63) rfl rfl (by kernel_rfl) (by kernel_rfl) (by kernel_rfl) (fun _ _ _ h => h) rfl hY (v := ?_) (fun w' hS => by skip; go_simp; try with_reducible rfl) ?_
                  simp only [Act.put, List.setIfInBounds_toArray, List.set_cons_zero, List.set_cons_succ]
                  refine held_only 4 (by kernel_rfl) rfl rfl (fun K1 hK1 => ?_)
                  go_simp
                  refine (lawBit_any L i _ (by omega) (by omega)).mono ?_
                  rintro e w' ⟨rfl, rfl⟩
                  rw [HB.out]
                  have hnb := Chg.refl (fun _ => False) wy.drew
                  refine hK1.out _ _ (hY.trans hnb) (fun hY1 => ?_)
                  clear hK1 K1
                  refine held_take 5 (some 65) rfl rfl (by kernel_rfl) (by kernel_rfl) (by kernel_rfl) (fun _ _ _ h => h) rfl hY1 (v := ?_) (fun w' hS => by skip; go_simp; try with_reducible rfl) ?_
                  simp only [Act.put, List.setIfInBounds_toArray, List.set_cons_zero, List.set_cons_succ]
                  refine held_take 6 (some 66) rfl rfl (by kernel_rfl) (by kernel_rfl) (by kernel_rfl) (fun _ _ _ h => h) rfl hY1 (v := ?_) (fun w' hS => by skip; go_simp; try with_reducible rfl) ?_
                  simp only [Act.put, List.setIfInBounds_toArray, List.set_cons_zero, List.set_cons_succ]
                  refine held_take 7 (some 67) rfl rfl (by kernel_rfl) (by kernel_rfl) (by kernel_rfl) (fun _ _ _ h => h) rfl hY1 (v := ?_) (fun w' hS => by skip; go_simp; try with_reducible rfl) ?_
                  simp only [Act.put, List.setIfInBounds_toArray, List.set_cons_zero, List.set_cons_succ]
                  refine held_skip 8 (some 68) rfl rfl (by kernel_rfl) (by kernel_rfl) (by kernel_rfl) (fun _ _ _ h => h) rfl hY1 ?_
                  simp only [Act.put, List.setIfInBounds_toArray, List.set_cons_zero, List.set_cons_succ]
                  refine held_skip 9 (some 69) rfl rfl (by kernel_rfl) (by kernel_rfl) (by kernel_rfl) (fun _ _ _ h => h) rfl hY1 ?_
                  simp only [Act.put, List.setIfInBounds_toArray, List.set_cons_zero, List.set_cons_succ]
                  refine held_skip 10 (some 70) rfl rfl (by kernel_rfl) (by kernel_rfl) (by kernel_rfl) (fun _ _ _ h => h) rfl hY1 ?_
                  simp only [Act.put, List.setIfInBounds_toArray, List.set_cons_zero, List.set_cons_succ]
                  refine held_skip 11 (some 71) rfl rfl (by kernel_rfl) (by kernel_rfl) (by kernel_rfl) (fun _ _ _ h => h) rfl hY1 ?_
                  simp only [Act.put, List.setIfInBounds_toArray, List.set_cons_zero, List.set_cons_succ]
                  refine held_skip 12 (some 72) rfl rfl (by kernel_rfl) (by kernel_rfl) (by kernel_rfl) (fun _ _ _ h => h) rfl hY1 ?_
                  simp only [Act.put, List.setIfInBounds_toArray, List.set_cons_zero, List.set_cons_succ]
                  refine held_skip 13 (some 73) rfl rfl (by kernel_rfl) (by kernel_rfl) (by kernel_rfl) (fun _ _ _ h => h) rfl hY1 ?_
                  simp only [Act.put, List.setIfInBounds_toArray, List.set_cons_zero, List.set_cons_succ]
                  refine held_skip 14 (some 74) rfl rfl (by kernel_rfl) (by kernel_rfl) (by kernel_rfl) (fun _ _ _ h => h) rfl hY1 ?_
                  simp only [Act.put, List.setIfInBounds_toArray, List.set_cons_zero, List.set_cons_succ]
                  refine held_take 15 (some 75) rfl rfl (by kernel_rfl) (by kernel_rfl) (by kernel_rfl) (fun _ _ _ h => h) rfl hY1 (v := ?_) (fun w' hS => by skip; go_simp; try with_reducible rfl) ?_
                  simp only [Act.put, List.setIfInBounds_toArray, List.set_cons_zero, List.set_cons_succ]
                  refine wpAnyH_done (by kernel_rfl) ?_ _
                  go_wp2_with fail
                  go_roundw
                  case rel => exact ⟨i + 1, by go_num, by omega, HN.out.trans hY1⟩
                  case measure => simp [intOf]; omega
                · have HB := Lib.hid hb
                  have hle : 2 ^ i ≤ L := by
                    have : L.testBit i = true := by rw [testBit_bitN, hb]; rfl
                    exact Nat.ge_two_pow_of_testBit this
                  obtain ⟨PI, hPI⟩ : ∃ PI, PI = 2 ^ i := ⟨_, rfl⟩
                  rw [← hPI] at hle
                  obtain ⟨LP, hLP2⟩ : ∃ LP, LP = L - PI := ⟨_, rfl⟩
                  have hwr : (L : Int) - (PI : Int) = (LP : Int) := by omega
                  have hwr2 : IntKind.i64.wrap ((L : Int) - (PI : Int)) = (LP : Int) := by rw [hwr]; exact IntWalk.i64_in _ (by omega)
                  have hwr3 : IntKind.i64.wrap (LP : Int) = (LP : Int) := IntWalk.i64_in _ (by omega)
                  have hmend : IsMendC q rows (LP : Int) := by
                    refine ⟨HV.out.1, inB_iff.2 (by rw [← HP.out.2]; omega), ?_⟩
                    rw [Int.toNat_natCast]
                    refine HV.out.2.mend_mono (lost := L) (by rw [← HP.out.2]; omega) (by rw [← HP.out.2]; omega) ?_ (HY.out.1 rfl)
                    have h1 := wo_place L (by omega) i (by omega)
                    have h2 : LP = wo L (2 ^ i) := by
                      have h3 : L &&& 2 ^ i = 2 ^ i := by
                        apply Nat.eq_of_testBit_eq
                        intro k
                        rw [Nat.testBit_and]
                        by_cases e : i = k
                        · subst e
                          rw [Nat.testBit_two_pow_self, testBit_bitN, HB.out]; rfl
                        · rw [Nat.testBit_two_pow_of_ne e, Bool.and_false]
                      unfold wo
                      rw [h3, hLP2, hPI]
                    rw [h2]
                    have h4 := (wo_and L (by omega) (2 ^ i) (by have := pow_lt (n := i) (by omega); have : 2 ^ i < 2 ^ 7 := Nat.pow_lt_pow_right (by omega) (by omega); omega)).2.1
                    exact h4
                  have HPI := Lib.hid (And.intro hPI hmend)
                  clear hPI hmend hLP2 hb
                  refine wp_region_held_drew (S := fun w' => New wy w') (by kernel_rfl) (New.drew _) (fun hY => ?_)
                  refine held_take 0 (some 60) rfl rfl (by kernel_rfl) (by kernel_rfl) (by kernel_rfl) (fun _ _ _ h => h) rfl hY (v := ?_) (fun w' hS => by skip; go_simp; try with_reducible rfl) ?_
                  simp only [Act.put, List.setIfInBounds_toArray, List.set_cons_zero, List.set_cons_succ]
                  refine held_take 1 (some 61) rfl rfl (by kernel_rfl) (by kernel_rfl) (by kernel_rfl) (fun _ _ _ h => h) rfl hY (v := ?_) (fun w' hS => by skip; go_simp; try with_reducible rfl) ?_
                  simp only [Act.put, List.setIfInBounds_toArray, List.set_cons_zero, List.set_cons_succ]
                  refine held_take 2 (some 62) rfl rfl (by kernel_rfl) (by kernel_rfl) (by kernel_rfl) (fun _ _ _ h => h) rfl hY (v := ?_) (fun w' hS => by skip; go_simp; try with_reducible rfl) ?_
                  simp only [Act.put, List.setIfInBounds_toArray, List.set_cons_zero, List.set_cons_succ]
                  refine held_take 3 (some 63) rfl rfl (by kernel_rfl) (by kernel_rfl) (by kernel_rfl) (fun _ _ _ h => h) rfl hY (v := ?_) (fun w' hS => by skip; go_simp; try with_reducible rfl) ?_
                  simp only [Act.put, List.setIfInBounds_toArray, List.set_cons_zero, List.set_cons_succ]
                  refine held_only 4 (by kernel_rfl) rfl rfl (fun K1 hK1 => ?_)
                  go_simp
                  refine (lawBit_any L i _ (by omega) (by omega)).mono ?_
                  rintro e w' ⟨rfl, rfl⟩
                  rw [HB.out]
                  have hnb := Chg.refl (fun _ => False) wy.drew
                  refine hK1.out _ _ (hY.trans hnb) (fun hY1 => ?_)
                  clear hK1 K1
                  refine held_take 5 (some 65) rfl rfl (by kernel_rfl) (by kernel_rfl) (by kernel_rfl) (fun _ _ _ h => h) rfl hY1 (v := ?_) (fun w' hS => by skip; go_simp; try with_reducible rfl) ?_
                  simp only [Act.put, List.setIfInBounds_toArray, List.set_cons_zero, List.set_cons_succ]
                  refine held_take 6 (some 66) rfl rfl (by kernel_rfl) (by kernel_rfl) (by kernel_rfl) (fun _ _ _ h => h) rfl hY1 (v := ?_) (fun w' hS => by skip; go_simp; try with_reducible rfl) ?_
                  simp only [Act.put, List.setIfInBounds_toArray, List.set_cons_zero, List.set_cons_succ]
                  refine held_take 7 (some 67) rfl rfl (by kernel_rfl) (by kernel_rfl) (by kernel_rfl) (fun _ _ _ h => h) rfl hY1 (v := ?_) (fun w' hS => by skip; go_simp; try with_reducible rfl) ?_
                  simp only [Act.put, List.setIfInBounds_toArray, List.set_cons_zero, List.set_cons_succ]
                  refine held_take 8 (some 68) rfl rfl (by kernel_rfl) (by kernel_rfl) (by kernel_rfl) (fun _ _ _ h => h) rfl hY1 (v := .agg #[.int .i64 q, .slice (some ⟨b0, o0, none⟩) l c]) (fun w' hS => by obtain ⟨q0, q1, _, _⟩ := (b5.out.new (HN.out.trans hS)).cells; go_simp; try with_reducible rfl) ?_
                  simp only [Act.put, List.setIfInBounds_toArray, List.set_cons_zero, List.set_cons_succ]
                  refine held_take 9 (some 69) rfl rfl (by kernel_rfl) (by kernel_rfl) (by kernel_rfl) (fun _ _ _ h => h) rfl hY1 (v := ?_) (fun w' hS => by skip; go_simp; try with_reducible rfl) ?_
                  simp only [Act.put, List.setIfInBounds_toArray, List.set_cons_zero, List.set_cons_succ]
                  refine held_take 10 (some 70) rfl rfl (by kernel_rfl) (by kernel_rfl) (by kernel_rfl) (fun _ _ _ h => h) rfl hY1 (v := ?_) (fun w' hS => by skip; go_simp; try with_reducible rfl) ?_
                  simp only [Act.put, List.setIfInBounds_toArray, List.set_cons_zero, List.set_cons_succ]
                  refine held_only 11 (by kernel_rfl) rfl rfl (fun K2 hK2 => ?_)
                  go_simp
                  refine (lawPower_any i _ (by omega)).mono ?_
                  rintro e w' ⟨rfl, rfl⟩
                  rw [← HPI.out.1]
                  have hnp := Chg.refl (fun _ => False) wy.drew
                  refine hK2.out _ _ (hY1.trans hnp) (fun hY2 => ?_)
                  clear hK2 K2
                  refine held_take 12 (some 72) rfl rfl (by kernel_rfl) (by kernel_rfl) (by kernel_rfl) (fun _ _ _ h => h) rfl hY2 (v := ?_) (fun w' hS => by skip; go_simp; try with_reducible rfl) ?_
                  simp only [Act.put, List.setIfInBounds_toArray, List.set_cons_zero, List.set_cons_succ]
                  refine held_only 13 (by kernel_rfl) rfl rfl (fun K3 hK3 => ?_)
                  go_simp
                  skip
                  refine (implIsMendable_any q _ (LP : Nat) rows _ (H2.out.1.new (H5.out.2.trans (HN.out.trans hY2)))).mono ?_
                  rintro e w7 ⟨y, rfl, hy, hn7⟩
                  obtain rfl : y = true := hy.2 HPI.out.2
                  clear hy
                  refine hK3.out _ _ (hY2.trans hn7) (fun hY3 => ?_)
                  clear hK3 K3
                  refine held_take 14 (some 74) rfl rfl (by kernel_rfl) (by kernel_rfl) (by kernel_rfl) (fun _ _ _ h => h) rfl hY3 (v := ?_) (fun w' hS => by skip; go_simp; try with_reducible rfl) ?_
                  simp only [Act.put, List.setIfInBounds_toArray, List.set_cons_zero, List.set_cons_succ]
                  refine held_take 15 (some 75) rfl rfl (by kernel_rfl) (by kernel_rfl) (by kernel_rfl) (fun _ _ _ h => h) rfl hY3 (v := ?_) (fun w' hS => by skip; go_simp; try with_reducible rfl) ?_
                  simp only [Act.put, List.setIfInBounds_toArray, List.set_cons_zero, List.set_cons_succ]
                  refine wpAnyH_done (by kernel_rfl) ?_ _
                  go_wp2_with fail
                  go_roundw
                  case rel => exact ⟨i + 1, by go_num, by omega, HN.out.trans hY3⟩
                  case measure => simp [intOf]; omega
            · obtain rfl : m = i := by omega
              go_wp2_with (at_make; refine wpList_mk rfl _ _ _ rfl tyInt _ _ _ _ m m rfl rfl rfl rfl (Nat.le_refl _) (by omega) ?_; intro v6 w6 hv6 ho6 hn6 hs6; subst hv6; have H6 := Lib.hid (And.intro ho6 hn6); clear ho6 hn6 hs6)
              go_loopw [9] (fun t9 wr => ∃ (k : Nat) (xs : List Int), t9 = .int .i64 k ∧ k ≤ m ∧ xs.length = m ∧ Hid (∀ j, j < m → gi xs j = if j < k then -(bitN L j : Int) else 0) ∧ Own wr 3 (.slice (some ⟨wy.heap.size, 0, none⟩) m m) (xs.map (Value.int .i64)) ∧ Hid (New wy wr)) (fun t9 _ => m - (intOf t9).toNat)
              case atStart =>
                refine ⟨0, List.replicate m 0, rfl, Nat.zero_le _, by simp, fun j hj => by rw [gi_replicate, if_neg (by omega)], ?_, H6.out.2⟩
                rw [show (List.replicate m (0 : Int)).map (Value.int .i64) = List.replicate m (Value.int .i64 0) by simp]
                exact H6.out.1
              case round =>
                obtain ⟨k, xs, rfl, hk, hxl, HX, hown, HD⟩ := hrel
                obtain ⟨wz, hwz⟩ : ∃ wz : World, wz = wr := ⟨_, rfl⟩
                rw [← hwz] at HD hown
                rw [← hwz]
                clear hwz
                have HO := Lib.hid (And.intro hown hxl)
                by_cases hkm : k < m
                · obtain ⟨u0, u1⟩ := hown.cell (i := k) (by rw [List.length_map, hxl]; exact hkm)
                  clear hown hxl
                  obtain ⟨bk, hbk⟩ : ∃ bk, bk = bitN L k := ⟨_, rfl⟩
                  have hbk1 : bk ≤ 1 := by rw [hbk]; have := bit01 L k; omega
                  have HBK := Lib.hid hbk
                  clear hbk
                  go_wp2_with (go_at_call 37; refine (lawBit_any L k _ (by omega) (by omega)).mono ?_; rintro e w' ⟨rfl, rfl⟩; rw [← HBK.out])
                  have hst := HO.out.1.set k (.int .i64 (-(bk : Int)))
                  rw [set_map_int] at hst
                  go_roundw
                  case rel => exact ⟨k + 1, xs.set k (-(bk : Int)), by go_num, by omega, by rw [List.length_set]; exact HO.out.2, fun j hj => by
                    rw [gi_set (by rw [HO.out.2]; exact hj)]
                    by_cases e : k = j
                    · rw [if_pos e, if_pos (by omega), HBK.out, e]
                    · rw [if_neg e, HX.out j hj]
                      by_cases e2 : j < k
                      · rw [if_pos e2, if_pos (by omega)]
                      · rw [if_neg e2, if_neg (by omega)], hst, HD.out.then (Chg.setCell _ _ _) (fun b hb => Nat.le_of_eq hb.symm)⟩
                  case measure => simp [intOf]; omega
                · obtain rfl : m = k := by omega
                  clear hown hxl
                  obtain ⟨q0, q1, _, _⟩ := (b5.out.new (HN.out.trans HD.out)).cells
                  have hiw := HO.out.1.isI (by rw [HO.out.2]; unfold Mid; omega)
                  have hkn : ∀ j, j < m → gi xs j = -1 ∨ gi xs j = 0 := fun j hj => by
                    rw [HX.out j hj, if_pos hj]
                    have := bit01 L j
                    omega
                  have hlost : LostC q rows xs := ⟨HV.out.1, by rw [HO.out.2]; exact HM.out, fun j hj => by
                    rw [HO.out.2] at hj
                    have h1 := hkn j hj
                    have h2 := HV.out.2.tab.pr.pos
                    omega⟩
                  have hln : lostN xs m = L := by
                    have hlp : L < 2 ^ m := by rw [← HP.out.1]; exact hLP
                    refine set_ext (n := m) (setB_lt _ _) hlp (fun j hj => ?_)
                    unfold lostN
                    rw [setB_bit]
                    have h1 := HX.out j hj
                    rw [if_pos hj] at h1
                    have := bit01 L j
                    by_cases c : bitN L j = 1
                    · rw [if_pos ⟨hj, by simp; omega⟩]; exact c.symm
                    · rw [if_neg (fun h => by have := h.2; simp at this; omega)]; omega
                  have hcnt : cntOf q rows xs = 1 ↔ y = true := by
                    unfold cntOf
                    rw [Int.toNat_natCast, HY.out, ← HM.out]
                    have h0 := fit_zero HV.out.2.tab.pr (n := m) (rows := rows) (by rw [HM.out]; exact HV.out.2.tab.good) hkn
                    have hco : CodeOk q m rows := by rw [HM.out]; exact HV.out.2
                    rw [hco.count_mend (fun j hj => by have h1 := hkn j hj; have h2 := HV.out.2.tab.pr.pos; omega) h0, hln]
                  have HC := Lib.hid (And.intro hiw (And.intro hlost hcnt))
                  clear hiw hkn hlost hln hcnt
                  by_cases hfull : L + 1 = P ∧ y = false
                  · obtain ⟨hf1, rfl⟩ := hfull
                    have hd : ((L : Int) == (P : Int) - 1) = true := by simp; omega
                    have hwr : IntKind.i64.wrap ((P : Int) - 1) = (P : Int) - 1 := IntWalk.i64_in _ (by omega)
                    go_wp2_with (go_at_call 36; refine (lawPower_any m _ (by omega)).mono ?_; rintro e w' ⟨rfl, rfl⟩; rw [← HP.out.1])
                    go_ret
                    exact ⟨rfl, H2.out.2.1.trans (H5.out.2.trans (HN.out.trans HD.out))⟩
                  · have hsk : ∀ z : Bool, ((L : Int) == (P : Int) - 1) = z → z = true → y = true := fun z h1 h2 => by
                      rw [h2, beq_iff_eq] at h1
                      cases y with
                      | true => rfl
                      | false => exact absurd ⟨by omega, rfl⟩ hfull
                    obtain ⟨z, hz⟩ : ∃ z, ((L : Int) == (P : Int) - 1) = z := ⟨_, rfl⟩
                    have hzy := hsk z hz
                    have hwr : IntKind.i64.wrap ((P : Int) - 1) = (P : Int) - 1 := IntWalk.i64_in _ (by omega)
                    clear hsk hfull
                    have hcase : (z = false) ∨ (z = true ∧ y = true) := by
                      cases z with
                      | false => exact .inl rfl
                      | true => exact .inr ⟨rfl, hzy rfl⟩
                    clear hzy
                    rcases hcase with rfl | ⟨rfl, rfl⟩
                    all_goals go_wp2_with (go_at_call 36; refine (lawPower_any m _ (by omega)).mono ?_; rintro e w' ⟨rfl, rfl⟩; rw [← HP.out.1])
                    all_goals refine (implCountMends_any q _ _ rows xs _ (H2.out.1.new (H5.out.2.trans (HN.out.trans HD.out))) HC.out.1).mono ?_
                    all_goals rintro e w8 ⟨r, rfl, hr, hn8⟩
                    all_goals obtain rfl := hr.1 HC.out.2.1
                    all_goals have hcn := HC.out.2.2
                    all_goals obtain ⟨cn, hcne⟩ : ∃ cn, cn = cntOf q rows xs := ⟨_, rfl⟩
                    all_goals rw [← hcne] at hcn ⊢
                    all_goals have HCN := Lib.hid hcn
                    all_goals clear hr hcne hcn
                    all_goals go_wp2_with fail
                    all_goals go_ret
                    all_goals refine ⟨ret_bool ?_, H2.out.2.1.trans (H5.out.2.trans (HN.out.trans (HD.out.trans hn8)))⟩
                    · have h1 : ((cn : Int) == 1) = y := by rw [Bool.eq_iff_iff, beq_iff_eq, ← HCN.out]; omega
                      simp [h1]
                    · have h1 := HCN.out.2 (by first | rfl | trivial)
                      simp [h1]
end Go.Proofs.Ytgpmkbenjlhfhaa
