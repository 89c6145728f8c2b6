/- The walk of FnLossesOf. -/
import Derived.Test.YtmehgchmnnbkfaaLawU
import Derived.Test.YtmehgchmnnbkfaaDrawK
import Derived.Test.YtmehgchmnnbkfaaKnow
import Derived.Test.YtmehgchmnnbkfaaLossesOf
import Derived.Test.YtmehgchmnnbkfaaWeightsOf
namespace Go.Proofs.Ytmehgchmnnbkfaa
open Go.RowKit Mat
set_option linter.unusedVariables false

set_option maxRecDepth 100000 in
set_option maxHeartbeats 8000000 in
theorem lawLossesOf_any (v : Value) (n : Nat) (w : World) (hb : RawB w v n) :
    Calls Try.prog 6 #[v] w fun e w' => e = .returned (.bool true) ∧ New w w' := by
  obtain ⟨ao, cap, rfl, hcap, hmx, -⟩ := id hb
  unfold maxLen at hmx
  have HB := Lib.hid hb
  clear hb
  by_cases hbig : 1048576 < n
  · go_enter Try.func6, Try.ntmps6
    go_wp2_with fail
    go_ret
    exact ⟨rfl, Chg.refl _ _⟩
  · go_enter Try.func6, Try.ntmps6
    go_wp2_with fail
    refine (drawLossesOf_any _ _ _ HB.out).mono ?_
    rintro e w1 ⟨a, l, c, rows, p, rfl, hr, hk, hp, hn1⟩
    go_upto_region 4 with fail
    have b2 := Blk2.alloc w1 (.int .i64 p) (.slice a l c) 25
    have n2 := New.alloc w1 (.cells #[.int .i64 p, .slice a l c] 25)
    obtain ⟨w2, hw2⟩ : ∃ w2, w2 = w1.alloc (.cells #[.int .i64 p, .slice a l c] 25) := ⟨_, rfl⟩
    rw [← hw2] at b2 n2
    rw [← hw2]
    clear hw2
    have HLL := Lib.hid hr.len
    have H2 := Lib.hid (And.intro (hr.new n2) (And.intro (hn1.trans n2) b2))
    obtain ⟨q0, q1, _, _⟩ := b2.cells
    clear hr hn1 b2 n2 hk
    go_wp2_with fail
    refine (implLossesOf_any p _ rows _ H2.out.1).mono ?_
    rintro e w3 ⟨u, out, rfl, ho, hf, hq, hn3⟩
    have hsm := hq.small
    have hi3 := ho.isI (by unfold Mid; omega)
    obtain ⟨a3, l3, c3, rfl, HL3, hl3⟩ := hi3.shape
    have H3 := Lib.hid (And.intro hq (And.intro hn3 hi3))
    replace q0 := hn3.cellNew q0
    replace q1 := hn3.cellNew q1
    clear ho hf hq hn3 hi3 hsm
    go_wp2_with fail
    refine (specLossesOf_any p _ rows _ (H2.out.1.new H3.out.2.1)).mono ?_
    rintro e w4 ⟨u, out4, rfl, ho, hf, hq, hn4⟩
    obtain rfl := H3.out.1.unique hq
    have hsm := hq.small
    have hi4 := ho.isI (by unfold Mid; omega)
    obtain ⟨a4, l4, c4, rfl, HL4, hl4⟩ := hi4.shape
    have H4 := Lib.hid (And.intro hi4 hn4)
    replace q0 := hn4.cellNew q0
    replace q1 := hn4.cellNew q1
    clear ho hf hq hn4 hi4 hsm
    go_wp2_with fail
    refine (equalInts_any _ _ out out _ (H3.out.2.2.new H4.out.2) H4.out.1).mono ?_
    rintro e w5 ⟨rfl, m5, rfl⟩
    rw [eqL_self]
    have H5 := Lib.hid (New.drewN w4 m5)
    replace q0 := H5.out.cellNew q0
    replace q1 := H5.out.cellNew q1
    obtain ⟨w5, hw5⟩ : ∃ w5, w5 = w4.drewN m5 := ⟨_, rfl⟩
    rw [← hw5] at H5 q0 q1
    rw [← hw5]
    clear hw5
    go_wp2_with fail
    refine (implValidCode_any p _ rows _ (H2.out.1.new (H3.out.2.1.trans (H4.out.2.trans H5.out)))).mono ?_
    rintro e w6 ⟨⟨z, rfl, hz⟩, hn6⟩
    have H6 := Lib.hid (And.intro hz (And.intro (H3.out.2.1.trans (H4.out.2.trans (H5.out.trans hn6))) (H4.out.2.trans (H5.out.trans hn6))))
    replace q0 := hn6.cellNew q0
    replace q1 := hn6.cellNew q1
    clear hz hn6
    cases z with
    | false =>
      go_wp2_with fail
      refine (specLossesOf_any p _ rows _ (H2.out.1.new H6.out.2.1)).mono ?_
      rintro e w7 ⟨u, out7, rfl, ho, hf, hq, hn7⟩
      obtain rfl := H3.out.1.unique hq
      have hsm := hq.small
      have hi7 := ho.isI (by unfold Mid; omega)
      obtain ⟨a7, l7, c7, rfl, HL7, hl7⟩ := hi7.shape
      have H7 := Lib.hid (And.intro hi7 hn7)
      clear ho hf hq hn7 hi7 hsm
      go_wp2_with fail
      refine (equalInts_any _ _ out out _ (H3.out.2.2.new (H6.out.2.2.trans H7.out.2)) H7.out.1).mono ?_
      rintro e w8 ⟨rfl, m8, rfl⟩
      rw [eqL_self]
      go_wp2_with fail
      go_ret
      exact ⟨rfl, H2.out.2.1.trans (H6.out.2.1.trans (H7.out.2.trans (New.drewN _ _)))⟩
    | true =>
      have hv := H6.out.1.1 rfl
      obtain ⟨q, rfl, hq⟩ := prime_nat (vtB_pr hv.1)
      haveI := hq.nz
      have hlt := H3.out.1.1 hv
      have hc := hv.code
      have hl0 : 0 < l := by rw [HLL.out]; exact hc.tab.r1
      have hl4 : l ≤ 4 := by rw [HLL.out]; exact hc.r4
      obtain ⟨b0, o0, u0, rfl, ck0, hu0⟩ := (H2.out.1.new H6.out.2.1).at hl0
      rw [Nat.add_zero] at ck0
      obtain ⟨a0, m, c0, rfl, HM, _⟩ := hu0.shape
      have hm7 : m ≤ 7 := by rw [HM.out]; exact hc.tab.n7
      have hlm : l ≤ m := by rw [HLL.out, HM.out]; exact hc.cols
      have h3m : l3 = m + 1 := by rw [HL3.out, HM.out]; exact hlt.bounds.1
      rw [← HM.out] at hlt hc
      have HV := Lib.hid (And.intro hv (And.intro hc (loss_cnt hm7 (Nat.le_refl _) hlt)))
      have b6 := Lib.hid (H2.out.2.2.new H6.out.2.1)
      have HI := Lib.hid (H3.out.2.2.new H6.out.2.2)
      clear hv hlt hc hq hu0
      go_wp2_with fail
      refine (implDistanceOf_any q _ rows _ (H2.out.1.new H6.out.2.1)).mono ?_
      rintro e w7 ⟨x, rfl, hx, hn7⟩
      obtain ⟨d, rfl, hd1, hdn, hdist⟩ := hx.dist HV.out.1
      rw [← HM.out] at hdist hdn
      have HD := Lib.hid hdist
      have H7 := Lib.hid hn7
      clear hx hdist hn7 q0 q1 ck0
      go_wp2_with fail
      go_loopw [7] (fun t7 wr => ∃ t : Nat, t7 = .int .i64 t ∧ t ≤ m + 1 ∧ Hid (New w6 wr)) (fun t7 _ => m + 1 - (intOf t7).toNat)
      case atStart => exact ⟨0, rfl, Nat.zero_le _, H7.out⟩
      case round =>
        obtain ⟨t, rfl, ht, HN⟩ := hrel
        obtain ⟨wy, hwy⟩ : ∃ wy : World, wy = wr := ⟨_, rfl⟩
        rw [← hwy] at HN
        rw [← hwy]
        clear hwy
        by_cases htm : t ≤ m
        · have ht3 : t < l3 := by omega
          have htI : (t : Int) < (m : Int) + 1 := by omega
          obtain ⟨b, o, rfl, ckk⟩ := (HI.out.new HN.out).at ht3
          have hcnt := HV.out.2.2 t htm
          have hall := HV.out.2.1.loss_all HD.out htm
          have hnone := HV.out.2.1.loss_none (t := t)
          rw [hcnt] at ckk
          obtain ⟨cv, hcv⟩ : ∃ cv, cv = cntP (fun S => wtN S 7 = t ∧ MendC q rows S) (2 ^ m) := ⟨_, rfl⟩
          rw [← hcv] at ckk hall hnone
          obtain ⟨C, hC⟩ : ∃ C, C = ch m t := ⟨_, rfl⟩
          rw [← hC] at hall
          have heq : ((cv : Int) == (C : Int)) = decide ((t : Int) < (d : Int)) := by
            rw [Bool.eq_iff_iff, beq_iff_eq, decide_eq_true_eq]
            omega
          have HC := Lib.hid (And.intro hC heq)
          have hsub : IntKind.i64.wrap ((m : Int) - (l : Int)) = (m : Int) - (l : Int) := IntWalk.i64_in _ (by omega)
          by_cases hbig : (m : Int) - (l : Int) < (t : Int)
          · have HZ : Hid (cv = 0) := hnone (by rw [← HLL.out]; omega) htm
            have hbg : decide ((t : Int) > (m : Int) - (l : Int)) = true := by simp; omega
            clear hcnt hall hnone hcv hC heq
            go_upto_region 12 with fail
            refine wp_region_held_drew (S := fun w' => New wy w') (by kernel_rfl) (New.drew _) (fun hY => ?_)
            refine held_take 0 (some 41) rfl rfl (by kernel_rfl) (by kernel_rfl) (by kernel_rfl) (fun _ _ _ h => h) rfl hY (v := ?_) (fun w' hS => by skip; go_simp; try with_reducible rfl) ?_
            simp only [Act.put, List.setIfInBounds_toArray, List.set_cons_zero, List.set_cons_succ]
            refine held_take 1 (some 42) rfl rfl (by kernel_rfl) (by kernel_rfl) (by kernel_rfl) (fun _ _ _ h => h) rfl hY (v := ?_) (fun w' hS => by skip; go_simp; try with_reducible rfl) ?_
            simp only [Act.put, List.setIfInBounds_toArray, List.set_cons_zero, List.set_cons_succ]
            refine held_take 2 (some 43) rfl rfl (by kernel_rfl) (by kernel_rfl) (by kernel_rfl) (fun _ _ _ h => h) rfl hY (v := ?_) (fun w' hS => by skip; go_simp; try with_reducible rfl) ?_
            simp only [Act.put, List.setIfInBounds_toArray, List.set_cons_zero, List.set_cons_succ]
            refine held_take 3 (some 44) rfl rfl (by kernel_rfl) (by kernel_rfl) (by kernel_rfl) (fun _ _ _ h => h) rfl hY (v := .int .i64 cv) (fun w' hS => by obtain ⟨q0, q1, _, _⟩ := (b6.out.new (HN.out.trans hS)).cells; have ckk := hS.cellNew ckk; go_simp; try with_reducible rfl) ?_
            simp only [Act.put, List.setIfInBounds_toArray, List.set_cons_zero, List.set_cons_succ]
            refine held_take 4 (some 45) rfl rfl (by kernel_rfl) (by kernel_rfl) (by kernel_rfl) (fun _ _ _ h => h) rfl hY (v := ?_) (fun w' hS => by skip; go_simp; try with_reducible rfl) ?_
            simp only [Act.put, List.setIfInBounds_toArray, List.set_cons_zero, List.set_cons_succ]
            refine held_take 5 (some 46) rfl rfl (by kernel_rfl) (by kernel_rfl) (by kernel_rfl) (fun _ _ _ h => h) rfl hY (v := ?_) (fun w' hS => by skip; go_simp; try with_reducible rfl) ?_
            simp only [Act.put, List.setIfInBounds_toArray, List.set_cons_zero, List.set_cons_succ]
            refine held_take 8 (some 49) rfl rfl (by kernel_rfl) (by kernel_rfl) (by kernel_rfl) (fun _ _ _ h => h) rfl hY (v := ?_) (fun w' hS => by skip; go_simp; try with_reducible rfl) ?_
            simp only [Act.put, List.setIfInBounds_toArray, List.set_cons_zero, List.set_cons_succ]
            refine held_take 9 (some 50) rfl rfl (by kernel_rfl) (by kernel_rfl) (by kernel_rfl) (fun _ _ _ h => h) rfl hY (v := ?_) (fun w' hS => by skip; go_simp; try with_reducible rfl) ?_
            simp only [Act.put, List.setIfInBounds_toArray, List.set_cons_zero, List.set_cons_succ]
            refine held_take 10 (some 51) rfl rfl (by kernel_rfl) (by kernel_rfl) (by kernel_rfl) (fun _ _ _ h => h) rfl hY (v := ?_) (fun w' hS => by skip; go_simp; try with_reducible rfl) ?_
            simp only [Act.put, List.setIfInBounds_toArray, List.set_cons_zero, List.set_cons_succ]
            refine held_only 6 (by kernel_rfl) rfl rfl (fun K1 hK1 => ?_)
            go_simp
            refine (lawChoose_any m t _ hm7 (by omega)).mono ?_
            rintro e w' ⟨rfl, rfl⟩
            rw [← HC.out.1]
            have hnc := Chg.refl (fun _ => False) wy.drew
            refine hK1.out _ _ (hY.trans hnc) (fun hY1 => ?_)
            clear hK1 K1
            refine held_take 7 (some 48) rfl rfl (by kernel_rfl) (by kernel_rfl) (by kernel_rfl) (fun _ _ _ h => h) rfl hY1 (v := ?_) (fun w' hS => by skip; go_simp; try with_reducible rfl) ?_
            simp only [Act.put, List.setIfInBounds_toArray, List.set_cons_zero, List.set_cons_succ]
            refine held_take 11 (some 52) rfl rfl (by kernel_rfl) (by kernel_rfl) (by kernel_rfl) (fun _ _ _ h => h) rfl hY1 (v := .bool false) (fun w' hS => by skip; go_simp; first | (with_reducible rfl) | (simp [HC.out.2])) ?_
            simp only [Act.put, List.setIfInBounds_toArray, List.set_cons_zero, List.set_cons_succ]
            refine held_take 12 (some 53) rfl rfl (by kernel_rfl) (by kernel_rfl) (by kernel_rfl) (fun _ _ _ h => h) rfl hY1 (v := ?_) (fun w' hS => by skip; go_simp; try with_reducible rfl) ?_
            simp only [Act.put, List.setIfInBounds_toArray, List.set_cons_zero, List.set_cons_succ]
            refine held_take 13 (some 54) rfl rfl (by kernel_rfl) (by kernel_rfl) (by kernel_rfl) (fun _ _ _ h => h) rfl hY1 (v := ?_) (fun w' hS => by skip; go_simp; try with_reducible rfl) ?_
            simp only [Act.put, List.setIfInBounds_toArray, List.set_cons_zero, List.set_cons_succ]
            refine held_take 14 (some 55) rfl rfl (by kernel_rfl) (by kernel_rfl) (by kernel_rfl) (fun _ _ _ h => h) rfl hY1 (v := ?_) (fun w' hS => by skip; go_simp; try with_reducible rfl) ?_
            simp only [Act.put, List.setIfInBounds_toArray, List.set_cons_zero, List.set_cons_succ]
            refine held_take 15 (some 56) rfl rfl (by kernel_rfl) (by kernel_rfl) (by kernel_rfl) (fun _ _ _ h => h) rfl hY1 (v := ?_) (fun w' hS => by skip; go_simp; try with_reducible rfl) ?_
            simp only [Act.put, List.setIfInBounds_toArray, List.set_cons_zero, List.set_cons_succ]
            refine held_take 16 (some 57) rfl rfl (by kernel_rfl) (by kernel_rfl) (by kernel_rfl) (fun _ _ _ h => h) rfl hY1 (v := .slice (some ⟨b0, o0, none⟩) l c) (fun w' hS => by obtain ⟨q0, q1, _, _⟩ := (b6.out.new (HN.out.trans hS)).cells; have ckk := hS.cellNew ckk; go_simp; try with_reducible rfl) ?_
            simp only [Act.put, List.setIfInBounds_toArray, List.set_cons_zero, List.set_cons_succ]
            refine held_take 17 (some 58) rfl rfl (by kernel_rfl) (by kernel_rfl) (by kernel_rfl) (fun _ _ _ h => h) rfl hY1 (v := ?_) (fun w' hS => by skip; go_simp; try with_reducible rfl) ?_
            simp only [Act.put, List.setIfInBounds_toArray, List.set_cons_zero, List.set_cons_succ]
            refine held_take 18 (some 59) rfl rfl (by kernel_rfl) (by kernel_rfl) (by kernel_rfl) (fun _ _ _ h => h) rfl hY1 (v := ?_) (fun w' hS => by skip; go_simp; try with_reducible rfl) ?_
            simp only [Act.put, List.setIfInBounds_toArray, List.set_cons_zero, List.set_cons_succ]
            refine held_take 19 (some 60) rfl rfl (by kernel_rfl) (by kernel_rfl) (by kernel_rfl) (fun _ _ _ h => h) rfl hY1 (v := ?_) (fun w' hS => by skip; go_simp; try with_reducible rfl) ?_
            simp only [Act.put, List.setIfInBounds_toArray, List.set_cons_zero, List.set_cons_succ]
            refine held_take 20 (some 61) rfl rfl (by kernel_rfl) (by kernel_rfl) (by kernel_rfl) (fun _ _ _ h => h) rfl hY1 (v := ?_) (fun w' hS => by skip; go_simp; try with_reducible rfl) ?_
            simp only [Act.put, List.setIfInBounds_toArray, List.set_cons_zero, List.set_cons_succ]
            refine held_take 21 (some 62) rfl rfl (by kernel_rfl) (by kernel_rfl) (by kernel_rfl) (fun _ _ _ h => h) rfl hY1 (v := ?_) (fun w' hS => by skip; go_simp; try with_reducible rfl) ?_
            simp only [Act.put, List.setIfInBounds_toArray, List.set_cons_zero, List.set_cons_succ]
            refine held_take 22 (some 63) rfl rfl (by kernel_rfl) (by kernel_rfl) (by kernel_rfl) (fun _ _ _ h => h) rfl hY1 (v := ?_) (fun w' hS => by skip; go_simp; try with_reducible rfl) ?_
            simp only [Act.put, List.setIfInBounds_toArray, List.set_cons_zero, List.set_cons_succ]
            refine held_take 23 (some 64) rfl rfl (by kernel_rfl) (by kernel_rfl) (by kernel_rfl) (fun _ _ _ h => h) rfl hY1 (v := ?_) (fun w' hS => by skip; go_simp; try with_reducible rfl) ?_
            simp only [Act.put, List.setIfInBounds_toArray, List.set_cons_zero, List.set_cons_succ]
            refine held_take 24 (some 65) rfl rfl (by kernel_rfl) (by kernel_rfl) (by kernel_rfl) (fun _ _ _ h => h) rfl hY1 (v := .int .i64 cv) (fun w' hS => by obtain ⟨q0, q1, _, _⟩ := (b6.out.new (HN.out.trans hS)).cells; have ckk := hS.cellNew ckk; go_simp; try with_reducible rfl) ?_
            simp only [Act.put, List.setIfInBounds_toArray, List.set_cons_zero, List.set_cons_succ]
            refine held_take 25 (some 66) rfl rfl (by kernel_rfl) (by kernel_rfl) (by kernel_rfl) (fun _ _ _ h => h) rfl hY1 (v := .bool false) (fun w' hS => by skip; go_simp; first | (with_reducible rfl) | (simp [HZ.out])) ?_
            simp only [Act.put, List.setIfInBounds_toArray, List.set_cons_zero, List.set_cons_succ]
            refine held_take 26 (some 67) rfl rfl (by kernel_rfl) (by kernel_rfl) (by kernel_rfl) (fun _ _ _ h => h) rfl hY1 (v := ?_) (fun w' hS => by skip; go_simp; try with_reducible rfl) ?_
            simp only [Act.put, List.setIfInBounds_toArray, List.set_cons_zero, List.set_cons_succ]
            refine held_take 27 (some 68) rfl rfl (by kernel_rfl) (by kernel_rfl) (by kernel_rfl) (fun _ _ _ h => h) rfl hY1 (v := ?_) (fun w' hS => by skip; go_simp; try with_reducible rfl) ?_
            simp only [Act.put, List.setIfInBounds_toArray, List.set_cons_zero, List.set_cons_succ]
            refine wpAnyH_done (by kernel_rfl) ?_ _
            go_wp2_with fail
            go_roundw
            case rel => exact ⟨t + 1, by go_num, by omega, HN.out.trans hY1⟩
            case measure => simp [intOf]; omega
          · have hbg : decide ((t : Int) > (m : Int) - (l : Int)) = false := by simp; omega
            clear hcnt hall hnone hcv hC heq
            go_upto_region 12 with fail
            refine wp_region_held_drew (S := fun w' => New wy w') (by kernel_rfl) (New.drew _) (fun hY => ?_)
            refine held_take 0 (some 41) rfl rfl (by kernel_rfl) (by kernel_rfl) (by kernel_rfl) (fun _ _ _ h => h) rfl hY (v := ?_) (fun w' hS => by skip; go_simp; try with_reducible rfl) ?_
            simp only [Act.put, List.setIfInBounds_toArray, List.set_cons_zero, List.set_cons_succ]
            refine held_take 1 (some 42) rfl rfl (by kernel_rfl) (by kernel_rfl) (by kernel_rfl) (fun _ _ _ h => h) rfl hY (v := ?_) (fun w' hS => by skip; go_simp; try with_reducible rfl) ?_
            simp only [Act.put, List.setIfInBounds_toArray, List.set_cons_zero, List.set_cons_succ]
            refine held_take 2 (some 43) rfl rfl (by kernel_rfl) (by kernel_rfl) (by kernel_rfl) (fun _ _ _ h => h) rfl hY (v := ?_) (fun w' hS => by skip; go_simp; try with_reducible rfl) ?_
            simp only [Act.put, List.setIfInBounds_toArray, List.set_cons_zero, List.set_cons_succ]
            refine held_take 3 (some 44) rfl rfl (by kernel_rfl) (by kernel_rfl) (by kernel_rfl) (fun _ _ _ h => h) rfl hY (v := .int .i64 cv) (fun w' hS => by obtain ⟨q0, q1, _, _⟩ := (b6.out.new (HN.out.trans hS)).cells; have ckk := hS.cellNew ckk; go_simp; try with_reducible rfl) ?_
            simp only [Act.put, List.setIfInBounds_toArray, List.set_cons_zero, List.set_cons_succ]
            refine held_take 4 (some 45) rfl rfl (by kernel_rfl) (by kernel_rfl) (by kernel_rfl) (fun _ _ _ h => h) rfl hY (v := ?_) (fun w' hS => by skip; go_simp; try with_reducible rfl) ?_
            simp only [Act.put, List.setIfInBounds_toArray, List.set_cons_zero, List.set_cons_succ]
            refine held_take 5 (some 46) rfl rfl (by kernel_rfl) (by kernel_rfl) (by kernel_rfl) (fun _ _ _ h => h) rfl hY (v := ?_) (fun w' hS => by skip; go_simp; try with_reducible rfl) ?_
            simp only [Act.put, List.setIfInBounds_toArray, List.set_cons_zero, List.set_cons_succ]
            refine held_take 8 (some 49) rfl rfl (by kernel_rfl) (by kernel_rfl) (by kernel_rfl) (fun _ _ _ h => h) rfl hY (v := ?_) (fun w' hS => by skip; go_simp; try with_reducible rfl) ?_
            simp only [Act.put, List.setIfInBounds_toArray, List.set_cons_zero, List.set_cons_succ]
            refine held_take 9 (some 50) rfl rfl (by kernel_rfl) (by kernel_rfl) (by kernel_rfl) (fun _ _ _ h => h) rfl hY (v := ?_) (fun w' hS => by skip; go_simp; try with_reducible rfl) ?_
            simp only [Act.put, List.setIfInBounds_toArray, List.set_cons_zero, List.set_cons_succ]
            refine held_take 10 (some 51) rfl rfl (by kernel_rfl) (by kernel_rfl) (by kernel_rfl) (fun _ _ _ h => h) rfl hY (v := ?_) (fun w' hS => by skip; go_simp; try with_reducible rfl) ?_
            simp only [Act.put, List.setIfInBounds_toArray, List.set_cons_zero, List.set_cons_succ]
            refine held_only 6 (by kernel_rfl) rfl rfl (fun K1 hK1 => ?_)
            go_simp
            refine (lawChoose_any m t _ hm7 (by omega)).mono ?_
            rintro e w' ⟨rfl, rfl⟩
            rw [← HC.out.1]
            have hnc := Chg.refl (fun _ => False) wy.drew
            refine hK1.out _ _ (hY.trans hnc) (fun hY1 => ?_)
            clear hK1 K1
            refine held_take 7 (some 48) rfl rfl (by kernel_rfl) (by kernel_rfl) (by kernel_rfl) (fun _ _ _ h => h) rfl hY1 (v := ?_) (fun w' hS => by skip; go_simp; try with_reducible rfl) ?_
            simp only [Act.put, List.setIfInBounds_toArray, List.set_cons_zero, List.set_cons_succ]
            refine held_take 11 (some 52) rfl rfl (by kernel_rfl) (by kernel_rfl) (by kernel_rfl) (fun _ _ _ h => h) rfl hY1 (v := .bool false) (fun w' hS => by skip; go_simp; first | (with_reducible rfl) | (simp [HC.out.2])) ?_
            simp only [Act.put, List.setIfInBounds_toArray, List.set_cons_zero, List.set_cons_succ]
            refine held_take 12 (some 53) rfl rfl (by kernel_rfl) (by kernel_rfl) (by kernel_rfl) (fun _ _ _ h => h) rfl hY1 (v := ?_) (fun w' hS => by skip; go_simp; try with_reducible rfl) ?_
            simp only [Act.put, List.setIfInBounds_toArray, List.set_cons_zero, List.set_cons_succ]
            refine held_take 13 (some 54) rfl rfl (by kernel_rfl) (by kernel_rfl) (by kernel_rfl) (fun _ _ _ h => h) rfl hY1 (v := ?_) (fun w' hS => by skip; go_simp; try with_reducible rfl) ?_
            simp only [Act.put, List.setIfInBounds_toArray, List.set_cons_zero, List.set_cons_succ]
            refine held_take 14 (some 55) rfl rfl (by kernel_rfl) (by kernel_rfl) (by kernel_rfl) (fun _ _ _ h => h) rfl hY1 (v := ?_) (fun w' hS => by skip; go_simp; try with_reducible rfl) ?_
            simp only [Act.put, List.setIfInBounds_toArray, List.set_cons_zero, List.set_cons_succ]
            refine held_take 15 (some 56) rfl rfl (by kernel_rfl) (by kernel_rfl) (by kernel_rfl) (fun _ _ _ h => h) rfl hY1 (v := ?_) (fun w' hS => by skip; go_simp; try with_reducible rfl) ?_
            simp only [Act.put, List.setIfInBounds_toArray, List.set_cons_zero, List.set_cons_succ]
            refine held_take 16 (some 57) rfl rfl (by kernel_rfl) (by kernel_rfl) (by kernel_rfl) (fun _ _ _ h => h) rfl hY1 (v := .slice (some ⟨b0, o0, none⟩) l c) (fun w' hS => by obtain ⟨q0, q1, _, _⟩ := (b6.out.new (HN.out.trans hS)).cells; have ckk := hS.cellNew ckk; go_simp; try with_reducible rfl) ?_
            simp only [Act.put, List.setIfInBounds_toArray, List.set_cons_zero, List.set_cons_succ]
            refine held_take 17 (some 58) rfl rfl (by kernel_rfl) (by kernel_rfl) (by kernel_rfl) (fun _ _ _ h => h) rfl hY1 (v := ?_) (fun w' hS => by skip; go_simp; try with_reducible rfl) ?_
            simp only [Act.put, List.setIfInBounds_toArray, List.set_cons_zero, List.set_cons_succ]
            refine held_take 18 (some 59) rfl rfl (by kernel_rfl) (by kernel_rfl) (by kernel_rfl) (fun _ _ _ h => h) rfl hY1 (v := ?_) (fun w' hS => by skip; go_simp; try with_reducible rfl) ?_
            simp only [Act.put, List.setIfInBounds_toArray, List.set_cons_zero, List.set_cons_succ]
            refine held_take 19 (some 60) rfl rfl (by kernel_rfl) (by kernel_rfl) (by kernel_rfl) (fun _ _ _ h => h) rfl hY1 (v := ?_) (fun w' hS => by skip; go_simp; try with_reducible rfl) ?_
            simp only [Act.put, List.setIfInBounds_toArray, List.set_cons_zero, List.set_cons_succ]
            refine held_take 20 (some 61) rfl rfl (by kernel_rfl) (by kernel_rfl) (by kernel_rfl) (fun _ _ _ h => h) rfl hY1 (v := ?_) (fun w' hS => by skip; go_simp; try with_reducible rfl) ?_
            simp only [Act.put, List.setIfInBounds_toArray, List.set_cons_zero, List.set_cons_succ]
            refine held_skip 21 (some 62) rfl rfl (by kernel_rfl) (by kernel_rfl) (by kernel_rfl) (fun _ _ _ h => h) rfl hY1 ?_
            simp only [Act.put, List.setIfInBounds_toArray, List.set_cons_zero, List.set_cons_succ]
            refine held_skip 22 (some 63) rfl rfl (by kernel_rfl) (by kernel_rfl) (by kernel_rfl) (fun _ _ _ h => h) rfl hY1 ?_
            simp only [Act.put, List.setIfInBounds_toArray, List.set_cons_zero, List.set_cons_succ]
            refine held_skip 23 (some 64) rfl rfl (by kernel_rfl) (by kernel_rfl) (by kernel_rfl) (fun _ _ _ h => h) rfl hY1 ?_
            simp only [Act.put, List.setIfInBounds_toArray, List.set_cons_zero, List.set_cons_succ]
            refine held_skip 24 (some 65) rfl rfl (by kernel_rfl) (by kernel_rfl) (by kernel_rfl) (fun _ _ _ h => h) rfl hY1 ?_
            simp only [Act.put, List.setIfInBounds_toArray, List.set_cons_zero, List.set_cons_succ]
            refine held_skip 25 (some 66) rfl rfl (by kernel_rfl) (by kernel_rfl) (by kernel_rfl) (fun _ _ _ h => h) rfl hY1 ?_
            simp only [Act.put, List.setIfInBounds_toArray, List.set_cons_zero, List.set_cons_succ]
            refine held_take 26 (some 67) rfl rfl (by kernel_rfl) (by kernel_rfl) (by kernel_rfl) (fun _ _ _ h => h) rfl hY1 (v := ?_) (fun w' hS => by skip; go_simp; try with_reducible rfl) ?_
            simp only [Act.put, List.setIfInBounds_toArray, List.set_cons_zero, List.set_cons_succ]
            refine held_take 27 (some 68) rfl rfl (by kernel_rfl) (by kernel_rfl) (by kernel_rfl) (fun _ _ _ h => h) rfl hY1 (v := ?_) (fun w' hS => by skip; go_simp; try with_reducible rfl) ?_
            simp only [Act.put, List.setIfInBounds_toArray, List.set_cons_zero, List.set_cons_succ]
            refine wpAnyH_done (by kernel_rfl) ?_ _
            go_wp2_with fail
            go_roundw
            case rel => exact ⟨t + 1, by go_num, by omega, HN.out.trans hY1⟩
            case measure => simp [intOf]; omega
        · obtain rfl : t = m + 1 := by omega
          subst h3m
          go_wp2_with fail
          go_ret
          exact ⟨ret_bool (by first | rfl | (simp; done) | (simp; omega)), H2.out.2.1.trans (H6.out.2.1.trans HN.out)⟩
end Go.Proofs.Ytmehgchmnnbkfaa
