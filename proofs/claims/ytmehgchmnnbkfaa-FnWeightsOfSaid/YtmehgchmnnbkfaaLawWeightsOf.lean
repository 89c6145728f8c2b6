/- The walk of FnWeightsOf. -/
import Derived.Test.YtmehgchmnnbkfaaLawU
import Derived.Test.YtmehgchmnnbkfaaDrawK
import Derived.Test.YtmehgchmnnbkfaaKnow
import Derived.Test.YtmehgchmnnbkfaaWeightsOf
import Derived.Test.YtmehgchmnnbkfaaDualOf
import Derived.Test.YtmehgchmnnbkfaaCodU
namespace Go.Proofs.Ytmehgchmnnbkfaa
open Go.RowKit Mat
set_option linter.unusedVariables false

set_option maxRecDepth 100000 in
set_option maxHeartbeats 8000000 in
theorem lawWeightsOf_any (v : Value) (n : Nat) (w : World) (hb : RawB w v n) :
    Calls Try.prog 5 #[v] w fun e w' => e = .returned (.bool true) ∧ New w w' := by
  obtain ⟨ao, cap, rfl, hcap, hmx, -⟩ := id hb
  unfold maxLen at hmx
  have HB := Lib.hid hb
  clear hb
  by_cases hbig : 1048576 < n
  · go_enter Try.func5, Try.ntmps5
    go_wp2_with fail
    go_ret
    exact ⟨rfl, Chg.refl _ _⟩
  · go_enter Try.func5, Try.ntmps5
    go_wp2_with fail
    refine (drawWeightsOf_any _ _ _ HB.out).mono ?_
    rintro e w1 ⟨a, l, c, rows, p, rfl, hr, hk, hp, hn1⟩
    go_upto_region 4 with fail
    have b2 := Blk2.alloc w1 (.int .i64 p) (.slice a l c) 25
    have n2 := New.alloc w1 (.cells #[.int .i64 p, .slice a l c] 25)
    obtain ⟨w2, hw2⟩ : ∃ w2, w2 = w1.alloc (.cells #[.int .i64 p, .slice a l c] 25) := ⟨_, rfl⟩
    rw [← hw2] at b2 n2
    rw [← hw2]
    clear hw2
    have HLL := Lib.hid hr.len
    have H2 := Lib.hid (And.intro (hr.new n2) (And.intro (hn1.trans n2) b2))
    obtain ⟨q0, q1, _, _⟩ := b2.cells
    clear hr hn1 b2 n2 hk
    go_wp2_with fail
    refine (implWeightsOf_any p _ rows _ H2.out.1).mono ?_
    rintro e w3 ⟨u, out, rfl, ho, hf, hq, hn3⟩
    have hsm := hq.small
    have hi3 := ho.isI (by unfold Mid; omega)
    obtain ⟨a3, l3, c3, rfl, HL3, hl3⟩ := hi3.shape
    have H3 := Lib.hid (And.intro hq (And.intro hn3 hi3))
    replace q0 := hn3.cellNew q0
    replace q1 := hn3.cellNew q1
    clear ho hf hq hn3 hi3 hsm
    go_wp2_with fail
    refine (specWeightsOf_any p _ rows _ (H2.out.1.new H3.out.2.1)).mono ?_
    rintro e w4 ⟨u, out4, rfl, ho, hf, hq, hn4⟩
    obtain rfl := H3.out.1.unique hq
    have hsm := hq.small
    have hi4 := ho.isI (by unfold Mid; omega)
    obtain ⟨a4, l4, c4, rfl, HL4, hl4⟩ := hi4.shape
    have H4 := Lib.hid (And.intro hi4 hn4)
    replace q0 := hn4.cellNew q0
    replace q1 := hn4.cellNew q1
    clear ho hf hq hn4 hi4 hsm
    go_wp2_with fail
    refine (equalInts_any _ _ out out _ (H3.out.2.2.new H4.out.2) H4.out.1).mono ?_
    rintro e w5 ⟨rfl, m5, rfl⟩
    rw [eqL_self]
    have H5 := Lib.hid (New.drewN w4 m5)
    replace q0 := H5.out.cellNew q0
    replace q1 := H5.out.cellNew q1
    obtain ⟨w5, hw5⟩ : ∃ w5, w5 = w4.drewN m5 := ⟨_, rfl⟩
    rw [← hw5] at H5 q0 q1
    rw [← hw5]
    clear hw5
    go_wp2_with fail
    refine (implValidCode_any p _ rows _ (H2.out.1.new (H3.out.2.1.trans (H4.out.2.trans H5.out)))).mono ?_
    rintro e w6 ⟨⟨z, rfl, hz⟩, hn6⟩
    have H6 := Lib.hid (And.intro hz (And.intro (H3.out.2.1.trans (H4.out.2.trans (H5.out.trans hn6))) (H4.out.2.trans (H5.out.trans hn6))))
    replace q0 := hn6.cellNew q0
    replace q1 := hn6.cellNew q1
    clear hz hn6
    cases z with
    | false =>
      go_wp2_with fail
      refine (specWeightsOf_any p _ rows _ (H2.out.1.new H6.out.2.1)).mono ?_
      rintro e w7 ⟨u, out7, rfl, ho, hf, hq, hn7⟩
      obtain rfl := H3.out.1.unique hq
      have hsm := hq.small
      have hi7 := ho.isI (by unfold Mid; omega)
      obtain ⟨a7, l7, c7, rfl, HL7, hl7⟩ := hi7.shape
      have H7 := Lib.hid (And.intro hi7 hn7)
      clear ho hf hq hn7 hi7 hsm
      go_wp2_with fail
      refine (equalInts_any _ _ out out _ (H3.out.2.2.new (H6.out.2.2.trans H7.out.2)) H7.out.1).mono ?_
      rintro e w8 ⟨rfl, m8, rfl⟩
      rw [eqL_self]
      go_wp2_with fail
      go_ret
      exact ⟨rfl, H2.out.2.1.trans (H6.out.2.1.trans (H7.out.2.trans (New.drewN _ _)))⟩
    | true =>
      have hv := H6.out.1.1 rfl
      obtain ⟨q, rfl, hq⟩ := prime_nat (vtB_pr hv.1)
      haveI := hq.nz
      have hlt := H3.out.1.1 hv
      have hc := hv.code
      have hl0 : 0 < l := by rw [HLL.out]; exact hc.tab.r1
      have hl4 : l ≤ 4 := by rw [HLL.out]; exact hc.r4
      obtain ⟨b0, o0, u0, rfl, ck0, hu0⟩ := (H2.out.1.new H6.out.2.1).at hl0
      rw [Nat.add_zero] at ck0
      obtain ⟨a0, m, c0, rfl, HM, _⟩ := hu0.shape
      have hm7 : m ≤ 7 := by rw [HM.out]; exact hc.tab.n7
      have hlm : l ≤ m := by rw [HLL.out, HM.out]; exact hc.cols
      rw [Int.toNat_natCast, ← HM.out] at hlt
      rw [← HM.out] at hc
      have h3m : l3 = m + 1 := by rw [HL3.out, hlt, wtsTo_length]
      have hq2 : 2 ≤ q := hq.pos.1
      have hq7 : q ≤ 7 := hq.pos.2
      have hbnd : ∀ i, i < out.length → 0 ≤ gi out i ∧ gi out i ≤ 10000 := fun i hi => by
        have h1 := wtsTo_range q m rows (q ^ rows.length) i (by rw [HL3.out] at h3m; omega)
        have h2 := pow_all hq7 hc.r4
        rw [hlt]
        omega
      have hall : ((q ^ l : Nat) : Int) ≤ 2401 := by have := pow_all hq7 hl4; omega
      obtain ⟨A, hA⟩ : ∃ A, A = q ^ l := ⟨_, rfl⟩
      have htot : totL out = (A : Int) := by
        unfold totL
        rw [← HL3.out, h3m, hlt, hA, HLL.out]
        exact wts_total q m rows _
      have hone : gi out 0 = 1 := by rw [hlt]; exact hc.one_zero
      have HV := Lib.hid (And.intro (show out.length = m + 1 by rw [← HL3.out]; exact h3m) (And.intro hbnd (And.intro hv (And.intro hc (And.intro hlt (And.intro htot (And.intro hone hA)))))))
      have hA9 : A ≤ 2401 := by rw [hA]; exact pow_all hq7 hl4
      have HI := Lib.hid (H3.out.2.2.new H6.out.2.2)
      have hq1 : 1 ≤ q := by omega
      have HQ := Lib.hid hq
      have HW := Lib.hid (show ∀ w, Calls Try.prog 27 #[.int .i64 q, .int .i64 l] w fun e w' => e = .returned (.int .i64 (A : Int)) ∧ w = w' from fun w => by rw [hA]; exact lawTimes_any q l w hq7 hq1 (by omega))
      have hl30 : 0 < l3 := by omega
      have H3M := Lib.hid h3m
      clear hv hlt hc hq hu0 hbnd hall htot hone hA h3m
      go_wp2_with fail
      with_reducible refine (HW.out _).mono ?_
      rintro e w' ⟨rfl, rfl⟩
      go_wp2_with fail
      refine (implDualOf_any q _ rows _ (H2.out.1.new H6.out.2.1)).mono ?_
      rintro e w7 ⟨u7, vs7, dual, p', ok, rfl, ho7, hf7, hq7', hn7⟩
      have hsm := hq7'.small
      have hi7 := ho7.isR (by unfold Mid; omega) (fun i hi => by have := hsm.2 i hi; unfold Mid; omega)
      obtain ⟨a7, l7, c7, rfl, HL7, hl7⟩ := hi7.shape
      go_upto_region 9 with fail
      have b8 := Blk2.alloc w7 (.int .i64 p') (.slice a7 l7 c7) 25
      have n8 := New.alloc w7 (.cells #[.int .i64 p', .slice a7 l7 c7] 25)
      obtain ⟨w8, hw8⟩ : ∃ w8, w8 = w7.alloc (.cells #[.int .i64 p', .slice a7 l7 c7] 25) := ⟨_, rfl⟩
      rw [← hw8] at b8 n8
      rw [← hw8]
      clear hw8
      have n78 := hn7.trans n8
      have H8 := Lib.hid (And.intro (hi7.new n8) (And.intro hq7' n78))
      obtain ⟨d0, d1, _, _⟩ := b8.cells
      clear ho7 hf7 hq7' hsm hi7 hn7 n8 n78 q0 q1 ck0
      go_wp2_with fail
      refine (implWeightsOf_any p' _ dual _ H8.out.1).mono ?_
      rintro e w9 ⟨u, other, rfl, ho, hf, hqo, hn9⟩
      have hsm := hqo.small
      have hi9 := ho.isI (by unfold Mid; omega)
      obtain ⟨a9, l9, c9, rfl, HL9, hl9⟩ := hi9.shape
      have n69 := H8.out.2.2.trans hn9
      have b9 := Lib.hid ((H2.out.2.2.new H6.out.2.1).new n69)
      have H9 := Lib.hid (And.intro hqo (And.intro hi9 n69))
      have HI9 := Lib.hid (HI.out.new n69)
      obtain ⟨bz, oz, rfl, ckz⟩ := HI9.out.at hl30
      rw [HV.out.2.2.2.2.2.2.1, Nat.add_zero] at ckz
      have HZ := Lib.hid ckz
      clear ho hf hqo hn9 hi9 hsm n69 ckz d0 d1 b8
      go_wp2_with fail
      have hfin : ok = true → l9 = m + 1 ∧ ∀ j, j ≤ m → 0 ≤ gi other j ∧ gi other j ≤ 2401 ∧ gi other j * (A : Int) = sumZ (fun i => gi out i * kraw q m j i) (m + 1) := fun hok => by
        obtain ⟨-, -, hv, hc, hlt, -, -, hA⟩ := HV.out
        obtain ⟨checks, hnul, hyes, hnot⟩ := H8.out.2.1.yes hv
        have hin : inB checks.length 1 4 = true := by
          cases hb : inB checks.length 1 4 with
          | true => rfl
          | false => have := (hnot hb).2.2; rw [hok] at this; cases this
        obtain ⟨rfl, rfl, -⟩ := hyes hin
        have hin' := inB_iff.1 hin
        obtain ⟨ra, hra, rfl⟩ := hnul.at hc.tab
        have hdual := hc.dual hra (by omega) (by omega)
        have he := H9.out.1.1 hdual.valid
        rw [Int.toNat_natCast, hdual.tab.cols] at he
        have h9 : l9 = m + 1 := by rw [HL9.out, he, wtsTo_length]
        refine ⟨h9, fun j hj => ?_⟩
        have hr := wtsTo_range q m (nlTo q m ra m) (q ^ (nlTo q m ra m).length) j (by omega)
        have hp := pow_all (q := q) hq7 hdual.r4
        have hd := hc.dual_law hra (by omega) (by omega) hj
        rw [he, hlt, hA, HLL.out]
        exact ⟨hr.1, by omega, hd⟩
      have HF := Lib.hid hfin
      clear hfin
      go_loopw [9] (fun t9 wr => ∃ t : Nat, t9 = .int .i64 t ∧ t ≤ l9 ∧ Hid (New w9 wr)) (fun t9 _ => l9 - (intOf t9).toNat)
      case atStart => exact ⟨0, rfl, Nat.zero_le _, Chg.refl _ _⟩
      case round =>
        obtain ⟨t, rfl, ht, HN⟩ := hrel
        obtain ⟨wy, hwy⟩ : ∃ wy : World, wy = wr := ⟨_, rfl⟩
        rw [← hwy] at HN
        rw [← hwy]
        clear hwy
        by_cases ht9 : t < l9
        · cases ok with
          | false =>
            have ckz := HN.out.cellNew HZ.out
            go_wp2_with fail
            refine (lawTotal_any _ out _ (HI9.out.new HN.out) (by rw [HV.out.1]; omega) HV.out.2.1).mono ?_
            rintro e w' ⟨rfl, rfl⟩
            rw [HV.out.2.2.2.2.2.1]
            go_wp2_with fail
            go_ret
            exact ⟨ret_bool (by first | rfl | (simp; done) | (simp; omega)), H2.out.2.1.trans (H6.out.2.1.trans (H9.out.2.2.trans HN.out))⟩
          | true =>
            obtain ⟨h9m, hj⟩ := HF.out rfl
            have htm : t ≤ m := by omega
            obtain ⟨hx0, hx1, hxa⟩ := hj t htm
            obtain ⟨b, o, rfl, ckk⟩ := (H9.out.2.1.new HN.out).at ht9
            obtain ⟨x, hx⟩ : ∃ x, x = gi other t := ⟨_, rfl⟩
            rw [← hx] at ckk hx0 hx1 hxa
            obtain ⟨xa, hxe⟩ : ∃ xa, xa = x * (A : Int) := ⟨_, rfl⟩
            have hlo : 0 ≤ xa := by rw [hxe]; exact Int.mul_nonneg hx0 (by omega)
            have hhi : xa ≤ 2401 * 2401 := by rw [hxe]; exact Int.mul_le_mul hx1 (by omega) (by omega) (by omega)
            rw [← hxe] at hxa
            have HX := Lib.hid hxa
            have hmul : x * (A : Int) = xa := hxe.symm
            have hwr : IntKind.i64.wrap xa = xa := IntWalk.i64_in _ (by omega)
            clear hx hxe h9m hj hxa
            go_upto_region 13 with fail
            refine wp_region_held_drew (S := fun w' => New wy w') (by kernel_rfl) (New.drew _) (fun hY => ?_)
            refine held_take 0 (some 53) rfl rfl (by kernel_rfl) (by kernel_rfl) (by kernel_rfl) (fun _ _ _ h => h) rfl hY (v := ?_) (fun w' hS => by skip; go_simp; try with_reducible rfl) ?_
            simp only [Act.put, List.setIfInBounds_toArray, List.set_cons_zero, List.set_cons_succ]
            refine held_take 1 (some 54) rfl rfl (by kernel_rfl) (by kernel_rfl) (by kernel_rfl) (fun _ _ _ h => h) rfl hY (v := ?_) (fun w' hS => by skip; go_simp; try with_reducible rfl) ?_
            simp only [Act.put, List.setIfInBounds_toArray, List.set_cons_zero, List.set_cons_succ]
            refine held_take 2 (some 55) rfl rfl (by kernel_rfl) (by kernel_rfl) (by kernel_rfl) (fun _ _ _ h => h) rfl hY (v := ?_) (fun w' hS => by skip; go_simp; try with_reducible rfl) ?_
            simp only [Act.put, List.setIfInBounds_toArray, List.set_cons_zero, List.set_cons_succ]
            refine held_take 3 (some 56) rfl rfl (by kernel_rfl) (by kernel_rfl) (by kernel_rfl) (fun _ _ _ h => h) rfl hY (v := .int .i64 x) (fun w' hS => by obtain ⟨q0, q1, _, _⟩ := (b9.out.new (HN.out.trans hS)).cells; have ckk := hS.cellNew ckk; go_simp; try with_reducible rfl) ?_
            simp only [Act.put, List.setIfInBounds_toArray, List.set_cons_zero, List.set_cons_succ]
            refine held_take 4 (some 57) rfl rfl (by kernel_rfl) (by kernel_rfl) (by kernel_rfl) (fun _ _ _ h => h) rfl hY (v := ?_) (fun w' hS => by skip; go_simp; try with_reducible rfl) ?_
            simp only [Act.put, List.setIfInBounds_toArray, List.set_cons_zero, List.set_cons_succ]
            refine held_take 5 (some 58) rfl rfl (by kernel_rfl) (by kernel_rfl) (by kernel_rfl) (fun _ _ _ h => h) rfl hY (v := .int .i64 xa) (fun w' hS => by skip; go_simp; try with_reducible rfl) ?_
            simp only [Act.put, List.setIfInBounds_toArray, List.set_cons_zero, List.set_cons_succ]
            refine held_take 6 (some 59) rfl rfl (by kernel_rfl) (by kernel_rfl) (by kernel_rfl) (fun _ _ _ h => h) rfl hY (v := ?_) (fun w' hS => by skip; go_simp; try with_reducible rfl) ?_
            simp only [Act.put, List.setIfInBounds_toArray, List.set_cons_zero, List.set_cons_succ]
            refine held_take 7 (some 60) rfl rfl (by kernel_rfl) (by kernel_rfl) (by kernel_rfl) (fun _ _ _ h => h) rfl hY (v := .int .i64 q) (fun w' hS => by obtain ⟨q0, q1, _, _⟩ := (b9.out.new (HN.out.trans hS)).cells; have ckk := hS.cellNew ckk; go_simp; try with_reducible rfl) ?_
            simp only [Act.put, List.setIfInBounds_toArray, List.set_cons_zero, List.set_cons_succ]
            refine held_take 8 (some 61) rfl rfl (by kernel_rfl) (by kernel_rfl) (by kernel_rfl) (fun _ _ _ h => h) rfl hY (v := ?_) (fun w' hS => by skip; go_simp; try with_reducible rfl) ?_
            simp only [Act.put, List.setIfInBounds_toArray, List.set_cons_zero, List.set_cons_succ]
            refine held_take 9 (some 62) rfl rfl (by kernel_rfl) (by kernel_rfl) (by kernel_rfl) (fun _ _ _ h => h) rfl hY (v := ?_) (fun w' hS => by skip; go_simp; try with_reducible rfl) ?_
            simp only [Act.put, List.setIfInBounds_toArray, List.set_cons_zero, List.set_cons_succ]
            refine held_only 10 (by kernel_rfl) rfl rfl (fun K1 hK1 => ?_)
            go_simp
            refine (lawTurned_any q m t _ out _ (HI9.out.new (HN.out.trans (New.drew _))) HV.out.1 hm7 htm ⟨hq2, hq7⟩ HV.out.2.1).mono ?_
            rintro e w' ⟨rfl, rfl⟩
            rw [← HX.out]
            have hnc := Chg.refl (fun _ => False) wy.drew
            refine hK1.out _ _ (hY.trans hnc) (fun hY1 => ?_)
            clear hK1 K1
            refine held_take 11 (some 64) rfl rfl (by kernel_rfl) (by kernel_rfl) (by kernel_rfl) (fun _ _ _ h => h) rfl hY1 (v := .bool false) (fun w' hS => by skip; go_simp; try with_reducible rfl) ?_
            simp only [Act.put, List.setIfInBounds_toArray, List.set_cons_zero, List.set_cons_succ]
            refine wpAnyH_done (by kernel_rfl) ?_ _
            go_wp2_with fail
            go_roundw
            case rel => exact ⟨t + 1, by go_num, by omega, HN.out.trans hY1⟩
            case measure => simp [intOf]; omega
        · obtain rfl : t = l9 := by omega
          have ckz := HN.out.cellNew HZ.out
          go_wp2_with fail
          refine (lawTotal_any _ out _ (HI9.out.new HN.out) (by rw [HV.out.1]; omega) HV.out.2.1).mono ?_
          rintro e w' ⟨rfl, rfl⟩
          rw [HV.out.2.2.2.2.2.1]
          go_wp2_with fail
          go_ret
          exact ⟨ret_bool (by first | rfl | (simp; done) | (simp; omega)), H2.out.2.1.trans (H6.out.2.1.trans (H9.out.2.2.trans HN.out))⟩
end Go.Proofs.Ytmehgchmnnbkfaa
