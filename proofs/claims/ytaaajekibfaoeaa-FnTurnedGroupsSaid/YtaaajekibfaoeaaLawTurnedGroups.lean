/- The walk of FnTurnedGroups. -/
import Derived.Test.YtaaajekibfaoeaaSchX
import Derived.Test.YtaaajekibfaoeaaSchB
import Derived.Test.YtaaajekibfaoeaaLawF
import Derived.Test.YtaaajekibfaoeaaLawE
namespace Go.Proofs.Ytaaajekibfaoeaa
open Go.RowKit Mat
set_option linter.unusedVariables false

set_option maxRecDepth 100000 in
set_option maxHeartbeats 8000000 in
theorem lawTurnedGroups_any (v : Value) (n : Nat) (w : World) (hb : RawB w v n) :
    Calls Try.prog 9 #[v] w fun e w' => e = .returned (.bool true) ∧ New w w' := by
  obtain ⟨ao, cap, rfl, hcap, hmx, -⟩ := id hb
  unfold maxLen at hmx
  have HB := Lib.hid hb
  clear hb
  by_cases hbig : 1048576 < n
  · go_enter Try.func9, Try.ntmps9
    go_wp2_with fail
    go_ret
    exact ⟨rfl, Chg.refl _ _⟩
  · go_enter Try.func9, Try.ntmps9
    go_wp2_with fail
    refine (drawTurnedGroups_any _ _ _ HB.out).mono ?_
    rintro e w1 ⟨p, a, l, c, a2, l2, c2, rows, own, rfl, hr, ho, hk, hol, hp, hn1⟩
    go_upto_region 4 with fail
    have b2 := Blk3.alloc w1 (.int .i64 p) (.slice a l c) (.slice a2 l2 c2) 43
    have n2 := New.alloc w1 (.cells #[.int .i64 p, .slice a l c, .slice a2 l2 c2] 43)
    obtain ⟨w2, hw2⟩ : ∃ w2, w2 = w1.alloc (.cells #[.int .i64 p, .slice a l c, .slice a2 l2 c2] 43) := ⟨_, rfl⟩
    rw [← hw2] at b2 n2
    rw [← hw2]
    clear hw2
    have H2 := Lib.hid (And.intro (hr.new n2) (And.intro (ho.new n2) (And.intro (hn1.trans n2) b2)))
    obtain ⟨q0, q1, q2, _, _, _⟩ := b2.cells
    clear hr ho hn1 b2 n2 hk hol
    go_wp2_with fail
    refine (implTurnedGroups_any p _ _ rows own _ H2.out.1 H2.out.2.1).mono ?_
    rintro e w3 ⟨u, out, rfl, ho, hf, hq, hn3⟩
    have hsm := hq.small
    have hi3 := ho.isI (by unfold Mid; omega)
    obtain ⟨a3, l3, c3, rfl, HL3, hl3⟩ := hi3.shape
    have H3 := Lib.hid (And.intro hq (And.intro hn3 hi3))
    replace q0 := hn3.cellNew q0
    replace q1 := hn3.cellNew q1
    replace q2 := hn3.cellNew q2
    clear ho hf hq hn3 hi3 hsm
    go_wp2_with fail
    refine (specTurnedGroups_any p _ _ rows own _ (H2.out.1.new H3.out.2.1) (H2.out.2.1.new H3.out.2.1)).mono ?_
    rintro e w4 ⟨u, out4, rfl, ho, hf, hq, hn4⟩
    obtain rfl := H3.out.1.unique hq
    have hsm := hq.small
    have hi4 := ho.isI (by unfold Mid; omega)
    obtain ⟨a4, l4, c4, rfl, HL4, hl4⟩ := hi4.shape
    have H4 := Lib.hid (And.intro hi4 hn4)
    replace q0 := hn4.cellNew q0
    replace q1 := hn4.cellNew q1
    replace q2 := hn4.cellNew q2
    clear ho hf hq hn4 hi4 hsm
    go_wp2_with fail
    refine (equalInts_any _ _ out out _ (H3.out.2.2.new H4.out.2) H4.out.1).mono ?_
    rintro e w5 ⟨rfl, m5, rfl⟩
    rw [eqL_self]
    have H5 := Lib.hid (New.drewN w4 m5)
    replace q0 := H5.out.cellNew q0
    replace q1 := H5.out.cellNew q1
    replace q2 := H5.out.cellNew q2
    obtain ⟨w5, hw5⟩ : ∃ w5, w5 = w4.drewN m5 := ⟨_, rfl⟩
    rw [← hw5] at H5 q0 q1 q2
    rw [← hw5]
    clear hw5
    go_wp2_with fail
    refine (implValidScheme_any p _ _ rows own _ (H2.out.1.new (H3.out.2.1.trans (H4.out.2.trans H5.out))) (H2.out.2.1.new (H3.out.2.1.trans (H4.out.2.trans H5.out)))).mono ?_
    rintro e w6 ⟨z, rfl, hz, hn6⟩
    have H6 := Lib.hid (And.intro hz (And.intro (H3.out.2.1.trans (H4.out.2.trans (H5.out.trans hn6))) (H4.out.2.trans (H5.out.trans hn6))))
    replace q0 := hn6.cellNew q0
    replace q1 := hn6.cellNew q1
    replace q2 := hn6.cellNew q2
    clear hz hn6
    cases z with
    | false =>
      go_wp2_with fail
      refine (specTurnedGroups_any p _ _ rows own _ (H2.out.1.new H6.out.2.1) (H2.out.2.1.new H6.out.2.1)).mono ?_
      rintro e w7 ⟨u, out7, rfl, ho, hf, hq, hn7⟩
      obtain rfl := H3.out.1.unique hq
      have hsm := hq.small
      have hi7 := ho.isI (by unfold Mid; omega)
      obtain ⟨a7, l7, c7, rfl, HL7, hl7⟩ := hi7.shape
      have H7 := Lib.hid (And.intro hi7 hn7)
      clear ho hf hq hn7 hi7 hsm
      go_wp2_with fail
      refine (equalInts_any _ _ out out _ (H3.out.2.2.new (H6.out.2.2.trans H7.out.2)) H7.out.1).mono ?_
      rintro e w8 ⟨rfl, m8, rfl⟩
      rw [eqL_self]
      go_wp2_with fail
      go_ret
      exact ⟨rfl, H2.out.2.2.1.trans (H6.out.2.1.trans (H7.out.2.trans (New.drewN _ _)))⟩
    | true =>
      have hv := H6.out.1.1 rfl
      obtain ⟨q, hnz, rfl, hlt⟩ := H3.out.1.1 hv
      haveI := hnz
      have HV := Lib.hid hv
      have HT := Lib.hid (vtB_ok hv.1)
      have HLT := Lib.hid hlt
      have HI := Lib.hid (H3.out.2.2.new H6.out.2.2)
      clear hv hlt
      go_wp2_with fail
      refine (implGroupsOf_any q _ _ rows own _ (H2.out.1.new H6.out.2.1) (H2.out.2.1.new H6.out.2.1)).mono ?_
      rintro e w9 ⟨u, list, rfl, ho, hf, hq9, hn9⟩
      have hsm := hq9.small
      have hi9 := ho.isI (by unfold Mid; omega)
      obtain ⟨a9, l9, c9, rfl, HL9, hl9⟩ := hi9.shape
      obtain ⟨q', hnz', eq', hlt9⟩ := hq9.1 HV.out
      obtain rfl : q = q' := by omega
      have hq2 : 2 ≤ q := by have := HT.out.pr; unfold Pr at this; omega
      have HM := Lib.hid (groups_meet hq2 HT.out.n1 (fun j hj => HV.out.2.2 j (by rw [HV.out.2.1]; exact hj)) HLT.out hlt9)
      have HI9 := Lib.hid hi9
      have HBL := Lib.hid ((H2.out.2.2.2.new H6.out.2.1).new hn9)
      have HN9 := Lib.hid hn9
      clear ho hf hq9 hsm hi9 hn9 eq' hlt9 q0 q1 q2
      go_wp2_with (go_at_call 35; refine (lawPower_any 5 _ (by omega)).mono ?_; rintro e w' ⟨rfl, rfl⟩; rw [show ((2 ^ 5 : Nat) : Int) = 32 from rfl])
      go_loopw [7] (fun t7 wr => ∃ t : Nat, t7 = .int .i64 t ∧ t ≤ l3 ∧ Hid (New w9 wr)) (fun t7 _ => l3 - (intOf t7).toNat)
      case atStart => exact ⟨0, rfl, Nat.zero_le _, Chg.refl _ _⟩
      case round =>
        obtain ⟨t, rfl, ht, HN0⟩ := hrel
        obtain ⟨wy, hwy⟩ : ∃ wy : World, wy = wr := ⟨_, rfl⟩
        rw [← hwy] at HN0
        rw [← hwy]
        clear hwy
        by_cases ht3 : t < l3
        · obtain ⟨s, es, hs32, hH, hless⟩ := HM.out.1 t (by rw [← HL3.out]; exact ht3)
          obtain ⟨b, o, rfl, ckk⟩ := (HI.out.new HN9.out).at ht3
          rw [es] at ckk
          obtain ⟨r, hr⟩ : ∃ r, r = 31 - s := ⟨_, rfl⟩
          rw [← hr] at hH
          have hsub : (31 : Int) - (s : Int) = (r : Int) := by omega
          have hr32 : r < 32 := by omega
          have hwr : IntKind.i64.wrap (r : Int) = (r : Int) := IntWalk.i64_in _ (by omega)
          have HH := Lib.hid hH
          have HLS := Lib.hid hless
          have CK0 := Lib.hid ckk
          have CK := Lib.hid (HN0.out.cellNew ckk)
          have HN := Lib.hid (HN9.out.trans HN0.out)
          have HBL0 := HBL
          clear HBL
          have HBL := Lib.hid (H2.out.2.2.2.new H6.out.2.1)
          clear es hH hless ckk hr
          have cko := CK.out
          go_upto_region 12 with fail
          clear cko
          refine wp_region_held_drew (S := fun w' => New wy w') (by kernel_rfl) (New.drew _) (fun hY => ?_)
          refine held_take 0 (some 40) rfl rfl (by kernel_rfl) (by kernel_rfl) (by kernel_rfl) (fun _ _ _ h => h) rfl hY (v := .agg #[.int .i64 q, .slice a l c, .slice a2 l2 c2]) (fun w' hS => by obtain ⟨q0, q1, q2, _, _, _⟩ := (HBL.out.new (HN.out.trans hS)).cells; have cko := hS.cellNew CK.out; go_simp; try with_reducible rfl) ?_
          simp only [Act.put, List.setIfInBounds_toArray, List.set_cons_zero, List.set_cons_succ]
          refine held_take 1 (some 41) rfl rfl (by kernel_rfl) (by kernel_rfl) (by kernel_rfl) (fun _ _ _ h => h) rfl hY (v := ?_) (fun w' hS => by skip; go_simp; try with_reducible rfl) ?_
          simp only [Act.put, List.setIfInBounds_toArray, List.set_cons_zero, List.set_cons_succ]
          refine held_take 2 (some 42) rfl rfl (by kernel_rfl) (by kernel_rfl) (by kernel_rfl) (fun _ _ _ h => h) rfl hY (v := ?_) (fun w' hS => by skip; go_simp; try with_reducible rfl) ?_
          simp only [Act.put, List.setIfInBounds_toArray, List.set_cons_zero, List.set_cons_succ]
          refine held_take 3 (some 43) rfl rfl (by kernel_rfl) (by kernel_rfl) (by kernel_rfl) (fun _ _ _ h => h) rfl hY (v := ?_) (fun w' hS => by skip; go_simp; try with_reducible rfl) ?_
          simp only [Act.put, List.setIfInBounds_toArray, List.set_cons_zero, List.set_cons_succ]
          refine held_take 4 (some 44) rfl rfl (by kernel_rfl) (by kernel_rfl) (by kernel_rfl) (fun _ _ _ h => h) rfl hY (v := ?_) (fun w' hS => by skip; go_simp; try with_reducible rfl) ?_
          simp only [Act.put, List.setIfInBounds_toArray, List.set_cons_zero, List.set_cons_succ]
          refine held_take 5 (some 45) rfl rfl (by kernel_rfl) (by kernel_rfl) (by kernel_rfl) (fun _ _ _ h => h) rfl hY (v := .int .i64 s) (fun w' hS => by obtain ⟨q0, q1, q2, _, _, _⟩ := (HBL.out.new (HN.out.trans hS)).cells; have cko := hS.cellNew CK.out; go_simp; try with_reducible rfl) ?_
          simp only [Act.put, List.setIfInBounds_toArray, List.set_cons_zero, List.set_cons_succ]
          refine held_take 6 (some 46) rfl rfl (by kernel_rfl) (by kernel_rfl) (by kernel_rfl) (fun _ _ _ h => h) rfl hY (v := .int .i64 r) (fun w' hS => by skip; go_simp; try (first | (with_reducible rfl) | exact hwr | (rw [hsub]; done) | (simp [hsub]; done))) ?_
          simp only [Act.put, List.setIfInBounds_toArray, List.set_cons_zero, List.set_cons_succ]
          refine held_only 7 (by kernel_rfl) rfl rfl (fun K1 hK1 => ?_)
          go_simp
          refine (doesKnow_valid q _ _ rows own r _ (H2.out.1.new (H6.out.2.1.trans (HN.out.trans hY))) (H2.out.2.1.new (H6.out.2.1.trans (HN.out.trans hY))) HV.out hr32).mono ?_
          rintro e wk ⟨bk, rfl, hbk, hnk⟩
          obtain rfl : bk = false := by
            cases bk with
            | true => exact absurd (hbk.1 rfl) HH.out
            | false => rfl
          clear hbk
          refine hK1.out _ _ (hY.trans hnk) (fun hY1 => ?_)
          clear hK1 K1
          refine wpAnyH_done (by kernel_rfl) ?_ _
          clear HH
          go_wp2_with fail
          go_loopw [8] (fun t8 wr => ∃ x : Nat, t8 = .int .i64 x ∧ x ≤ l9 ∧ Hid (New w9 wr)) (fun t8 _ => l9 - (intOf t8).toNat)
          case atStart => exact ⟨0, rfl, Nat.zero_le _, HN0.out.trans hY1⟩
          case round =>
            clear HN HN0 CK hY hY1 HBL
            obtain ⟨x, rfl, hx, HN0⟩ := hrel
            obtain ⟨wv, hwv⟩ : ∃ wv : World, wv = wr := ⟨_, rfl⟩
            rw [← hwv] at HN0
            rw [← hwv]
            clear hwv
            obtain ⟨wy, hwy⟩ : ∃ wy : World, wy = wv := ⟨_, rfl⟩
            rw [← hwy] at HN0
            rw [← hwy]
            clear hwy
            have CK := Lib.hid (HN0.out.cellNew CK0.out)
            by_cases hx9 : x < l9
            · obtain ⟨g, eg, hg32, hgs⟩ := HLS.out x (by rw [← HL9.out]; exact hx9)
              obtain ⟨b1, o1, rfl, ckj⟩ := HI9.out.at hx9
              rw [eg] at ckj
              have hand := and_i64 g (by omega) s (by omega)
              obtain ⟨h, hh⟩ : ∃ h, h = g &&& s := ⟨_, rfl⟩
              rw [← hh] at hand hgs
              have CJ := Lib.hid (HN0.out.cellNew ckj)
              have cko := CK.out
              have ckj' := CJ.out
              clear eg ckj hh
              go_upto_region 17 with fail
              clear cko ckj'
              refine wp_region_held_drew (S := fun w' => New wy w') (by kernel_rfl) (New.drew _) (fun hY => ?_)
              refine held_take 0 (some 54) rfl rfl (by kernel_rfl) (by kernel_rfl) (by kernel_rfl) (fun _ _ _ h => h) rfl hY (v := ?_) (fun w' hS => by skip; go_simp; try with_reducible rfl) ?_
              simp only [Act.put, List.setIfInBounds_toArray, List.set_cons_zero, List.set_cons_succ]
              refine held_take 1 (some 55) rfl rfl (by kernel_rfl) (by kernel_rfl) (by kernel_rfl) (fun _ _ _ h => h) rfl hY (v := ?_) (fun w' hS => by skip; go_simp; try with_reducible rfl) ?_
              simp only [Act.put, List.setIfInBounds_toArray, List.set_cons_zero, List.set_cons_succ]
              refine held_take 2 (some 56) rfl rfl (by kernel_rfl) (by kernel_rfl) (by kernel_rfl) (fun _ _ _ h => h) rfl hY (v := ?_) (fun w' hS => by skip; go_simp; try with_reducible rfl) ?_
              simp only [Act.put, List.setIfInBounds_toArray, List.set_cons_zero, List.set_cons_succ]
              refine held_take 3 (some 57) rfl rfl (by kernel_rfl) (by kernel_rfl) (by kernel_rfl) (fun _ _ _ h => h) rfl hY (v := .int .i64 g) (fun w' hS => by have cko := hS.cellNew CK.out; have ckj := hS.cellNew CJ.out; go_simp; try with_reducible rfl) ?_
              simp only [Act.put, List.setIfInBounds_toArray, List.set_cons_zero, List.set_cons_succ]
              refine held_take 4 (some 58) rfl rfl (by kernel_rfl) (by kernel_rfl) (by kernel_rfl) (fun _ _ _ h => h) rfl hY (v := ?_) (fun w' hS => by skip; go_simp; try with_reducible rfl) ?_
              simp only [Act.put, List.setIfInBounds_toArray, List.set_cons_zero, List.set_cons_succ]
              refine held_take 5 (some 59) rfl rfl (by kernel_rfl) (by kernel_rfl) (by kernel_rfl) (fun _ _ _ h => h) rfl hY (v := ?_) (fun w' hS => by skip; go_simp; try with_reducible rfl) ?_
              simp only [Act.put, List.setIfInBounds_toArray, List.set_cons_zero, List.set_cons_succ]
              refine held_take 6 (some 60) rfl rfl (by kernel_rfl) (by kernel_rfl) (by kernel_rfl) (fun _ _ _ h => h) rfl hY (v := ?_) (fun w' hS => by skip; go_simp; try with_reducible rfl) ?_
              simp only [Act.put, List.setIfInBounds_toArray, List.set_cons_zero, List.set_cons_succ]
              refine held_take 7 (some 61) rfl rfl (by kernel_rfl) (by kernel_rfl) (by kernel_rfl) (fun _ _ _ h => h) rfl hY (v := .int .i64 s) (fun w' hS => by have cko := hS.cellNew CK.out; have ckj := hS.cellNew CJ.out; go_simp; try with_reducible rfl) ?_
              simp only [Act.put, List.setIfInBounds_toArray, List.set_cons_zero, List.set_cons_succ]
              refine held_take 8 (some 62) rfl rfl (by kernel_rfl) (by kernel_rfl) (by kernel_rfl) (fun _ _ _ h => h) rfl hY (v := .int .i64 h) (fun w' hS => by skip; go_simp; try (first | (with_reducible rfl) | (rw [hand]; done) | (simp [hand]; done))) ?_
              simp only [Act.put, List.setIfInBounds_toArray, List.set_cons_zero, List.set_cons_succ]
              refine held_take 9 (some 63) rfl rfl (by kernel_rfl) (by kernel_rfl) (by kernel_rfl) (fun _ _ _ h => h) rfl hY (v := .bool false) (fun w' hS => by skip; go_simp; try (first | (with_reducible rfl) | (simp; omega) | (simp; done))) ?_
              simp only [Act.put, List.setIfInBounds_toArray, List.set_cons_zero, List.set_cons_succ]
              refine wpAnyH_done (by kernel_rfl) ?_ _
              go_wp2_with fail
              go_roundw
              case rel => exact ⟨x + 1, by go_num, by omega, HN0.out.trans hY⟩
              case measure => simp [intOf]; omega
            · obtain rfl : x = l9 := by omega
              go_wp2_with fail
              go_roundw
              case rel => exact ⟨t + 1, by go_num, by omega, HN0.out⟩
              case measure => simp [intOf]; omega
        · obtain rfl : t = l3 := by omega
          have hl30 : 0 < t := by rw [HL3.out]; exact HM.out.2.1
          have hend := H2.out.2.2.1.trans (H6.out.2.1.trans (HN9.out.trans HN0.out))
          have HEND := Lib.hid hend
          clear hend
          by_cases hl0 : 0 < l9
          · go_wp2_with fail
            go_ret
            exact ⟨rfl, HEND.out⟩
          · obtain rfl : l9 = 0 := by omega
            have hout : out = [0] := by
              rcases HM.out.2.2 with h | h
              · rw [← HL9.out] at h; omega
              · exact h
            have HO1 := Lib.hid hout
            clear hout
            go_wp2_with fail
            refine (equalInts_any _ _ out [0] _ ((HI.out.new (HN9.out.trans HN0.out)).new (New.alloc _ _)) (IsI.lit wy 3 [0] (by simp))).mono ?_
            rintro e w5 ⟨rfl, m5, rfl⟩
            rw [HO1.out, eqL_self]
            go_wp2_with fail
            go_ret
            exact ⟨rfl, HEND.out.trans ((New.alloc _ _).trans (New.drewN _ _))⟩
end Go.Proofs.Ytaaajekibfaoeaa
