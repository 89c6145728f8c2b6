/- The walk of FnGroupsOf. -/
import Derived.Test.YtaaajekibfaoeaaSchX
import Derived.Test.YtaaajekibfaoeaaSchB
import Derived.Test.YtaaajekibfaoeaaLawF
import Derived.Test.YtaaajekibfaoeaaLawE
namespace Go.Proofs.Ytaaajekibfaoeaa
open Go.RowKit Mat
set_option linter.unusedVariables false

set_option maxRecDepth 100000 in
set_option maxHeartbeats 8000000 in
theorem lawGroupsOf_any (v : Value) (n : Nat) (w : World) (hb : RawB w v n) :
    Calls Try.prog 6 #[v] w fun e w' => e = .returned (.bool true) ∧ New w w' := by
  obtain ⟨ao, cap, rfl, hcap, hmx, -⟩ := id hb
  unfold maxLen at hmx
  have HB := Lib.hid hb
  clear hb
  by_cases hbig : 1048576 < n
  · go_enter Try.func6, Try.ntmps6
    go_wp2_with fail
    go_ret
    exact ⟨rfl, Chg.refl _ _⟩
  · go_enter Try.func6, Try.ntmps6
    go_wp2_with fail
    refine (drawGroupsOf_any _ _ _ HB.out).mono ?_
    rintro e w1 ⟨p, a, l, c, a2, l2, c2, rows, own, rfl, hr, ho, hk, hol, hp, hn1⟩
    go_upto_region 4 with fail
    have b2 := Blk3.alloc w1 (.int .i64 p) (.slice a l c) (.slice a2 l2 c2) 43
    have n2 := New.alloc w1 (.cells #[.int .i64 p, .slice a l c, .slice a2 l2 c2] 43)
    obtain ⟨w2, hw2⟩ : ∃ w2, w2 = w1.alloc (.cells #[.int .i64 p, .slice a l c, .slice a2 l2 c2] 43) := ⟨_, rfl⟩
    rw [← hw2] at b2 n2
    rw [← hw2]
    clear hw2
    have H2 := Lib.hid (And.intro (hr.new n2) (And.intro (ho.new n2) (And.intro (hn1.trans n2) b2)))
    obtain ⟨q0, q1, q2, _, _, _⟩ := b2.cells
    clear hr ho hn1 b2 n2 hk hol
    go_wp2_with fail
    refine (implGroupsOf_any p _ _ rows own _ H2.out.1 H2.out.2.1).mono ?_
    rintro e w3 ⟨u, out, rfl, ho, hf, hq, hn3⟩
    have hsm := hq.small
    have hi3 := ho.isI (by unfold Mid; omega)
    obtain ⟨a3, l3, c3, rfl, HL3, hl3⟩ := hi3.shape
    have H3 := Lib.hid (And.intro hq (And.intro hn3 hi3))
    replace q0 := hn3.cellNew q0
    replace q1 := hn3.cellNew q1
    replace q2 := hn3.cellNew q2
    clear ho hf hq hn3 hi3 hsm
    go_wp2_with fail
    refine (specGroupsOf_any p _ _ rows own _ (H2.out.1.new H3.out.2.1) (H2.out.2.1.new H3.out.2.1)).mono ?_
    rintro e w4 ⟨u, out4, rfl, ho, hf, hq, hn4⟩
    obtain rfl := H3.out.1.unique hq
    have hsm := hq.small
    have hi4 := ho.isI (by unfold Mid; omega)
    obtain ⟨a4, l4, c4, rfl, HL4, hl4⟩ := hi4.shape
    have H4 := Lib.hid (And.intro hi4 hn4)
    replace q0 := hn4.cellNew q0
    replace q1 := hn4.cellNew q1
    replace q2 := hn4.cellNew q2
    clear ho hf hq hn4 hi4 hsm
    go_wp2_with fail
    refine (equalInts_any _ _ out out _ (H3.out.2.2.new H4.out.2) H4.out.1).mono ?_
    rintro e w5 ⟨rfl, m5, rfl⟩
    rw [eqL_self]
    have H5 := Lib.hid (New.drewN w4 m5)
    replace q0 := H5.out.cellNew q0
    replace q1 := H5.out.cellNew q1
    replace q2 := H5.out.cellNew q2
    obtain ⟨w5, hw5⟩ : ∃ w5, w5 = w4.drewN m5 := ⟨_, rfl⟩
    rw [← hw5] at H5 q0 q1 q2
    rw [← hw5]
    clear hw5
    go_wp2_with fail
    refine (implValidScheme_any p _ _ rows own _ (H2.out.1.new (H3.out.2.1.trans (H4.out.2.trans H5.out))) (H2.out.2.1.new (H3.out.2.1.trans (H4.out.2.trans H5.out)))).mono ?_
    rintro e w6 ⟨z, rfl, hz, hn6⟩
    have H6 := Lib.hid (And.intro hz (And.intro (H3.out.2.1.trans (H4.out.2.trans (H5.out.trans hn6))) (H4.out.2.trans (H5.out.trans hn6))))
    replace q0 := hn6.cellNew q0
    replace q1 := hn6.cellNew q1
    replace q2 := hn6.cellNew q2
    clear hz hn6
    cases z with
    | false =>
      go_wp2_with fail
      refine (specGroupsOf_any p _ _ rows own _ (H2.out.1.new H6.out.2.1) (H2.out.2.1.new H6.out.2.1)).mono ?_
      rintro e w7 ⟨u, out7, rfl, ho, hf, hq, hn7⟩
      obtain rfl := H3.out.1.unique hq
      have hsm := hq.small
      have hi7 := ho.isI (by unfold Mid; omega)
      obtain ⟨a7, l7, c7, rfl, HL7, hl7⟩ := hi7.shape
      have H7 := Lib.hid (And.intro hi7 hn7)
      clear ho hf hq hn7 hi7 hsm
      go_wp2_with fail
      refine (equalInts_any _ _ out out _ (H3.out.2.2.new (H6.out.2.2.trans H7.out.2)) H7.out.1).mono ?_
      rintro e w8 ⟨rfl, m8, rfl⟩
      rw [eqL_self]
      go_wp2_with fail
      go_ret
      exact ⟨rfl, H2.out.2.2.1.trans (H6.out.2.1.trans (H7.out.2.trans (New.drewN _ _)))⟩
    | true =>
      have hv := H6.out.1.1 rfl
      obtain ⟨q, hnz, rfl, hlt⟩ := H3.out.1.1 hv
      haveI := hnz
      have HLL := Lib.hid (fun j (hj : j < out.length) => least_less hlt hj)
      have HV := Lib.hid hv
      have HBL := Lib.hid (H2.out.2.2.2.new H6.out.2.1)
      have HI := Lib.hid (H3.out.2.2.new H6.out.2.2)
      clear hv hlt q0 q1 q2
      go_wp2_with fail
      go_loopw [5] (fun t5 wr => ∃ t : Nat, t5 = .int .i64 t ∧ t ≤ l3 ∧ Hid (New w6 wr)) (fun t5 _ => l3 - (intOf t5).toNat)
      case atStart => exact ⟨0, rfl, Nat.zero_le _, Chg.refl _ _⟩
      case round =>
        obtain ⟨t, rfl, ht, HN⟩ := hrel
        obtain ⟨wy, hwy⟩ : ∃ wy : World, wy = wr := ⟨_, rfl⟩
        rw [← hwy] at HN
        rw [← hwy]
        clear hwy
        by_cases ht3 : t < l3
        · obtain ⟨s, es, hs32, hH, hless⟩ := HLL.out t (by rw [← HL3.out]; exact ht3)
          obtain ⟨b, o, rfl, ckk⟩ := HI.out.at ht3
          rw [es] at ckk
          have HH := Lib.hid hH
          have HLS := Lib.hid hless
          have CK0 := Lib.hid ckk
          have CK := Lib.hid (HN.out.cellNew ckk)
          clear es hH hless ckk
          have cko := CK.out
          go_upto_region 10 with fail
          clear cko
          refine wp_region_held_drew (S := fun w' => New wy w') (by kernel_rfl) (New.drew _) (fun hY => ?_)
          refine held_take 0 (some 34) rfl rfl (by kernel_rfl) (by kernel_rfl) (by kernel_rfl) (fun _ _ _ h => h) rfl hY (v := .agg #[.int .i64 q, .slice a l c, .slice a2 l2 c2]) (fun w' hS => by obtain ⟨q0, q1, q2, _, _, _⟩ := (HBL.out.new (HN.out.trans hS)).cells; have cko := hS.cellNew CK.out; go_simp; try with_reducible rfl) ?_
          simp only [Act.put, List.setIfInBounds_toArray, List.set_cons_zero, List.set_cons_succ]
          refine held_take 1 (some 35) rfl rfl (by kernel_rfl) (by kernel_rfl) (by kernel_rfl) (fun _ _ _ h => h) rfl hY (v := ?_) (fun w' hS => by skip; go_simp; try with_reducible rfl) ?_
          simp only [Act.put, List.setIfInBounds_toArray, List.set_cons_zero, List.set_cons_succ]
          refine held_take 2 (some 36) rfl rfl (by kernel_rfl) (by kernel_rfl) (by kernel_rfl) (fun _ _ _ h => h) rfl hY (v := ?_) (fun w' hS => by skip; go_simp; try with_reducible rfl) ?_
          simp only [Act.put, List.setIfInBounds_toArray, List.set_cons_zero, List.set_cons_succ]
          refine held_take 3 (some 37) rfl rfl (by kernel_rfl) (by kernel_rfl) (by kernel_rfl) (fun _ _ _ h => h) rfl hY (v := ?_) (fun w' hS => by skip; go_simp; try with_reducible rfl) ?_
          simp only [Act.put, List.setIfInBounds_toArray, List.set_cons_zero, List.set_cons_succ]
          refine held_take 4 (some 38) rfl rfl (by kernel_rfl) (by kernel_rfl) (by kernel_rfl) (fun _ _ _ h => h) rfl hY (v := .int .i64 s) (fun w' hS => by obtain ⟨q0, q1, q2, _, _, _⟩ := (HBL.out.new (HN.out.trans hS)).cells; have cko := hS.cellNew CK.out; go_simp; try with_reducible rfl) ?_
          simp only [Act.put, List.setIfInBounds_toArray, List.set_cons_zero, List.set_cons_succ]
          refine held_only 5 (by kernel_rfl) rfl rfl (fun K1 hK1 => ?_)
          go_simp
          refine (doesKnow_valid q _ _ rows own s _ (H2.out.1.new (H6.out.2.1.trans (HN.out.trans hY))) (H2.out.2.1.new (H6.out.2.1.trans (HN.out.trans hY))) HV.out hs32).mono ?_
          rintro e w9 ⟨bk, rfl, hbk, hn9⟩
          obtain rfl : bk = true := by
            cases bk with
            | true => first | rfl | exact absurd (hbk.1 rfl) HH.out
            | false => first | rfl | (have := hbk.2 HH.out; cases this)
          clear hbk
          refine hK1.out _ _ (hY.trans hn9) (fun hY1 => ?_)
          clear hK1 K1
          refine held_take 6 (some 40) rfl rfl (by kernel_rfl) (by kernel_rfl) (by kernel_rfl) (fun _ _ _ h => h) rfl hY1 (v := .bool false) (fun w' hS => by skip; go_simp; try with_reducible rfl) ?_
          simp only [Act.put, List.setIfInBounds_toArray, List.set_cons_zero, List.set_cons_succ]
          refine wpAnyH_done (by kernel_rfl) ?_ _
          clear HH
          go_wp2_with fail
          go_loopw [6] (fun t6 wr => ∃ x : Nat, t6 = .int .i64 x ∧ x ≤ 5 ∧ Hid (New w6 wr)) (fun t6 _ => 5 - (intOf t6).toNat)
          case atStart => exact ⟨0, rfl, Nat.zero_le _, HN.out.trans hY1⟩
          case round =>
            clear HN CK hY hY1
            obtain ⟨x, rfl, hx, HN⟩ := hrel
            obtain ⟨wv, hwv⟩ : ∃ wv : World, wv = wr := ⟨_, rfl⟩
            rw [← hwv] at HN
            rw [← hwv]
            clear hwv
            obtain ⟨wy, hwy⟩ : ∃ wy : World, wy = wv := ⟨_, rfl⟩
            rw [← hwy] at HN
            rw [← hwy]
            clear hwy
            have CK := Lib.hid (HN.out.cellNew CK0.out)
            by_cases hx5 : x < 5
            · rcases (show bitN s x = 0 ∨ bitN s x = 1 by unfold bitN; omega) with hb | hb
              · have HB := Lib.hid hb
                clear hb
                go_upto_region 15 with fail
                refine wp_region_held_drew (S := fun w' => New wy w') (by kernel_rfl) (New.drew _) (fun hY => ?_)
                refine held_take 0 (some 45) rfl rfl (by kernel_rfl) (by kernel_rfl) (by kernel_rfl) (fun _ _ _ h => h) rfl hY (v := ?_) (fun w' hS => by skip; go_simp; try with_reducible rfl) ?_
                simp only [Act.put, List.setIfInBounds_toArray, List.set_cons_zero, List.set_cons_succ]
                refine held_take 1 (some 46) rfl rfl (by kernel_rfl) (by kernel_rfl) (by kernel_rfl) (fun _ _ _ h => h) rfl hY (v := ?_) (fun w' hS => by skip; go_simp; try with_reducible rfl) ?_
                simp only [Act.put, List.setIfInBounds_toArray, List.set_cons_zero, List.set_cons_succ]
                refine held_take 2 (some 47) rfl rfl (by kernel_rfl) (by kernel_rfl) (by kernel_rfl) (fun _ _ _ h => h) rfl hY (v := ?_) (fun w' hS => by skip; go_simp; try with_reducible rfl) ?_
                simp only [Act.put, List.setIfInBounds_toArray, List.set_cons_zero, List.set_cons_succ]
                refine held_take 3 (some 48) rfl rfl (by kernel_rfl) (by kernel_rfl) (by kernel_rfl) (fun _ _ _ h => h) rfl hY (v := .int .i64 s) (fun w' hS => by obtain ⟨q0, q1, q2, _, _, _⟩ := (HBL.out.new (HN.out.trans hS)).cells; have cko := hS.cellNew CK.out; go_simp; try with_reducible rfl) ?_
                simp only [Act.put, List.setIfInBounds_toArray, List.set_cons_zero, List.set_cons_succ]
                refine held_take 4 (some 49) rfl rfl (by kernel_rfl) (by kernel_rfl) (by kernel_rfl) (fun _ _ _ h => h) rfl hY (v := ?_) (fun w' hS => by skip; go_simp; try with_reducible rfl) ?_
                simp only [Act.put, List.setIfInBounds_toArray, List.set_cons_zero, List.set_cons_succ]
                refine held_only 5 (by kernel_rfl) rfl rfl (fun K1 hK1 => ?_)
                go_simp
                refine (lawBit_any s x _ (by omega) (by omega)).mono ?_
                rintro e w' ⟨rfl, rfl⟩
                rw [HB.out]
                have hnb := Chg.refl (fun _ => False) wy.drew
                refine hK1.out _ _ (hY.trans hnb) (fun hY1 => ?_)
                clear hK1 K1
                refine held_take 6 (some 51) rfl rfl (by kernel_rfl) (by kernel_rfl) (by kernel_rfl) (fun _ _ _ h => h) rfl hY1 (v := .bool false) (fun w' hS => by skip; go_simp; try with_reducible rfl) ?_
                simp only [Act.put, List.setIfInBounds_toArray, List.set_cons_zero, List.set_cons_succ]
                refine held_take 7 (some 52) rfl rfl (by kernel_rfl) (by kernel_rfl) (by kernel_rfl) (fun _ _ _ h => h) rfl hY1 (v := .bool false) (fun w' hS => by skip; go_simp; try with_reducible rfl) ?_
                simp only [Act.put, List.setIfInBounds_toArray, List.set_cons_zero, List.set_cons_succ]
                refine held_skip 8 (some 53) rfl rfl (by kernel_rfl) (by kernel_rfl) (by kernel_rfl) (fun _ _ _ h => h) rfl hY1 ?_
                simp only [Act.put, List.setIfInBounds_toArray, List.set_cons_zero, List.set_cons_succ]
                refine held_skip 9 (some 54) rfl rfl (by kernel_rfl) (by kernel_rfl) (by kernel_rfl) (fun _ _ _ h => h) rfl hY1 ?_
                simp only [Act.put, List.setIfInBounds_toArray, List.set_cons_zero, List.set_cons_succ]
                refine held_skip 10 (some 55) rfl rfl (by kernel_rfl) (by kernel_rfl) (by kernel_rfl) (fun _ _ _ h => h) rfl hY1 ?_
                simp only [Act.put, List.setIfInBounds_toArray, List.set_cons_zero, List.set_cons_succ]
                refine held_skip 11 (some 56) rfl rfl (by kernel_rfl) (by kernel_rfl) (by kernel_rfl) (fun _ _ _ h => h) rfl hY1 ?_
                simp only [Act.put, List.setIfInBounds_toArray, List.set_cons_zero, List.set_cons_succ]
                refine held_skip 12 (some 57) rfl rfl (by kernel_rfl) (by kernel_rfl) (by kernel_rfl) (fun _ _ _ h => h) rfl hY1 ?_
                simp only [Act.put, List.setIfInBounds_toArray, List.set_cons_zero, List.set_cons_succ]
                refine held_skip 13 (some 58) rfl rfl (by kernel_rfl) (by kernel_rfl) (by kernel_rfl) (fun _ _ _ h => h) rfl hY1 ?_
                simp only [Act.put, List.setIfInBounds_toArray, List.set_cons_zero, List.set_cons_succ]
                refine held_skip 14 (some 59) rfl rfl (by kernel_rfl) (by kernel_rfl) (by kernel_rfl) (fun _ _ _ h => h) rfl hY1 ?_
                simp only [Act.put, List.setIfInBounds_toArray, List.set_cons_zero, List.set_cons_succ]
                refine held_skip 15 (some 60) rfl rfl (by kernel_rfl) (by kernel_rfl) (by kernel_rfl) (fun _ _ _ h => h) rfl hY1 ?_
                simp only [Act.put, List.setIfInBounds_toArray, List.set_cons_zero, List.set_cons_succ]
                refine held_skip 16 (some 61) rfl rfl (by kernel_rfl) (by kernel_rfl) (by kernel_rfl) (fun _ _ _ h => h) rfl hY1 ?_
                simp only [Act.put, List.setIfInBounds_toArray, List.set_cons_zero, List.set_cons_succ]
                refine held_take 17 (some 62) rfl rfl (by kernel_rfl) (by kernel_rfl) (by kernel_rfl) (fun _ _ _ h => h) rfl hY1 (v := .bool false) (fun w' hS => by skip; go_simp; try (first | (with_reducible rfl) | (simp; done))) ?_
                simp only [Act.put, List.setIfInBounds_toArray, List.set_cons_zero, List.set_cons_succ]
                refine wpAnyH_done (by kernel_rfl) ?_ _
                go_wp2_with fail
                go_roundw
                case rel => exact ⟨x + 1, by go_num, by omega, HN.out.trans hY1⟩
                case measure => simp [intOf]; omega
              · obtain ⟨hle, hno⟩ := HLS.out x hx5 hb
                obtain ⟨P, hP⟩ : ∃ P, P = 2 ^ x := ⟨_, rfl⟩
                obtain ⟨r, hr⟩ : ∃ r, r = s - P := ⟨_, rfl⟩
                rw [← hP] at hle hno
                rw [← hr] at hno
                have hsub : (s : Int) - (P : Int) = (r : Int) := by omega
                have hr32 : r < 32 := by omega
                have hwr : IntKind.i64.wrap (r : Int) = (r : Int) := IntWalk.i64_in _ (by omega)
                have hbt : ((((1 : Nat) : Int) == 1)) = true := rfl
                have HP := Lib.hid hP
                have HH := Lib.hid hno
                have HB := Lib.hid hb
                clear hb hP hr hno
                go_upto_region 15 with fail
                refine wp_region_held_drew (S := fun w' => New wy w') (by kernel_rfl) (New.drew _) (fun hY => ?_)
                refine held_take 0 (some 45) rfl rfl (by kernel_rfl) (by kernel_rfl) (by kernel_rfl) (fun _ _ _ h => h) rfl hY (v := ?_) (fun w' hS => by skip; go_simp; try with_reducible rfl) ?_
                simp only [Act.put, List.setIfInBounds_toArray, List.set_cons_zero, List.set_cons_succ]
                refine held_take 1 (some 46) rfl rfl (by kernel_rfl) (by kernel_rfl) (by kernel_rfl) (fun _ _ _ h => h) rfl hY (v := ?_) (fun w' hS => by skip; go_simp; try with_reducible rfl) ?_
                simp only [Act.put, List.setIfInBounds_toArray, List.set_cons_zero, List.set_cons_succ]
                refine held_take 2 (some 47) rfl rfl (by kernel_rfl) (by kernel_rfl) (by kernel_rfl) (fun _ _ _ h => h) rfl hY (v := ?_) (fun w' hS => by skip; go_simp; try with_reducible rfl) ?_
                simp only [Act.put, List.setIfInBounds_toArray, List.set_cons_zero, List.set_cons_succ]
                refine held_take 3 (some 48) rfl rfl (by kernel_rfl) (by kernel_rfl) (by kernel_rfl) (fun _ _ _ h => h) rfl hY (v := .int .i64 s) (fun w' hS => by obtain ⟨q0, q1, q2, _, _, _⟩ := (HBL.out.new (HN.out.trans hS)).cells; have cko := hS.cellNew CK.out; go_simp; try with_reducible rfl) ?_
                simp only [Act.put, List.setIfInBounds_toArray, List.set_cons_zero, List.set_cons_succ]
                refine held_take 4 (some 49) rfl rfl (by kernel_rfl) (by kernel_rfl) (by kernel_rfl) (fun _ _ _ h => h) rfl hY (v := ?_) (fun w' hS => by skip; go_simp; try with_reducible rfl) ?_
                simp only [Act.put, List.setIfInBounds_toArray, List.set_cons_zero, List.set_cons_succ]
                refine held_only 5 (by kernel_rfl) rfl rfl (fun K1 hK1 => ?_)
                go_simp
                refine (lawBit_any s x _ (by omega) (by omega)).mono ?_
                rintro e w' ⟨rfl, rfl⟩
                rw [HB.out]
                have hnb := Chg.refl (fun _ => False) wy.drew
                refine hK1.out _ _ (hY.trans hnb) (fun hY1 => ?_)
                clear hK1 K1
                refine held_take 6 (some 51) rfl rfl (by kernel_rfl) (by kernel_rfl) (by kernel_rfl) (fun _ _ _ h => h) rfl hY1 (v := .bool true) (fun w' hS => by skip; go_simp; try with_reducible rfl) ?_
                simp only [Act.put, List.setIfInBounds_toArray, List.set_cons_zero, List.set_cons_succ]
                refine held_take 7 (some 52) rfl rfl (by kernel_rfl) (by kernel_rfl) (by kernel_rfl) (fun _ _ _ h => h) rfl hY1 (v := .bool true) (fun w' hS => by skip; go_simp; try with_reducible rfl) ?_
                simp only [Act.put, List.setIfInBounds_toArray, List.set_cons_zero, List.set_cons_succ]
                refine held_take 8 (some 53) rfl rfl (by kernel_rfl) (by kernel_rfl) (by kernel_rfl) (fun _ _ _ h => h) rfl hY1 (v := .agg #[.int .i64 q, .slice a l c, .slice a2 l2 c2]) (fun w' hS => by obtain ⟨q0, q1, q2, _, _, _⟩ := (HBL.out.new (HN.out.trans hS)).cells; have cko := hS.cellNew CK.out; go_simp; try with_reducible rfl) ?_
                simp only [Act.put, List.setIfInBounds_toArray, List.set_cons_zero, List.set_cons_succ]
                refine held_take 9 (some 54) rfl rfl (by kernel_rfl) (by kernel_rfl) (by kernel_rfl) (fun _ _ _ h => h) rfl hY1 (v := ?_) (fun w' hS => by skip; go_simp; try with_reducible rfl) ?_
                simp only [Act.put, List.setIfInBounds_toArray, List.set_cons_zero, List.set_cons_succ]
                refine held_take 10 (some 55) rfl rfl (by kernel_rfl) (by kernel_rfl) (by kernel_rfl) (fun _ _ _ h => h) rfl hY1 (v := ?_) (fun w' hS => by skip; go_simp; try with_reducible rfl) ?_
                simp only [Act.put, List.setIfInBounds_toArray, List.set_cons_zero, List.set_cons_succ]
                refine held_take 11 (some 56) rfl rfl (by kernel_rfl) (by kernel_rfl) (by kernel_rfl) (fun _ _ _ h => h) rfl hY1 (v := ?_) (fun w' hS => by skip; go_simp; try with_reducible rfl) ?_
                simp only [Act.put, List.setIfInBounds_toArray, List.set_cons_zero, List.set_cons_succ]
                refine held_take 12 (some 57) rfl rfl (by kernel_rfl) (by kernel_rfl) (by kernel_rfl) (fun _ _ _ h => h) rfl hY1 (v := .int .i64 s) (fun w' hS => by obtain ⟨q0, q1, q2, _, _, _⟩ := (HBL.out.new (HN.out.trans hS)).cells; have cko := hS.cellNew CK.out; go_simp; try with_reducible rfl) ?_
                simp only [Act.put, List.setIfInBounds_toArray, List.set_cons_zero, List.set_cons_succ]
                refine held_take 13 (some 58) rfl rfl (by kernel_rfl) (by kernel_rfl) (by kernel_rfl) (fun _ _ _ h => h) rfl hY1 (v := ?_) (fun w' hS => by skip; go_simp; try with_reducible rfl) ?_
                simp only [Act.put, List.setIfInBounds_toArray, List.set_cons_zero, List.set_cons_succ]
                refine held_only 14 (by kernel_rfl) rfl rfl (fun K2 hK2 => ?_)
                go_simp
                refine (lawPower_any x _ (by omega)).mono ?_
                rintro e w' ⟨rfl, rfl⟩
                rw [← HP.out]
                have hnp := Chg.refl (fun _ => False) wy.drew
                refine hK2.out _ _ (hY1.trans hnp) (fun hY2 => ?_)
                clear hK2 K2
                refine held_take 15 (some 60) rfl rfl (by kernel_rfl) (by kernel_rfl) (by kernel_rfl) (fun _ _ _ h => h) rfl hY2 (v := .int .i64 r) (fun w' hS => by skip; go_simp; try (first | (with_reducible rfl) | exact hwr | (rw [hsub]; done) | (simp [hsub]; done))) ?_
                simp only [Act.put, List.setIfInBounds_toArray, List.set_cons_zero, List.set_cons_succ]
                refine held_only 16 (by kernel_rfl) rfl rfl (fun K3 hK3 => ?_)
                go_simp
                refine (doesKnow_valid q _ _ rows own r _ (H2.out.1.new (H6.out.2.1.trans (HN.out.trans hY2))) (H2.out.2.1.new (H6.out.2.1.trans (HN.out.trans hY2))) HV.out hr32).mono ?_
                rintro e w9 ⟨bk, rfl, hbk, hn9⟩
                obtain rfl : bk = false := by
                  cases bk with
                  | true => first | rfl | exact absurd (hbk.1 rfl) HH.out
                  | false => first | rfl | (have := hbk.2 HH.out; cases this)
                clear hbk
                refine hK3.out _ _ (hY2.trans hn9) (fun hY3 => ?_)
                clear hK3 K3
                refine held_take 17 (some 62) rfl rfl (by kernel_rfl) (by kernel_rfl) (by kernel_rfl) (fun _ _ _ h => h) rfl hY3 (v := .bool false) (fun w' hS => by skip; go_simp; try (first | (with_reducible rfl) | (simp; done))) ?_
                simp only [Act.put, List.setIfInBounds_toArray, List.set_cons_zero, List.set_cons_succ]
                refine wpAnyH_done (by kernel_rfl) ?_ _
                go_wp2_with fail
                go_roundw
                case rel => exact ⟨x + 1, by go_num, by omega, HN.out.trans hY3⟩
                case measure => simp [intOf]; omega
            · obtain rfl : x = 5 := by omega
              go_wp2_with fail
              go_roundw
              case rel => exact ⟨t + 1, by go_num, by omega, HN.out⟩
              case measure => simp [intOf]; omega
        · obtain rfl : t = l3 := by omega
          go_wp2_with fail
          go_ret
          exact ⟨rfl, H2.out.2.2.1.trans (H6.out.2.1.trans HN.out)⟩
end Go.Proofs.Ytaaajekibfaoeaa
