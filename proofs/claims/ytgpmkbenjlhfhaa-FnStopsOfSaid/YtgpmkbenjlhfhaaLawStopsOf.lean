/- The walk of FnStopsOf. -/
import Derived.Test.YtgpmkbenjlhfhaaCodS
import Derived.Test.YtgpmkbenjlhfhaaDrawK
import Derived.Test.YtgpmkbenjlhfhaaStopsOf
import Derived.Test.YtgpmkbenjlhfhaaPeelOf
import Derived.Test.YtgpmkbenjlhfhaaMend
import Derived.Test.YtgpmkbenjlhfhaaKnow
namespace Go.Proofs.Ytgpmkbenjlhfhaa
open Go.RowKit Mat
set_option linter.unusedVariables false

set_option maxRecDepth 100000 in
set_option maxHeartbeats 8000000 in
theorem lawStopsOf_any (v : Value) (n : Nat) (w : World) (hb : RawB w v n) :
    Calls Try.prog 10 #[v] w fun e w' => e = .returned (.bool true) ∧ New w w' := by
  obtain ⟨ao, cap, rfl, hcap, hmx, -⟩ := id hb
  unfold maxLen at hmx
  have HB := Lib.hid hb
  clear hb
  by_cases hbig : 1048576 < n
  · go_enter Try.func10, Try.ntmps10
    go_wp2_with fail
    go_ret
    exact ⟨rfl, Chg.refl _ _⟩
  · go_enter Try.func10, Try.ntmps10
    go_wp2_with fail
    refine (drawStopsOf_any _ _ _ HB.out).mono ?_
    rintro e w1 ⟨a, l, c, rows, p, rfl, hr, hk, hp, hn1⟩
    go_upto_region 4 with fail
    have b2 := Blk2.alloc w1 (.int .i64 p) (.slice a l c) 25
    have n2 := New.alloc w1 (.cells #[.int .i64 p, .slice a l c] 25)
    obtain ⟨w2, hw2⟩ : ∃ w2, w2 = w1.alloc (.cells #[.int .i64 p, .slice a l c] 25) := ⟨_, rfl⟩
    rw [← hw2] at b2 n2
    rw [← hw2]
    clear hw2
    have HLL := Lib.hid hr.len
    have H2 := Lib.hid (And.intro (hr.new n2) (And.intro (hn1.trans n2) b2))
    obtain ⟨q0, q1, _, _⟩ := b2.cells
    clear hr hn1 b2 n2 hk
    go_wp2_with fail
    refine (implStopsOf_any p _ rows _ H2.out.1).mono ?_
    rintro e w3 ⟨u, out, rfl, ho, hf, hq, hn3⟩
    have hsm := hq.small
    have hi3 := ho.isI (by unfold Mid; omega)
    obtain ⟨a3, l3, c3, rfl, HL3, hl3⟩ := hi3.shape
    have H3 := Lib.hid (And.intro hq (And.intro hn3 hi3))
    replace q0 := hn3.cellNew q0
    replace q1 := hn3.cellNew q1
    clear ho hf hq hn3 hi3 hsm
    go_wp2_with fail
    refine (specStopsOf_any p _ rows _ (H2.out.1.new H3.out.2.1)).mono ?_
    rintro e w4 ⟨u, out4, rfl, ho, hf, hq, hn4⟩
    obtain rfl := H3.out.1.unique hq
    have hsm := hq.small
    have hi4 := ho.isI (by unfold Mid; omega)
    obtain ⟨a4, l4, c4, rfl, HL4, hl4⟩ := hi4.shape
    have H4 := Lib.hid (And.intro hi4 hn4)
    replace q0 := hn4.cellNew q0
    replace q1 := hn4.cellNew q1
    clear ho hf hq hn4 hi4 hsm
    go_wp2_with fail
    refine (equalInts_any _ _ out out _ (H3.out.2.2.new H4.out.2) H4.out.1).mono ?_
    rintro e w5 ⟨rfl, m5, rfl⟩
    rw [eqL_self]
    have H5 := Lib.hid (New.drewN w4 m5)
    replace q0 := H5.out.cellNew q0
    replace q1 := H5.out.cellNew q1
    obtain ⟨w5, hw5⟩ : ∃ w5, w5 = w4.drewN m5 := ⟨_, rfl⟩
    rw [← hw5] at H5 q0 q1
    rw [← hw5]
    clear hw5
    go_wp2_with fail
    refine (implValidCode_any p _ rows _ (H2.out.1.new (H3.out.2.1.trans (H4.out.2.trans H5.out)))).mono ?_
    rintro e w6 ⟨⟨z, rfl, hz⟩, hn6⟩
    have H6 := Lib.hid (And.intro hz (And.intro (H3.out.2.1.trans (H4.out.2.trans (H5.out.trans hn6))) (H4.out.2.trans (H5.out.trans hn6))))
    replace q0 := hn6.cellNew q0
    replace q1 := hn6.cellNew q1
    clear hz hn6
    cases z with
    | false =>
      go_wp2_with fail
      refine (specStopsOf_any p _ rows _ (H2.out.1.new H6.out.2.1)).mono ?_
      rintro e w7 ⟨u, out7, rfl, ho, hf, hq, hn7⟩
      obtain rfl := H3.out.1.unique hq
      have hsm := hq.small
      have hi7 := ho.isI (by unfold Mid; omega)
      obtain ⟨a7, l7, c7, rfl, HL7, hl7⟩ := hi7.shape
      have H7 := Lib.hid (And.intro hi7 hn7)
      clear ho hf hq hn7 hi7 hsm
      go_wp2_with fail
      refine (equalInts_any _ _ out out _ (H3.out.2.2.new (H6.out.2.2.trans H7.out.2)) H7.out.1).mono ?_
      rintro e w8 ⟨rfl, m8, rfl⟩
      rw [eqL_self]
      go_wp2_with fail
      go_ret
      exact ⟨rfl, H2.out.2.1.trans (H6.out.2.1.trans (H7.out.2.trans (New.drewN _ _)))⟩
    | true =>
      have hv := H6.out.1.1 rfl
      obtain ⟨q, rfl, hq⟩ := prime_nat (vtB_pr hv.1)
      haveI := hq.nz
      obtain ⟨checks, hnul, hst⟩ := H3.out.1.yes hv
      have hc := hv.code
      have hp7 := pow_lt hc.tab.n7
      have hlen := hst.length
      have h3l : l3 ≤ 128 := by rw [HL3.out]; omega
      have HV := Lib.hid (And.intro hv (And.intro hc (And.intro hnul hst)))
      have b6 := Lib.hid (H2.out.2.2.new H6.out.2.1)
      have HI := Lib.hid (H3.out.2.2.new H6.out.2.2)
      clear hv hnul hst hc hp7 hlen q0 q1
      go_wp2_with fail
      go_loopw [5] (fun t5 wr => ∃ i : Nat, t5 = .int .i64 i ∧ i ≤ l3 ∧ Hid (New w6 wr)) (fun t5 _ => l3 - (intOf t5).toNat)
      case atStart => exact ⟨0, rfl, Nat.zero_le _, Chg.refl _ _⟩
      case round =>
        obtain ⟨i, rfl, hi, HN⟩ := hrel
        obtain ⟨wy, hwy⟩ : ∃ wy : World, wy = wr := ⟨_, rfl⟩
        rw [← hwy] at HN
        rw [← hwy]
        clear hwy
        by_cases hil : i < l3
        · obtain ⟨s, hs, hs1, hs2, hs3⟩ := HV.out.2.2.2.at (show i < out.length by rw [← HL3.out]; exact hil)
          have HS := Lib.hid (And.intro hs (And.intro hs1 (And.intro hs2 hs3)))
          have hs128 : s < 128 := by have := pow_lt HV.out.2.1.tab.n7; omega
          clear hs hs1 hs2 hs3
          go_wp2_with fail
          go_loopw [6] (fun t6 wr => ∃ k : Nat, t6 = .int .i64 k ∧ k ≤ i ∧ Hid (New w6 wr)) (fun t6 _ => i - (intOf t6).toNat)
          case atStart => exact ⟨0, rfl, Nat.zero_le _, HN.out⟩
          case round =>
            clear HN
            obtain ⟨k, rfl, hk, HN⟩ := hrel
            obtain ⟨wz, hwz⟩ : ∃ wz : World, wz = wr := ⟨_, rfl⟩
            rw [← hwz] at HN
            rw [← hwz]
            clear hwz
            by_cases hki : k < i
            · have hkl : k < l3 := by omega
              obtain ⟨b, o, rfl, ck⟩ := (HI.out.new HN.out).at hil
              obtain ⟨b1, o1, e1, cj⟩ := (HI.out.new HN.out).at hkl
              simp only [Option.some.injEq, Addr.mk.injEq, and_true] at e1
              obtain ⟨rfl, rfl⟩ := e1
              obtain ⟨t, ht, ht1, ht2, ht3⟩ := HV.out.2.2.2.at (show k < out.length by rw [← HL3.out]; exact hkl)
              rw [HS.out.1] at ck
              rw [ht] at cj
              have ht128 : t < 128 := by have := pow_lt HV.out.2.1.tab.n7; omega
              have hor := or_i64 s hs128 t ht128
              obtain ⟨y, hy⟩ : ∃ y, y = s ||| t := ⟨_, rfl⟩
              have hin : inL out (y : Int) := (HV.out.2.2.2.mem _).2 ⟨y, rfl, by rw [hy]; exact Nat.or_lt_two_pow HS.out.2.1 ht1, by have h1 : s ≤ s ||| t := Nat.left_le_or; have := HS.out.2.2.1; omega, by rw [hy]; exact HS.out.2.2.2.or hs128 ht128 ht3⟩
              rw [← hy] at hor
              have HIN := Lib.hid hin
              clear ht ht1 ht2 ht3 hin hy
              go_wp2_with fail
              go_quiet ((go_at_call 47; exact Calls.quiet_of ((isIn_yes _ out _ _ ((HI.out.new HN.out).new (New.drewN _ _)) HIN.out).mono (fun e w' h => ⟨h.1, 0, h.2.symm⟩))))
              go_wp2_with fail
              go_roundw
              case rel => exact ⟨k + 1, by go_num, by omega, HN.out.trans (New.drewN _ _)⟩
              case measure => simp [intOf]; omega
            · obtain rfl : i = k := by omega
              go_wp2_with fail
              go_roundw
              case rel => exact ⟨i + 1, by go_num, by omega, HN.out⟩
              case measure => simp [intOf]; omega
        · obtain rfl : l3 = i := by omega
          have hl0 : 0 < l := by rw [HLL.out]; exact HV.out.2.1.tab.r1
          obtain ⟨b0, o0, u0, rfl, ck0, hu0⟩ := H2.out.1.at hl0
          rw [Nat.add_zero] at ck0
          obtain ⟨a0, m, c0, rfl, HM, _⟩ := hu0.shape
          have hm7 : m ≤ 7 := by rw [HM.out]; exact HV.out.2.1.tab.n7
          have hp7 := pow_lt hm7
          obtain ⟨P, hP⟩ : ∃ P, P = 2 ^ m := ⟨_, rfl⟩
          rw [← hP] at hp7
          have hPb : P = 2 ^ (gr rows 0).length := by rw [hP, HM.out]
          have HP := Lib.hid (And.intro hP hPb)
          have CK0 := Lib.hid ck0
          clear hu0 hP hPb ck0
          go_wp2_with fail
          go_loopw [7] (fun t7 wr => ∃ s : Nat, t7 = .int .i64 s ∧ 1 ≤ s ∧ (s ≤ P ∨ s = 1) ∧ Hid (New w6 wr)) (fun t7 _ => P - (intOf t7).toNat)
          case atStart => exact ⟨1, rfl, Nat.le_refl _, .inr rfl, HN.out⟩
          case round =>
            clear HN
            obtain ⟨s, rfl, hs1, hs, HN⟩ := hrel
            obtain ⟨wz, hwz⟩ : ∃ wz : World, wz = wr := ⟨_, rfl⟩
            rw [← hwz] at HN
            rw [← hwz]
            clear hwz
            obtain ⟨q0, q1, _, _⟩ := (b6.out.new HN.out).cells
            have ck0 := (H6.out.2.1.trans HN.out).cellNew CK0.out
            by_cases hsP : s < P
            · go_wp2_with (go_at_call 36; refine (lawPower_any m _ (by omega)).mono ?_; rintro e w' ⟨rfl, rfl⟩; rw [← HP.out.1])
              refine (implIsMendable_any q _ s rows _ (H2.out.1.new (H6.out.2.1.trans HN.out))).mono ?_
              rintro e w7 ⟨y, rfl, hy, hn7⟩
              have H7 := Lib.hid (And.intro hy (HN.out.trans hn7))
              replace q0 := hn7.cellNew q0
              replace q1 := hn7.cellNew q1
              clear hy hn7 ck0
              cases y with
              | true =>
                go_wp2_with fail
                go_roundw
                case rel => exact ⟨s + 1, by go_num, by omega, by omega, H7.out.2⟩
                case measure => simp [intOf]; omega
              | false =>
                go_wp2_with fail
                refine (implPeelOf_any q _ s rows _ (H2.out.1.new (H6.out.2.1.trans H7.out.2))).mono ?_
                rintro e w8 ⟨t, rfl, hq8, hn8⟩
                have hpc : PeelC q rows s := ⟨HV.out.1, inB_iff.2 (by rw [← HP.out.2]; omega)⟩
                obtain ⟨checks', hnul', t, rfl, hpeel⟩ := hq8.yes hpc
                obtain rfl := HV.out.2.2.1.unique hnul'
                rw [Int.toNat_natCast] at hpeel
                have ht0 : t ≠ 0 := fun e => by
                  rw [e] at hpeel
                  have hm := HV.out.2.1.peel_mend HV.out.2.2.1 (by rw [← HP.out.2]; exact hsP) hpeel
                  have := H7.out.1.2 ⟨HV.out.1, hpc.2, by rw [Int.toNat_natCast]; exact hm⟩
                  cases this
                have hd : ((t : Int) == 0) = false := by simp; omega
                have H8 := Lib.hid (H7.out.2.trans hn8)
                clear hq8 hpc hnul' hpeel ht0 hn8
                go_wp2_with fail
                go_roundw
                case rel => exact ⟨s + 1, by go_num, by omega, by omega, H8.out⟩
                case measure => simp [intOf]; omega
            · go_wp2_with (go_at_call 36; refine (lawPower_any m _ (by omega)).mono ?_; rintro e w' ⟨rfl, rfl⟩; rw [← HP.out.1])
              refine (ascends_yes _ out _ (HI.out.new HN.out) HV.out.2.2.2.asc).mono ?_
              rintro e w7 ⟨rfl, hn7⟩
              have H7 := Lib.hid (HN.out.trans hn7)
              clear hn7
              go_wp2_with fail
              go_ret
              exact ⟨rfl, H2.out.2.1.trans (H6.out.2.1.trans H7.out)⟩
end Go.Proofs.Ytgpmkbenjlhfhaa
