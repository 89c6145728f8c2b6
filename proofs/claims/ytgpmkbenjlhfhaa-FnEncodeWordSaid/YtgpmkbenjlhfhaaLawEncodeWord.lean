/- The walk of FnEncodeWord. -/
import Derived.Test.YtgpmkbenjlhfhaaLawF
import Derived.Test.YtgpmkbenjlhfhaaDrawL
import Derived.Test.YtgpmkbenjlhfhaaCodE
import Derived.Test.YtgpmkbenjlhfhaaNullsOf
import Derived.Test.YtgpmkbenjlhfhaaEnco
import Derived.Test.YtgpmkbenjlhfhaaSolveRows
namespace Go.Proofs.Ytgpmkbenjlhfhaa
open Go.RowKit Mat
set_option linter.unusedVariables false

set_option maxRecDepth 100000 in
set_option maxHeartbeats 8000000 in
theorem lawEncodeWord_any (v : Value) (n : Nat) (w : World) (hb : RawB w v n) :
    Calls Try.prog 5 #[v] w fun e w' => e = .returned (.bool true) ∧ New w w' := by
  obtain ⟨ao, cap, rfl, hcap, hmx, -⟩ := id hb
  unfold maxLen at hmx
  have HB := Lib.hid hb
  clear hb
  by_cases hbig : 1048576 < n
  · go_enter Try.func5, Try.ntmps5
    go_wp2_with fail
    go_ret
    exact ⟨rfl, Chg.refl _ _⟩
  · go_enter Try.func5, Try.ntmps5
    go_wp2_with fail
    refine (drawEncodeWord_any _ _ _ HB.out).mono ?_
    rintro e w1 ⟨a, l, c, vs, rows, p, am, lm, cm, m, rfl, ho, hk, hp, hom, hlm, hn1⟩
    have hr := ho.isR hk.mid.1 hk.mid.2
    have hrm := hom.isI (by unfold Mid; omega)
    go_upto_region 4 with fail
    have b2 := Blk2.alloc w1 (.int .i64 p) (.slice a l c) 25
    have n2 := New.alloc w1 (.cells #[.int .i64 p, .slice a l c] 25)
    obtain ⟨w2, hw2⟩ : ∃ w2, w2 = w1.alloc (.cells #[.int .i64 p, .slice a l c] 25) := ⟨_, rfl⟩
    rw [← hw2] at b2 n2
    rw [← hw2]
    clear hw2
    have HLL := Lib.hid hr.len
    have H2 := Lib.hid (And.intro (hr.new n2) (And.intro (hn1.trans n2) (And.intro b2 (hrm.new n2))))
    obtain ⟨q0, q1, _, _⟩ := b2.cells
    clear hr hn1 b2 n2 hk ho hom hrm
    go_wp2_with fail
    refine (implEncodeWord_any p _ _ rows m _ H2.out.1 H2.out.2.2.2).mono ?_
    rintro e w3 ⟨u, out, rfl, ho, hf, hq, hn3⟩
    have hsm := hq.small
    have hi3 := ho.isI (by unfold Mid; omega)
    obtain ⟨a3, l3, c3, rfl, HL3, hl3⟩ := hi3.shape
    have H3 := Lib.hid (And.intro hq (And.intro hn3 hi3))
    replace q0 := hn3.cellNew q0
    replace q1 := hn3.cellNew q1
    clear ho hf hq hn3 hi3 hsm
    go_wp2_with fail
    refine (specEncodeWord_any p _ _ rows m _ (H2.out.1.new H3.out.2.1) (H2.out.2.2.2.new H3.out.2.1)).mono ?_
    rintro e w4 ⟨u, out4, rfl, ho, hf, hq, hn4⟩
    obtain rfl := H3.out.1.unique hq
    have hsm := hq.small
    have hi4 := ho.isI (by unfold Mid; omega)
    obtain ⟨a4, l4, c4, rfl, HL4, hl4⟩ := hi4.shape
    have H4 := Lib.hid (And.intro hi4 hn4)
    replace q0 := hn4.cellNew q0
    replace q1 := hn4.cellNew q1
    clear ho hf hq hn4 hi4 hsm
    go_wp2_with fail
    refine (equalInts_any _ _ out out _ (H3.out.2.2.new H4.out.2) H4.out.1).mono ?_
    rintro e w5 ⟨rfl, m5, rfl⟩
    rw [eqL_self]
    have H5 := Lib.hid (New.drewN w4 m5)
    replace q0 := H5.out.cellNew q0
    replace q1 := H5.out.cellNew q1
    obtain ⟨w5, hw5⟩ : ∃ w5, w5 = w4.drewN m5 := ⟨_, rfl⟩
    rw [← hw5] at H5 q0 q1
    rw [← hw5]
    clear hw5
    by_cases hv : MsgC p rows m
    · obtain ⟨q, rfl, hq⟩ := prime_nat (vtB_pr hv.1.1)
      haveI := hq.nz
      have hword := H3.out.1.word hv
      have hc := hv.1.code
      have hl0 : 0 < l3 := by rw [HL3.out, hword.1.1]; exact hc.tab.n1
      have hd0 : ((l3 : Int) == 0) = false := by simp; omega
      have HV := Lib.hid (And.intro hv (And.intro hword hc))
      clear hv hword hc hq
      go_wp2_with fail
      refine (implNullsOf_any q _ rows _ (H2.out.1.new (H3.out.2.1.trans (H4.out.2.trans H5.out)))).mono ?_
      rintro e w6 ⟨u6, vs6, checks, rfl, ho6, hf6, hq6, hn6⟩
      have hnul := hq6.yes HV.out.1.1.1
      have hb := hnul.bounds
      have hn7 := HV.out.2.2.tab.n7
      have hi6 := ho6.isR (by unfold Mid; omega) (fun i hi => by have := hb.2 i hi; unfold Mid; omega)
      obtain ⟨a6, l6, c6, rfl, HL6, hl6⟩ := hi6.shape
      have h67 : l6 ≤ 7 := by rw [HL6.out]; omega
      replace q0 := hn6.cellNew q0
      replace q1 := hn6.cellNew q1
      have H6 := Lib.hid (And.intro hi6 (And.intro hnul (H3.out.2.1.trans (H4.out.2.trans (H5.out.trans hn6)))))
      have HI6 := Lib.hid (H3.out.2.2.new (H4.out.2.trans (H5.out.trans hn6)))
      have b6 := Lib.hid (H2.out.2.2.1.new H6.out.2.2)
      clear ho6 hf6 hq6 hn6 hnul hb hn7 hi6 q0 q1
      go_wp2_with fail
      go_loopw [7] (fun t7 wr => ∃ i : Nat, t7 = .int .i64 i ∧ i ≤ l6 ∧ Hid (New w6 wr)) (fun t7 _ => l6 - (intOf t7).toNat)
      case atStart => exact ⟨0, rfl, Nat.zero_le _, Chg.refl _ _⟩
      case round =>
        obtain ⟨i, rfl, hi, HN⟩ := hrel
        obtain ⟨wy, hwy⟩ : ∃ wy : World, wy = wr := ⟨_, rfl⟩
        rw [← hwy] at HN
        rw [← hwy]
        clear hwy
        obtain ⟨q0, q1, _, _⟩ := (b6.out.new HN.out).cells
        by_cases hil : i < l6
        · obtain ⟨b, o, u, rfl, ck, hu⟩ := (H6.out.1.new HN.out).at hil
          obtain ⟨ar, lr, cr, rfl, _, _⟩ := hu.shape
          have HU := Lib.hid hu
          have hic : i < checks.length := by rw [← HL6.out]; exact hil
          have HG := Lib.hid (And.intro (show GoodRow q (gr rows 0).length (gr checks i) by
            obtain ⟨ra, hra, e⟩ := H6.out.2.1.at HV.out.2.2.tab
            have := nlTo_good HV.out.2.2.tab.pr (gr rows 0).length ra (gr rows 0).length i (by rw [← e]; exact hic)
            rw [← e] at this; exact this) (word_null HV.out.1 H3.out.1 H6.out.2.1 hic))
          have hq27 := HV.out.2.2.tab.pr.pos
          have hn7 := HV.out.2.2.tab.n7
          clear hu
          go_wp2_with fail
          go_quiet ((go_at_call 29; exact Calls.quiet_of (dot_any q (gr rows 0).length _ _ (gr checks i) out _ (HU.out.new (New.drewN _ _)) ((HI6.out.new HN.out).new (New.drewN _ _)) HG.out.1 HV.out.2.1.1 hq27 (by omega))))
          rw [HG.out.2]
          go_wp2_with fail
          go_roundw
          case rel => exact ⟨i + 1, by go_num, by omega, HN.out.trans (New.drewN _ _)⟩
          case measure => simp [intOf]; omega
        · obtain rfl : l6 = i := by omega
          go_wp2_with fail
          refine (implSolveRows_any q _ _ rows out _ ((H2.out.1.new H6.out.2.2).new HN.out) (HI6.out.new HN.out)).mono ?_
          rintro e w7 ⟨u7, back, ok, rfl, ho7, hf7, hq7, hn7⟩
          obtain ⟨q', i2, e', hsb⟩ := hq7.yes (word_goal HV.out.1 H3.out.1)
          obtain rfl : q = q' := by omega
          obtain ⟨rfl, rfl⟩ := word_back HV.out.1 H3.out.1 hsb
          have hi7 := ho7.isI (by have := HV.out.1.2.1; have := HV.out.2.2.r4; unfold Mid; omega)
          obtain ⟨a7, l7, c7, rfl, _, _⟩ := hi7.shape
          have H7 := Lib.hid (And.intro hi7 (HN.out.trans hn7))
          clear ho7 hf7 hq7 hn7 hsb hi7
          go_wp2_with fail
          refine (equalInts_any _ _ back back _ H7.out.1 (H2.out.2.2.2.new (H6.out.2.2.trans H7.out.2))).mono ?_
          rintro e w8 ⟨rfl, m8, rfl⟩
          rw [eqL_self]
          go_wp2_with fail
          go_ret
          exact ⟨rfl, H2.out.2.1.trans (H6.out.2.2.trans (H7.out.2.trans (New.drewN _ _)))⟩
    · have e0 := H3.out.1.2 hv
      have hl0 : l3 = 0 := by rw [HL3.out, e0]; rfl
      subst hl0
      clear hv e0
      go_wp2_with fail
      refine (specEncodeWord_any p _ _ rows m _ (H2.out.1.new (H3.out.2.1.trans (H4.out.2.trans H5.out))) (H2.out.2.2.2.new (H3.out.2.1.trans (H4.out.2.trans H5.out)))).mono ?_
      rintro e w6 ⟨u, out6, rfl, ho, hf, hq, hn6⟩
      obtain rfl := H3.out.1.unique hq
      have hsm := hq.small
      have hi6 := ho.isI (by unfold Mid; omega)
      obtain ⟨a6, l6, c6, rfl, HL6, hl6⟩ := hi6.shape
      have H6 := Lib.hid (And.intro hi6 (H4.out.2.trans (H5.out.trans hn6)))
      clear ho hf hq hn6 hi6 hsm
      go_wp2_with fail
      refine (equalInts_any _ _ out out _ (H3.out.2.2.new H6.out.2) H6.out.1).mono ?_
      rintro e w7 ⟨rfl, m7, rfl⟩
      rw [eqL_self]
      go_wp2_with fail
      go_ret
      exact ⟨rfl, H2.out.2.1.trans (H3.out.2.1.trans (H6.out.2.trans (New.drewN _ _)))⟩
end Go.Proofs.Ytgpmkbenjlhfhaa
