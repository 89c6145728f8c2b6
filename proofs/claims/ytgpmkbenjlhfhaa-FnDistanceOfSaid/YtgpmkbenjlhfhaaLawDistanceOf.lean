/- The walk of FnDistanceOf. -/
import Derived.Test.YtgpmkbenjlhfhaaLawF
import Derived.Test.YtgpmkbenjlhfhaaDrawK
import Derived.Test.YtgpmkbenjlhfhaaWeightsOf
import Derived.Test.YtgpmkbenjlhfhaaIsBest
namespace Go.Proofs.Ytgpmkbenjlhfhaa
open Go.RowKit Mat
set_option linter.unusedVariables false

set_option maxRecDepth 100000 in
set_option maxHeartbeats 8000000 in
theorem lawDistanceOf_any (v : Value) (n : Nat) (w : World) (hb : RawB w v n) :
    Calls Try.prog 8 #[v] w fun e w' => e = .returned (.bool true) ∧ New w w' := by
  obtain ⟨ao, cap, rfl, hcap, hmx, -⟩ := id hb
  unfold maxLen at hmx
  have HB := Lib.hid hb
  clear hb
  by_cases hbig : 1048576 < n
  · go_enter Try.func8, Try.ntmps8
    go_wp2_with fail
    go_ret
    exact ⟨rfl, Chg.refl _ _⟩
  · go_enter Try.func8, Try.ntmps8
    go_wp2_with fail
    refine (drawDistanceOf_any _ _ _ HB.out).mono ?_
    rintro e w1 ⟨a, l, c, rows, p, rfl, hr, hk, hp, hn1⟩
    go_upto_region 4 with fail
    have b2 := Blk2.alloc w1 (.int .i64 p) (.slice a l c) 25
    have n2 := New.alloc w1 (.cells #[.int .i64 p, .slice a l c] 25)
    obtain ⟨w2, hw2⟩ : ∃ w2, w2 = w1.alloc (.cells #[.int .i64 p, .slice a l c] 25) := ⟨_, rfl⟩
    rw [← hw2] at b2 n2
    rw [← hw2]
    clear hw2
    have HLL := Lib.hid hr.len
    have H2 := Lib.hid (And.intro (hr.new n2) (And.intro (hn1.trans n2) b2))
    have HK := Lib.hid hk
    have hl8 : l ≤ 8 := by rw [HLL.out]; exact hk.1.2
    obtain ⟨q0, q1, _, _⟩ := b2.cells
    clear hr hn1 b2 n2 hk
    go_wp2_with fail
    refine (implDistanceOf_any p _ rows _ H2.out.1).mono ?_
    rintro e w3 ⟨d, rfl, hd, hn3⟩
    have H3 := Lib.hid (And.intro hd hn3)
    replace q0 := hn3.cellNew q0
    replace q1 := hn3.cellNew q1
    clear hd hn3
    go_wp2_with fail
    refine (specDistanceOf_any p _ rows _ (H2.out.1.new H3.out.2)).mono ?_
    rintro e w4 ⟨d', rfl, hd, hn4⟩
    obtain rfl : d = d' := H3.out.1.unique hd
    have H4 := Lib.hid (H3.out.2.trans hn4)
    replace q0 := hn4.cellNew q0
    replace q1 := hn4.cellNew q1
    clear hd hn4
    by_cases hv : ValidC p rows
    · obtain ⟨q, rfl, hq⟩ := prime_nat (vtB_pr hv.1)
      haveI := hq.nz
      obtain ⟨d, rfl, hd1, hdn, hdist⟩ := H3.out.1.dist hv
      have hc := hv.code
      have hle := hc.dist_le hdist
      have hbest := hc.dist_best hdist
      have hl0 : 0 < l := by rw [HLL.out]; exact hc.tab.r1
      have hkn : l ≤ (gr rows 0).length := by rw [HLL.out]; exact hc.cols
      have hn7 := hc.tab.n7
      rw [← HLL.out] at hle hbest
      have HV := Lib.hid (And.intro hv hbest)
      obtain ⟨b, o, u, rfl, ck, hu⟩ := (H2.out.1.new H4.out).at hl0
      rw [Nat.add_zero] at ck
      obtain ⟨a0, m, c0, rfl, HM, _⟩ := hu.shape
      rw [← HM.out] at hle hdn hkn hn7 HV
      clear hv hdist hc hbest hq hu
      go_wp2_with fail
      go_quiet (fail)
      go_wp2_with fail
      refine (implIsBest_any q _ rows _ (H2.out.1.new (H4.out.trans (New.drewN _ _)))).mono ?_
      rintro e w5 ⟨y, rfl, hy, hn5⟩
      have H5 := Lib.hid (H4.out.trans ((New.drewN _ _).trans hn5))
      have hy2 : ((d : Int) == (m : Int) - (l : Int) + 1) = y := by
        rw [Bool.eq_iff_iff, hy, beq_iff_eq]
        constructor
        · intro e; exact ⟨HV.out.1, by rw [← HM.out]; exact HV.out.2.1 (by omega)⟩
        · intro e; have := HV.out.2.2 (by have := e.2; rwa [← HM.out] at this); omega
      have HY := Lib.hid hy2
      clear hy hn5 hy2
      go_wp2_with fail
      go_ret
      exact ⟨ret_bool (by first | (rw [HY.out]; simp) | simp [HY.out]), H2.out.2.1.trans H5.out⟩
    · obtain rfl : d = -1 := H3.out.1.2 hv
      clear hv
      go_wp2_with fail
      refine (specDistanceOf_any p _ rows _ (H2.out.1.new H4.out)).mono ?_
      rintro e w5 ⟨d', rfl, hd, hn5⟩
      obtain rfl : (-1 : Int) = d' := H3.out.1.unique hd
      have H5 := Lib.hid (H4.out.trans hn5)
      clear hd hn5
      go_wp2_with fail
      go_ret
      exact ⟨rfl, H2.out.2.1.trans H5.out⟩
end Go.Proofs.Ytgpmkbenjlhfhaa
