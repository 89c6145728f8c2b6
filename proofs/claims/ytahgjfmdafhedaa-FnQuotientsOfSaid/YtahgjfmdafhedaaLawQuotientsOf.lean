/- The walk of FnQuotientsOf. -/
import Derived.Test.YtahgjfmdafhedaaDrawQ
import Derived.Test.YtahgjfmdafhedaaQuoI
import Derived.Test.YtahgjfmdafhedaaLawE
import Derived.Test.YtahgjfmdafhedaaLawF
import Derived.Test.YtahgjfmdafhedaaKnow
import Derived.Test.YtahgjfmdafhedaaIsBest
import Derived.Test.YtahgjfmdafhedaaIsPlain
namespace Go.Proofs.Ytahgjfmdafhedaa
open Go.RowKit Mat
set_option linter.unusedVariables false

set_option maxRecDepth 100000 in
set_option maxHeartbeats 4000000 in
theorem lawQuotientsOf_any (v : Value) (n : Nat) (w : World) (hb : RawB w v n) :
    Calls Try.prog 4 #[v] w fun e w' => e = .returned (.bool true) ∧ New w w' := by
  obtain ⟨ao, cap, rfl, hcap, hmx, -⟩ := id hb
  unfold maxLen at hmx
  have HB := Lib.hid hb
  clear hb
  by_cases hbig : 1048576 < n
  · go_enter Try.func4, Try.ntmps4
    go_wp2_with fail
    go_ret
    exact ⟨rfl, Chg.refl _ _⟩
  · go_enter Try.func4, Try.ntmps4
    go_wp2_with fail
    refine (drawQuotientsOf_any _ _ _ HB.out).mono ?_
    rintro e w1 ⟨p, u, v9, xs, ys, rfl, hx, hy, hn1⟩
    obtain ⟨au, lu, cu, rfl, HLU, _⟩ := hx.shape
    obtain ⟨av, lv, cv, rfl, HLV, _⟩ := hy.shape
    have H1 := Lib.hid (And.intro (And.intro hx hy) hn1)
    clear hx hy hn1
    go_wp2_with fail
    refine (implQuotientsOf_any p _ _ xs ys _ H1.out.1.1 H1.out.1.2).mono ?_
    rintro e w3 ⟨u3, vs3, out, p', ok, rfl, ho3, hf3, hq3, hn3⟩
    have hsm := hq3.small
    have hi3 := ho3.isR (by unfold Mid; omega) (fun i hi => by have := hsm.2 i hi; unfold Mid; omega)
    obtain ⟨a4, l4, c4, rfl, HL4, hl4⟩ := hi3.shape
    go_upto_region 5 with fail
    have b4 := Blk2.alloc w3 (.int .i64 p') (.slice a4 l4 c4) 28
    have n4 := New.alloc w3 (.cells #[.int .i64 p', .slice a4 l4 c4] 28)
    obtain ⟨w4, hw4⟩ : ∃ w4, w4 = w3.alloc (.cells #[.int .i64 p', .slice a4 l4 c4] 28) := ⟨_, rfl⟩
    rw [← hw4] at b4 n4
    rw [← hw4]
    clear hw4
    have n24 := hn3.trans n4
    have H4 := Lib.hid (And.intro b4 (And.intro (hi3.new n4) (And.intro hq3 n24)))
    clear ho3 hf3 hq3 hsm hi3 hn3 b4 n4 n24
    obtain ⟨d0, d1, _, _⟩ := H4.out.1.cells
    go_wp2_with fail
    refine (specQuotientsOf_any p _ _ xs ys _ (H1.out.1.1.new H4.out.2.2.2) (H1.out.1.2.new H4.out.2.2.2)).mono ?_
    rintro e w5 ⟨u5, vs5, out5, p5, ok5, rfl, ho5, hf5, hq5, hn5⟩
    obtain ⟨rfl, rfl, rfl⟩ := H4.out.2.2.1.unique hq5
    have hsm := hq5.small
    have hi5 := ho5.isR (by unfold Mid; omega) (fun i hi => by have := hsm.2 i hi; unfold Mid; omega)
    obtain ⟨a5, l5, c5, rfl, _, _⟩ := hi5.shape
    go_upto_region 6 with fail
    have b6 := Blk2.alloc w5 (.int .i64 p') (.slice a5 l5 c5) 28
    have n6 := New.alloc w5 (.cells #[.int .i64 p', .slice a5 l5 c5] 28)
    obtain ⟨w6, hw6⟩ : ∃ w6, w6 = w5.alloc (.cells #[.int .i64 p', .slice a5 l5 c5] 28) := ⟨_, rfl⟩
    rw [← hw6] at b6 n6
    rw [← hw6]
    clear hw6
    have n46 := hn5.trans n6
    have H6 := Lib.hid (And.intro b6 (And.intro (H4.out.1.new n46) (And.intro (hi5.new n6) (And.intro (H4.out.2.1.new n46) (H1.out.2.trans (H4.out.2.2.2.trans n46))))))
    clear ho5 hf5 hq5 hsm hi5 hn5 b6 n6 n46 d0 d1
    obtain ⟨d0, d1, _, _⟩ := H6.out.2.1.cells
    obtain ⟨f0, f1, _, _⟩ := H6.out.1.cells
    go_wp2_with fail
    refine (equalCode_any _ _ _ _ out out _ H6.out.2.2.2.1 H6.out.2.2.1).mono ?_
    rintro e w7 ⟨rfl, hn7⟩
    rw [eqLL_self, decide_eq_true rfl, Bool.true_and]
    have H7 := Lib.hid hn7
    replace d0 := hn7.cellNew d0
    replace d1 := hn7.cellNew d1
    replace f0 := hn7.cellNew f0
    replace f1 := hn7.cellNew f1
    clear hn7
    cases ok with
    | false =>
      go_wp2_with fail
      refine (equalCode_any _ _ _ _ out out _ (H6.out.2.2.2.1.new H7.out) (H6.out.2.2.1.new H7.out)).mono ?_
      rintro e w8 ⟨rfl, hn8⟩
      rw [eqLL_self, decide_eq_true rfl, Bool.true_and]
      have H8 := Lib.hid hn8
      clear hn8
      go_wp2_with fail
      go_ret
      exact ⟨rfl, H6.out.2.2.2.2.trans (H7.out.trans H8.out)⟩
    | true =>
      obtain ⟨hok, rfl, hout⟩ := H4.out.2.2.1.1 rfl
      obtain ⟨q, rfl, hq⟩ := prime_nat hok.1
      haveI := hq.nz
      have h2 := hok.2.1
      have h3 := hok.2.2.1
      obtain ⟨hv, hb⟩ := quo_code hq hok.2.2.2 h2 (by omega)
      have hpl : IsPl (q : Int) (quoR q xs ys xs.length) := ⟨hv, fun i k hi hk => by rw [quoR_length] at hi hk; rw [quoR_get _ _ _ hi, quoL_lo hk]⟩
      rw [← hout] at hv hb hpl
      have hg0 : (gr out 0).length = xs.length + ys.length := by rw [hout, quoR_get _ _ _ (by omega), quoL_length]
      rw [← hg0] at hb
      have HV := Lib.hid hv
      have HBT := Lib.hid hb
      have HPL := Lib.hid hpl
      clear hok hout hv hb hg0 hpl h2 h3
      go_wp2_with fail
      refine (implValidCode_any (q : Int) _ out _ (H6.out.2.2.2.1.new H7.out)).mono ?_
      rintro e w8 ⟨⟨b, rfl, hb⟩, hn8⟩
      obtain rfl : b = true := hb.2 HV.out
      clear hb
      have H8 := Lib.hid (H7.out.trans hn8)
      replace d0 := hn8.cellNew d0
      replace d1 := hn8.cellNew d1
      clear hn8
      go_wp2_with fail
      refine (implIsBest_any (q : Int) _ out _ (H6.out.2.2.2.1.new H8.out)).mono ?_
      rintro e w9 ⟨b, rfl, hb, hn9⟩
      obtain rfl : b = true := hb.2 ⟨HV.out, HBT.out⟩
      clear hb
      have H9 := Lib.hid (H8.out.trans hn9)
      replace d0 := hn9.cellNew d0
      replace d1 := hn9.cellNew d1
      clear hn9
      go_wp2_with fail
      refine (implIsPlain_any (q : Int) _ out _ (H6.out.2.2.2.1.new H9.out)).mono ?_
      rintro e w10 ⟨⟨b, rfl, hb⟩, hn10⟩
      obtain rfl : b = true := hb.2 HPL.out
      have H10 := Lib.hid (H9.out.trans hn10)
      clear hb hn10
      go_wp2_with fail
      go_ret
      exact ⟨rfl, H6.out.2.2.2.2.trans H10.out⟩
end Go.Proofs.Ytahgjfmdafhedaa
