/- The walk of FnLeastSends. -/
import Derived.Test.YtahgjfmdafhedaaDrawH
import Derived.Test.YtahgjfmdafhedaaHintL
namespace Go.Proofs.Ytahgjfmdafhedaa
open Go.RowKit Mat
set_option linter.unusedVariables false

set_option maxRecDepth 100000 in
set_option maxHeartbeats 4000000 in
theorem lawLeastSends_any (v : Value) (n : Nat) (w : World) (hb : RawB w v n) :
    Calls Try.prog 7 #[v] w fun e w' => e = .returned (.bool true) ∧ New w w' := by
  obtain ⟨ao, cap, rfl, hcap, hmx, -⟩ := id hb
  unfold maxLen at hmx
  have HB := Lib.hid hb
  clear hb
  by_cases hbig : 1048576 < n
  · go_enter Try.func7, Try.ntmps7
    go_wp2_with fail
    go_ret
    exact ⟨rfl, Chg.refl _ _⟩
  · go_enter Try.func7, Try.ntmps7
    go_wp2_with fail
    refine (drawLeastSends_any _ _ _ HB.out).mono ?_
    rintro e w1 ⟨u, has, rfl, hx, hn1⟩
    obtain ⟨au, lu, cu, rfl, HLU, _⟩ := hx.shape
    have H1 := Lib.hid (And.intro hx hn1)
    clear hx hn1
    go_wp2_with fail
    refine (implLeastSends_any _ has _ H1.out.1).mono ?_
    rintro e w2 ⟨x, rfl, hq, hn2⟩
    have H2 := Lib.hid (And.intro hq (H1.out.2.trans hn2))
    have HX2 := Lib.hid (H1.out.1.new hn2)
    clear hq hn2
    go_wp2_with fail
    refine (specLeastSends_any _ has _ HX2.out).mono ?_
    rintro e w3 ⟨y, rfl, hq, hn3⟩
    obtain rfl := H2.out.1.unique hq
    have H3 := Lib.hid (H2.out.2.trans hn3)
    have HX3 := Lib.hid (HX2.out.new hn3)
    clear hq hn3
    by_cases hh : HintsOk has
    · have hx := H2.out.1.1 hh
      have h1 := fits_one hh
      obtain ⟨f, hf⟩ : ∃ f, f = fitsF has has.length has.length [] := ⟨_, rfl⟩
      rw [← hf] at hx h1
      subst hx
      have HH := Lib.hid (And.intro hh hf)
      clear hh hf
      go_wp2_with fail
      refine (looplessOf_any _ has _ HX3.out).mono ?_
      rintro e w4 ⟨z, rfl, hz, hn4⟩
      have hzf : z ≤ (f : Int) := by
        obtain ⟨s, s1, s2, s3⟩ := hz HH.out.1
        have := elim_fits HH.out.1.n4 (fun i hi => HH.out.1.lt hi) s2 s1
        rw [← HH.out.2] at this
        omega
      have H4 := Lib.hid (H3.out.trans hn4)
      have HX4 := Lib.hid (HX3.out.new hn4)
      clear hz hn4
      go_wp2_with fail
      refine (cliquesOf_any _ has _ HX4.out).mono ?_
      rintro e w5 ⟨z2, rfl, hz, hn5⟩
      have hzf2 : (f : Int) ≤ z2 := by
        obtain ⟨g, s1, s2⟩ := hz HH.out.1
        have := cov_fits HH.out.1.n4 HH.out.1.n1 (fun i hi => HH.out.1.lt hi) s1
        rw [← HH.out.2] at this
        omega
      have H5 := Lib.hid (H4.out.trans hn5)
      clear hz hn5
      have hf1 : (1 : Int) ≤ (f : Int) := by omega
      go_wp2_with fail
      go_ret
      exact ⟨rfl, H5.out⟩
    · have hx := H2.out.1.2 hh
      subst hx
      have HNO := Lib.hid hh
      clear hh
      go_wp2_with fail
      refine (specLeastSends_any _ has _ HX3.out).mono ?_
      rintro e w4 ⟨y, rfl, hq, hn4⟩
      obtain rfl : y = -1 := hq.2 HNO.out
      have H4 := Lib.hid (H3.out.trans hn4)
      clear hq hn4
      go_wp2_with fail
      go_ret
      exact ⟨rfl, H4.out⟩
end Go.Proofs.Ytahgjfmdafhedaa
