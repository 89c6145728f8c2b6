/- The walk of FnValidCode. -/
import Derived.Test.YtmehgchmnnbkfaaCodW
import Derived.Test.YtmehgchmnnbkfaaDrawK
import Derived.Test.YtmehgchmnnbkfaaKnow
import Derived.Test.YtmehgchmnnbkfaaPlainOf
import Derived.Test.YtmehgchmnnbkfaaWeightsOf
import Derived.Test.YtmehgchmnnbkfaaLawF
namespace Go.Proofs.Ytmehgchmnnbkfaa
open Go.RowKit Mat
set_option linter.unusedVariables false

set_option maxRecDepth 100000 in
set_option maxHeartbeats 8000000 in
theorem lawValidCode_any (v : Value) (n : Nat) (w : World) (hb : RawB w v n) :
    Calls Try.prog 4 #[v] w fun e w' => e = .returned (.bool true) ∧ New w w' := by
  obtain ⟨ao, cap, rfl, hcap, hmx, -⟩ := id hb
  unfold maxLen at hmx
  have HB := Lib.hid hb
  clear hb
  by_cases hbig : 1048576 < n
  · go_enter Try.func4, Try.ntmps4
    go_wp2_with fail
    go_ret
    exact ⟨rfl, Chg.refl _ _⟩
  · go_enter Try.func4, Try.ntmps4
    go_wp2_with fail
    refine (drawValidCode_any _ _ _ HB.out).mono ?_
    rintro e w1 ⟨a, l, c, rows, p, rfl, hr, hk, hp, hn1⟩
    go_upto_region 4 with fail
    have b2 := Blk2.alloc w1 (.int .i64 p) (.slice a l c) 25
    have n2 := New.alloc w1 (.cells #[.int .i64 p, .slice a l c] 25)
    obtain ⟨w2, hw2⟩ : ∃ w2, w2 = w1.alloc (.cells #[.int .i64 p, .slice a l c] 25) := ⟨_, rfl⟩
    rw [← hw2] at b2 n2
    rw [← hw2]
    clear hw2
    have HLL := Lib.hid hr.len
    have H2 := Lib.hid (And.intro (hr.new n2) (And.intro (hn1.trans n2) b2))
    obtain ⟨q0, q1, _, _⟩ := b2.cells
    clear hr hn1 b2 n2 hk
    go_wp2_with fail
    refine (implValidCode_any p _ rows _ H2.out.1).mono ?_
    rintro e w3 ⟨⟨y, rfl, hy⟩, hn3⟩
    have H3 := Lib.hid (And.intro hy hn3)
    replace q0 := hn3.cellNew q0
    replace q1 := hn3.cellNew q1
    clear hy hn3
    go_wp2_with fail
    refine (specValidCode_any p _ rows _ (H2.out.1.new H3.out.2)).mono ?_
    rintro e w4 ⟨⟨y', rfl, hy⟩, hn4⟩
    obtain rfl : y = y' := by rw [Bool.eq_iff_iff, hy, H3.out.1]
    have H4 := Lib.hid (H3.out.2.trans hn4)
    replace q0 := hn4.cellNew q0
    replace q1 := hn4.cellNew q1
    clear hy hn4
    cases y with
    | false =>
      go_wp2_with fail
      refine (specValidCode_any p _ rows _ (H2.out.1.new H4.out)).mono ?_
      rintro e w5 ⟨⟨y', rfl, hy⟩, hn5⟩
      obtain rfl : false = y' := by rw [Bool.eq_iff_iff, hy, H3.out.1]
      have H5 := Lib.hid (H4.out.trans hn5)
      clear hy hn5
      go_wp2_with fail
      go_ret
      exact ⟨rfl, H2.out.2.1.trans H5.out⟩
    | true =>
      have hv := H3.out.1.1 rfl
      obtain ⟨q, rfl, hq⟩ := prime_nat (vtB_pr hv.1)
      haveI := hq.nz
      go_wp2_with fail
      refine (implPlainOf_any q _ rows _ (H2.out.1.new H4.out)).mono ?_
      rintro e w5 ⟨u5, vs5, out, p5, rfl, ho5, hf5, hq5, hn5⟩
      obtain ⟨rfl, hred⟩ := hq5.told.1 hv
      obtain ⟨q', i2, e', hq', hred⟩ := hred
      obtain rfl : q = q' := by omega
      have hpl := hv.plainW hred
      have hsm := hq5.small
      have hi5 := ho5.isR (by unfold Mid; omega) (fun i hi => by have := hsm.2 i hi; unfold Mid; omega)
      obtain ⟨a5, l5, c5, rfl, HL5, hl5⟩ := hi5.shape
      go_upto_region 8 with fail
      have b6 := Blk2.alloc w5 (.int .i64 q) (.slice a5 l5 c5) 25
      have n6 := New.alloc w5 (.cells #[.int .i64 q, .slice a5 l5 c5] 25)
      obtain ⟨w6, hw6⟩ : ∃ w6, w6 = w5.alloc (.cells #[.int .i64 q, .slice a5 l5 c5] 25) := ⟨_, rfl⟩
      rw [← hw6] at b6 n6
      rw [← hw6]
      clear hw6
      have n26 := H4.out.trans (hn5.trans n6)
      have H6 := Lib.hid (And.intro b6 (And.intro (hi5.new n6) (And.intro (H2.out.2.2.new n26) n26)))
      have HV := Lib.hid (And.intro hv (And.intro hpl.1 hpl.2.2))
      have HLE := Lib.hid (show l5 = l by rw [HL5.out, HLL.out]; exact hpl.2.1)
      clear hv hq hred hpl hsm hi5 hn5 b6 n6 n26 ho5 hf5 hq5 q0 q1 e' hq'
      refine wp_region_held_drew (S := fun w' => New w6 w') (by kernel_rfl) (New.drew _) (fun hHeld => ?_)
      refine held_take 0 (some 27) rfl rfl (by kernel_rfl) (by kernel_rfl) (by kernel_rfl) (fun _ _ _ h => h) rfl hHeld (v := .agg #[.int .i64 q, .slice a5 l5 c5]) (fun w' hS => by obtain ⟨q0, q1, _, _⟩ := (H6.out.2.2.1.new hS).cells; obtain ⟨d0, d1, _, _⟩ := (H6.out.1.new hS).cells; go_simp; try with_reducible rfl) ?_
      simp only [Act.put, List.setIfInBounds_toArray, List.set_cons_zero, List.set_cons_succ]
      refine held_only 1 (by kernel_rfl) rfl rfl (fun K1 hK1 => ?_)
      go_simp
      refine (implValidCode_any q _ out _ (H6.out.2.1.new (New.drew _))).mono ?_
      rintro e w7 ⟨⟨z, rfl, hz⟩, hn7⟩
      obtain rfl : z = true := hz.2 HV.out.2.1
      clear hz
      refine hK1.out _ _ (hHeld.trans hn7) (fun hHeld1 => ?_)
      clear hK1 K1
      refine held_take 2 (some 29) rfl rfl (by kernel_rfl) (by kernel_rfl) (by kernel_rfl) (fun _ _ _ h => h) rfl hHeld1 (v := ?_) (fun w' hS => by skip; go_simp; try with_reducible rfl) ?_
      simp only [Act.put, List.setIfInBounds_toArray, List.set_cons_zero, List.set_cons_succ]
      refine held_take 3 (some 30) rfl rfl (by kernel_rfl) (by kernel_rfl) (by kernel_rfl) (fun _ _ _ h => h) rfl hHeld1 (v := ?_) (fun w' hS => by skip; go_simp; try with_reducible rfl) ?_
      simp only [Act.put, List.setIfInBounds_toArray, List.set_cons_zero, List.set_cons_succ]
      refine held_take 4 (some 31) rfl rfl (by kernel_rfl) (by kernel_rfl) (by kernel_rfl) (fun _ _ _ h => h) rfl hHeld1 (v := .slice a5 l5 c5) (fun w' hS => by obtain ⟨q0, q1, _, _⟩ := (H6.out.2.2.1.new hS).cells; obtain ⟨d0, d1, _, _⟩ := (H6.out.1.new hS).cells; go_simp; try with_reducible rfl) ?_
      simp only [Act.put, List.setIfInBounds_toArray, List.set_cons_zero, List.set_cons_succ]
      refine held_take 5 (some 32) rfl rfl (by kernel_rfl) (by kernel_rfl) (by kernel_rfl) (fun _ _ _ h => h) rfl hHeld1 (v := ?_) (fun w' hS => by skip; go_simp; try with_reducible rfl) ?_
      simp only [Act.put, List.setIfInBounds_toArray, List.set_cons_zero, List.set_cons_succ]
      refine held_take 6 (some 33) rfl rfl (by kernel_rfl) (by kernel_rfl) (by kernel_rfl) (fun _ _ _ h => h) rfl hHeld1 (v := ?_) (fun w' hS => by skip; go_simp; try with_reducible rfl) ?_
      simp only [Act.put, List.setIfInBounds_toArray, List.set_cons_zero, List.set_cons_succ]
      refine held_take 7 (some 34) rfl rfl (by kernel_rfl) (by kernel_rfl) (by kernel_rfl) (fun _ _ _ h => h) rfl hHeld1 (v := .slice a l c) (fun w' hS => by obtain ⟨q0, q1, _, _⟩ := (H6.out.2.2.1.new hS).cells; obtain ⟨d0, d1, _, _⟩ := (H6.out.1.new hS).cells; go_simp; try with_reducible rfl) ?_
      simp only [Act.put, List.setIfInBounds_toArray, List.set_cons_zero, List.set_cons_succ]
      refine held_take 8 (some 35) rfl rfl (by kernel_rfl) (by kernel_rfl) (by kernel_rfl) (fun _ _ _ h => h) rfl hHeld1 (v := ?_) (fun w' hS => by skip; go_simp; try with_reducible rfl) ?_
      simp only [Act.put, List.setIfInBounds_toArray, List.set_cons_zero, List.set_cons_succ]
      refine held_take 9 (some 36) rfl rfl (by kernel_rfl) (by kernel_rfl) (by kernel_rfl) (fun _ _ _ h => h) rfl hHeld1 (v := .bool true) (fun w' hS => by skip; go_simp; first | (with_reducible rfl) | (simp [HLE.out])) ?_
      simp only [Act.put, List.setIfInBounds_toArray, List.set_cons_zero, List.set_cons_succ]
      refine held_take 10 (some 37) rfl rfl (by kernel_rfl) (by kernel_rfl) (by kernel_rfl) (fun _ _ _ h => h) rfl hHeld1 (v := ?_) (fun w' hS => by skip; go_simp; try with_reducible rfl) ?_
      simp only [Act.put, List.setIfInBounds_toArray, List.set_cons_zero, List.set_cons_succ]
      refine held_take 11 (some 38) rfl rfl (by kernel_rfl) (by kernel_rfl) (by kernel_rfl) (fun _ _ _ h => h) rfl hHeld1 (v := ?_) (fun w' hS => by skip; go_simp; try with_reducible rfl) ?_
      simp only [Act.put, List.setIfInBounds_toArray, List.set_cons_zero, List.set_cons_succ]
      refine held_take 12 (some 39) rfl rfl (by kernel_rfl) (by kernel_rfl) (by kernel_rfl) (fun _ _ _ h => h) rfl hHeld1 (v := .agg #[.int .i64 q, .slice a5 l5 c5]) (fun w' hS => by obtain ⟨q0, q1, _, _⟩ := (H6.out.2.2.1.new hS).cells; obtain ⟨d0, d1, _, _⟩ := (H6.out.1.new hS).cells; go_simp; try with_reducible rfl) ?_
      simp only [Act.put, List.setIfInBounds_toArray, List.set_cons_zero, List.set_cons_succ]
      refine held_take 14 (some 41) rfl rfl (by kernel_rfl) (by kernel_rfl) (by kernel_rfl) (fun _ _ _ h => h) rfl hHeld1 (v := .agg #[.int .i64 q, .slice a l c]) (fun w' hS => by obtain ⟨q0, q1, _, _⟩ := (H6.out.2.2.1.new hS).cells; obtain ⟨d0, d1, _, _⟩ := (H6.out.1.new hS).cells; go_simp; try with_reducible rfl) ?_
      simp only [Act.put, List.setIfInBounds_toArray, List.set_cons_zero, List.set_cons_succ]
      refine held_only 13 (by kernel_rfl) rfl rfl (fun K2 hK2 => ?_)
      go_simp
      refine (implWeightsOf_any q _ out _ (H6.out.2.1.new hHeld1)).mono ?_
      rintro e w8 ⟨u8, x8, rfl, ho8, hf8, hq8, hn8⟩
      obtain rfl := hq8.eq HV.out.2.1
      have hsm := hq8.small
      have hi8 := ho8.isI (by unfold Mid; omega)
      obtain ⟨a8, l8, c8, rfl, _, _⟩ := hi8.shape
      have H8 := Lib.hid hi8
      clear ho8 hf8 hq8 hsm hi8
      refine hK2.out _ _ (hHeld1.trans hn8) (fun hHeld2 => ?_)
      clear hK2 K2
      refine held_only 15 (by kernel_rfl) rfl rfl (fun K3 hK3 => ?_)
      go_simp
      refine (implWeightsOf_any q _ rows _ (H2.out.1.new (H6.out.2.2.2.trans hHeld2))).mono ?_
      rintro e w9 ⟨u9, x9, rfl, ho9, hf9, hq9, hn9⟩
      obtain rfl := hq9.eq HV.out.1
      have hsm := hq9.small
      have hi9 := ho9.isI (by unfold Mid; omega)
      obtain ⟨a9, l9, c9, rfl, _, _⟩ := hi9.shape
      have H9 := Lib.hid (And.intro hi9 (H8.out.new hn9))
      clear ho9 hf9 hq9 hsm hi9
      refine hK3.out _ _ (hHeld2.trans hn9) (fun hHeld3 => ?_)
      clear hK3 K3
      refine held_only 16 (by kernel_rfl) rfl rfl (fun K4 hK4 => ?_)
      go_simp
      refine (equalInts_any _ _ _ _ _ H9.out.2 H9.out.1).mono ?_
      rintro e w10 ⟨rfl, m10, rfl⟩
      rw [HV.out.2.2, eqL_self]
      have hn10 := New.drewN w9 m10
      refine hK4.out _ _ (hHeld3.trans hn10) (fun hHeld4 => ?_)
      clear hK4 K4
      refine held_take 17 (some 44) rfl rfl (by kernel_rfl) (by kernel_rfl) (by kernel_rfl) (fun _ _ _ h => h) rfl hHeld4 (v := ?_) (fun w' hS => by skip; go_simp; try with_reducible rfl) ?_
      simp only [Act.put, List.setIfInBounds_toArray, List.set_cons_zero, List.set_cons_succ]
      refine held_take 18 (some 2) rfl rfl (by kernel_rfl) (by kernel_rfl) (by kernel_rfl) (fun _ _ _ h => h) rfl hHeld4 (v := ?_) (fun w' hS => by skip; go_simp; try with_reducible rfl) ?_
      simp only [Act.put, List.setIfInBounds_toArray, List.set_cons_zero, List.set_cons_succ]
      refine wpAnyH_done (by kernel_rfl) ?_ _
      go_wp2_with fail
      go_ret
      exact ⟨rfl, H2.out.2.1.trans (H6.out.2.2.2.trans hHeld4)⟩
end Go.Proofs.Ytmehgchmnnbkfaa
