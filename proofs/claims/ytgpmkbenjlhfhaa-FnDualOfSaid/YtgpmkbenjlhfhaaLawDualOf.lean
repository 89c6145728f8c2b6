/- The walk of FnDualOf. -/
import Derived.Test.YtgpmkbenjlhfhaaLawF
import Derived.Test.YtgpmkbenjlhfhaaCodD
import Derived.Test.YtgpmkbenjlhfhaaDrawK
import Derived.Test.YtgpmkbenjlhfhaaDualOf
import Derived.Test.YtgpmkbenjlhfhaaKnow
namespace Go.Proofs.Ytgpmkbenjlhfhaa
open Go.RowKit Mat
set_option linter.unusedVariables false

set_option maxRecDepth 100000 in
set_option maxHeartbeats 8000000 in
theorem lawDualOf_any (v : Value) (n : Nat) (w : World) (hb : RawB w v n) :
    Calls Try.prog 6 #[v] w fun e w' => e = .returned (.bool true) ∧ New w w' := by
  obtain ⟨ao, cap, rfl, hcap, hmx, -⟩ := id hb
  unfold maxLen at hmx
  have HB := Lib.hid hb
  clear hb
  by_cases hbig : 1048576 < n
  · go_enter Try.func6, Try.ntmps6
    go_wp2_with fail
    go_ret
    exact ⟨rfl, Chg.refl _ _⟩
  · go_enter Try.func6, Try.ntmps6
    go_wp2_with fail
    refine (drawDualOf_any _ _ _ HB.out).mono ?_
    rintro e w1 ⟨a, l, c, rows, p, rfl, hr, hk, hp, hn1⟩
    obtain rfl : l = rows.length := hr.len
    go_upto_region 4 with fail
    have b2 := Blk2.alloc w1 (.int .i64 p) (.slice a rows.length c) 25
    have n2 := New.alloc w1 (.cells #[.int .i64 p, .slice a rows.length c] 25)
    obtain ⟨w2, hw2⟩ : ∃ w2, w2 = w1.alloc (.cells #[.int .i64 p, .slice a rows.length c] 25) := ⟨_, rfl⟩
    rw [← hw2] at b2 n2
    rw [← hw2]
    clear hw2
    obtain ⟨l, hll⟩ : ∃ l, l = rows.length := ⟨_, rfl⟩
    rw [← hll] at b2 hr ⊢
    have H2 := Lib.hid (And.intro (hr.new n2) (And.intro (hn1.trans n2) b2))
    have HLL := Lib.hid hll
    have HK := Lib.hid hk
    obtain ⟨q0, q1, _, _⟩ := b2.cells
    clear hr hn1 b2 n2 hll hk
    go_wp2_with fail
    refine (implDualOf_any p _ rows _ H2.out.1).mono ?_
    rintro e w3 ⟨u3, vs3, out, p', ok, rfl, ho3, hf3, hq3, hn3⟩
    have hsm := hq3.small
    have hi3 := ho3.isR (by unfold Mid; omega) (fun i hi => by have := hsm.2 i hi; unfold Mid; omega)
    obtain ⟨a4, l4, c4, rfl, HL4, hl4⟩ := hi3.shape
    go_upto_region 5 with fail
    have b4 := Blk2.alloc w3 (.int .i64 p') (.slice a4 l4 c4) 25
    have n4 := New.alloc w3 (.cells #[.int .i64 p', .slice a4 l4 c4] 25)
    obtain ⟨w4, hw4⟩ : ∃ w4, w4 = w3.alloc (.cells #[.int .i64 p', .slice a4 l4 c4] 25) := ⟨_, rfl⟩
    rw [← hw4] at b4 n4
    rw [← hw4]
    clear hw4
    have n24 := hn3.trans n4
    have H4 := Lib.hid (And.intro b4 (And.intro (H2.out.2.2.new n24) (And.intro (hi3.new n4) (And.intro hq3 n24))))
    clear ho3 hf3 hq3 hsm hi3 hn3 b4 n4 n24 q0 q1
    obtain ⟨q0, q1, _, _⟩ := H4.out.2.1.cells
    go_wp2_with fail
    refine (specDualOf_any p _ rows _ (H2.out.1.new H4.out.2.2.2.2)).mono ?_
    rintro e w5 ⟨u5, vs5, out5, p5, ok5, rfl, ho5, hf5, hq5, hn5⟩
    obtain ⟨rfl, rfl, rfl⟩ := H4.out.2.2.2.1.unique hq5
    have hsm := hq5.small
    have hi5 := ho5.isR (by unfold Mid; omega) (fun i hi => by have := hsm.2 i hi; unfold Mid; omega)
    obtain ⟨a5, l5, c5, rfl, _, _⟩ := hi5.shape
    go_upto_region 6 with fail
    have b6 := Blk2.alloc w5 (.int .i64 p') (.slice a5 l5 c5) 25
    have n6 := New.alloc w5 (.cells #[.int .i64 p', .slice a5 l5 c5] 25)
    obtain ⟨w6, hw6⟩ : ∃ w6, w6 = w5.alloc (.cells #[.int .i64 p', .slice a5 l5 c5] 25) := ⟨_, rfl⟩
    rw [← hw6] at b6 n6
    rw [← hw6]
    clear hw6
    have n46 := hn5.trans n6
    have H6 := Lib.hid (And.intro b6 (And.intro (H4.out.1.new n46) (And.intro (H4.out.2.1.new n46) (And.intro (hi5.new n6) (And.intro (H4.out.2.2.1.new n46) (H4.out.2.2.2.2.trans n46))))))
    clear ho5 hf5 hq5 hsm hi5 hn5 b6 n6 n46 q0 q1
    obtain ⟨q0, q1, _, _⟩ := H6.out.2.2.1.cells
    obtain ⟨d0, d1, _, _⟩ := H6.out.2.1.cells
    obtain ⟨f0, f1, _, _⟩ := H6.out.1.cells
    go_wp2_with fail
    refine (equalCode_any _ _ _ _ out out _ H6.out.2.2.2.2.1 H6.out.2.2.2.1).mono ?_
    rintro e w7 ⟨rfl, hn7⟩
    rw [eqLL_self, decide_eq_true rfl, Bool.true_and]
    have H7 := Lib.hid hn7
    replace q0 := hn7.cellNew q0
    replace q1 := hn7.cellNew q1
    replace d0 := hn7.cellNew d0
    replace d1 := hn7.cellNew d1
    replace f0 := hn7.cellNew f0
    replace f1 := hn7.cellNew f1
    clear hn7
    cases ok with
    | false =>
      go_wp2_with fail
      refine (equalCode_any _ _ _ _ out out _ (H6.out.2.2.2.2.1.new H7.out) (H6.out.2.2.2.1.new H7.out)).mono ?_
      rintro e w8 ⟨rfl, hn8⟩
      rw [eqLL_self, decide_eq_true rfl, Bool.true_and]
      have H8 := Lib.hid hn8
      clear hn8
      go_wp2_with fail
      go_ret
      exact ⟨rfl, H2.out.2.1.trans (H6.out.2.2.2.2.2.trans (H7.out.trans H8.out))⟩
    | true =>
      go_wp2_with fail
      refine (implDualOf_any p' _ out _ (H6.out.2.2.2.2.1.new H7.out)).mono ?_
      rintro e w8 ⟨u8, vs8, back, p8, fine, rfl, ho8, hf8, hq8, hn8⟩
      have hv : ValidC p rows := by
        apply Classical.byContradiction; intro hno
        have := (H4.out.2.2.2.1.no hno).2.2
        cases this
      obtain ⟨q, rfl, hq⟩ := prime_nat (vtB_pr hv.1)
      haveI := hq.nz
      obtain ⟨checks, hnul, hyes, hnot⟩ := H4.out.2.2.2.1.yes hv
      have hin : inB checks.length 1 4 = true := by
        cases hb : inB checks.length 1 4 with
        | true => rfl
        | false => have := (hnot hb).2.2; cases this
      obtain ⟨rfl, rfl, -⟩ := hyes hin
      have hin' := inB_iff.1 hin
      have hcode := hv.code
      obtain ⟨ra, hra, rfl⟩ := hnul.at hcode.tab
      have hdual := hcode.dual hra (by omega) (by omega)
      have hdv := hdual.valid
      obtain ⟨checks2, hnul2, hyes2, -⟩ := hq8.yes hdv
      obtain ⟨rb, hrb, rfl⟩ := hnul2.at hdual.tab
      have hl2 := hdual.dual_len hrb
      have hl1 := hcode.dual_len hra
      have hr4 := hcode.r4
      have hr1 := hcode.tab.r1
      obtain ⟨rfl, rfl, rfl⟩ := hyes2 (inB_iff.2 (by omega))
      have hdual2 := hdual.dual hrb (by omega) (by omega)
      have hcc := hdual2.tab.cols
      have hfin : ∀ o1 o2, RedOf q (nlTo q (gr rows 0).length rb (gr rows 0).length) o1 → RedOf q rows o2 → o1 = o2 := fun o1 o2 h1 h2 => by
        obtain ⟨q1, i1, e1, _, h1⟩ := h1
        obtain ⟨q2, i2, e2, _, h2⟩ := h2
        obtain rfl : q = q1 := by omega
        obtain rfl : q = q2 := by omega
        rw [hcc] at h1
        have h3 := hcode.dual_dual hra (by omega) (by omega) hrb h1
        rw [h3]
        exact hra.unique hq h2
      have HV := Lib.hid (And.intro hv (And.intro hra (And.intro hrb (And.intro hdv (And.intro hdual2.valid hfin)))))
      have hsm := hq8.small
      have hi8 := ho8.isR (by unfold Mid; omega) (fun i hi => by have := hsm.2 i hi; unfold Mid; omega)
      obtain ⟨out, hout⟩ : ∃ out, out = nlTo q (gr rows 0).length ra (gr rows 0).length := ⟨_, rfl⟩
      obtain ⟨back, hback⟩ : ∃ back, back = nlTo q (gr rows 0).length rb (gr rows 0).length := ⟨_, rfl⟩
      have hio := H6.out.2.2.2.2.1
      rw [← hout] at HV hio
      rw [← hback] at HV hi8
      have HI := Lib.hid (And.intro (hio.new H7.out) hi8)
      clear hv hra hrb hdv hdual2 hfin hsm hio hcode hdual hin hin' hyes hnot hyes2 hnul hnul2 hl1 hl2 hr4 hr1 hcc ho8 hf8 hq8 hout hback
      clear HL4 H4 hq
      obtain ⟨a8, l8, c8, rfl, _, _⟩ := HI.out.2.shape
      have n78 := H7.out.trans hn8
      go_upto_region 9 with fail
      have b9 := Blk2.alloc w8 (.int .i64 q) (.slice a8 l8 c8) 25
      have n9 := New.alloc w8 (.cells #[.int .i64 q, .slice a8 l8 c8] 25)
      obtain ⟨w9, hw9⟩ : ∃ w9, w9 = w8.alloc (.cells #[.int .i64 q, .slice a8 l8 c8] 25) := ⟨_, rfl⟩
      rw [← hw9] at b9 n9
      rw [← hw9]
      clear hw9
      have n69 := n78.trans n9
      have H9 := Lib.hid (And.intro (hn8.trans n9) (And.intro (H6.out.2.1.new n69) (And.intro b9 (And.intro (H6.out.2.2.1.new n69) (And.intro (HI.out.2.new n9) (H6.out.2.2.2.2.2.trans n69))))))
      clear b9 n9 n69 n78 hn8 q0 q1 d0 d1 f0 f1
      refine wp_region_held_drew (S := fun w' => New w9 w') (by kernel_rfl) (New.drew _) (fun hHeld => ?_)
      refine held_take 0 (some 51) rfl rfl (by kernel_rfl) (by kernel_rfl) (by kernel_rfl) (fun _ _ _ h => h) rfl hHeld (v := .agg #[.int .i64 q, .slice a4 l4 c4]) (fun w' hS => by obtain ⟨q0, q1, _, _⟩ := (H9.out.2.1.new hS).cells; obtain ⟨d0, d1, _, _⟩ := (H9.out.2.2.1.new hS).cells; obtain ⟨f0, f1, _, _⟩ := (H9.out.2.2.2.1.new hS).cells; go_simp; try with_reducible rfl) ?_
      simp only [Act.put, List.setIfInBounds_toArray, List.set_cons_zero, List.set_cons_succ]
      refine held_only 1 (by kernel_rfl) rfl rfl (fun K1 hK1 => ?_)
      go_simp
      refine (implValidCode_any q _ out _ (HI.out.1.new (H9.out.1.trans (New.drew _)))).mono ?_
      rintro e w10 ⟨⟨z, rfl, hz⟩, hn10⟩
      obtain rfl : z = true := hz.2 HV.out.2.2.2.1
      clear hz
      refine hK1.out _ _ (hHeld.trans hn10) (fun hHeld1 => ?_)
      clear hK1 K1
      refine held_take 2 (some 53) rfl rfl (by kernel_rfl) (by kernel_rfl) (by kernel_rfl) (fun _ _ _ h => h) rfl hHeld1 (v := ?_) (fun w' hS => by skip; go_simp; try with_reducible rfl) ?_
      simp only [Act.put, List.setIfInBounds_toArray, List.set_cons_zero, List.set_cons_succ]
      refine held_take 3 (some 54) rfl rfl (by kernel_rfl) (by kernel_rfl) (by kernel_rfl) (fun _ _ _ h => h) rfl hHeld1 (v := ?_) (fun w' hS => by skip; go_simp; try with_reducible rfl) ?_
      simp only [Act.put, List.setIfInBounds_toArray, List.set_cons_zero, List.set_cons_succ]
      refine held_take 4 (some 55) rfl rfl (by kernel_rfl) (by kernel_rfl) (by kernel_rfl) (fun _ _ _ h => h) rfl hHeld1 (v := ?_) (fun w' hS => by skip; go_simp; try with_reducible rfl) ?_
      simp only [Act.put, List.setIfInBounds_toArray, List.set_cons_zero, List.set_cons_succ]
      refine held_take 5 (some 56) rfl rfl (by kernel_rfl) (by kernel_rfl) (by kernel_rfl) (fun _ _ _ h => h) rfl hHeld1 (v := ?_) (fun w' hS => by skip; go_simp; try with_reducible rfl) ?_
      simp only [Act.put, List.setIfInBounds_toArray, List.set_cons_zero, List.set_cons_succ]
      refine held_take 6 (some 57) rfl rfl (by kernel_rfl) (by kernel_rfl) (by kernel_rfl) (fun _ _ _ h => h) rfl hHeld1 (v := .agg #[.int .i64 q, .slice a8 l8 c8]) (fun w' hS => by obtain ⟨q0, q1, _, _⟩ := (H9.out.2.1.new hS).cells; obtain ⟨d0, d1, _, _⟩ := (H9.out.2.2.1.new hS).cells; obtain ⟨f0, f1, _, _⟩ := (H9.out.2.2.2.1.new hS).cells; go_simp; try with_reducible rfl) ?_
      simp only [Act.put, List.setIfInBounds_toArray, List.set_cons_zero, List.set_cons_succ]
      refine held_take 8 (some 59) rfl rfl (by kernel_rfl) (by kernel_rfl) (by kernel_rfl) (fun _ _ _ h => h) rfl hHeld1 (v := .agg #[.int .i64 q, .slice a l c]) (fun w' hS => by obtain ⟨q0, q1, _, _⟩ := (H9.out.2.1.new hS).cells; obtain ⟨d0, d1, _, _⟩ := (H9.out.2.2.1.new hS).cells; obtain ⟨f0, f1, _, _⟩ := (H9.out.2.2.2.1.new hS).cells; go_simp; try with_reducible rfl) ?_
      simp only [Act.put, List.setIfInBounds_toArray, List.set_cons_zero, List.set_cons_succ]
      refine held_only 7 (by kernel_rfl) rfl rfl (fun K2 hK2 => ?_)
      go_simp
      refine (implPlainOf_any q _ back _ (H9.out.2.2.2.2.1.new (hHeld.trans hn10))).mono ?_
      rintro e w11 ⟨u11, vs11, out11, p11, rfl, ho11, hf11, hq11, hn11⟩
      obtain ⟨rfl, hred11⟩ := hq11.told.1 HV.out.2.2.2.2.1
      have hsm := hq11.small
      have hi11 := ho11.isR (by unfold Mid; omega) (fun i hi => by have := hsm.2 i hi; unfold Mid; omega)
      obtain ⟨a11, l11, c11, rfl, _, _⟩ := hi11.shape
      have H11 := Lib.hid (And.intro hi11 (And.intro hred11 (hHeld1.trans hn11)))
      clear ho11 hf11 hq11 hsm hi11 hred11
      refine hK2.out _ _ (hHeld1.trans hn11) (fun hHeld2 => ?_)
      clear hK2 K2
      refine held_only 9 (by kernel_rfl) rfl rfl (fun K3 hK3 => ?_)
      go_simp
      refine (implPlainOf_any q _ rows _ (H2.out.1.new (H9.out.2.2.2.2.2.trans H11.out.2.2))).mono ?_
      rintro e w12 ⟨u12, vs12, out12, p12, rfl, ho12, hf12, hq12, hn12⟩
      obtain ⟨rfl, hred12⟩ := hq12.told.1 HV.out.1
      have hsm := hq12.small
      have hi12 := ho12.isR (by unfold Mid; omega) (fun i hi => by have := hsm.2 i hi; unfold Mid; omega)
      obtain ⟨a12, l12, c12, rfl, _, _⟩ := hi12.shape
      have H12 := Lib.hid (And.intro hi12 (And.intro hred12 (H11.out.2.2.trans hn12)))
      clear ho12 hf12 hq12 hsm hi12 hred12
      refine hK3.out _ _ (hHeld2.trans hn12) (fun hHeld3 => ?_)
      clear hK3 K3
      refine held_only 10 (by kernel_rfl) rfl rfl (fun K4 hK4 => ?_)
      go_simp
      refine (equalCode_any _ _ _ _ _ _ _ (H11.out.1.new hn12) H12.out.1).mono ?_
      rintro e w13 ⟨rfl, hn13⟩
      rw [HV.out.2.2.2.2.2 _ _ H11.out.2.1 H12.out.2.1, eqLL_self, decide_eq_true rfl, Bool.true_and]
      refine hK4.out _ _ (hHeld3.trans hn13) (fun hHeld4 => ?_)
      clear hK4 K4
      refine held_take 11 (some 62) rfl rfl (by kernel_rfl) (by kernel_rfl) (by kernel_rfl) (fun _ _ _ h => h) rfl hHeld4 (v := ?_) (fun w' hS => by skip; go_simp; try with_reducible rfl) ?_
      simp only [Act.put, List.setIfInBounds_toArray, List.set_cons_zero, List.set_cons_succ]
      refine held_take 12 (some 63) rfl rfl (by kernel_rfl) (by kernel_rfl) (by kernel_rfl) (fun _ _ _ h => h) rfl hHeld4 (v := ?_) (fun w' hS => by skip; go_simp; try with_reducible rfl) ?_
      simp only [Act.put, List.setIfInBounds_toArray, List.set_cons_zero, List.set_cons_succ]
      refine held_take 13 (some 2) rfl rfl (by kernel_rfl) (by kernel_rfl) (by kernel_rfl) (fun _ _ _ h => h) rfl hHeld4 (v := ?_) (fun w' hS => by skip; go_simp; try with_reducible rfl) ?_
      simp only [Act.put, List.setIfInBounds_toArray, List.set_cons_zero, List.set_cons_succ]
      refine wpAnyH_done (by kernel_rfl) ?_ _
      go_wp2_with fail
      go_ret
      exact ⟨rfl, H2.out.2.1.trans (H9.out.2.2.2.2.2.trans hHeld4)⟩
end Go.Proofs.Ytgpmkbenjlhfhaa
