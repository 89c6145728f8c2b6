/- The walk of FnIsBest. -/
import Derived.Test.YtaaajekibfaoeaaLawE
import Derived.Test.YtaaajekibfaoeaaDrawK
import Derived.Test.YtaaajekibfaoeaaKnow
import Derived.Test.YtaaajekibfaoeaaDualOf
import Derived.Test.YtaaajekibfaoeaaIsBest
import Derived.Test.YtaaajekibfaoeaaCodU
import Derived.Test.YtaaajekibfaoeaaBestW
import Derived.Test.YtaaajekibfaoeaaWtsI
namespace Go.Proofs.Ytaaajekibfaoeaa
open Go.RowKit Mat
set_option linter.unusedVariables false

set_option maxRecDepth 100000 in
set_option maxHeartbeats 8000000 in
theorem lawIsBest_any (v : Value) (n : Nat) (w : World) (hb : RawB w v n) :
    Calls Try.prog 3 #[v] w fun e w' => e = .returned (.bool true) ∧ New w w' := by
  obtain ⟨ao, cap, rfl, hcap, hmx, -⟩ := id hb
  unfold maxLen at hmx
  have HB := Lib.hid hb
  clear hb
  by_cases hbig : 1048576 < n
  · go_enter Try.func3, Try.ntmps3
    go_wp2_with fail
    go_ret
    exact ⟨rfl, Chg.refl _ _⟩
  · go_enter Try.func3, Try.ntmps3
    go_wp2_with fail
    refine (drawIsBest_any _ _ _ HB.out).mono ?_
    rintro e w1 ⟨a, l, c, rows, p, rfl, hr, hk, hp, hn1⟩
    go_upto_region 4 with fail
    have b2 := Blk2.alloc w1 (.int .i64 p) (.slice a l c) 25
    have n2 := New.alloc w1 (.cells #[.int .i64 p, .slice a l c] 25)
    obtain ⟨w2, hw2⟩ : ∃ w2, w2 = w1.alloc (.cells #[.int .i64 p, .slice a l c] 25) := ⟨_, rfl⟩
    rw [← hw2] at b2 n2
    rw [← hw2]
    clear hw2
    have HLL := Lib.hid hr.len
    have H2 := Lib.hid (And.intro (hr.new n2) (And.intro (hn1.trans n2) b2))
    obtain ⟨q0, q1, _, _⟩ := b2.cells
    clear hr hn1 b2 n2 hk
    go_wp2_with fail
    refine (implIsBest_any p _ rows _ H2.out.1).mono ?_
    rintro e w3 ⟨o1, rfl, ho1, hn3⟩
    have H3 := Lib.hid (And.intro ho1 hn3)
    replace q0 := hn3.cellNew q0
    replace q1 := hn3.cellNew q1
    clear ho1 hn3
    go_wp2_with fail
    refine (specIsBest_any p _ rows _ (H2.out.1.new H3.out.2)).mono ?_
    rintro e w4 ⟨o2, rfl, ho2, hn4⟩
    obtain rfl : o1 = o2 := Bool.eq_iff_iff.2 (H3.out.1.trans ho2.symm)
    have H4 := Lib.hid hn4
    replace q0 := hn4.cellNew q0
    replace q1 := hn4.cellNew q1
    clear ho2 hn4
    have hbb : (o1 != o1) = false := by simp
    go_wp2_with fail
    refine (implValidCode_any p _ rows _ (H2.out.1.new (H3.out.2.trans H4.out))).mono ?_
    rintro e w6 ⟨⟨z, rfl, hz⟩, hn6⟩
    have H6 := Lib.hid (And.intro hz ((H3.out.2.trans H4.out).trans hn6))
    replace q0 := hn6.cellNew q0
    replace q1 := hn6.cellNew q1
    clear hz hn6
    cases z with
    | false =>
      go_wp2_with fail
      refine (specIsBest_any p _ rows _ (H2.out.1.new H6.out.2)).mono ?_
      rintro e w7 ⟨o2, rfl, ho2, hn7⟩
      obtain rfl : o1 = o2 := Bool.eq_iff_iff.2 (H3.out.1.trans ho2.symm)
      have H7 := Lib.hid hn7
      clear ho2 hn7
      go_wp2_with fail
      go_ret
      exact ⟨ret_bool (by simp), H2.out.2.1.trans (H6.out.2.trans H7.out)⟩
    | true =>
      have hv := H6.out.1.1 rfl
      obtain ⟨q, rfl, hq⟩ := prime_nat (vtB_pr hv.1)
      haveI := hq.nz
      have hc := hv.code
      have hl0 : 0 < l := by rw [HLL.out]; exact hc.tab.r1
      have hl4 : l ≤ 4 := by rw [HLL.out]; exact hc.r4
      obtain ⟨b0, o0, u0, rfl, ck0, hu0⟩ := (H2.out.1.new H6.out.2).at hl0
      rw [Nat.add_zero] at ck0
      obtain ⟨a0, m, c0, rfl, HM, _⟩ := hu0.shape
      have hm7 : m ≤ 7 := by rw [HM.out]; exact hc.tab.n7
      have hm1 : 1 ≤ m := by rw [HM.out]; exact hc.tab.n1
      have hlm : l ≤ m := by rw [HLL.out, HM.out]; exact hc.cols
      rw [← HM.out] at hc
      have hq27 : 2 ≤ q ∧ q ≤ 7 := hq.pos
      have hm17 : 1 ≤ m ∧ m ≤ 7 := ⟨hm1, hm7⟩
      have hl14 : 1 ≤ l ∧ l ≤ 4 := ⟨hl0, hl4⟩
      have HPR := Lib.hid (vtB_pr hv.1)
      have hbest : IsBestC q rows ↔ BestTo q rows (2 ^ m) := by
        unfold IsBestC
        rw [← HM.out]
        exact ⟨fun h => h.2, fun h => ⟨hv, h⟩⟩
      have HBB := Lib.hid hbest
      have HV := Lib.hid (And.intro hv hc)
      clear hv hc hq hu0 hbest
      go_wp2_with fail
      refine (implDualOf_any q _ rows _ (H2.out.1.new H6.out.2)).mono ?_
      rintro e w7 ⟨u7, vs7, dual, p', ok, rfl, ho7, hf7, hq7', hn7⟩
      have hsm := hq7'.small
      have hi7 := ho7.isR (by unfold Mid; omega) (fun i hi => by have := hsm.2 i hi; unfold Mid; omega)
      obtain ⟨a7, l7, c7, rfl, HL7, hl7⟩ := hi7.shape
      replace ck0 := hn7.cellNew ck0
      go_upto_region 8 with fail
      have b8 := Blk2.alloc w7 (.int .i64 p') (.slice a7 l7 c7) 25
      have n8 := New.alloc w7 (.cells #[.int .i64 p', .slice a7 l7 c7] 25)
      obtain ⟨g8, hg8⟩ : ∃ g8, g8 = w7.heap.size := ⟨_, rfl⟩
      obtain ⟨w8, hw8⟩ : ∃ w8, w8 = w7.alloc (.cells #[.int .i64 p', .slice a7 l7 c7] 25) := ⟨_, rfl⟩
      rw [← hw8] at b8 n8
      rw [← hw8]
      rw [← hg8] at b8
      rw [← hg8]
      have n78 := hn7.trans n8
      have CK := Lib.hid (n8.cellNew ck0)
      have hdb : ok = true → (IsBestC p' dual ↔ o1 = true) := fun hok => by
        obtain ⟨hv, hc⟩ := HV.out
        obtain ⟨checks, hnul, hyes, hnot⟩ := hq7'.yes hv
        have hin : inB checks.length 1 4 = true := by
          cases hb : inB checks.length 1 4 with
          | true => rfl
          | false => have := (hnot hb).2.2; rw [hok] at this; cases this
        obtain ⟨rfl, rfl, -⟩ := hyes hin
        have hin' := inB_iff.1 hin
        obtain ⟨ra, hra, rfl⟩ := hnul.at hc.tab
        have hdual := hc.dual hra (by omega) (by omega)
        have hdb := hc.dual_best hra (by omega) (by omega)
        rw [H3.out.1, HBB.out, ← hdb]
        unfold IsBestC
        rw [hdual.tab.cols]
        exact ⟨fun h => h.2, fun h => ⟨hdual.valid, h⟩⟩
      have H8 := Lib.hid (And.intro (hi7.new n8) (And.intro (H2.out.1.new (H6.out.2.trans n78)) (And.intro ((H2.out.2.2.new H6.out.2).new n78) b8)))
      have HN8 := Lib.hid (H2.out.2.1.trans (H6.out.2.trans n78))
      have HDX := Lib.hid hdb
      clear hw8 hg8 b8 n8 n78 ho7 hf7 hq7' hsm hi7 hn7 q0 q1 ck0 hdb
      cases o1 with
      | false =>
        cases ok with
        | false =>
          refine wp_region_held_drew (S := fun w' => New w8 w') (by kernel_rfl) (New.drew _) (fun hY => ?_)
          refine held_take 0 (some 32) rfl rfl (by kernel_rfl) (by kernel_rfl) (by kernel_rfl) (fun _ _ _ h => h) rfl hY (v := ?_) (fun w' hS => by skip; go_simp; try with_reducible rfl) ?_
          simp only [Act.put, List.setIfInBounds_toArray, List.set_cons_zero, List.set_cons_succ]
          refine held_take 1 (some 33) rfl rfl (by kernel_rfl) (by kernel_rfl) (by kernel_rfl) (fun _ _ _ h => h) rfl hY (v := ?_) (fun w' hS => by skip; go_simp; try with_reducible rfl) ?_
          simp only [Act.put, List.setIfInBounds_toArray, List.set_cons_zero, List.set_cons_succ]
          refine held_take 2 (some 34) rfl rfl (by kernel_rfl) (by kernel_rfl) (by kernel_rfl) (fun _ _ _ h => h) rfl hY (v := ?_) (fun w' hS => by skip; go_simp; try with_reducible rfl) ?_
          simp only [Act.put, List.setIfInBounds_toArray, List.set_cons_zero, List.set_cons_succ]
          refine held_skip 3 (some 35) rfl rfl (by kernel_rfl) (by kernel_rfl) (by kernel_rfl) (fun _ _ _ h => h) rfl hY ?_
          simp only [Act.put, List.setIfInBounds_toArray, List.set_cons_zero, List.set_cons_succ]
          refine held_skip 5 (some 37) rfl rfl (by kernel_rfl) (by kernel_rfl) (by kernel_rfl) (fun _ _ _ h => h) rfl hY ?_
          simp only [Act.put, List.setIfInBounds_toArray, List.set_cons_zero, List.set_cons_succ]
          refine held_skip 6 (some 38) rfl rfl (by kernel_rfl) (by kernel_rfl) (by kernel_rfl) (fun _ _ _ h => h) rfl hY ?_
          simp only [Act.put, List.setIfInBounds_toArray, List.set_cons_zero, List.set_cons_succ]
          refine held_skip 7 (some 39) rfl rfl (by kernel_rfl) (by kernel_rfl) (by kernel_rfl) (fun _ _ _ h => h) rfl hY ?_
          simp only [Act.put, List.setIfInBounds_toArray, List.set_cons_zero, List.set_cons_succ]
          refine held_skip 8 (some 40) rfl rfl (by kernel_rfl) (by kernel_rfl) (by kernel_rfl) (fun _ _ _ h => h) rfl hY ?_
          simp only [Act.put, List.setIfInBounds_toArray, List.set_cons_zero, List.set_cons_succ]
          refine held_skip 9 (some 41) rfl rfl (by kernel_rfl) (by kernel_rfl) (by kernel_rfl) (fun _ _ _ h => h) rfl hY ?_
          simp only [Act.put, List.setIfInBounds_toArray, List.set_cons_zero, List.set_cons_succ]
          refine held_skip 10 (some 42) rfl rfl (by kernel_rfl) (by kernel_rfl) (by kernel_rfl) (fun _ _ _ h => h) rfl hY ?_
          simp only [Act.put, List.setIfInBounds_toArray, List.set_cons_zero, List.set_cons_succ]
          refine held_skip 11 (some 43) rfl rfl (by kernel_rfl) (by kernel_rfl) (by kernel_rfl) (fun _ _ _ h => h) rfl hY ?_
          simp only [Act.put, List.setIfInBounds_toArray, List.set_cons_zero, List.set_cons_succ]
          refine held_skip 12 (some 44) rfl rfl (by kernel_rfl) (by kernel_rfl) (by kernel_rfl) (fun _ _ _ h => h) rfl hY ?_
          simp only [Act.put, List.setIfInBounds_toArray, List.set_cons_zero, List.set_cons_succ]
          refine held_skip 13 (some 45) rfl rfl (by kernel_rfl) (by kernel_rfl) (by kernel_rfl) (fun _ _ _ h => h) rfl hY ?_
          simp only [Act.put, List.setIfInBounds_toArray, List.set_cons_zero, List.set_cons_succ]
          refine held_skip 14 (some 46) rfl rfl (by kernel_rfl) (by kernel_rfl) (by kernel_rfl) (fun _ _ _ h => h) rfl hY ?_
          simp only [Act.put, List.setIfInBounds_toArray, List.set_cons_zero, List.set_cons_succ]
          refine held_skip 4 (some 36) rfl rfl (by kernel_rfl) (by kernel_rfl) (by kernel_rfl) (fun _ _ _ h => h) rfl hY ?_
          simp only [Act.put, List.setIfInBounds_toArray, List.set_cons_zero, List.set_cons_succ]
          refine held_skip 15 (some 47) rfl rfl (by kernel_rfl) (by kernel_rfl) (by kernel_rfl) (fun _ _ _ h => h) rfl hY ?_
          simp only [Act.put, List.setIfInBounds_toArray, List.set_cons_zero, List.set_cons_succ]
          refine held_skip 16 (some 48) rfl rfl (by kernel_rfl) (by kernel_rfl) (by kernel_rfl) (fun _ _ _ h => h) rfl hY ?_
          simp only [Act.put, List.setIfInBounds_toArray, List.set_cons_zero, List.set_cons_succ]
          refine held_take 17 (some 49) rfl rfl (by kernel_rfl) (by kernel_rfl) (by kernel_rfl) (fun _ _ _ h => h) rfl hY (v := .bool true) (fun w' hS => by skip; go_simp; try (first | (with_reducible rfl) | (simp; done))) ?_
          simp only [Act.put, List.setIfInBounds_toArray, List.set_cons_zero, List.set_cons_succ]
          refine held_take 18 (some 50) rfl rfl (by kernel_rfl) (by kernel_rfl) (by kernel_rfl) (fun _ _ _ h => h) rfl hY (v := .bool true) (fun w' hS => by skip; go_simp; try with_reducible rfl) ?_
          simp only [Act.put, List.setIfInBounds_toArray, List.set_cons_zero, List.set_cons_succ]
          refine held_take 19 (some 51) rfl rfl (by kernel_rfl) (by kernel_rfl) (by kernel_rfl) (fun _ _ _ h => h) rfl hY (v := ?_) (fun w' hS => by skip; go_simp; try with_reducible rfl) ?_
          simp only [Act.put, List.setIfInBounds_toArray, List.set_cons_zero, List.set_cons_succ]
          refine held_take 20 (some 52) rfl rfl (by kernel_rfl) (by kernel_rfl) (by kernel_rfl) (fun _ _ _ h => h) rfl hY (v := ?_) (fun w' hS => by skip; go_simp; try with_reducible rfl) ?_
          simp only [Act.put, List.setIfInBounds_toArray, List.set_cons_zero, List.set_cons_succ]
          refine held_take 21 (some 53) rfl rfl (by kernel_rfl) (by kernel_rfl) (by kernel_rfl) (fun _ _ _ h => h) rfl hY (v := ?_) (fun w' hS => by skip; go_simp; try with_reducible rfl) ?_
          simp only [Act.put, List.setIfInBounds_toArray, List.set_cons_zero, List.set_cons_succ]
          refine held_skip 22 (some 54) rfl rfl (by kernel_rfl) (by kernel_rfl) (by kernel_rfl) (fun _ _ _ h => h) rfl hY ?_
          simp only [Act.put, List.setIfInBounds_toArray, List.set_cons_zero, List.set_cons_succ]
          refine held_skip 24 (some 56) rfl rfl (by kernel_rfl) (by kernel_rfl) (by kernel_rfl) (fun _ _ _ h => h) rfl hY ?_
          simp only [Act.put, List.setIfInBounds_toArray, List.set_cons_zero, List.set_cons_succ]
          refine held_skip 23 (some 55) rfl rfl (by kernel_rfl) (by kernel_rfl) (by kernel_rfl) (fun _ _ _ h => h) rfl hY ?_
          simp only [Act.put, List.setIfInBounds_toArray, List.set_cons_zero, List.set_cons_succ]
          refine held_skip 25 (some 57) rfl rfl (by kernel_rfl) (by kernel_rfl) (by kernel_rfl) (fun _ _ _ h => h) rfl hY ?_
          simp only [Act.put, List.setIfInBounds_toArray, List.set_cons_zero, List.set_cons_succ]
          refine held_take 26 (some 58) rfl rfl (by kernel_rfl) (by kernel_rfl) (by kernel_rfl) (fun _ _ _ h => h) rfl hY (v := .bool true) (fun w' hS => by skip; go_simp; try (first | (with_reducible rfl) | (simp; done))) ?_
          simp only [Act.put, List.setIfInBounds_toArray, List.set_cons_zero, List.set_cons_succ]
          refine held_take 27 (some 59) rfl rfl (by kernel_rfl) (by kernel_rfl) (by kernel_rfl) (fun _ _ _ h => h) rfl hY (v := .bool true) (fun w' hS => by skip; go_simp; try (first | (with_reducible rfl) | (simp; done))) ?_
          simp only [Act.put, List.setIfInBounds_toArray, List.set_cons_zero, List.set_cons_succ]
          refine held_take 28 (some 2) rfl rfl (by kernel_rfl) (by kernel_rfl) (by kernel_rfl) (fun _ _ _ h => h) rfl hY (v := ?_) (fun w' hS => by skip; go_simp; try with_reducible rfl) ?_
          simp only [Act.put, List.setIfInBounds_toArray, List.set_cons_zero, List.set_cons_succ]
          refine wpAnyH_done (by kernel_rfl) ?_ _
          go_wp2_with fail
          go_ret
          exact ⟨rfl, HN8.out.trans hY⟩
        | true =>
          have HDB := Lib.hid (HDX.out rfl)
          refine wp_region_held_drew (S := fun w' => New w8 w') (by kernel_rfl) (New.drew _) (fun hY => ?_)
          refine held_take 0 (some 32) rfl rfl (by kernel_rfl) (by kernel_rfl) (by kernel_rfl) (fun _ _ _ h => h) rfl hY (v := ?_) (fun w' hS => by skip; go_simp; try with_reducible rfl) ?_
          simp only [Act.put, List.setIfInBounds_toArray, List.set_cons_zero, List.set_cons_succ]
          refine held_take 1 (some 33) rfl rfl (by kernel_rfl) (by kernel_rfl) (by kernel_rfl) (fun _ _ _ h => h) rfl hY (v := ?_) (fun w' hS => by skip; go_simp; try with_reducible rfl) ?_
          simp only [Act.put, List.setIfInBounds_toArray, List.set_cons_zero, List.set_cons_succ]
          refine held_take 2 (some 34) rfl rfl (by kernel_rfl) (by kernel_rfl) (by kernel_rfl) (fun _ _ _ h => h) rfl hY (v := ?_) (fun w' hS => by skip; go_simp; try with_reducible rfl) ?_
          simp only [Act.put, List.setIfInBounds_toArray, List.set_cons_zero, List.set_cons_succ]
          refine held_skip 3 (some 35) rfl rfl (by kernel_rfl) (by kernel_rfl) (by kernel_rfl) (fun _ _ _ h => h) rfl hY ?_
          simp only [Act.put, List.setIfInBounds_toArray, List.set_cons_zero, List.set_cons_succ]
          refine held_skip 5 (some 37) rfl rfl (by kernel_rfl) (by kernel_rfl) (by kernel_rfl) (fun _ _ _ h => h) rfl hY ?_
          simp only [Act.put, List.setIfInBounds_toArray, List.set_cons_zero, List.set_cons_succ]
          refine held_skip 6 (some 38) rfl rfl (by kernel_rfl) (by kernel_rfl) (by kernel_rfl) (fun _ _ _ h => h) rfl hY ?_
          simp only [Act.put, List.setIfInBounds_toArray, List.set_cons_zero, List.set_cons_succ]
          refine held_skip 7 (some 39) rfl rfl (by kernel_rfl) (by kernel_rfl) (by kernel_rfl) (fun _ _ _ h => h) rfl hY ?_
          simp only [Act.put, List.setIfInBounds_toArray, List.set_cons_zero, List.set_cons_succ]
          refine held_skip 8 (some 40) rfl rfl (by kernel_rfl) (by kernel_rfl) (by kernel_rfl) (fun _ _ _ h => h) rfl hY ?_
          simp only [Act.put, List.setIfInBounds_toArray, List.set_cons_zero, List.set_cons_succ]
          refine held_skip 9 (some 41) rfl rfl (by kernel_rfl) (by kernel_rfl) (by kernel_rfl) (fun _ _ _ h => h) rfl hY ?_
          simp only [Act.put, List.setIfInBounds_toArray, List.set_cons_zero, List.set_cons_succ]
          refine held_skip 10 (some 42) rfl rfl (by kernel_rfl) (by kernel_rfl) (by kernel_rfl) (fun _ _ _ h => h) rfl hY ?_
          simp only [Act.put, List.setIfInBounds_toArray, List.set_cons_zero, List.set_cons_succ]
          refine held_skip 11 (some 43) rfl rfl (by kernel_rfl) (by kernel_rfl) (by kernel_rfl) (fun _ _ _ h => h) rfl hY ?_
          simp only [Act.put, List.setIfInBounds_toArray, List.set_cons_zero, List.set_cons_succ]
          refine held_skip 12 (some 44) rfl rfl (by kernel_rfl) (by kernel_rfl) (by kernel_rfl) (fun _ _ _ h => h) rfl hY ?_
          simp only [Act.put, List.setIfInBounds_toArray, List.set_cons_zero, List.set_cons_succ]
          refine held_skip 13 (some 45) rfl rfl (by kernel_rfl) (by kernel_rfl) (by kernel_rfl) (fun _ _ _ h => h) rfl hY ?_
          simp only [Act.put, List.setIfInBounds_toArray, List.set_cons_zero, List.set_cons_succ]
          refine held_skip 14 (some 46) rfl rfl (by kernel_rfl) (by kernel_rfl) (by kernel_rfl) (fun _ _ _ h => h) rfl hY ?_
          simp only [Act.put, List.setIfInBounds_toArray, List.set_cons_zero, List.set_cons_succ]
          refine held_skip 4 (some 36) rfl rfl (by kernel_rfl) (by kernel_rfl) (by kernel_rfl) (fun _ _ _ h => h) rfl hY ?_
          simp only [Act.put, List.setIfInBounds_toArray, List.set_cons_zero, List.set_cons_succ]
          refine held_skip 15 (some 47) rfl rfl (by kernel_rfl) (by kernel_rfl) (by kernel_rfl) (fun _ _ _ h => h) rfl hY ?_
          simp only [Act.put, List.setIfInBounds_toArray, List.set_cons_zero, List.set_cons_succ]
          refine held_skip 16 (some 48) rfl rfl (by kernel_rfl) (by kernel_rfl) (by kernel_rfl) (fun _ _ _ h => h) rfl hY ?_
          simp only [Act.put, List.setIfInBounds_toArray, List.set_cons_zero, List.set_cons_succ]
          refine held_take 17 (some 49) rfl rfl (by kernel_rfl) (by kernel_rfl) (by kernel_rfl) (fun _ _ _ h => h) rfl hY (v := .bool true) (fun w' hS => by skip; go_simp; try (first | (with_reducible rfl) | (simp; done))) ?_
          simp only [Act.put, List.setIfInBounds_toArray, List.set_cons_zero, List.set_cons_succ]
          refine held_take 18 (some 50) rfl rfl (by kernel_rfl) (by kernel_rfl) (by kernel_rfl) (fun _ _ _ h => h) rfl hY (v := .bool true) (fun w' hS => by skip; go_simp; try with_reducible rfl) ?_
          simp only [Act.put, List.setIfInBounds_toArray, List.set_cons_zero, List.set_cons_succ]
          refine held_take 19 (some 51) rfl rfl (by kernel_rfl) (by kernel_rfl) (by kernel_rfl) (fun _ _ _ h => h) rfl hY (v := ?_) (fun w' hS => by skip; go_simp; try with_reducible rfl) ?_
          simp only [Act.put, List.setIfInBounds_toArray, List.set_cons_zero, List.set_cons_succ]
          refine held_take 20 (some 52) rfl rfl (by kernel_rfl) (by kernel_rfl) (by kernel_rfl) (fun _ _ _ h => h) rfl hY (v := ?_) (fun w' hS => by skip; go_simp; try with_reducible rfl) ?_
          simp only [Act.put, List.setIfInBounds_toArray, List.set_cons_zero, List.set_cons_succ]
          refine held_take 21 (some 53) rfl rfl (by kernel_rfl) (by kernel_rfl) (by kernel_rfl) (fun _ _ _ h => h) rfl hY (v := ?_) (fun w' hS => by skip; go_simp; try with_reducible rfl) ?_
          simp only [Act.put, List.setIfInBounds_toArray, List.set_cons_zero, List.set_cons_succ]
          refine held_take 22 (some 54) rfl rfl (by kernel_rfl) (by kernel_rfl) (by kernel_rfl) (fun _ _ _ h => h) rfl hY (v := .agg #[.int .i64 p', .slice a7 l7 c7]) (fun w' hS => by obtain ⟨q0, q1, _, _⟩ := (H8.out.2.2.1.new hS).cells; obtain ⟨d0, d1, _, _⟩ := (H8.out.2.2.2.new hS).cells; have ck0 := hS.cellNew CK.out; go_simp; try with_reducible rfl) ?_
          simp only [Act.put, List.setIfInBounds_toArray, List.set_cons_zero, List.set_cons_succ]
          refine held_take 24 (some 56) rfl rfl (by kernel_rfl) (by kernel_rfl) (by kernel_rfl) (fun _ _ _ h => h) rfl hY (v := ?_) (fun w' hS => by skip; go_simp; try with_reducible rfl) ?_
          simp only [Act.put, List.setIfInBounds_toArray, List.set_cons_zero, List.set_cons_succ]
          refine held_only 23 (by kernel_rfl) rfl rfl (fun K1 hK1 => ?_)
          go_simp
          refine (implIsBest_any _ _ dual _ (H8.out.1.new hY)).mono ?_
          rintro e wd ⟨o3, rfl, ho3, hnd⟩
          obtain rfl : o3 = false := by
            have h9 := HDB.out
            cases o3 with
            | true => first | rfl | exact absurd (h9.1 (ho3.1 rfl)) (by simp)
            | false => first | rfl | (have := ho3.2 (h9.2 rfl); cases this)
          clear ho3
          refine hK1.out _ _ (hY.trans hnd) (fun hY1 => ?_)
          clear hK1 K1
          refine held_take 25 (some 57) rfl rfl (by kernel_rfl) (by kernel_rfl) (by kernel_rfl) (fun _ _ _ h => h) rfl hY1 (v := .bool true) (fun w' hS => by skip; go_simp; try (first | (with_reducible rfl) | (simp; done))) ?_
          simp only [Act.put, List.setIfInBounds_toArray, List.set_cons_zero, List.set_cons_succ]
          refine held_take 26 (some 58) rfl rfl (by kernel_rfl) (by kernel_rfl) (by kernel_rfl) (fun _ _ _ h => h) rfl hY1 (v := .bool true) (fun w' hS => by skip; go_simp; try (first | (with_reducible rfl) | (simp; done))) ?_
          simp only [Act.put, List.setIfInBounds_toArray, List.set_cons_zero, List.set_cons_succ]
          refine held_take 27 (some 59) rfl rfl (by kernel_rfl) (by kernel_rfl) (by kernel_rfl) (fun _ _ _ h => h) rfl hY1 (v := .bool true) (fun w' hS => by skip; go_simp; try (first | (with_reducible rfl) | (simp; done))) ?_
          simp only [Act.put, List.setIfInBounds_toArray, List.set_cons_zero, List.set_cons_succ]
          refine held_take 28 (some 2) rfl rfl (by kernel_rfl) (by kernel_rfl) (by kernel_rfl) (fun _ _ _ h => h) rfl hY1 (v := ?_) (fun w' hS => by skip; go_simp; try with_reducible rfl) ?_
          simp only [Act.put, List.setIfInBounds_toArray, List.set_cons_zero, List.set_cons_succ]
          refine wpAnyH_done (by kernel_rfl) ?_ _
          go_wp2_with fail
          go_ret
          exact ⟨rfl, HN8.out.trans hY1⟩
      | true =>
        have HW : Hid (wtsTo q m rows (q ^ rows.length) = tab (m + 1) (fun i => bwZ q m l i)) := by
          show wtsTo q m rows (q ^ rows.length) = tab (m + 1) (fun i => bwZ q m l i)
          rw [HLL.out]
          exact best_wts HV.out.2 (HBB.out.1 (H3.out.1.1 rfl))
        have HV1 := Lib.hid HV.out.1
        cases ok with
        | false =>
          refine wp_region_held_drew (S := fun w' => New w8 w') (by kernel_rfl) (New.drew _) (fun hY => ?_)
          refine held_take 0 (some 32) rfl rfl (by kernel_rfl) (by kernel_rfl) (by kernel_rfl) (fun _ _ _ h => h) rfl hY (v := ?_) (fun w' hS => by skip; go_simp; try with_reducible rfl) ?_
          simp only [Act.put, List.setIfInBounds_toArray, List.set_cons_zero, List.set_cons_succ]
          refine held_take 1 (some 33) rfl rfl (by kernel_rfl) (by kernel_rfl) (by kernel_rfl) (fun _ _ _ h => h) rfl hY (v := ?_) (fun w' hS => by skip; go_simp; try with_reducible rfl) ?_
          simp only [Act.put, List.setIfInBounds_toArray, List.set_cons_zero, List.set_cons_succ]
          refine held_take 2 (some 34) rfl rfl (by kernel_rfl) (by kernel_rfl) (by kernel_rfl) (fun _ _ _ h => h) rfl hY (v := ?_) (fun w' hS => by skip; go_simp; try with_reducible rfl) ?_
          simp only [Act.put, List.setIfInBounds_toArray, List.set_cons_zero, List.set_cons_succ]
          refine held_take 3 (some 35) rfl rfl (by kernel_rfl) (by kernel_rfl) (by kernel_rfl) (fun _ _ _ h => h) rfl hY (v := .agg #[.int .i64 q, .slice (some ⟨b0, o0, none⟩) l c]) (fun w' hS => by obtain ⟨q0, q1, _, _⟩ := (H8.out.2.2.1.new hS).cells; obtain ⟨d0, d1, _, _⟩ := (H8.out.2.2.2.new hS).cells; have ck0 := hS.cellNew CK.out; go_simp; try with_reducible rfl) ?_
          simp only [Act.put, List.setIfInBounds_toArray, List.set_cons_zero, List.set_cons_succ]
          refine held_take 5 (some 37) rfl rfl (by kernel_rfl) (by kernel_rfl) (by kernel_rfl) (fun _ _ _ h => h) rfl hY (v := ?_) (fun w' hS => by skip; go_simp; try with_reducible rfl) ?_
          simp only [Act.put, List.setIfInBounds_toArray, List.set_cons_zero, List.set_cons_succ]
          refine held_take 6 (some 38) rfl rfl (by kernel_rfl) (by kernel_rfl) (by kernel_rfl) (fun _ _ _ h => h) rfl hY (v := .int .i64 q) (fun w' hS => by obtain ⟨q0, q1, _, _⟩ := (H8.out.2.2.1.new hS).cells; obtain ⟨d0, d1, _, _⟩ := (H8.out.2.2.2.new hS).cells; have ck0 := hS.cellNew CK.out; go_simp; try with_reducible rfl) ?_
          simp only [Act.put, List.setIfInBounds_toArray, List.set_cons_zero, List.set_cons_succ]
          refine held_take 7 (some 39) rfl rfl (by kernel_rfl) (by kernel_rfl) (by kernel_rfl) (fun _ _ _ h => h) rfl hY (v := ?_) (fun w' hS => by skip; go_simp; try with_reducible rfl) ?_
          simp only [Act.put, List.setIfInBounds_toArray, List.set_cons_zero, List.set_cons_succ]
          refine held_take 8 (some 40) rfl rfl (by kernel_rfl) (by kernel_rfl) (by kernel_rfl) (fun _ _ _ h => h) rfl hY (v := .slice (some ⟨b0, o0, none⟩) l c) (fun w' hS => by obtain ⟨q0, q1, _, _⟩ := (H8.out.2.2.1.new hS).cells; obtain ⟨d0, d1, _, _⟩ := (H8.out.2.2.2.new hS).cells; have ck0 := hS.cellNew CK.out; go_simp; try with_reducible rfl) ?_
          simp only [Act.put, List.setIfInBounds_toArray, List.set_cons_zero, List.set_cons_succ]
          refine held_take 9 (some 41) rfl rfl (by kernel_rfl) (by kernel_rfl) (by kernel_rfl) (fun _ _ _ h => h) rfl hY (v := ?_) (fun w' hS => by skip; go_simp; try with_reducible rfl) ?_
          simp only [Act.put, List.setIfInBounds_toArray, List.set_cons_zero, List.set_cons_succ]
          refine held_take 10 (some 42) rfl rfl (by kernel_rfl) (by kernel_rfl) (by kernel_rfl) (fun _ _ _ h => h) rfl hY (v := .slice a0 m c0) (fun w' hS => by obtain ⟨q0, q1, _, _⟩ := (H8.out.2.2.1.new hS).cells; obtain ⟨d0, d1, _, _⟩ := (H8.out.2.2.2.new hS).cells; have ck0 := hS.cellNew CK.out; go_simp; try with_reducible rfl) ?_
          simp only [Act.put, List.setIfInBounds_toArray, List.set_cons_zero, List.set_cons_succ]
          refine held_take 11 (some 43) rfl rfl (by kernel_rfl) (by kernel_rfl) (by kernel_rfl) (fun _ _ _ h => h) rfl hY (v := ?_) (fun w' hS => by skip; go_simp; try with_reducible rfl) ?_
          simp only [Act.put, List.setIfInBounds_toArray, List.set_cons_zero, List.set_cons_succ]
          refine held_take 12 (some 44) rfl rfl (by kernel_rfl) (by kernel_rfl) (by kernel_rfl) (fun _ _ _ h => h) rfl hY (v := ?_) (fun w' hS => by skip; go_simp; try with_reducible rfl) ?_
          simp only [Act.put, List.setIfInBounds_toArray, List.set_cons_zero, List.set_cons_succ]
          refine held_take 13 (some 45) rfl rfl (by kernel_rfl) (by kernel_rfl) (by kernel_rfl) (fun _ _ _ h => h) rfl hY (v := .slice (some ⟨b0, o0, none⟩) l c) (fun w' hS => by obtain ⟨q0, q1, _, _⟩ := (H8.out.2.2.1.new hS).cells; obtain ⟨d0, d1, _, _⟩ := (H8.out.2.2.2.new hS).cells; have ck0 := hS.cellNew CK.out; go_simp; try with_reducible rfl) ?_
          simp only [Act.put, List.setIfInBounds_toArray, List.set_cons_zero, List.set_cons_succ]
          refine held_take 14 (some 46) rfl rfl (by kernel_rfl) (by kernel_rfl) (by kernel_rfl) (fun _ _ _ h => h) rfl hY (v := ?_) (fun w' hS => by skip; go_simp; try with_reducible rfl) ?_
          simp only [Act.put, List.setIfInBounds_toArray, List.set_cons_zero, List.set_cons_succ]
          refine held_only 4 (by kernel_rfl) rfl rfl (fun K1 hK1 => ?_)
          go_simp
          refine (implWeightsOf_any q _ rows _ (H8.out.2.1.new hY)).mono ?_
          rintro e wa ⟨ua, outa, rfl, hoa, hfa, hqa, hna⟩
          have hea : outa = tab (m + 1) (fun i => bwZ q m l i) := (show outa = wtsTo q m rows (q ^ rows.length) by have h9 := hqa.1 HV.out.1; rw [Int.toNat_natCast, ← HM.out] at h9; exact h9).trans HW.out
          have HIA := Lib.hid (hoa.isI (by rw [hea, tab_length]; unfold Mid; omega))
          have HEA := Lib.hid hea
          clear hoa hfa hqa hea
          refine hK1.out _ _ (hY.trans hna) (fun hY1 => ?_)
          clear hK1 K1
          refine held_only 15 (by kernel_rfl) rfl rfl (fun K2 hK2 => ?_)
          go_simp
          refine (implBestWeights_any q m l _ HPR.out hq27 hm17 hl14 hlm).mono ?_
          rintro e wb ⟨ub, outb, rfl, hob, hfb, heb, hnb⟩
          have HIB := Lib.hid (hob.isI (by rw [heb, tab_length]; unfold Mid; omega))
          have HEB := Lib.hid heb
          clear hob hfb heb
          refine hK2.out _ _ (hY1.trans hnb) (fun hY2 => ?_)
          clear hK2 K2
          refine held_only 16 (by kernel_rfl) rfl rfl (fun K3 hK3 => ?_)
          go_simp
          refine (equalInts_any _ _ outa outb _ (HIA.out.new hnb) HIB.out).mono ?_
          rintro e wc ⟨rfl, mc, rfl⟩
          rw [HEA.out, HEB.out, eqL_self]
          have hnc := New.drewN wb mc
          refine hK3.out _ _ (hY2.trans hnc) (fun hY3 => ?_)
          clear hK3 K3
          refine held_take 17 (some 49) rfl rfl (by kernel_rfl) (by kernel_rfl) (by kernel_rfl) (fun _ _ _ h => h) rfl hY3 (v := .bool true) (fun w' hS => by skip; go_simp; try (first | (with_reducible rfl) | (simp; done))) ?_
          simp only [Act.put, List.setIfInBounds_toArray, List.set_cons_zero, List.set_cons_succ]
          refine held_take 18 (some 50) rfl rfl (by kernel_rfl) (by kernel_rfl) (by kernel_rfl) (fun _ _ _ h => h) rfl hY3 (v := .bool true) (fun w' hS => by skip; go_simp; try with_reducible rfl) ?_
          simp only [Act.put, List.setIfInBounds_toArray, List.set_cons_zero, List.set_cons_succ]
          refine held_take 19 (some 51) rfl rfl (by kernel_rfl) (by kernel_rfl) (by kernel_rfl) (fun _ _ _ h => h) rfl hY3 (v := ?_) (fun w' hS => by skip; go_simp; try with_reducible rfl) ?_
          simp only [Act.put, List.setIfInBounds_toArray, List.set_cons_zero, List.set_cons_succ]
          refine held_take 20 (some 52) rfl rfl (by kernel_rfl) (by kernel_rfl) (by kernel_rfl) (fun _ _ _ h => h) rfl hY3 (v := ?_) (fun w' hS => by skip; go_simp; try with_reducible rfl) ?_
          simp only [Act.put, List.setIfInBounds_toArray, List.set_cons_zero, List.set_cons_succ]
          refine held_take 21 (some 53) rfl rfl (by kernel_rfl) (by kernel_rfl) (by kernel_rfl) (fun _ _ _ h => h) rfl hY3 (v := ?_) (fun w' hS => by skip; go_simp; try with_reducible rfl) ?_
          simp only [Act.put, List.setIfInBounds_toArray, List.set_cons_zero, List.set_cons_succ]
          refine held_skip 22 (some 54) rfl rfl (by kernel_rfl) (by kernel_rfl) (by kernel_rfl) (fun _ _ _ h => h) rfl hY3 ?_
          simp only [Act.put, List.setIfInBounds_toArray, List.set_cons_zero, List.set_cons_succ]
          refine held_skip 24 (some 56) rfl rfl (by kernel_rfl) (by kernel_rfl) (by kernel_rfl) (fun _ _ _ h => h) rfl hY3 ?_
          simp only [Act.put, List.setIfInBounds_toArray, List.set_cons_zero, List.set_cons_succ]
          refine held_skip 23 (some 55) rfl rfl (by kernel_rfl) (by kernel_rfl) (by kernel_rfl) (fun _ _ _ h => h) rfl hY3 ?_
          simp only [Act.put, List.setIfInBounds_toArray, List.set_cons_zero, List.set_cons_succ]
          refine held_skip 25 (some 57) rfl rfl (by kernel_rfl) (by kernel_rfl) (by kernel_rfl) (fun _ _ _ h => h) rfl hY3 ?_
          simp only [Act.put, List.setIfInBounds_toArray, List.set_cons_zero, List.set_cons_succ]
          refine held_take 26 (some 58) rfl rfl (by kernel_rfl) (by kernel_rfl) (by kernel_rfl) (fun _ _ _ h => h) rfl hY3 (v := .bool true) (fun w' hS => by skip; go_simp; try (first | (with_reducible rfl) | (simp; done))) ?_
          simp only [Act.put, List.setIfInBounds_toArray, List.set_cons_zero, List.set_cons_succ]
          refine held_take 27 (some 59) rfl rfl (by kernel_rfl) (by kernel_rfl) (by kernel_rfl) (fun _ _ _ h => h) rfl hY3 (v := .bool true) (fun w' hS => by skip; go_simp; try (first | (with_reducible rfl) | (simp; done))) ?_
          simp only [Act.put, List.setIfInBounds_toArray, List.set_cons_zero, List.set_cons_succ]
          refine held_take 28 (some 2) rfl rfl (by kernel_rfl) (by kernel_rfl) (by kernel_rfl) (fun _ _ _ h => h) rfl hY3 (v := ?_) (fun w' hS => by skip; go_simp; try with_reducible rfl) ?_
          simp only [Act.put, List.setIfInBounds_toArray, List.set_cons_zero, List.set_cons_succ]
          refine wpAnyH_done (by kernel_rfl) ?_ _
          go_wp2_with fail
          go_ret
          exact ⟨rfl, HN8.out.trans hY3⟩
        | true =>
          have HDB := Lib.hid (HDX.out rfl)
          refine wp_region_held_drew (S := fun w' => New w8 w') (by kernel_rfl) (New.drew _) (fun hY => ?_)
          refine held_take 0 (some 32) rfl rfl (by kernel_rfl) (by kernel_rfl) (by kernel_rfl) (fun _ _ _ h => h) rfl hY (v := ?_) (fun w' hS => by skip; go_simp; try with_reducible rfl) ?_
          simp only [Act.put, List.setIfInBounds_toArray, List.set_cons_zero, List.set_cons_succ]
          refine held_take 1 (some 33) rfl rfl (by kernel_rfl) (by kernel_rfl) (by kernel_rfl) (fun _ _ _ h => h) rfl hY (v := ?_) (fun w' hS => by skip; go_simp; try with_reducible rfl) ?_
          simp only [Act.put, List.setIfInBounds_toArray, List.set_cons_zero, List.set_cons_succ]
          refine held_take 2 (some 34) rfl rfl (by kernel_rfl) (by kernel_rfl) (by kernel_rfl) (fun _ _ _ h => h) rfl hY (v := ?_) (fun w' hS => by skip; go_simp; try with_reducible rfl) ?_
          simp only [Act.put, List.setIfInBounds_toArray, List.set_cons_zero, List.set_cons_succ]
          refine held_take 3 (some 35) rfl rfl (by kernel_rfl) (by kernel_rfl) (by kernel_rfl) (fun _ _ _ h => h) rfl hY (v := .agg #[.int .i64 q, .slice (some ⟨b0, o0, none⟩) l c]) (fun w' hS => by obtain ⟨q0, q1, _, _⟩ := (H8.out.2.2.1.new hS).cells; obtain ⟨d0, d1, _, _⟩ := (H8.out.2.2.2.new hS).cells; have ck0 := hS.cellNew CK.out; go_simp; try with_reducible rfl) ?_
          simp only [Act.put, List.setIfInBounds_toArray, List.set_cons_zero, List.set_cons_succ]
          refine held_take 5 (some 37) rfl rfl (by kernel_rfl) (by kernel_rfl) (by kernel_rfl) (fun _ _ _ h => h) rfl hY (v := ?_) (fun w' hS => by skip; go_simp; try with_reducible rfl) ?_
          simp only [Act.put, List.setIfInBounds_toArray, List.set_cons_zero, List.set_cons_succ]
          refine held_take 6 (some 38) rfl rfl (by kernel_rfl) (by kernel_rfl) (by kernel_rfl) (fun _ _ _ h => h) rfl hY (v := .int .i64 q) (fun w' hS => by obtain ⟨q0, q1, _, _⟩ := (H8.out.2.2.1.new hS).cells; obtain ⟨d0, d1, _, _⟩ := (H8.out.2.2.2.new hS).cells; have ck0 := hS.cellNew CK.out; go_simp; try with_reducible rfl) ?_
          simp only [Act.put, List.setIfInBounds_toArray, List.set_cons_zero, List.set_cons_succ]
          refine held_take 7 (some 39) rfl rfl (by kernel_rfl) (by kernel_rfl) (by kernel_rfl) (fun _ _ _ h => h) rfl hY (v := ?_) (fun w' hS => by skip; go_simp; try with_reducible rfl) ?_
          simp only [Act.put, List.setIfInBounds_toArray, List.set_cons_zero, List.set_cons_succ]
          refine held_take 8 (some 40) rfl rfl (by kernel_rfl) (by kernel_rfl) (by kernel_rfl) (fun _ _ _ h => h) rfl hY (v := .slice (some ⟨b0, o0, none⟩) l c) (fun w' hS => by obtain ⟨q0, q1, _, _⟩ := (H8.out.2.2.1.new hS).cells; obtain ⟨d0, d1, _, _⟩ := (H8.out.2.2.2.new hS).cells; have ck0 := hS.cellNew CK.out; go_simp; try with_reducible rfl) ?_
          simp only [Act.put, List.setIfInBounds_toArray, List.set_cons_zero, List.set_cons_succ]
          refine held_take 9 (some 41) rfl rfl (by kernel_rfl) (by kernel_rfl) (by kernel_rfl) (fun _ _ _ h => h) rfl hY (v := ?_) (fun w' hS => by skip; go_simp; try with_reducible rfl) ?_
          simp only [Act.put, List.setIfInBounds_toArray, List.set_cons_zero, List.set_cons_succ]
          refine held_take 10 (some 42) rfl rfl (by kernel_rfl) (by kernel_rfl) (by kernel_rfl) (fun _ _ _ h => h) rfl hY (v := .slice a0 m c0) (fun w' hS => by obtain ⟨q0, q1, _, _⟩ := (H8.out.2.2.1.new hS).cells; obtain ⟨d0, d1, _, _⟩ := (H8.out.2.2.2.new hS).cells; have ck0 := hS.cellNew CK.out; go_simp; try with_reducible rfl) ?_
          simp only [Act.put, List.setIfInBounds_toArray, List.set_cons_zero, List.set_cons_succ]
          refine held_take 11 (some 43) rfl rfl (by kernel_rfl) (by kernel_rfl) (by kernel_rfl) (fun _ _ _ h => h) rfl hY (v := ?_) (fun w' hS => by skip; go_simp; try with_reducible rfl) ?_
          simp only [Act.put, List.setIfInBounds_toArray, List.set_cons_zero, List.set_cons_succ]
          refine held_take 12 (some 44) rfl rfl (by kernel_rfl) (by kernel_rfl) (by kernel_rfl) (fun _ _ _ h => h) rfl hY (v := ?_) (fun w' hS => by skip; go_simp; try with_reducible rfl) ?_
          simp only [Act.put, List.setIfInBounds_toArray, List.set_cons_zero, List.set_cons_succ]
          refine held_take 13 (some 45) rfl rfl (by kernel_rfl) (by kernel_rfl) (by kernel_rfl) (fun _ _ _ h => h) rfl hY (v := .slice (some ⟨b0, o0, none⟩) l c) (fun w' hS => by obtain ⟨q0, q1, _, _⟩ := (H8.out.2.2.1.new hS).cells; obtain ⟨d0, d1, _, _⟩ := (H8.out.2.2.2.new hS).cells; have ck0 := hS.cellNew CK.out; go_simp; try with_reducible rfl) ?_
          simp only [Act.put, List.setIfInBounds_toArray, List.set_cons_zero, List.set_cons_succ]
          refine held_take 14 (some 46) rfl rfl (by kernel_rfl) (by kernel_rfl) (by kernel_rfl) (fun _ _ _ h => h) rfl hY (v := ?_) (fun w' hS => by skip; go_simp; try with_reducible rfl) ?_
          simp only [Act.put, List.setIfInBounds_toArray, List.set_cons_zero, List.set_cons_succ]
          refine held_only 4 (by kernel_rfl) rfl rfl (fun K1 hK1 => ?_)
          go_simp
          refine (implWeightsOf_any q _ rows _ (H8.out.2.1.new hY)).mono ?_
          rintro e wa ⟨ua, outa, rfl, hoa, hfa, hqa, hna⟩
          have hea : outa = tab (m + 1) (fun i => bwZ q m l i) := (show outa = wtsTo q m rows (q ^ rows.length) by have h9 := hqa.1 HV.out.1; rw [Int.toNat_natCast, ← HM.out] at h9; exact h9).trans HW.out
          have HIA := Lib.hid (hoa.isI (by rw [hea, tab_length]; unfold Mid; omega))
          have HEA := Lib.hid hea
          clear hoa hfa hqa hea
          refine hK1.out _ _ (hY.trans hna) (fun hY1 => ?_)
          clear hK1 K1
          refine held_only 15 (by kernel_rfl) rfl rfl (fun K2 hK2 => ?_)
          go_simp
          refine (implBestWeights_any q m l _ HPR.out hq27 hm17 hl14 hlm).mono ?_
          rintro e wb ⟨ub, outb, rfl, hob, hfb, heb, hnb⟩
          have HIB := Lib.hid (hob.isI (by rw [heb, tab_length]; unfold Mid; omega))
          have HEB := Lib.hid heb
          clear hob hfb heb
          refine hK2.out _ _ (hY1.trans hnb) (fun hY2 => ?_)
          clear hK2 K2
          refine held_only 16 (by kernel_rfl) rfl rfl (fun K3 hK3 => ?_)
          go_simp
          refine (equalInts_any _ _ outa outb _ (HIA.out.new hnb) HIB.out).mono ?_
          rintro e wc ⟨rfl, mc, rfl⟩
          rw [HEA.out, HEB.out, eqL_self]
          have hnc := New.drewN wb mc
          refine hK3.out _ _ (hY2.trans hnc) (fun hY3 => ?_)
          clear hK3 K3
          refine held_take 17 (some 49) rfl rfl (by kernel_rfl) (by kernel_rfl) (by kernel_rfl) (fun _ _ _ h => h) rfl hY3 (v := .bool true) (fun w' hS => by skip; go_simp; try (first | (with_reducible rfl) | (simp; done))) ?_
          simp only [Act.put, List.setIfInBounds_toArray, List.set_cons_zero, List.set_cons_succ]
          refine held_take 18 (some 50) rfl rfl (by kernel_rfl) (by kernel_rfl) (by kernel_rfl) (fun _ _ _ h => h) rfl hY3 (v := .bool true) (fun w' hS => by skip; go_simp; try with_reducible rfl) ?_
          simp only [Act.put, List.setIfInBounds_toArray, List.set_cons_zero, List.set_cons_succ]
          refine held_take 19 (some 51) rfl rfl (by kernel_rfl) (by kernel_rfl) (by kernel_rfl) (fun _ _ _ h => h) rfl hY3 (v := ?_) (fun w' hS => by skip; go_simp; try with_reducible rfl) ?_
          simp only [Act.put, List.setIfInBounds_toArray, List.set_cons_zero, List.set_cons_succ]
          refine held_take 20 (some 52) rfl rfl (by kernel_rfl) (by kernel_rfl) (by kernel_rfl) (fun _ _ _ h => h) rfl hY3 (v := ?_) (fun w' hS => by skip; go_simp; try with_reducible rfl) ?_
          simp only [Act.put, List.setIfInBounds_toArray, List.set_cons_zero, List.set_cons_succ]
          refine held_take 21 (some 53) rfl rfl (by kernel_rfl) (by kernel_rfl) (by kernel_rfl) (fun _ _ _ h => h) rfl hY3 (v := ?_) (fun w' hS => by skip; go_simp; try with_reducible rfl) ?_
          simp only [Act.put, List.setIfInBounds_toArray, List.set_cons_zero, List.set_cons_succ]
          refine held_take 22 (some 54) rfl rfl (by kernel_rfl) (by kernel_rfl) (by kernel_rfl) (fun _ _ _ h => h) rfl hY3 (v := .agg #[.int .i64 p', .slice a7 l7 c7]) (fun w' hS => by obtain ⟨q0, q1, _, _⟩ := (H8.out.2.2.1.new hS).cells; obtain ⟨d0, d1, _, _⟩ := (H8.out.2.2.2.new hS).cells; have ck0 := hS.cellNew CK.out; go_simp; try with_reducible rfl) ?_
          simp only [Act.put, List.setIfInBounds_toArray, List.set_cons_zero, List.set_cons_succ]
          refine held_take 24 (some 56) rfl rfl (by kernel_rfl) (by kernel_rfl) (by kernel_rfl) (fun _ _ _ h => h) rfl hY3 (v := ?_) (fun w' hS => by skip; go_simp; try with_reducible rfl) ?_
          simp only [Act.put, List.setIfInBounds_toArray, List.set_cons_zero, List.set_cons_succ]
          refine held_only 23 (by kernel_rfl) rfl rfl (fun K4 hK4 => ?_)
          go_simp
          refine (implIsBest_any _ _ dual _ (H8.out.1.new hY3)).mono ?_
          rintro e wd ⟨o3, rfl, ho3, hnd⟩
          obtain rfl : o3 = true := by
            have h9 := HDB.out
            cases o3 with
            | true => first | rfl | exact absurd (h9.1 (ho3.1 rfl)) (by simp)
            | false => first | rfl | (have := ho3.2 (h9.2 rfl); cases this)
          clear ho3
          refine hK4.out _ _ (hY3.trans hnd) (fun hY4 => ?_)
          clear hK4 K4
          refine held_take 25 (some 57) rfl rfl (by kernel_rfl) (by kernel_rfl) (by kernel_rfl) (fun _ _ _ h => h) rfl hY4 (v := .bool true) (fun w' hS => by skip; go_simp; try (first | (with_reducible rfl) | (simp; done))) ?_
          simp only [Act.put, List.setIfInBounds_toArray, List.set_cons_zero, List.set_cons_succ]
          refine held_take 26 (some 58) rfl rfl (by kernel_rfl) (by kernel_rfl) (by kernel_rfl) (fun _ _ _ h => h) rfl hY4 (v := .bool true) (fun w' hS => by skip; go_simp; try (first | (with_reducible rfl) | (simp; done))) ?_
          simp only [Act.put, List.setIfInBounds_toArray, List.set_cons_zero, List.set_cons_succ]
          refine held_take 27 (some 59) rfl rfl (by kernel_rfl) (by kernel_rfl) (by kernel_rfl) (fun _ _ _ h => h) rfl hY4 (v := .bool true) (fun w' hS => by skip; go_simp; try (first | (with_reducible rfl) | (simp; done))) ?_
          simp only [Act.put, List.setIfInBounds_toArray, List.set_cons_zero, List.set_cons_succ]
          refine held_take 28 (some 2) rfl rfl (by kernel_rfl) (by kernel_rfl) (by kernel_rfl) (fun _ _ _ h => h) rfl hY4 (v := ?_) (fun w' hS => by skip; go_simp; try with_reducible rfl) ?_
          simp only [Act.put, List.setIfInBounds_toArray, List.set_cons_zero, List.set_cons_succ]
          refine wpAnyH_done (by kernel_rfl) ?_ _
          go_wp2_with fail
          go_ret
          exact ⟨rfl, HN8.out.trans hY4⟩
end Go.Proofs.Ytaaajekibfaoeaa
