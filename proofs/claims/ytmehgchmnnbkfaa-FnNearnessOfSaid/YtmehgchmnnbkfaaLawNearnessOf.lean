/- The walk of FnNearnessOf. -/
import Derived.Test.YtmehgchmnnbkfaaLawU
import Derived.Test.YtmehgchmnnbkfaaDrawK
import Derived.Test.YtmehgchmnnbkfaaNearnessOf
import Derived.Test.YtmehgchmnnbkfaaWeightsOf
namespace Go.Proofs.Ytmehgchmnnbkfaa
open Go.RowKit Mat
set_option linter.unusedVariables false

set_option maxRecDepth 100000 in
set_option maxHeartbeats 8000000 in
theorem lawNearnessOf_any (v : Value) (n : Nat) (w : World) (hb : RawB w v n) :
    Calls Try.prog 7 #[v] w fun e w' => e = .returned (.bool true) ∧ New w w' := by
  obtain ⟨ao, cap, rfl, hcap, hmx, -⟩ := id hb
  unfold maxLen at hmx
  have HB := Lib.hid hb
  clear hb
  by_cases hbig : 1048576 < n
  · go_enter Try.func7, Try.ntmps7
    go_wp2_with fail
    go_ret
    exact ⟨rfl, Chg.refl _ _⟩
  · go_enter Try.func7, Try.ntmps7
    go_wp2_with fail
    refine (drawNearnessOf_any _ _ _ HB.out).mono ?_
    rintro e w1 ⟨a, l, c, rows, p, rfl, hr, hk, hp, hn1⟩
    go_upto_region 4 with fail
    have b2 := Blk2.alloc w1 (.int .i64 p) (.slice a l c) 25
    have n2 := New.alloc w1 (.cells #[.int .i64 p, .slice a l c] 25)
    obtain ⟨w2, hw2⟩ : ∃ w2, w2 = w1.alloc (.cells #[.int .i64 p, .slice a l c] 25) := ⟨_, rfl⟩
    rw [← hw2] at b2 n2
    rw [← hw2]
    clear hw2
    have HLL := Lib.hid hr.len
    have H2 := Lib.hid (And.intro (hr.new n2) (And.intro (hn1.trans n2) b2))
    obtain ⟨q0, q1, _, _⟩ := b2.cells
    clear hr hn1 b2 n2 hk
    go_wp2_with fail
    refine (implNearnessOf_any p _ rows _ H2.out.1).mono ?_
    rintro e w3 ⟨t, ok, rfl, hq, hn3⟩
    have H3 := Lib.hid (And.intro hq hn3)
    replace q0 := hn3.cellNew q0
    replace q1 := hn3.cellNew q1
    clear hq hn3
    go_wp2_with fail
    refine (specNearnessOf_any p _ rows _ (H2.out.1.new H3.out.2)).mono ?_
    rintro e w4 ⟨t4, ok4, rfl, hq, hn4⟩
    obtain ⟨rfl, rfl⟩ := H3.out.1.unique hq
    have H4 := Lib.hid (And.intro H3.out.1 (H3.out.2.trans hn4))
    replace q0 := hn4.cellNew q0
    replace q1 := hn4.cellNew q1
    clear hq hn4
    cases ok with
    | false =>
      go_wp2_with fail
      go_ret
      exact ⟨ret_bool (by simp), H2.out.2.1.trans H4.out.2⟩
    | true =>
      have hv : ValidC p rows := by
        apply Classical.byContradiction; intro hno
        have := (H4.out.1.2 hno).2
        cases this
      obtain ⟨q, i2, rfl, hr⟩ := H4.out.1.1 hv
      have hr2 : ∃ m : Nat, t = m ∧ NearTo q rows (gr rows 0).length (gr rows 0).length m := by
        rcases hr with ⟨_, h⟩ | ⟨h, _⟩
        · exact h
        · cases h
      obtain ⟨r, rfl, hnt⟩ := hr2
      by_cases hr1 : (r : Int) < 1
      · clear hv hr
        go_wp2_with fail
        go_ret
        exact ⟨ret_bool (by simp), H2.out.2.1.trans H4.out.2⟩
      · have hc := hv.code
        have hall := hnt.all hc (Nat.le_refl _)
        have hl0 : 0 < l := by rw [HLL.out]; exact hc.tab.r1
        have hl4 : l ≤ 4 := by rw [HLL.out]; exact hc.r4
        have hrl : (r : Int) ≤ (l : Int) := by have := hall.1; have := HLL.out; omega
        obtain ⟨b0, o0, u0, rfl, ck0, hu0⟩ := (H2.out.1.new H4.out.2).at hl0
        rw [Nat.add_zero] at ck0
        obtain ⟨a0, m, c0, rfl, HM, _⟩ := hu0.shape
        have hm7 : m ≤ 7 := by rw [HM.out]; exact hc.tab.n7
        have hlm : l ≤ m := by rw [HLL.out, HM.out]; exact hc.cols
        rw [← HM.out] at hc hall
        have HV := Lib.hid (And.intro hv (And.intro hc hall))
        have b5 := Lib.hid (H2.out.2.2.new H4.out.2)
        obtain ⟨w5, hw5⟩ : ∃ w5, w5 = w4 := ⟨_, rfl⟩
        obtain ⟨x1, hx1⟩ : ∃ x1, x1 = m - l := ⟨_, rfl⟩
        obtain ⟨x2, hx2⟩ : ∃ x2, x2 = l + r := ⟨_, rfl⟩
        obtain ⟨x3, hx3⟩ : ∃ x3, x3 = l + r - 1 := ⟨_, rfl⟩
        obtain ⟨ce, hce⟩ : ∃ ce, ce = x3 / r := ⟨_, rfl⟩
        have hce7 : ce ≤ x3 := by rw [hce]; exact Nat.div_le_self _ _
        have e1 : IntKind.i64.wrap ((m : Int) - (l : Int)) = (x1 : Int) := by rw [IntWalk.i64_in _ (by omega)]; omega
        have e2 : IntKind.i64.wrap ((l : Int) + (r : Int)) = (x2 : Int) := by rw [IntWalk.i64_in _ (by omega)]; omega
        have e3 : IntKind.i64.wrap ((x2 : Int) - 1) = (x3 : Int) := by rw [IntWalk.i64_in _ (by omega)]; omega
        have e4' : (x3 : Int) / (r : Int) = (ce : Int) := by rw [hce]; push_cast; rfl
        have e4 : (x3 : Int).tdiv (r : Int) = (ce : Int) := by rw [Int.tdiv_eq_ediv_of_nonneg (by omega)]; exact e4'
        have e4w : IntKind.i64.wrap (ce : Int) = (ce : Int) := IntWalk.i64_in _ (by omega)
        have hr0 : (r : Int) ≠ 0 := by omega
        have hr00 : ¬ r = 0 := by omega
        obtain ⟨y1, hy1⟩ : ∃ y1, y1 = (x1 : Int) - (ce : Int) := ⟨_, rfl⟩
        obtain ⟨y2, hy2⟩ : ∃ y2, y2 = y1 + 2 := ⟨_, rfl⟩
        have e5 : IntKind.i64.wrap ((x1 : Int) - (ce : Int)) = y1 := by rw [IntWalk.i64_in _ (by omega)]; exact hy1.symm
        have e6 : IntKind.i64.wrap (y1 + 2) = y2 := by rw [IntWalk.i64_in _ (by omega)]; exact hy2.symm
        have HX := Lib.hid (And.intro hx3 hce)
        have HX2 := Lib.hid (And.intro hy1 (And.intro hy2 hx1))
        rw [← hw5] at H4 ck0 b5 q0 q1
        rw [← hw5]
        clear hw5 hv hc hall hu0 hr hnt hx1 hx2 hx3 hce hy1 hy2
        go_upto_region 10 with fail
        clear q0 q1 ck0
        refine wp_region_held_drew (S := fun w' => New w5 w') (by kernel_rfl) (New.drew _) (fun hHeld => ?_)
        refine held_take 0 (some 57) rfl rfl (by kernel_rfl) (by kernel_rfl) (by kernel_rfl) (fun _ _ _ h => h) rfl hHeld (v := .agg #[.int .i64 q, .slice (some ⟨b0, o0, none⟩) l c]) (fun w' hS => by obtain ⟨q0, q1, _, _⟩ := (b5.out.new hS).cells; go_simp; try with_reducible rfl) ?_
        simp only [Act.put, List.setIfInBounds_toArray, List.set_cons_zero, List.set_cons_succ]
        refine held_take 2 (some 59) rfl rfl (by kernel_rfl) (by kernel_rfl) (by kernel_rfl) (fun _ _ _ h => h) rfl hHeld (v := ?_) (fun w' hS => by skip; go_simp; try with_reducible rfl) ?_
        simp only [Act.put, List.setIfInBounds_toArray, List.set_cons_zero, List.set_cons_succ]
        refine held_take 3 (some 60) rfl rfl (by kernel_rfl) (by kernel_rfl) (by kernel_rfl) (fun _ _ _ h => h) rfl hHeld (v := ?_) (fun w' hS => by skip; go_simp; try with_reducible rfl) ?_
        simp only [Act.put, List.setIfInBounds_toArray, List.set_cons_zero, List.set_cons_succ]
        refine held_take 4 (some 61) rfl rfl (by kernel_rfl) (by kernel_rfl) (by kernel_rfl) (fun _ _ _ h => h) rfl hHeld (v := .int .i64 x1) (fun w' hS => by skip; go_simp; try with_reducible rfl) ?_
        simp only [Act.put, List.setIfInBounds_toArray, List.set_cons_zero, List.set_cons_succ]
        refine held_take 5 (some 62) rfl rfl (by kernel_rfl) (by kernel_rfl) (by kernel_rfl) (fun _ _ _ h => h) rfl hHeld (v := ?_) (fun w' hS => by skip; go_simp; try with_reducible rfl) ?_
        simp only [Act.put, List.setIfInBounds_toArray, List.set_cons_zero, List.set_cons_succ]
        refine held_take 6 (some 63) rfl rfl (by kernel_rfl) (by kernel_rfl) (by kernel_rfl) (fun _ _ _ h => h) rfl hHeld (v := ?_) (fun w' hS => by skip; go_simp; try with_reducible rfl) ?_
        simp only [Act.put, List.setIfInBounds_toArray, List.set_cons_zero, List.set_cons_succ]
        refine held_take 7 (some 64) rfl rfl (by kernel_rfl) (by kernel_rfl) (by kernel_rfl) (fun _ _ _ h => h) rfl hHeld (v := .int .i64 x2) (fun w' hS => by skip; go_simp; try with_reducible rfl) ?_
        simp only [Act.put, List.setIfInBounds_toArray, List.set_cons_zero, List.set_cons_succ]
        refine held_take 8 (some 65) rfl rfl (by kernel_rfl) (by kernel_rfl) (by kernel_rfl) (fun _ _ _ h => h) rfl hHeld (v := .int .i64 x3) (fun w' hS => by skip; go_simp; try with_reducible rfl) ?_
        simp only [Act.put, List.setIfInBounds_toArray, List.set_cons_zero, List.set_cons_succ]
        refine held_take 9 (some 66) rfl rfl (by kernel_rfl) (by kernel_rfl) (by kernel_rfl) (fun _ _ _ h => h) rfl hHeld (v := ?_) (fun w' hS => by skip; go_simp; try with_reducible rfl) ?_
        simp only [Act.put, List.setIfInBounds_toArray, List.set_cons_zero, List.set_cons_succ]
        refine held_take 10 (some 67) rfl rfl (by kernel_rfl) (by kernel_rfl) (by kernel_rfl) (fun _ _ _ h => h) rfl hHeld (v := .int .i64 ce) (fun w' hS => by skip; go_simp; try with_reducible rfl) ?_
        simp only [Act.put, List.setIfInBounds_toArray, List.set_cons_zero, List.set_cons_succ]
        refine held_take 11 (some 68) rfl rfl (by kernel_rfl) (by kernel_rfl) (by kernel_rfl) (fun _ _ _ h => h) rfl hHeld (v := .int .i64 y1) (fun w' hS => by skip; go_simp; try with_reducible rfl) ?_
        simp only [Act.put, List.setIfInBounds_toArray, List.set_cons_zero, List.set_cons_succ]
        refine held_take 12 (some 69) rfl rfl (by kernel_rfl) (by kernel_rfl) (by kernel_rfl) (fun _ _ _ h => h) rfl hHeld (v := .int .i64 y2) (fun w' hS => by skip; go_simp; try with_reducible rfl) ?_
        simp only [Act.put, List.setIfInBounds_toArray, List.set_cons_zero, List.set_cons_succ]
        refine held_only 1 (by kernel_rfl) rfl rfl (fun K1 hK1 => ?_)
        go_simp
        refine (implDistanceOf_any q _ rows _ (H2.out.1.new (H4.out.2.trans (New.drew _)))).mono ?_
        rintro e w6 ⟨x, rfl, hx, hn6⟩
        obtain ⟨d, rfl, hd1, hdn, hdist⟩ := hx.dist HV.out.1
        rw [← HM.out] at hdist hdn
        have hnear := HV.out.2.1.near_dist (by omega) HV.out.2.2.2 hdist
        rw [← HLL.out, ← HX.out.1, ← HX.out.2] at hnear
        have e7 : decide ((d : Int) ≤ y2) = true := by have := HX2.out.1; have := HX2.out.2.1; have := HX2.out.2.2; simp; omega
        clear hx hdist hnear
        refine hK1.out _ _ (hHeld.trans hn6) (fun hHeld1 => ?_)
        clear hK1 K1
        refine held_take 13 (some 70) rfl rfl (by kernel_rfl) (by kernel_rfl) (by kernel_rfl) (fun _ _ _ h => h) rfl hHeld1 (v := .bool true) (fun w' hS => by skip; go_simp; try with_reducible rfl) ?_
        simp only [Act.put, List.setIfInBounds_toArray, List.set_cons_zero, List.set_cons_succ]
        refine held_take 14 (some 71) rfl rfl (by kernel_rfl) (by kernel_rfl) (by kernel_rfl) (fun _ _ _ h => h) rfl hHeld1 (v := ?_) (fun w' hS => by skip; go_simp; try with_reducible rfl) ?_
        simp only [Act.put, List.setIfInBounds_toArray, List.set_cons_zero, List.set_cons_succ]
        refine held_take 15 (some 72) rfl rfl (by kernel_rfl) (by kernel_rfl) (by kernel_rfl) (fun _ _ _ h => h) rfl hHeld1 (v := ?_) (fun w' hS => by skip; go_simp; try with_reducible rfl) ?_
        simp only [Act.put, List.setIfInBounds_toArray, List.set_cons_zero, List.set_cons_succ]
        refine held_take 16 (some 73) rfl rfl (by kernel_rfl) (by kernel_rfl) (by kernel_rfl) (fun _ _ _ h => h) rfl hHeld1 (v := ?_) (fun w' hS => by skip; go_simp; try with_reducible rfl) ?_
        simp only [Act.put, List.setIfInBounds_toArray, List.set_cons_zero, List.set_cons_succ]
        refine held_take 17 (some 74) rfl rfl (by kernel_rfl) (by kernel_rfl) (by kernel_rfl) (fun _ _ _ h => h) rfl hHeld1 (v := .bool true) (fun w' hS => by skip; go_simp; try with_reducible rfl) ?_
        simp only [Act.put, List.setIfInBounds_toArray, List.set_cons_zero, List.set_cons_succ]
        refine held_take 18 (some 75) rfl rfl (by kernel_rfl) (by kernel_rfl) (by kernel_rfl) (fun _ _ _ h => h) rfl hHeld1 (v := ?_) (fun w' hS => by skip; go_simp; try with_reducible rfl) ?_
        simp only [Act.put, List.setIfInBounds_toArray, List.set_cons_zero, List.set_cons_succ]
        refine held_take 19 (some 2) rfl rfl (by kernel_rfl) (by kernel_rfl) (by kernel_rfl) (fun _ _ _ h => h) rfl hHeld1 (v := ?_) (fun w' hS => by skip; go_simp; try with_reducible rfl) ?_
        simp only [Act.put, List.setIfInBounds_toArray, List.set_cons_zero, List.set_cons_succ]
        refine wpAnyH_done (by kernel_rfl) ?_ _
        go_wp2_with fail
        go_ret
        exact ⟨rfl, H2.out.2.1.trans (H4.out.2.trans hHeld1)⟩
end Go.Proofs.Ytmehgchmnnbkfaa
