/- The walk of FnSecretOf. -/
import Derived.Test.YtahgjfmdafhedaaSecr
import Derived.Test.YtahgjfmdafhedaaPoss
import Derived.Test.YtahgjfmdafhedaaSchX
namespace Go.Proofs.Ytahgjfmdafhedaa
open Go.RowKit Mat
set_option linter.unusedVariables false

set_option maxRecDepth 100000 in
set_option maxHeartbeats 8000000 in
theorem lawSecretOf_any (v : Value) (n : Nat) (w : World) (hb : RawB w v n) :
    Calls Try.prog 5 #[v] w fun e w' => e = .returned (.bool true) ∧ New w w' := by
  obtain ⟨ao, cap, rfl, hcap, hmx, -⟩ := id hb
  unfold maxLen at hmx
  have HB := Lib.hid hb
  clear hb
  by_cases hbig : 1048576 < n
  · go_enter Try.func5, Try.ntmps5
    go_wp2_with fail
    go_ret
    exact ⟨rfl, Chg.refl _ _⟩
  · go_enter Try.func5, Try.ntmps5
    go_wp2_with fail
    refine (drawSecretOf_any _ _ _ HB.out).mono ?_
    rintro e w1 ⟨p, a, l, c, a2, l2, c2, rows, own, us, sh, g, rfl, hr, ho, hs, hsl, hn1⟩
    go_upto_region 4 with fail
    have b2 := Blk3.alloc w1 (.int .i64 p) (.slice a l c) (.slice a2 l2 c2) 38
    have n2 := New.alloc w1 (.cells #[.int .i64 p, .slice a l c, .slice a2 l2 c2] 38)
    obtain ⟨w2, hw2⟩ : ∃ w2, w2 = w1.alloc (.cells #[.int .i64 p, .slice a l c, .slice a2 l2 c2] 38) := ⟨_, rfl⟩
    rw [← hw2] at b2 n2
    rw [← hw2]
    clear hw2
    obtain ⟨ash, lsh, csh, rfl, HLSH, _⟩ := hs.shape
    have H2 := Lib.hid (And.intro (hr.new n2) (And.intro (ho.new n2) (And.intro (hs.new n2) (And.intro (hn1.trans n2) b2))))
    obtain ⟨q0, q1, q2, _, _, _⟩ := b2.cells
    clear hr ho hs hn1 b2 n2 hsl
    go_wp2_with fail
    refine (implSecretOf_any p _ _ _ g rows own sh _ H2.out.1 H2.out.2.1 H2.out.2.2.1).mono ?_
    rintro e w3 ⟨x, ok, rfl, hq, hn3⟩
    have H3 := Lib.hid (And.intro hq hn3)
    replace q0 := hn3.cellNew q0
    replace q1 := hn3.cellNew q1
    replace q2 := hn3.cellNew q2
    clear hq hn3
    go_wp2_with fail
    refine (specSecretOf_any p _ _ _ g rows own sh _ (H2.out.1.new H3.out.2) (H2.out.2.1.new H3.out.2) (H2.out.2.2.1.new H3.out.2)).mono ?_
    rintro e w4 ⟨y, told, rfl, hq, hn4⟩
    obtain ⟨rfl, rfl⟩ := H3.out.1.unique hq
    have H4 := Lib.hid (H3.out.2.trans hn4)
    replace q0 := hn4.cellNew q0
    replace q1 := hn4.cellNew q1
    replace q2 := hn4.cellNew q2
    clear hq hn4
    cases ok with
    | false =>
      go_wp2_with fail
      go_ret
      exact ⟨rfl, H2.out.2.2.2.1.trans H4.out⟩
    | true =>
      obtain ⟨ha, q, iq, f, rfl, hsol, hx⟩ := H3.out.1.1 rfl
      have hto := vtB_ok ha.1.1
      have hq27 : 2 ≤ q ∧ q ≤ 7 := hto.pr.pos
      obtain ⟨s, rfl⟩ : ∃ s : Nat, g = s := ⟨g.toNat, by have := ha.2.2.2; omega⟩
      rw [Int.toNat_natCast] at hsol hx
      have hs32 : s < 32 := by have := ha.2.2.2; omega
      have hxb : 0 ≤ x ∧ x < q := by rw [hx]; exact ⟨Int.emod_nonneg _ (by omega), Int.emod_lt_of_pos _ (by omega)⟩
      obtain ⟨z, rfl⟩ : ∃ z : Nat, x = z := ⟨x.toNat, by omega⟩
      have hzq : z < q := by omega
      have HK := Lib.hid (hsol.knows.1 rfl)
      have HV := Lib.hid ha.1
      have hn1 := hto.n1
      have HSX := Lib.hid (And.intro ha (And.intro hsol (And.intro hx hn1)))
      clear ha hto hsol hx hn1 hxb
      go_wp2_with fail
      refine (possible_any q _ _ _ s rows own sh _ (H2.out.1.new H4.out) (H2.out.2.1.new H4.out) (H2.out.2.2.1.new H4.out) HSX.out.1).mono ?_
      rintro e w5 ⟨u, ys, rfl, hys, hy4, hy1, hn5⟩
      obtain ⟨au, lu, cu, rfl, HLU, _⟩ := hys.shape
      have H5 := Lib.hid (And.intro (H2.out.1.new (H4.out.trans hn5)) (And.intro (H2.out.2.1.new (H4.out.trans hn5)) (H2.out.2.2.2.1.trans (H4.out.trans hn5))))
      have HBL := Lib.hid (H2.out.2.2.2.2.new (H4.out.trans hn5))
      have HY5 := Lib.hid hys
      have HYY := Lib.hid (And.intro hy4 hy1)
      clear hys hy4 hy1 hn5 q0 q1 q2
      go_upto_region 9 with fail
      by_cases hc4 : 4 < (gr rows 0).length
      · obtain rfl : lu = 0 := by rw [HLU.out, HYY.out.1 hc4]; rfl
        refine wp_region_held_drew (S := fun w' => New w5 w') (by kernel_rfl) (New.drew _) (fun hY => ?_)
        refine held_take 0 (some 58) rfl rfl (by kernel_rfl) (by kernel_rfl) (by kernel_rfl) (fun _ _ _ h => h) rfl hY (v := .agg #[.int .i64 q, .slice a l c, .slice a2 l2 c2]) (fun w' hS => by obtain ⟨q0, q1, q2, _, _, _⟩ := (HBL.out.new hS).cells; go_simp; try with_reducible rfl) ?_
        simp only [Act.put, List.setIfInBounds_toArray, List.set_cons_zero, List.set_cons_succ]
        refine held_take 1 (some 59) rfl rfl (by kernel_rfl) (by kernel_rfl) (by kernel_rfl) (fun _ _ _ h => h) rfl hY (v := ?_) (fun w' hS => by skip; go_simp; try with_reducible rfl) ?_
        simp only [Act.put, List.setIfInBounds_toArray, List.set_cons_zero, List.set_cons_succ]
        refine held_only 2 (by kernel_rfl) rfl rfl (fun K1 hK1 => ?_)
        go_simp
        refine (doesKnow_valid q _ _ rows own s _ (H5.out.1.new hY) (H5.out.2.1.new hY) HV.out hs32).mono ?_
        rintro e w9 ⟨bk, rfl, hbk, hn9⟩
        obtain rfl : bk = true := hbk.2 HK.out
        clear hbk
        refine hK1.out _ _ (hY.trans hn9) (fun hY1 => ?_)
        clear hK1 K1
        refine held_take 3 (some 61) rfl rfl (by kernel_rfl) (by kernel_rfl) (by kernel_rfl) (fun _ _ _ h => h) rfl hY1 (v := .bool true) (fun w' hS => by skip; go_simp; try (first | (with_reducible rfl) | omega | (simp; done) | (simp; omega))) ?_
        simp only [Act.put, List.setIfInBounds_toArray, List.set_cons_zero, List.set_cons_succ]
        refine held_take 4 (some 62) rfl rfl (by kernel_rfl) (by kernel_rfl) (by kernel_rfl) (fun _ _ _ h => h) rfl hY1 (v := ?_) (fun w' hS => by skip; go_simp; try with_reducible rfl) ?_
        simp only [Act.put, List.setIfInBounds_toArray, List.set_cons_zero, List.set_cons_succ]
        refine held_take 5 (some 63) rfl rfl (by kernel_rfl) (by kernel_rfl) (by kernel_rfl) (fun _ _ _ h => h) rfl hY1 (v := ?_) (fun w' hS => by skip; go_simp; try with_reducible rfl) ?_
        simp only [Act.put, List.setIfInBounds_toArray, List.set_cons_zero, List.set_cons_succ]
        refine held_take 6 (some 64) rfl rfl (by kernel_rfl) (by kernel_rfl) (by kernel_rfl) (fun _ _ _ h => h) rfl hY1 (v := .bool true) (fun w' hS => by skip; go_simp; try (first | (with_reducible rfl) | omega | (simp; done) | (simp; omega))) ?_
        simp only [Act.put, List.setIfInBounds_toArray, List.set_cons_zero, List.set_cons_succ]
        refine held_take 7 (some 65) rfl rfl (by kernel_rfl) (by kernel_rfl) (by kernel_rfl) (fun _ _ _ h => h) rfl hY1 (v := .bool true) (fun w' hS => by skip; go_simp; try (first | (with_reducible rfl) | omega | (simp; done) | (simp; omega))) ?_
        simp only [Act.put, List.setIfInBounds_toArray, List.set_cons_zero, List.set_cons_succ]
        refine held_skip 8 (some 66) rfl rfl (by kernel_rfl) (by kernel_rfl) (by kernel_rfl) (fun _ _ _ h => h) rfl hY1 ?_
        simp only [Act.put, List.setIfInBounds_toArray, List.set_cons_zero, List.set_cons_succ]
        refine held_skip 9 (some 67) rfl rfl (by kernel_rfl) (by kernel_rfl) (by kernel_rfl) (fun _ _ _ h => h) rfl hY1 ?_
        simp only [Act.put, List.setIfInBounds_toArray, List.set_cons_zero, List.set_cons_succ]
        refine held_skip 10 (some 68) rfl rfl (by kernel_rfl) (by kernel_rfl) (by kernel_rfl) (fun _ _ _ h => h) rfl hY1 ?_
        simp only [Act.put, List.setIfInBounds_toArray, List.set_cons_zero, List.set_cons_succ]
        refine held_take 11 (some 69) rfl rfl (by kernel_rfl) (by kernel_rfl) (by kernel_rfl) (fun _ _ _ h => h) rfl hY1 (v := .bool true) (fun w' hS => by skip; go_simp; try (first | (with_reducible rfl) | omega | (simp; done) | (simp; omega))) ?_
        simp only [Act.put, List.setIfInBounds_toArray, List.set_cons_zero, List.set_cons_succ]
        refine held_take 12 (some 70) rfl rfl (by kernel_rfl) (by kernel_rfl) (by kernel_rfl) (fun _ _ _ h => h) rfl hY1 (v := .bool true) (fun w' hS => by skip; go_simp; try (first | (with_reducible rfl) | omega | (simp; done) | (simp; omega))) ?_
        simp only [Act.put, List.setIfInBounds_toArray, List.set_cons_zero, List.set_cons_succ]
        refine held_skip 13 (some 71) rfl rfl (by kernel_rfl) (by kernel_rfl) (by kernel_rfl) (fun _ _ _ h => h) rfl hY1 ?_
        simp only [Act.put, List.setIfInBounds_toArray, List.set_cons_zero, List.set_cons_succ]
        refine held_skip 14 (some 72) rfl rfl (by kernel_rfl) (by kernel_rfl) (by kernel_rfl) (fun _ _ _ h => h) rfl hY1 ?_
        simp only [Act.put, List.setIfInBounds_toArray, List.set_cons_zero, List.set_cons_succ]
        refine held_skip 15 (some 73) rfl rfl (by kernel_rfl) (by kernel_rfl) (by kernel_rfl) (fun _ _ _ h => h) rfl hY1 ?_
        simp only [Act.put, List.setIfInBounds_toArray, List.set_cons_zero, List.set_cons_succ]
        refine held_skip 16 (some 74) rfl rfl (by kernel_rfl) (by kernel_rfl) (by kernel_rfl) (fun _ _ _ h => h) rfl hY1 ?_
        simp only [Act.put, List.setIfInBounds_toArray, List.set_cons_zero, List.set_cons_succ]
        refine held_skip 17 (some 75) rfl rfl (by kernel_rfl) (by kernel_rfl) (by kernel_rfl) (fun _ _ _ h => h) rfl hY1 ?_
        simp only [Act.put, List.setIfInBounds_toArray, List.set_cons_zero, List.set_cons_succ]
        refine held_skip 18 (some 76) rfl rfl (by kernel_rfl) (by kernel_rfl) (by kernel_rfl) (fun _ _ _ h => h) rfl hY1 ?_
        simp only [Act.put, List.setIfInBounds_toArray, List.set_cons_zero, List.set_cons_succ]
        refine held_skip 19 (some 77) rfl rfl (by kernel_rfl) (by kernel_rfl) (by kernel_rfl) (fun _ _ _ h => h) rfl hY1 ?_
        simp only [Act.put, List.setIfInBounds_toArray, List.set_cons_zero, List.set_cons_succ]
        refine held_take 20 (some 78) rfl rfl (by kernel_rfl) (by kernel_rfl) (by kernel_rfl) (fun _ _ _ h => h) rfl hY1 (v := .bool true) (fun w' hS => by skip; go_simp; try (first | (with_reducible rfl) | omega | (simp; done) | (simp; omega))) ?_
        simp only [Act.put, List.setIfInBounds_toArray, List.set_cons_zero, List.set_cons_succ]
        refine held_take 21 (some 79) rfl rfl (by kernel_rfl) (by kernel_rfl) (by kernel_rfl) (fun _ _ _ h => h) rfl hY1 (v := .bool true) (fun w' hS => by skip; go_simp; try (first | (with_reducible rfl) | omega | (simp; done) | (simp; omega))) ?_
        simp only [Act.put, List.setIfInBounds_toArray, List.set_cons_zero, List.set_cons_succ]
        refine held_take 22 (some 2) rfl rfl (by kernel_rfl) (by kernel_rfl) (by kernel_rfl) (fun _ _ _ h => h) rfl hY1 (v := ?_) (fun w' hS => by skip; go_simp; try with_reducible rfl) ?_
        simp only [Act.put, List.setIfInBounds_toArray, List.set_cons_zero, List.set_cons_succ]
        refine wpAnyH_done (by kernel_rfl) ?_ _
        go_wp2_with fail
        go_ret
        exact ⟨rfl, H5.out.2.2.trans hY1⟩
      · have hys := HYY.out.2 (by omega)
        have HYL := Lib.hid (show ys.length = q by rw [hys, posTo_length])
        have hlu : q = lu := by rw [HLU.out, HYL.out]
        have HYB := Lib.hid (fun i : Nat => (show 0 ≤ gi ys i ∧ gi ys i ≤ 10000 by
          have h1 := posTo_range q (gr rows 0).length rows own sh s (q ^ (gr rows 0).length) i
          have h2 := pow_all (q := q) (k := (gr rows 0).length) hq27.2 (by omega)
          rw [hys]; omega))
        obtain ⟨T, hT⟩ : ∃ T, totL ys = T := ⟨_, rfl⟩
        have HTT := Lib.hid hT
        have hgz : gi ys z = T := by
          obtain ⟨c, hc⟩ := pos_one (q := q) (n := (gr rows 0).length) (rows := rows) (own := own) (sh := sh) (s := s) (x := z) (T := q ^ (gr rows 0).length) hq27.1 HSX.out.2.2.2 hzq (fun t ht hall => by rw [fine_secret hq27.1 HSX.out.2.2.2 HSX.out.2.1 hall, ← HSX.out.2.2.1])
          rw [← hys] at hc
          rw [← hT, hc, one_total hzq]
        have HGZ := Lib.hid hgz
        subst hlu
        clear hys hT hgz
        by_cases hT0 : T = 0
        · subst hT0
          refine wp_region_held_drew (S := fun w' => New w5 w') (by kernel_rfl) (New.drew _) (fun hY => ?_)
          refine held_take 0 (some 58) rfl rfl (by kernel_rfl) (by kernel_rfl) (by kernel_rfl) (fun _ _ _ h => h) rfl hY (v := .agg #[.int .i64 q, .slice a l c, .slice a2 l2 c2]) (fun w' hS => by obtain ⟨q0, q1, q2, _, _, _⟩ := (HBL.out.new hS).cells; go_simp; try with_reducible rfl) ?_
          simp only [Act.put, List.setIfInBounds_toArray, List.set_cons_zero, List.set_cons_succ]
          refine held_take 1 (some 59) rfl rfl (by kernel_rfl) (by kernel_rfl) (by kernel_rfl) (fun _ _ _ h => h) rfl hY (v := ?_) (fun w' hS => by skip; go_simp; try with_reducible rfl) ?_
          simp only [Act.put, List.setIfInBounds_toArray, List.set_cons_zero, List.set_cons_succ]
          refine held_only 2 (by kernel_rfl) rfl rfl (fun K1 hK1 => ?_)
          go_simp
          refine (doesKnow_valid q _ _ rows own s _ (H5.out.1.new hY) (H5.out.2.1.new hY) HV.out hs32).mono ?_
          rintro e w9 ⟨bk, rfl, hbk, hn9⟩
          obtain rfl : bk = true := hbk.2 HK.out
          clear hbk
          refine hK1.out _ _ (hY.trans hn9) (fun hY1 => ?_)
          clear hK1 K1
          refine held_take 3 (some 61) rfl rfl (by kernel_rfl) (by kernel_rfl) (by kernel_rfl) (fun _ _ _ h => h) rfl hY1 (v := .bool true) (fun w' hS => by skip; go_simp; try (first | (with_reducible rfl) | omega | (simp; done) | (simp; omega))) ?_
          simp only [Act.put, List.setIfInBounds_toArray, List.set_cons_zero, List.set_cons_succ]
          refine held_take 4 (some 62) rfl rfl (by kernel_rfl) (by kernel_rfl) (by kernel_rfl) (fun _ _ _ h => h) rfl hY1 (v := ?_) (fun w' hS => by skip; go_simp; try with_reducible rfl) ?_
          simp only [Act.put, List.setIfInBounds_toArray, List.set_cons_zero, List.set_cons_succ]
          refine held_take 5 (some 63) rfl rfl (by kernel_rfl) (by kernel_rfl) (by kernel_rfl) (fun _ _ _ h => h) rfl hY1 (v := ?_) (fun w' hS => by skip; go_simp; try with_reducible rfl) ?_
          simp only [Act.put, List.setIfInBounds_toArray, List.set_cons_zero, List.set_cons_succ]
          refine held_take 6 (some 64) rfl rfl (by kernel_rfl) (by kernel_rfl) (by kernel_rfl) (fun _ _ _ h => h) rfl hY1 (v := .bool false) (fun w' hS => by skip; go_simp; try (first | (with_reducible rfl) | omega | (simp; done) | (simp; omega))) ?_
          simp only [Act.put, List.setIfInBounds_toArray, List.set_cons_zero, List.set_cons_succ]
          refine held_take 7 (some 65) rfl rfl (by kernel_rfl) (by kernel_rfl) (by kernel_rfl) (fun _ _ _ h => h) rfl hY1 (v := .bool false) (fun w' hS => by skip; go_simp; try (first | (with_reducible rfl) | omega | (simp; done) | (simp; omega))) ?_
          simp only [Act.put, List.setIfInBounds_toArray, List.set_cons_zero, List.set_cons_succ]
          refine held_take 8 (some 66) rfl rfl (by kernel_rfl) (by kernel_rfl) (by kernel_rfl) (fun _ _ _ h => h) rfl hY1 (v := ?_) (fun w' hS => by skip; go_simp; try with_reducible rfl) ?_
          simp only [Act.put, List.setIfInBounds_toArray, List.set_cons_zero, List.set_cons_succ]
          refine held_only 9 (by kernel_rfl) rfl rfl (fun K2 hK2 => ?_)
          go_simp
          refine (lawTotal_any _ ys _ (HY5.out.new hY1) (by rw [HYL.out]; omega) (fun i hi => HYB.out i)).mono ?_
          rintro e w' ⟨rfl, rfl⟩
          rw [HTT.out]
          have hnt := Chg.refl (fun _ => False) w9
          refine hK2.out _ _ (hY1.trans hnt) (fun hY2 => ?_)
          clear hK2 K2
          refine held_take 10 (some 68) rfl rfl (by kernel_rfl) (by kernel_rfl) (by kernel_rfl) (fun _ _ _ h => h) rfl hY2 (v := .bool true) (fun w' hS => by skip; go_simp; try (first | (with_reducible rfl) | omega | (simp; done) | (simp; omega))) ?_
          simp only [Act.put, List.setIfInBounds_toArray, List.set_cons_zero, List.set_cons_succ]
          refine held_take 11 (some 69) rfl rfl (by kernel_rfl) (by kernel_rfl) (by kernel_rfl) (fun _ _ _ h => h) rfl hY2 (v := .bool true) (fun w' hS => by skip; go_simp; try (first | (with_reducible rfl) | omega | (simp; done) | (simp; omega))) ?_
          simp only [Act.put, List.setIfInBounds_toArray, List.set_cons_zero, List.set_cons_succ]
          refine held_take 12 (some 70) rfl rfl (by kernel_rfl) (by kernel_rfl) (by kernel_rfl) (fun _ _ _ h => h) rfl hY2 (v := .bool true) (fun w' hS => by skip; go_simp; try (first | (with_reducible rfl) | omega | (simp; done) | (simp; omega))) ?_
          simp only [Act.put, List.setIfInBounds_toArray, List.set_cons_zero, List.set_cons_succ]
          refine held_skip 13 (some 71) rfl rfl (by kernel_rfl) (by kernel_rfl) (by kernel_rfl) (fun _ _ _ h => h) rfl hY2 ?_
          simp only [Act.put, List.setIfInBounds_toArray, List.set_cons_zero, List.set_cons_succ]
          refine held_skip 14 (some 72) rfl rfl (by kernel_rfl) (by kernel_rfl) (by kernel_rfl) (fun _ _ _ h => h) rfl hY2 ?_
          simp only [Act.put, List.setIfInBounds_toArray, List.set_cons_zero, List.set_cons_succ]
          refine held_skip 15 (some 73) rfl rfl (by kernel_rfl) (by kernel_rfl) (by kernel_rfl) (fun _ _ _ h => h) rfl hY2 ?_
          simp only [Act.put, List.setIfInBounds_toArray, List.set_cons_zero, List.set_cons_succ]
          refine held_skip 16 (some 74) rfl rfl (by kernel_rfl) (by kernel_rfl) (by kernel_rfl) (fun _ _ _ h => h) rfl hY2 ?_
          simp only [Act.put, List.setIfInBounds_toArray, List.set_cons_zero, List.set_cons_succ]
          refine held_skip 17 (some 75) rfl rfl (by kernel_rfl) (by kernel_rfl) (by kernel_rfl) (fun _ _ _ h => h) rfl hY2 ?_
          simp only [Act.put, List.setIfInBounds_toArray, List.set_cons_zero, List.set_cons_succ]
          refine held_skip 18 (some 76) rfl rfl (by kernel_rfl) (by kernel_rfl) (by kernel_rfl) (fun _ _ _ h => h) rfl hY2 ?_
          simp only [Act.put, List.setIfInBounds_toArray, List.set_cons_zero, List.set_cons_succ]
          refine held_skip 19 (some 77) rfl rfl (by kernel_rfl) (by kernel_rfl) (by kernel_rfl) (fun _ _ _ h => h) rfl hY2 ?_
          simp only [Act.put, List.setIfInBounds_toArray, List.set_cons_zero, List.set_cons_succ]
          refine held_take 20 (some 78) rfl rfl (by kernel_rfl) (by kernel_rfl) (by kernel_rfl) (fun _ _ _ h => h) rfl hY2 (v := .bool true) (fun w' hS => by skip; go_simp; try (first | (with_reducible rfl) | omega | (simp; done) | (simp; omega))) ?_
          simp only [Act.put, List.setIfInBounds_toArray, List.set_cons_zero, List.set_cons_succ]
          refine held_take 21 (some 79) rfl rfl (by kernel_rfl) (by kernel_rfl) (by kernel_rfl) (fun _ _ _ h => h) rfl hY2 (v := .bool true) (fun w' hS => by skip; go_simp; try (first | (with_reducible rfl) | omega | (simp; done) | (simp; omega))) ?_
          simp only [Act.put, List.setIfInBounds_toArray, List.set_cons_zero, List.set_cons_succ]
          refine held_take 22 (some 2) rfl rfl (by kernel_rfl) (by kernel_rfl) (by kernel_rfl) (fun _ _ _ h => h) rfl hY2 (v := ?_) (fun w' hS => by skip; go_simp; try with_reducible rfl) ?_
          simp only [Act.put, List.setIfInBounds_toArray, List.set_cons_zero, List.set_cons_succ]
          refine wpAnyH_done (by kernel_rfl) ?_ _
          go_wp2_with fail
          go_ret
          exact ⟨rfl, H5.out.2.2.trans hY2⟩
        · obtain ⟨bx, ox, rfl, ckx⟩ := HY5.out.at hzq
          rw [HGZ.out] at ckx
          have CKX := Lib.hid ckx
          clear ckx
          have hTd : (T == 0) = false := by simp; exact hT0
          refine wp_region_held_drew (S := fun w' => New w5 w') (by kernel_rfl) (New.drew _) (fun hY => ?_)
          refine held_take 0 (some 58) rfl rfl (by kernel_rfl) (by kernel_rfl) (by kernel_rfl) (fun _ _ _ h => h) rfl hY (v := .agg #[.int .i64 q, .slice a l c, .slice a2 l2 c2]) (fun w' hS => by obtain ⟨q0, q1, q2, _, _, _⟩ := (HBL.out.new hS).cells; have ckx := hS.cellNew CKX.out; go_simp; try with_reducible rfl) ?_
          simp only [Act.put, List.setIfInBounds_toArray, List.set_cons_zero, List.set_cons_succ]
          refine held_take 1 (some 59) rfl rfl (by kernel_rfl) (by kernel_rfl) (by kernel_rfl) (fun _ _ _ h => h) rfl hY (v := ?_) (fun w' hS => by skip; go_simp; try with_reducible rfl) ?_
          simp only [Act.put, List.setIfInBounds_toArray, List.set_cons_zero, List.set_cons_succ]
          refine held_only 2 (by kernel_rfl) rfl rfl (fun K1 hK1 => ?_)
          go_simp
          refine (doesKnow_valid q _ _ rows own s _ (H5.out.1.new hY) (H5.out.2.1.new hY) HV.out hs32).mono ?_
          rintro e w9 ⟨bk, rfl, hbk, hn9⟩
          obtain rfl : bk = true := hbk.2 HK.out
          clear hbk
          refine hK1.out _ _ (hY.trans hn9) (fun hY1 => ?_)
          clear hK1 K1
          refine held_take 3 (some 61) rfl rfl (by kernel_rfl) (by kernel_rfl) (by kernel_rfl) (fun _ _ _ h => h) rfl hY1 (v := .bool true) (fun w' hS => by skip; go_simp; try (first | (with_reducible rfl) | omega | (simp; done) | (simp; omega))) ?_
          simp only [Act.put, List.setIfInBounds_toArray, List.set_cons_zero, List.set_cons_succ]
          refine held_take 4 (some 62) rfl rfl (by kernel_rfl) (by kernel_rfl) (by kernel_rfl) (fun _ _ _ h => h) rfl hY1 (v := ?_) (fun w' hS => by skip; go_simp; try with_reducible rfl) ?_
          simp only [Act.put, List.setIfInBounds_toArray, List.set_cons_zero, List.set_cons_succ]
          refine held_take 5 (some 63) rfl rfl (by kernel_rfl) (by kernel_rfl) (by kernel_rfl) (fun _ _ _ h => h) rfl hY1 (v := ?_) (fun w' hS => by skip; go_simp; try with_reducible rfl) ?_
          simp only [Act.put, List.setIfInBounds_toArray, List.set_cons_zero, List.set_cons_succ]
          refine held_take 6 (some 64) rfl rfl (by kernel_rfl) (by kernel_rfl) (by kernel_rfl) (fun _ _ _ h => h) rfl hY1 (v := .bool false) (fun w' hS => by skip; go_simp; try (first | (with_reducible rfl) | omega | (simp; done) | (simp; omega))) ?_
          simp only [Act.put, List.setIfInBounds_toArray, List.set_cons_zero, List.set_cons_succ]
          refine held_take 7 (some 65) rfl rfl (by kernel_rfl) (by kernel_rfl) (by kernel_rfl) (fun _ _ _ h => h) rfl hY1 (v := .bool false) (fun w' hS => by skip; go_simp; try (first | (with_reducible rfl) | omega | (simp; done) | (simp; omega))) ?_
          simp only [Act.put, List.setIfInBounds_toArray, List.set_cons_zero, List.set_cons_succ]
          refine held_take 8 (some 66) rfl rfl (by kernel_rfl) (by kernel_rfl) (by kernel_rfl) (fun _ _ _ h => h) rfl hY1 (v := ?_) (fun w' hS => by skip; go_simp; try with_reducible rfl) ?_
          simp only [Act.put, List.setIfInBounds_toArray, List.set_cons_zero, List.set_cons_succ]
          refine held_only 9 (by kernel_rfl) rfl rfl (fun K2 hK2 => ?_)
          go_simp
          refine (lawTotal_any _ ys _ (HY5.out.new hY1) (by rw [HYL.out]; omega) (fun i hi => HYB.out i)).mono ?_
          rintro e w' ⟨rfl, rfl⟩
          rw [HTT.out]
          have hnt := Chg.refl (fun _ => False) w9
          refine hK2.out _ _ (hY1.trans hnt) (fun hY2 => ?_)
          clear hK2 K2
          refine held_take 10 (some 68) rfl rfl (by kernel_rfl) (by kernel_rfl) (by kernel_rfl) (fun _ _ _ h => h) rfl hY2 (v := .bool false) (fun w' hS => by skip; go_simp; try (first | (with_reducible rfl) | omega | (simp; done) | (simp; omega))) ?_
          simp only [Act.put, List.setIfInBounds_toArray, List.set_cons_zero, List.set_cons_succ]
          refine held_take 11 (some 69) rfl rfl (by kernel_rfl) (by kernel_rfl) (by kernel_rfl) (fun _ _ _ h => h) rfl hY2 (v := .bool false) (fun w' hS => by skip; go_simp; try (first | (with_reducible rfl) | omega | (simp; done) | (simp; omega))) ?_
          simp only [Act.put, List.setIfInBounds_toArray, List.set_cons_zero, List.set_cons_succ]
          refine held_take 12 (some 70) rfl rfl (by kernel_rfl) (by kernel_rfl) (by kernel_rfl) (fun _ _ _ h => h) rfl hY2 (v := .bool false) (fun w' hS => by skip; go_simp; try (first | (with_reducible rfl) | omega | (simp; done) | (simp; omega))) ?_
          simp only [Act.put, List.setIfInBounds_toArray, List.set_cons_zero, List.set_cons_succ]
          refine held_take 13 (some 71) rfl rfl (by kernel_rfl) (by kernel_rfl) (by kernel_rfl) (fun _ _ _ h => h) rfl hY2 (v := ?_) (fun w' hS => by skip; go_simp; try with_reducible rfl) ?_
          simp only [Act.put, List.setIfInBounds_toArray, List.set_cons_zero, List.set_cons_succ]
          refine held_take 14 (some 72) rfl rfl (by kernel_rfl) (by kernel_rfl) (by kernel_rfl) (fun _ _ _ h => h) rfl hY2 (v := ?_) (fun w' hS => by skip; go_simp; try with_reducible rfl) ?_
          simp only [Act.put, List.setIfInBounds_toArray, List.set_cons_zero, List.set_cons_succ]
          refine held_take 15 (some 73) rfl rfl (by kernel_rfl) (by kernel_rfl) (by kernel_rfl) (fun _ _ _ h => h) rfl hY2 (v := ?_) (fun w' hS => by skip; go_simp; try with_reducible rfl) ?_
          simp only [Act.put, List.setIfInBounds_toArray, List.set_cons_zero, List.set_cons_succ]
          refine held_take 16 (some 74) rfl rfl (by kernel_rfl) (by kernel_rfl) (by kernel_rfl) (fun _ _ _ h => h) rfl hY2 (v := .int .i64 T) (fun w' hS => by obtain ⟨q0, q1, q2, _, _, _⟩ := (HBL.out.new hS).cells; have ckx := hS.cellNew CKX.out; go_simp; try with_reducible rfl) ?_
          simp only [Act.put, List.setIfInBounds_toArray, List.set_cons_zero, List.set_cons_succ]
          refine held_take 17 (some 75) rfl rfl (by kernel_rfl) (by kernel_rfl) (by kernel_rfl) (fun _ _ _ h => h) rfl hY2 (v := ?_) (fun w' hS => by skip; go_simp; try with_reducible rfl) ?_
          simp only [Act.put, List.setIfInBounds_toArray, List.set_cons_zero, List.set_cons_succ]
          refine held_only 18 (by kernel_rfl) rfl rfl (fun K3 hK3 => ?_)
          go_simp
          refine (lawTotal_any _ ys _ (HY5.out.new hY2) (by rw [HYL.out]; omega) (fun i hi => HYB.out i)).mono ?_
          rintro e w' ⟨rfl, rfl⟩
          rw [HTT.out]
          have hnt2 := Chg.refl (fun _ => False) w9
          refine hK3.out _ _ (hY2.trans hnt2) (fun hY3 => ?_)
          clear hK3 K3
          refine held_take 19 (some 77) rfl rfl (by kernel_rfl) (by kernel_rfl) (by kernel_rfl) (fun _ _ _ h => h) rfl hY3 (v := .bool true) (fun w' hS => by skip; go_simp; try (first | (with_reducible rfl) | omega | (simp; done) | (simp; omega))) ?_
          simp only [Act.put, List.setIfInBounds_toArray, List.set_cons_zero, List.set_cons_succ]
          refine held_take 20 (some 78) rfl rfl (by kernel_rfl) (by kernel_rfl) (by kernel_rfl) (fun _ _ _ h => h) rfl hY3 (v := .bool true) (fun w' hS => by skip; go_simp; try (first | (with_reducible rfl) | omega | (simp; done) | (simp; omega))) ?_
          simp only [Act.put, List.setIfInBounds_toArray, List.set_cons_zero, List.set_cons_succ]
          refine held_take 21 (some 79) rfl rfl (by kernel_rfl) (by kernel_rfl) (by kernel_rfl) (fun _ _ _ h => h) rfl hY3 (v := .bool true) (fun w' hS => by skip; go_simp; try (first | (with_reducible rfl) | omega | (simp; done) | (simp; omega))) ?_
          simp only [Act.put, List.setIfInBounds_toArray, List.set_cons_zero, List.set_cons_succ]
          refine held_take 22 (some 2) rfl rfl (by kernel_rfl) (by kernel_rfl) (by kernel_rfl) (fun _ _ _ h => h) rfl hY3 (v := ?_) (fun w' hS => by skip; go_simp; try with_reducible rfl) ?_
          simp only [Act.put, List.setIfInBounds_toArray, List.set_cons_zero, List.set_cons_succ]
          refine wpAnyH_done (by kernel_rfl) ?_ _
          go_wp2_with fail
          go_ret
          exact ⟨rfl, H5.out.2.2.trans hY3⟩
end Go.Proofs.Ytahgjfmdafhedaa
