/- The walk of FnMendWord. -/
import Derived.Test.YtgpmkbenjlhfhaaCodF
import Derived.Test.YtgpmkbenjlhfhaaDrawM
import Derived.Test.YtgpmkbenjlhfhaaMends
import Derived.Test.YtgpmkbenjlhfhaaEnco
import Derived.Test.YtgpmkbenjlhfhaaMend
import Derived.Test.YtgpmkbenjlhfhaaLawF
namespace Go.Proofs.Ytgpmkbenjlhfhaa
open Go.RowKit Mat
set_option linter.unusedVariables false

set_option maxRecDepth 100000 in
set_option maxHeartbeats 8000000 in
theorem lawMendWord_any (v : Value) (n : Nat) (w : World) (hb : RawB w v n) :
    Calls Try.prog 14 #[v] w fun e w' => e = .returned (.bool true) ∧ New w w' := by
  obtain ⟨ao, cap, rfl, hcap, hmx, -⟩ := id hb
  unfold maxLen at hmx
  have HB := Lib.hid hb
  clear hb
  by_cases hbig : 1048576 < n
  · go_enter Try.func14, Try.ntmps14
    go_wp2_with fail
    go_ret
    exact ⟨rfl, Chg.refl _ _⟩
  · go_enter Try.func14, Try.ntmps14
    go_wp2_with fail
    refine (drawMendWord_any _ _ _ HB.out).mono ?_
    rintro e w1 ⟨a, l, c, vs, rows, p, am, lm, cm, kn, rfl, ho, hk, hp, hom, hlm, hn1⟩
    have hr := ho.isR hk.mid.1 hk.mid.2
    have hrm := hom.isI (by unfold Mid; omega)
    go_upto_region 4 with fail
    have b2 := Blk2.alloc w1 (.int .i64 p) (.slice a l c) 25
    have n2 := New.alloc w1 (.cells #[.int .i64 p, .slice a l c] 25)
    obtain ⟨w2, hw2⟩ : ∃ w2, w2 = w1.alloc (.cells #[.int .i64 p, .slice a l c] 25) := ⟨_, rfl⟩
    rw [← hw2] at b2 n2
    rw [← hw2]
    clear hw2
    have HLL := Lib.hid hr.len
    have HLM := Lib.hid hrm.len
    have H2 := Lib.hid (And.intro (hr.new n2) (And.intro (hn1.trans n2) (And.intro b2 (hrm.new n2))))
    obtain ⟨q0, q1, _, _⟩ := b2.cells
    clear hr hn1 b2 n2 hk ho hom hrm
    go_wp2_with fail
    refine (implMendWord_any p _ _ rows kn _ H2.out.1 H2.out.2.2.2).mono ?_
    rintro e w3 ⟨u3, out, ok, rfl, ho3, hf3, hq3, hn3⟩
    have hsm := hq3.small
    have hi3 := ho3.isI (by unfold Mid; omega)
    obtain ⟨a3, l3, c3, rfl, HL3, hl3⟩ := hi3.shape
    have H3 := Lib.hid (And.intro hq3 (And.intro hn3 hi3))
    replace q0 := hn3.cellNew q0
    replace q1 := hn3.cellNew q1
    clear ho3 hf3 hq3 hn3 hi3 hsm
    go_wp2_with fail
    refine (specMendWord_any p _ _ rows kn _ (H2.out.1.new H3.out.2.1) (H2.out.2.2.2.new H3.out.2.1)).mono ?_
    rintro e w4 ⟨u4, out4, ok4, rfl, ho4, hf4, hq4, hn4⟩
    obtain ⟨rfl, rfl⟩ := H3.out.1.unique hq4
    have hsm := hq4.small
    have hi4 := ho4.isI (by unfold Mid; omega)
    obtain ⟨a4, l4, c4, rfl, HL4, hl4⟩ := hi4.shape
    have H4 := Lib.hid (And.intro hi4 (And.intro (H3.out.2.1.trans hn4) (H3.out.2.2.new hn4)))
    replace q0 := hn4.cellNew q0
    replace q1 := hn4.cellNew q1
    clear ho4 hf4 hq4 hn4 hi4 hsm
    go_wp2_with fail
    refine (implCountMends_any p _ _ rows kn _ (H2.out.1.new H4.out.2.1) (H2.out.2.2.2.new H4.out.2.1)).mono ?_
    rintro e w5 ⟨t, rfl, hq5, hn5⟩
    have H5 := Lib.hid (And.intro hq5 (And.intro (H4.out.2.1.trans hn5) (And.intro (H4.out.2.2.new hn5) (H4.out.1.new hn5))))
    replace q0 := hn5.cellNew q0
    replace q1 := hn5.cellNew q1
    clear hq5 hn5
    go_wp2_with fail
    refine (equalInts_any _ _ out out _ H5.out.2.2.1 H5.out.2.2.2).mono ?_
    rintro e w6 ⟨rfl, m6, rfl⟩
    rw [eqL_self]
    have H6 := Lib.hid (New.drewN w5 m6)
    replace q0 := H6.out.cellNew q0
    replace q1 := H6.out.cellNew q1
    obtain ⟨w6, hw6⟩ : ∃ w6, w6 = w5.drewN m6 := ⟨_, rfl⟩
    rw [← hw6] at H6 q0 q1
    rw [← hw6]
    clear hw6
    by_cases hv : LostC p rows kn
    · obtain ⟨q, rfl, hq⟩ := prime_nat (vtB_pr hv.1.1)
      haveI := hq.nz
      obtain rfl := H5.out.1.1 hv
      have hc := hv.1.code
      obtain ⟨cnt, hcnt⟩ : ∃ cnt, cnt = cntOf q rows kn := ⟨_, rfl⟩
      rw [← hcnt]
      have HV := Lib.hid (And.intro hv (And.intro hc hcnt))
      have hn7 := hc.tab.n7
      have hlm7 : lm ≤ 7 := by rw [HLM.out, hv.2.1]; exact hn7
      clear hv hc hcnt hq hn7
      go_wp2_with fail
      refine (implEncodeWord_any q _ _ rows out _ (H2.out.1.new (H5.out.2.1.trans H6.out)) (H5.out.2.2.1.new H6.out)).mono ?_
      rintro e w7 ⟨u7, full, rfl, ho7, hf7, hq7, hn7⟩
      have hsm := hq7.small
      have hi7 := ho7.isI (by unfold Mid; omega)
      obtain ⟨a7, l7, c7, rfl, HL7, hl7⟩ := hi7.shape
      have H7 := Lib.hid (And.intro hi7 (And.intro hq7 (H5.out.2.1.trans (H6.out.trans hn7))))
      clear ho7 hf7 hq7 hi7 hsm hn7 q0 q1
      have hmend : cnt ≠ 0 → (cnt = 1 ↔ IsMendC q rows ((lostN kn kn.length : Nat) : Int)) := fun h0 => by
        have e1 := HV.out.1.2.1
        have h2 := HV.out.2.2
        unfold cntOf at h2
        rw [Int.toNat_natCast] at h2
        have h1 := HV.out.2.1.count_mend (kn := kn) (fun i hi => HV.out.1.2.2 i (by rw [e1]; exact hi)) (by rw [← h2]; exact h0)
        rw [← h2] at h1
        rw [h1, e1]
        have hlt : lostN kn (gr rows 0).length < 2 ^ (gr rows 0).length := setB_lt _ _
        unfold IsMendC
        rw [Int.toNat_natCast]
        exact ⟨fun h => ⟨HV.out.1.1, inB_iff.2 ⟨Int.natCast_nonneg _, Int.le_sub_one_of_lt (Int.ofNat_lt.2 hlt)⟩, h⟩, fun h => h.2.2⟩
      have HME := Lib.hid hmend
      clear hmend
      by_cases hc1 : cnt = 1
      · obtain ⟨rfl, t, ht, hfit, hout⟩ := H3.out.1.1 ⟨HV.out.1, by rw [← HV.out.2.2]; exact hc1⟩
        rw [Int.toNat_natCast] at hfit hout ht
        have hfull : full = wordT q (gr rows 0).length rows t := by
          have hg := msg_good (q := q) (k := rows.length) (t := t) (by have := HV.out.2.1.tab.pr.pos; omega)
          have hm : MsgC q rows out := ⟨HV.out.1.1, by rw [hout]; exact msg_length _ _ _, by rw [hout]; exact hg.hasB⟩
          have := H7.out.2.1.1 hm
          rw [this, hm.2.1, hout]; rfl
        have hl7n : lm = l7 := by rw [HLM.out, HL7.out, hfull, wordT_length]; exact HV.out.1.2.1
        have hfk : ∀ k, k < lm → gi kn k < 0 ∨ gi kn k = gi full k := fun k hk => by
          rw [hfull]
          exact fitB_iff.1 hfit k (by rw [← HV.out.1.2.1, ← HLM.out]; exact hk)
        have HFK := Lib.hid hfk
        have HMEND := Lib.hid (show IsMendC q rows ((lostN kn kn.length : Nat) : Int) ↔ true = true from ⟨fun _ => rfl, fun _ => (HME.out (by omega)).1 hc1⟩)
        have HI7 := Lib.hid H7.out.1
        clear ht hfit hout hfull hfk
        subst hc1 hl7n
        go_wp2_with fail
        go_loopw [11] (fun t11 wr => ∃ k : Nat, t11 = .int .i64 k ∧ k ≤ lm ∧ Hid (New w2 wr) ∧ Hid (New w7 wr)) (fun t11 _ => lm - (intOf t11).toNat)
        case atStart => exact ⟨0, rfl, Nat.zero_le _, H7.out.2.2, Chg.refl _ _⟩
        case round =>
          obtain ⟨k, rfl, hk, HN, HNN⟩ := hrel
          obtain ⟨wy, hwy⟩ : ∃ wy : World, wy = wr := ⟨_, rfl⟩
          rw [← hwy] at HN HNN
          rw [← hwy]
          clear hwy
          by_cases hkl : k < lm
          · obtain ⟨bk, ok, rfl, ckk⟩ := (H2.out.2.2.2.new HN.out).at hkl
            obtain ⟨bf, of, rfl, cff⟩ := (HI7.out.new HNN.out).at hkl
            rcases HFK.out k hkl with hneg | heq
            · obtain ⟨z, hz⟩ : ∃ z, z = gi kn k := ⟨_, rfl⟩
              rw [← hz] at ckk hneg
              have hge : decide (z ≥ 0) = false := by simp; omega
              have hge2 : ¬ (0 ≤ z) := by omega
              clear hz cff
              go_upto_region 13 with fail
              refine wp_region_held_drew (S := fun w' => New wy w') (by kernel_rfl) (New.drew _) (fun hW => ?_)
              refine held_take 0 (some 68) rfl rfl (by kernel_rfl) (by kernel_rfl) (by kernel_rfl) (fun _ _ _ h => h) rfl hW (v := ?_) (fun w' hS => by skip; go_simp; try with_reducible rfl) ?_
              simp only [Act.put, List.setIfInBounds_toArray, List.set_cons_zero, List.set_cons_succ]
              refine held_take 1 (some 69) rfl rfl (by kernel_rfl) (by kernel_rfl) (by kernel_rfl) (fun _ _ _ h => h) rfl hW (v := ?_) (fun w' hS => by skip; go_simp; try with_reducible rfl) ?_
              simp only [Act.put, List.setIfInBounds_toArray, List.set_cons_zero, List.set_cons_succ]
              refine held_take 2 (some 70) rfl rfl (by kernel_rfl) (by kernel_rfl) (by kernel_rfl) (fun _ _ _ h => h) rfl hW (v := ?_) (fun w' hS => by skip; go_simp; try with_reducible rfl) ?_
              simp only [Act.put, List.setIfInBounds_toArray, List.set_cons_zero, List.set_cons_succ]
              refine held_take 3 (some 71) rfl rfl (by kernel_rfl) (by kernel_rfl) (by kernel_rfl) (fun _ _ _ h => h) rfl hW (v := .int .i64 z) (fun w' hS => by have ckk := hS.cellNew ckk; go_simp; try with_reducible rfl) ?_
              simp only [Act.put, List.setIfInBounds_toArray, List.set_cons_zero, List.set_cons_succ]
              refine held_take 4 (some 72) rfl rfl (by kernel_rfl) (by kernel_rfl) (by kernel_rfl) (fun _ _ _ h => h) rfl hW (v := .bool false) (fun w' hS => by skip; go_simp; try with_reducible rfl) ?_
              simp only [Act.put, List.setIfInBounds_toArray, List.set_cons_zero, List.set_cons_succ]
              refine held_take 5 (some 73) rfl rfl (by kernel_rfl) (by kernel_rfl) (by kernel_rfl) (fun _ _ _ h => h) rfl hW (v := ?_) (fun w' hS => by skip; go_simp; try with_reducible rfl) ?_
              simp only [Act.put, List.setIfInBounds_toArray, List.set_cons_zero, List.set_cons_succ]
              refine held_skip 6 (some 74) rfl rfl (by kernel_rfl) (by kernel_rfl) (by kernel_rfl) (fun _ _ _ h => h) rfl hW ?_
              simp only [Act.put, List.setIfInBounds_toArray, List.set_cons_zero, List.set_cons_succ]
              refine held_skip 7 (some 75) rfl rfl (by kernel_rfl) (by kernel_rfl) (by kernel_rfl) (fun _ _ _ h => h) rfl hW ?_
              simp only [Act.put, List.setIfInBounds_toArray, List.set_cons_zero, List.set_cons_succ]
              refine held_skip 8 (some 76) rfl rfl (by kernel_rfl) (by kernel_rfl) (by kernel_rfl) (fun _ _ _ h => h) rfl hW ?_
              simp only [Act.put, List.setIfInBounds_toArray, List.set_cons_zero, List.set_cons_succ]
              refine held_skip 9 (some 77) rfl rfl (by kernel_rfl) (by kernel_rfl) (by kernel_rfl) (fun _ _ _ h => h) rfl hW ?_
              simp only [Act.put, List.setIfInBounds_toArray, List.set_cons_zero, List.set_cons_succ]
              refine held_skip 10 (some 78) rfl rfl (by kernel_rfl) (by kernel_rfl) (by kernel_rfl) (fun _ _ _ h => h) rfl hW ?_
              simp only [Act.put, List.setIfInBounds_toArray, List.set_cons_zero, List.set_cons_succ]
              refine held_skip 11 (some 79) rfl rfl (by kernel_rfl) (by kernel_rfl) (by kernel_rfl) (fun _ _ _ h => h) rfl hW ?_
              simp only [Act.put, List.setIfInBounds_toArray, List.set_cons_zero, List.set_cons_succ]
              refine held_skip 12 (some 80) rfl rfl (by kernel_rfl) (by kernel_rfl) (by kernel_rfl) (fun _ _ _ h => h) rfl hW ?_
              simp only [Act.put, List.setIfInBounds_toArray, List.set_cons_zero, List.set_cons_succ]
              refine held_skip 13 (some 81) rfl rfl (by kernel_rfl) (by kernel_rfl) (by kernel_rfl) (fun _ _ _ h => h) rfl hW ?_
              simp only [Act.put, List.setIfInBounds_toArray, List.set_cons_zero, List.set_cons_succ]
              refine held_skip 14 (some 82) rfl rfl (by kernel_rfl) (by kernel_rfl) (by kernel_rfl) (fun _ _ _ h => h) rfl hW ?_
              simp only [Act.put, List.setIfInBounds_toArray, List.set_cons_zero, List.set_cons_succ]
              refine held_take 15 (some 83) rfl rfl (by kernel_rfl) (by kernel_rfl) (by kernel_rfl) (fun _ _ _ h => h) rfl hW (v := ?_) (fun w' hS => by skip; go_simp; try with_reducible rfl) ?_
              simp only [Act.put, List.setIfInBounds_toArray, List.set_cons_zero, List.set_cons_succ]
              refine wpAnyH_done (by kernel_rfl) ?_ _
              go_wp2_with fail
              go_roundw
              case rel => exact ⟨k + 1, by go_num, by omega, HN.out.trans hW, HNN.out.trans hW⟩
              case measure => simp [intOf]; omega
            · obtain ⟨z, hz⟩ : ∃ z, z = gi kn k := ⟨_, rfl⟩
              rw [← heq] at cff
              rw [← hz] at ckk cff
              clear heq
              by_cases hz0 : 0 ≤ z
              · have hge : decide (z ≥ 0) = true := by simp; omega
                clear hz
                go_upto_region 13 with fail
                refine wp_region_held_drew (S := fun w' => New wy w') (by kernel_rfl) (New.drew _) (fun hW => ?_)
                refine held_take 0 (some 68) rfl rfl (by kernel_rfl) (by kernel_rfl) (by kernel_rfl) (fun _ _ _ h => h) rfl hW (v := ?_) (fun w' hS => by skip; go_simp; try with_reducible rfl) ?_
                simp only [Act.put, List.setIfInBounds_toArray, List.set_cons_zero, List.set_cons_succ]
                refine held_take 1 (some 69) rfl rfl (by kernel_rfl) (by kernel_rfl) (by kernel_rfl) (fun _ _ _ h => h) rfl hW (v := ?_) (fun w' hS => by skip; go_simp; try with_reducible rfl) ?_
                simp only [Act.put, List.setIfInBounds_toArray, List.set_cons_zero, List.set_cons_succ]
                refine held_take 2 (some 70) rfl rfl (by kernel_rfl) (by kernel_rfl) (by kernel_rfl) (fun _ _ _ h => h) rfl hW (v := ?_) (fun w' hS => by skip; go_simp; try with_reducible rfl) ?_
                simp only [Act.put, List.setIfInBounds_toArray, List.set_cons_zero, List.set_cons_succ]
                refine held_take 3 (some 71) rfl rfl (by kernel_rfl) (by kernel_rfl) (by kernel_rfl) (fun _ _ _ h => h) rfl hW (v := .int .i64 z) (fun w' hS => by have ckk := hS.cellNew ckk; have cff := hS.cellNew cff; go_simp; try with_reducible rfl) ?_
                simp only [Act.put, List.setIfInBounds_toArray, List.set_cons_zero, List.set_cons_succ]
                refine held_take 4 (some 72) rfl rfl (by kernel_rfl) (by kernel_rfl) (by kernel_rfl) (fun _ _ _ h => h) rfl hW (v := .bool true) (fun w' hS => by skip; go_simp; try with_reducible rfl) ?_
                simp only [Act.put, List.setIfInBounds_toArray, List.set_cons_zero, List.set_cons_succ]
                refine held_take 5 (some 73) rfl rfl (by kernel_rfl) (by kernel_rfl) (by kernel_rfl) (fun _ _ _ h => h) rfl hW (v := ?_) (fun w' hS => by skip; go_simp; try with_reducible rfl) ?_
                simp only [Act.put, List.setIfInBounds_toArray, List.set_cons_zero, List.set_cons_succ]
                refine held_take 6 (some 74) rfl rfl (by kernel_rfl) (by kernel_rfl) (by kernel_rfl) (fun _ _ _ h => h) rfl hW (v := ?_) (fun w' hS => by skip; go_simp; try with_reducible rfl) ?_
                simp only [Act.put, List.setIfInBounds_toArray, List.set_cons_zero, List.set_cons_succ]
                refine held_take 7 (some 75) rfl rfl (by kernel_rfl) (by kernel_rfl) (by kernel_rfl) (fun _ _ _ h => h) rfl hW (v := ?_) (fun w' hS => by skip; go_simp; try with_reducible rfl) ?_
                simp only [Act.put, List.setIfInBounds_toArray, List.set_cons_zero, List.set_cons_succ]
                refine held_take 8 (some 76) rfl rfl (by kernel_rfl) (by kernel_rfl) (by kernel_rfl) (fun _ _ _ h => h) rfl hW (v := ?_) (fun w' hS => by skip; go_simp; try with_reducible rfl) ?_
                simp only [Act.put, List.setIfInBounds_toArray, List.set_cons_zero, List.set_cons_succ]
                refine held_take 9 (some 77) rfl rfl (by kernel_rfl) (by kernel_rfl) (by kernel_rfl) (fun _ _ _ h => h) rfl hW (v := .int .i64 z) (fun w' hS => by have ckk := hS.cellNew ckk; have cff := hS.cellNew cff; go_simp; try with_reducible rfl) ?_
                simp only [Act.put, List.setIfInBounds_toArray, List.set_cons_zero, List.set_cons_succ]
                refine held_take 10 (some 78) rfl rfl (by kernel_rfl) (by kernel_rfl) (by kernel_rfl) (fun _ _ _ h => h) rfl hW (v := ?_) (fun w' hS => by skip; go_simp; try with_reducible rfl) ?_
                simp only [Act.put, List.setIfInBounds_toArray, List.set_cons_zero, List.set_cons_succ]
                refine held_take 11 (some 79) rfl rfl (by kernel_rfl) (by kernel_rfl) (by kernel_rfl) (fun _ _ _ h => h) rfl hW (v := ?_) (fun w' hS => by skip; go_simp; try with_reducible rfl) ?_
                simp only [Act.put, List.setIfInBounds_toArray, List.set_cons_zero, List.set_cons_succ]
                refine held_take 12 (some 80) rfl rfl (by kernel_rfl) (by kernel_rfl) (by kernel_rfl) (fun _ _ _ h => h) rfl hW (v := ?_) (fun w' hS => by skip; go_simp; try with_reducible rfl) ?_
                simp only [Act.put, List.setIfInBounds_toArray, List.set_cons_zero, List.set_cons_succ]
                refine held_take 13 (some 81) rfl rfl (by kernel_rfl) (by kernel_rfl) (by kernel_rfl) (fun _ _ _ h => h) rfl hW (v := .int .i64 z) (fun w' hS => by have ckk := hS.cellNew ckk; have cff := hS.cellNew cff; go_simp; try with_reducible rfl) ?_
                simp only [Act.put, List.setIfInBounds_toArray, List.set_cons_zero, List.set_cons_succ]
                refine held_take 14 (some 82) rfl rfl (by kernel_rfl) (by kernel_rfl) (by kernel_rfl) (fun _ _ _ h => h) rfl hW (v := .bool false) (fun w' hS => by skip; go_simp; try with_reducible rfl) ?_
                simp only [Act.put, List.setIfInBounds_toArray, List.set_cons_zero, List.set_cons_succ]
                refine held_take 15 (some 83) rfl rfl (by kernel_rfl) (by kernel_rfl) (by kernel_rfl) (fun _ _ _ h => h) rfl hW (v := ?_) (fun w' hS => by skip; go_simp; try with_reducible rfl) ?_
                simp only [Act.put, List.setIfInBounds_toArray, List.set_cons_zero, List.set_cons_succ]
                refine wpAnyH_done (by kernel_rfl) ?_ _
                go_wp2_with fail
                go_roundw
                case rel => exact ⟨k + 1, by go_num, by omega, HN.out.trans hW, HNN.out.trans hW⟩
                case measure => simp [intOf]; omega
              · have hge : decide (z ≥ 0) = false := by simp; omega
                clear hz cff
                go_upto_region 13 with fail
                refine wp_region_held_drew (S := fun w' => New wy w') (by kernel_rfl) (New.drew _) (fun hW => ?_)
                refine held_take 0 (some 68) rfl rfl (by kernel_rfl) (by kernel_rfl) (by kernel_rfl) (fun _ _ _ h => h) rfl hW (v := ?_) (fun w' hS => by skip; go_simp; try with_reducible rfl) ?_
                simp only [Act.put, List.setIfInBounds_toArray, List.set_cons_zero, List.set_cons_succ]
                refine held_take 1 (some 69) rfl rfl (by kernel_rfl) (by kernel_rfl) (by kernel_rfl) (fun _ _ _ h => h) rfl hW (v := ?_) (fun w' hS => by skip; go_simp; try with_reducible rfl) ?_
                simp only [Act.put, List.setIfInBounds_toArray, List.set_cons_zero, List.set_cons_succ]
                refine held_take 2 (some 70) rfl rfl (by kernel_rfl) (by kernel_rfl) (by kernel_rfl) (fun _ _ _ h => h) rfl hW (v := ?_) (fun w' hS => by skip; go_simp; try with_reducible rfl) ?_
                simp only [Act.put, List.setIfInBounds_toArray, List.set_cons_zero, List.set_cons_succ]
                refine held_take 3 (some 71) rfl rfl (by kernel_rfl) (by kernel_rfl) (by kernel_rfl) (fun _ _ _ h => h) rfl hW (v := .int .i64 z) (fun w' hS => by have ckk := hS.cellNew ckk; go_simp; try with_reducible rfl) ?_
                simp only [Act.put, List.setIfInBounds_toArray, List.set_cons_zero, List.set_cons_succ]
                refine held_take 4 (some 72) rfl rfl (by kernel_rfl) (by kernel_rfl) (by kernel_rfl) (fun _ _ _ h => h) rfl hW (v := .bool false) (fun w' hS => by skip; go_simp; try with_reducible rfl) ?_
                simp only [Act.put, List.setIfInBounds_toArray, List.set_cons_zero, List.set_cons_succ]
                refine held_take 5 (some 73) rfl rfl (by kernel_rfl) (by kernel_rfl) (by kernel_rfl) (fun _ _ _ h => h) rfl hW (v := ?_) (fun w' hS => by skip; go_simp; try with_reducible rfl) ?_
                simp only [Act.put, List.setIfInBounds_toArray, List.set_cons_zero, List.set_cons_succ]
                refine held_skip 6 (some 74) rfl rfl (by kernel_rfl) (by kernel_rfl) (by kernel_rfl) (fun _ _ _ h => h) rfl hW ?_
                simp only [Act.put, List.setIfInBounds_toArray, List.set_cons_zero, List.set_cons_succ]
                refine held_skip 7 (some 75) rfl rfl (by kernel_rfl) (by kernel_rfl) (by kernel_rfl) (fun _ _ _ h => h) rfl hW ?_
                simp only [Act.put, List.setIfInBounds_toArray, List.set_cons_zero, List.set_cons_succ]
                refine held_skip 8 (some 76) rfl rfl (by kernel_rfl) (by kernel_rfl) (by kernel_rfl) (fun _ _ _ h => h) rfl hW ?_
                simp only [Act.put, List.setIfInBounds_toArray, List.set_cons_zero, List.set_cons_succ]
                refine held_skip 9 (some 77) rfl rfl (by kernel_rfl) (by kernel_rfl) (by kernel_rfl) (fun _ _ _ h => h) rfl hW ?_
                simp only [Act.put, List.setIfInBounds_toArray, List.set_cons_zero, List.set_cons_succ]
                refine held_skip 10 (some 78) rfl rfl (by kernel_rfl) (by kernel_rfl) (by kernel_rfl) (fun _ _ _ h => h) rfl hW ?_
                simp only [Act.put, List.setIfInBounds_toArray, List.set_cons_zero, List.set_cons_succ]
                refine held_skip 11 (some 79) rfl rfl (by kernel_rfl) (by kernel_rfl) (by kernel_rfl) (fun _ _ _ h => h) rfl hW ?_
                simp only [Act.put, List.setIfInBounds_toArray, List.set_cons_zero, List.set_cons_succ]
                refine held_skip 12 (some 80) rfl rfl (by kernel_rfl) (by kernel_rfl) (by kernel_rfl) (fun _ _ _ h => h) rfl hW ?_
                simp only [Act.put, List.setIfInBounds_toArray, List.set_cons_zero, List.set_cons_succ]
                refine held_skip 13 (some 81) rfl rfl (by kernel_rfl) (by kernel_rfl) (by kernel_rfl) (fun _ _ _ h => h) rfl hW ?_
                simp only [Act.put, List.setIfInBounds_toArray, List.set_cons_zero, List.set_cons_succ]
                refine held_skip 14 (some 82) rfl rfl (by kernel_rfl) (by kernel_rfl) (by kernel_rfl) (fun _ _ _ h => h) rfl hW ?_
                simp only [Act.put, List.setIfInBounds_toArray, List.set_cons_zero, List.set_cons_succ]
                refine held_take 15 (some 83) rfl rfl (by kernel_rfl) (by kernel_rfl) (by kernel_rfl) (fun _ _ _ h => h) rfl hW (v := ?_) (fun w' hS => by skip; go_simp; try with_reducible rfl) ?_
                simp only [Act.put, List.setIfInBounds_toArray, List.set_cons_zero, List.set_cons_succ]
                refine wpAnyH_done (by kernel_rfl) ?_ _
                go_wp2_with fail
                go_roundw
                case rel => exact ⟨k + 1, by go_num, by omega, HN.out.trans hW, HNN.out.trans hW⟩
                case measure => simp [intOf]; omega
          · obtain rfl : lm = k := by omega
            go_upto_region 15 with fail
            refine wp_region_held_drew (S := fun w' => New wy w') (by kernel_rfl) (New.drew _) (fun hY => ?_)
            refine held_take 0 (some 84) rfl rfl (by kernel_rfl) (by kernel_rfl) (by kernel_rfl) (fun _ _ _ h => h) rfl hY (v := ?_) (fun w' hS => by skip; go_simp; try with_reducible rfl) ?_
            simp only [Act.put, List.setIfInBounds_toArray, List.set_cons_zero, List.set_cons_succ]
            refine held_take 1 (some 85) rfl rfl (by kernel_rfl) (by kernel_rfl) (by kernel_rfl) (fun _ _ _ h => h) rfl hY (v := ?_) (fun w' hS => by skip; go_simp; try with_reducible rfl) ?_
            simp only [Act.put, List.setIfInBounds_toArray, List.set_cons_zero, List.set_cons_succ]
            refine held_take 2 (some 86) rfl rfl (by kernel_rfl) (by kernel_rfl) (by kernel_rfl) (fun _ _ _ h => h) rfl hY (v := ?_) (fun w' hS => by skip; go_simp; try with_reducible rfl) ?_
            simp only [Act.put, List.setIfInBounds_toArray, List.set_cons_zero, List.set_cons_succ]
            refine held_take 3 (some 87) rfl rfl (by kernel_rfl) (by kernel_rfl) (by kernel_rfl) (fun _ _ _ h => h) rfl hY (v := ?_) (fun w' hS => by skip; go_simp; try with_reducible rfl) ?_
            simp only [Act.put, List.setIfInBounds_toArray, List.set_cons_zero, List.set_cons_succ]
            refine held_take 4 (some 88) rfl rfl (by kernel_rfl) (by kernel_rfl) (by kernel_rfl) (fun _ _ _ h => h) rfl hY (v := ?_) (fun w' hS => by skip; go_simp; try with_reducible rfl) ?_
            simp only [Act.put, List.setIfInBounds_toArray, List.set_cons_zero, List.set_cons_succ]
            refine held_take 5 (some 89) rfl rfl (by kernel_rfl) (by kernel_rfl) (by kernel_rfl) (fun _ _ _ h => h) rfl hY (v := ?_) (fun w' hS => by skip; go_simp; try with_reducible rfl) ?_
            simp only [Act.put, List.setIfInBounds_toArray, List.set_cons_zero, List.set_cons_succ]
            refine held_take 6 (some 90) rfl rfl (by kernel_rfl) (by kernel_rfl) (by kernel_rfl) (fun _ _ _ h => h) rfl hY (v := ?_) (fun w' hS => by skip; go_simp; try with_reducible rfl) ?_
            simp only [Act.put, List.setIfInBounds_toArray, List.set_cons_zero, List.set_cons_succ]
            refine held_take 7 (some 91) rfl rfl (by kernel_rfl) (by kernel_rfl) (by kernel_rfl) (fun _ _ _ h => h) rfl hY (v := ?_) (fun w' hS => by skip; go_simp; try with_reducible rfl) ?_
            simp only [Act.put, List.setIfInBounds_toArray, List.set_cons_zero, List.set_cons_succ]
            refine held_take 8 (some 92) rfl rfl (by kernel_rfl) (by kernel_rfl) (by kernel_rfl) (fun _ _ _ h => h) rfl hY (v := ?_) (fun w' hS => by skip; go_simp; try with_reducible rfl) ?_
            simp only [Act.put, List.setIfInBounds_toArray, List.set_cons_zero, List.set_cons_succ]
            refine held_take 9 (some 93) rfl rfl (by kernel_rfl) (by kernel_rfl) (by kernel_rfl) (fun _ _ _ h => h) rfl hY (v := .agg #[.int .i64 q, .slice a l c]) (fun w' hS => by obtain ⟨q0, q1, _, _⟩ := (H2.out.2.2.1.new (HN.out.trans hS)).cells; go_simp; try with_reducible rfl) ?_
            simp only [Act.put, List.setIfInBounds_toArray, List.set_cons_zero, List.set_cons_succ]
            refine held_take 10 (some 94) rfl rfl (by kernel_rfl) (by kernel_rfl) (by kernel_rfl) (fun _ _ _ h => h) rfl hY (v := ?_) (fun w' hS => by skip; go_simp; try with_reducible rfl) ?_
            simp only [Act.put, List.setIfInBounds_toArray, List.set_cons_zero, List.set_cons_succ]
            refine held_only 11 (by kernel_rfl) rfl rfl (fun K1 hK1 => ?_)
            go_simp
            refine (lostOf_any _ kn _ ((H2.out.2.2.2.new HN.out).new (New.drew _)) (by rw [← HLM.out]; exact hlm7)).mono ?_
            rintro e w' ⟨rfl, rfl⟩
            have hnl := Chg.refl (fun _ => False) wy.drew
            refine hK1.out _ _ (hY.trans hnl) (fun hY1 => ?_)
            clear hK1 K1
            refine held_only 12 (by kernel_rfl) rfl rfl (fun K2 hK2 => ?_)
            go_simp
            refine (implIsMendable_any q _ _ rows _ (H2.out.1.new (HN.out.trans hY1))).mono ?_
            rintro e w9 ⟨y, rfl, hy, hn9⟩
            obtain rfl : y = true := by rw [Bool.eq_iff_iff, hy]; first | exact HMEND.out | simpa using HMEND.out
            clear hy
            refine hK2.out _ _ (hY1.trans hn9) (fun hY2 => ?_)
            clear hK2 K2
            refine held_take 13 (some 97) rfl rfl (by kernel_rfl) (by kernel_rfl) (by kernel_rfl) (fun _ _ _ h => h) rfl hY2 (v := ?_) (fun w' hS => by skip; go_simp; try with_reducible rfl) ?_
            simp only [Act.put, List.setIfInBounds_toArray, List.set_cons_zero, List.set_cons_succ]
            refine held_take 14 (some 98) rfl rfl (by kernel_rfl) (by kernel_rfl) (by kernel_rfl) (fun _ _ _ h => h) rfl hY2 (v := ?_) (fun w' hS => by skip; go_simp; try with_reducible rfl) ?_
            simp only [Act.put, List.setIfInBounds_toArray, List.set_cons_zero, List.set_cons_succ]
            refine held_take 15 (some 99) rfl rfl (by kernel_rfl) (by kernel_rfl) (by kernel_rfl) (fun _ _ _ h => h) rfl hY2 (v := ?_) (fun w' hS => by skip; go_simp; try with_reducible rfl) ?_
            simp only [Act.put, List.setIfInBounds_toArray, List.set_cons_zero, List.set_cons_succ]
            refine held_take 16 (some 2) rfl rfl (by kernel_rfl) (by kernel_rfl) (by kernel_rfl) (fun _ _ _ h => h) rfl hY2 (v := ?_) (fun w' hS => by skip; go_simp; try with_reducible rfl) ?_
            simp only [Act.put, List.setIfInBounds_toArray, List.set_cons_zero, List.set_cons_succ]
            refine wpAnyH_done (by kernel_rfl) ?_ _
            go_wp2_with fail
            go_ret
            exact ⟨rfl, H2.out.2.1.trans (HN.out.trans hY2)⟩
      · obtain ⟨rfl, -⟩ := H3.out.1.2 (fun h => hc1 (by rw [HV.out.2.2]; exact h.2))
        go_wp2_with fail
        go_loopw [11] (fun t11 wr => t11 = .int .i64 0 ∧ Hid (New w2 wr)) (fun _ _ => 0)
        case atStart => exact ⟨rfl, H7.out.2.2⟩
        case round =>
          obtain ⟨rfl, HN⟩ := hrel
          obtain ⟨wy, hwy⟩ : ∃ wy : World, wy = wr := ⟨_, rfl⟩
          rw [← hwy] at HN
          rw [← hwy]
          clear hwy
          by_cases hc0 : cnt = 0
          · subst hc0
            have hlm0 : 0 < lm := by rw [HLM.out, HV.out.1.2.1]; exact HV.out.2.1.tab.n1
            go_upto_region 15 with fail
            refine wp_region_held_drew (S := fun w' => New wy w') (by kernel_rfl) (New.drew _) (fun hY => ?_)
            refine held_take 0 (some 84) rfl rfl (by kernel_rfl) (by kernel_rfl) (by kernel_rfl) (fun _ _ _ h => h) rfl hY (v := ?_) (fun w' hS => by skip; go_simp; try with_reducible rfl) ?_
            simp only [Act.put, List.setIfInBounds_toArray, List.set_cons_zero, List.set_cons_succ]
            refine held_take 1 (some 85) rfl rfl (by kernel_rfl) (by kernel_rfl) (by kernel_rfl) (fun _ _ _ h => h) rfl hY (v := ?_) (fun w' hS => by skip; go_simp; try with_reducible rfl) ?_
            simp only [Act.put, List.setIfInBounds_toArray, List.set_cons_zero, List.set_cons_succ]
            refine held_take 2 (some 86) rfl rfl (by kernel_rfl) (by kernel_rfl) (by kernel_rfl) (fun _ _ _ h => h) rfl hY (v := ?_) (fun w' hS => by skip; go_simp; try with_reducible rfl) ?_
            simp only [Act.put, List.setIfInBounds_toArray, List.set_cons_zero, List.set_cons_succ]
            refine held_take 3 (some 87) rfl rfl (by kernel_rfl) (by kernel_rfl) (by kernel_rfl) (fun _ _ _ h => h) rfl hY (v := ?_) (fun w' hS => by skip; go_simp; try with_reducible rfl) ?_
            simp only [Act.put, List.setIfInBounds_toArray, List.set_cons_zero, List.set_cons_succ]
            refine held_take 4 (some 88) rfl rfl (by kernel_rfl) (by kernel_rfl) (by kernel_rfl) (fun _ _ _ h => h) rfl hY (v := ?_) (fun w' hS => by skip; go_simp; try with_reducible rfl) ?_
            simp only [Act.put, List.setIfInBounds_toArray, List.set_cons_zero, List.set_cons_succ]
            refine held_take 5 (some 89) rfl rfl (by kernel_rfl) (by kernel_rfl) (by kernel_rfl) (fun _ _ _ h => h) rfl hY (v := ?_) (fun w' hS => by skip; go_simp; try with_reducible rfl) ?_
            simp only [Act.put, List.setIfInBounds_toArray, List.set_cons_zero, List.set_cons_succ]
            refine held_take 6 (some 90) rfl rfl (by kernel_rfl) (by kernel_rfl) (by kernel_rfl) (fun _ _ _ h => h) rfl hY (v := ?_) (fun w' hS => by skip; go_simp; try with_reducible rfl) ?_
            simp only [Act.put, List.setIfInBounds_toArray, List.set_cons_zero, List.set_cons_succ]
            refine held_take 7 (some 91) rfl rfl (by kernel_rfl) (by kernel_rfl) (by kernel_rfl) (fun _ _ _ h => h) rfl hY (v := ?_) (fun w' hS => by skip; go_simp; try with_reducible rfl) ?_
            simp only [Act.put, List.setIfInBounds_toArray, List.set_cons_zero, List.set_cons_succ]
            refine held_skip 8 (some 92) rfl rfl (by kernel_rfl) (by kernel_rfl) (by kernel_rfl) (fun _ _ _ h => h) rfl hY ?_
            simp only [Act.put, List.setIfInBounds_toArray, List.set_cons_zero, List.set_cons_succ]
            refine held_skip 9 (some 93) rfl rfl (by kernel_rfl) (by kernel_rfl) (by kernel_rfl) (fun _ _ _ h => h) rfl hY ?_
            simp only [Act.put, List.setIfInBounds_toArray, List.set_cons_zero, List.set_cons_succ]
            refine held_skip 10 (some 94) rfl rfl (by kernel_rfl) (by kernel_rfl) (by kernel_rfl) (fun _ _ _ h => h) rfl hY ?_
            simp only [Act.put, List.setIfInBounds_toArray, List.set_cons_zero, List.set_cons_succ]
            refine held_skip 11 (some 95) rfl rfl (by kernel_rfl) (by kernel_rfl) (by kernel_rfl) (fun _ _ _ h => h) rfl hY ?_
            simp only [Act.put, List.setIfInBounds_toArray, List.set_cons_zero, List.set_cons_succ]
            refine held_skip 12 (some 96) rfl rfl (by kernel_rfl) (by kernel_rfl) (by kernel_rfl) (fun _ _ _ h => h) rfl hY ?_
            simp only [Act.put, List.setIfInBounds_toArray, List.set_cons_zero, List.set_cons_succ]
            refine held_skip 13 (some 97) rfl rfl (by kernel_rfl) (by kernel_rfl) (by kernel_rfl) (fun _ _ _ h => h) rfl hY ?_
            simp only [Act.put, List.setIfInBounds_toArray, List.set_cons_zero, List.set_cons_succ]
            refine held_take 14 (some 98) rfl rfl (by kernel_rfl) (by kernel_rfl) (by kernel_rfl) (fun _ _ _ h => h) rfl hY (v := ?_) (fun w' hS => by skip; go_simp; try with_reducible rfl) ?_
            simp only [Act.put, List.setIfInBounds_toArray, List.set_cons_zero, List.set_cons_succ]
            refine held_take 15 (some 99) rfl rfl (by kernel_rfl) (by kernel_rfl) (by kernel_rfl) (fun _ _ _ h => h) rfl hY (v := ?_) (fun w' hS => by skip; go_simp; try with_reducible rfl) ?_
            simp only [Act.put, List.setIfInBounds_toArray, List.set_cons_zero, List.set_cons_succ]
            refine held_take 16 (some 2) rfl rfl (by kernel_rfl) (by kernel_rfl) (by kernel_rfl) (fun _ _ _ h => h) rfl hY (v := ?_) (fun w' hS => by skip; go_simp; try with_reducible rfl) ?_
            simp only [Act.put, List.setIfInBounds_toArray, List.set_cons_zero, List.set_cons_succ]
            refine wpAnyH_done (by kernel_rfl) ?_ _
            go_wp2_with fail
            go_ret
            exact ⟨rfl, H2.out.2.1.trans (HN.out.trans hY)⟩
          · have hd0 : ((cnt : Int) == 0) = false := by simp; omega
            have hd1 : ((cnt : Int) == 1) = false := by simp; omega
            have hlm0 : 0 < lm := by rw [HLM.out, HV.out.1.2.1]; exact HV.out.2.1.tab.n1
            have HMEND := Lib.hid (show IsMendC q rows ((lostN kn kn.length : Nat) : Int) ↔ false = true from ⟨fun h => absurd ((HME.out hc0).2 h) hc1, fun h => by cases h⟩)
            clear hc0 hc1
            go_upto_region 15 with fail
            refine wp_region_held_drew (S := fun w' => New wy w') (by kernel_rfl) (New.drew _) (fun hY => ?_)
            refine held_take 0 (some 84) rfl rfl (by kernel_rfl) (by kernel_rfl) (by kernel_rfl) (fun _ _ _ h => h) rfl hY (v := ?_) (fun w' hS => by skip; go_simp; try with_reducible rfl) ?_
            simp only [Act.put, List.setIfInBounds_toArray, List.set_cons_zero, List.set_cons_succ]
            refine held_take 1 (some 85) rfl rfl (by kernel_rfl) (by kernel_rfl) (by kernel_rfl) (fun _ _ _ h => h) rfl hY (v := ?_) (fun w' hS => by skip; go_simp; try with_reducible rfl) ?_
            simp only [Act.put, List.setIfInBounds_toArray, List.set_cons_zero, List.set_cons_succ]
            refine held_take 2 (some 86) rfl rfl (by kernel_rfl) (by kernel_rfl) (by kernel_rfl) (fun _ _ _ h => h) rfl hY (v := ?_) (fun w' hS => by skip; go_simp; try with_reducible rfl) ?_
            simp only [Act.put, List.setIfInBounds_toArray, List.set_cons_zero, List.set_cons_succ]
            refine held_take 3 (some 87) rfl rfl (by kernel_rfl) (by kernel_rfl) (by kernel_rfl) (fun _ _ _ h => h) rfl hY (v := ?_) (fun w' hS => by skip; go_simp; try with_reducible rfl) ?_
            simp only [Act.put, List.setIfInBounds_toArray, List.set_cons_zero, List.set_cons_succ]
            refine held_take 4 (some 88) rfl rfl (by kernel_rfl) (by kernel_rfl) (by kernel_rfl) (fun _ _ _ h => h) rfl hY (v := ?_) (fun w' hS => by skip; go_simp; try with_reducible rfl) ?_
            simp only [Act.put, List.setIfInBounds_toArray, List.set_cons_zero, List.set_cons_succ]
            refine held_take 5 (some 89) rfl rfl (by kernel_rfl) (by kernel_rfl) (by kernel_rfl) (fun _ _ _ h => h) rfl hY (v := ?_) (fun w' hS => by skip; go_simp; try with_reducible rfl) ?_
            simp only [Act.put, List.setIfInBounds_toArray, List.set_cons_zero, List.set_cons_succ]
            refine held_take 6 (some 90) rfl rfl (by kernel_rfl) (by kernel_rfl) (by kernel_rfl) (fun _ _ _ h => h) rfl hY (v := ?_) (fun w' hS => by skip; go_simp; try with_reducible rfl) ?_
            simp only [Act.put, List.setIfInBounds_toArray, List.set_cons_zero, List.set_cons_succ]
            refine held_take 7 (some 91) rfl rfl (by kernel_rfl) (by kernel_rfl) (by kernel_rfl) (fun _ _ _ h => h) rfl hY (v := ?_) (fun w' hS => by skip; go_simp; try with_reducible rfl) ?_
            simp only [Act.put, List.setIfInBounds_toArray, List.set_cons_zero, List.set_cons_succ]
            refine held_take 8 (some 92) rfl rfl (by kernel_rfl) (by kernel_rfl) (by kernel_rfl) (fun _ _ _ h => h) rfl hY (v := ?_) (fun w' hS => by skip; go_simp; try with_reducible rfl) ?_
            simp only [Act.put, List.setIfInBounds_toArray, List.set_cons_zero, List.set_cons_succ]
            refine held_take 9 (some 93) rfl rfl (by kernel_rfl) (by kernel_rfl) (by kernel_rfl) (fun _ _ _ h => h) rfl hY (v := .agg #[.int .i64 q, .slice a l c]) (fun w' hS => by obtain ⟨q0, q1, _, _⟩ := (H2.out.2.2.1.new (HN.out.trans hS)).cells; go_simp; try with_reducible rfl) ?_
            simp only [Act.put, List.setIfInBounds_toArray, List.set_cons_zero, List.set_cons_succ]
            refine held_take 10 (some 94) rfl rfl (by kernel_rfl) (by kernel_rfl) (by kernel_rfl) (fun _ _ _ h => h) rfl hY (v := ?_) (fun w' hS => by skip; go_simp; try with_reducible rfl) ?_
            simp only [Act.put, List.setIfInBounds_toArray, List.set_cons_zero, List.set_cons_succ]
            refine held_only 11 (by kernel_rfl) rfl rfl (fun K1 hK1 => ?_)
            go_simp
            refine (lostOf_any _ kn _ ((H2.out.2.2.2.new HN.out).new (New.drew _)) (by rw [← HLM.out]; exact hlm7)).mono ?_
            rintro e w' ⟨rfl, rfl⟩
            have hnl := Chg.refl (fun _ => False) wy.drew
            refine hK1.out _ _ (hY.trans hnl) (fun hY1 => ?_)
            clear hK1 K1
            refine held_only 12 (by kernel_rfl) rfl rfl (fun K2 hK2 => ?_)
            go_simp
            refine (implIsMendable_any q _ _ rows _ (H2.out.1.new (HN.out.trans hY1))).mono ?_
            rintro e w9 ⟨y, rfl, hy, hn9⟩
            obtain rfl : y = false := by rw [Bool.eq_iff_iff, hy]; first | exact HMEND.out | simpa using HMEND.out
            clear hy
            refine hK2.out _ _ (hY1.trans hn9) (fun hY2 => ?_)
            clear hK2 K2
            refine held_take 13 (some 97) rfl rfl (by kernel_rfl) (by kernel_rfl) (by kernel_rfl) (fun _ _ _ h => h) rfl hY2 (v := ?_) (fun w' hS => by skip; go_simp; try with_reducible rfl) ?_
            simp only [Act.put, List.setIfInBounds_toArray, List.set_cons_zero, List.set_cons_succ]
            refine held_take 14 (some 98) rfl rfl (by kernel_rfl) (by kernel_rfl) (by kernel_rfl) (fun _ _ _ h => h) rfl hY2 (v := ?_) (fun w' hS => by skip; go_simp; try with_reducible rfl) ?_
            simp only [Act.put, List.setIfInBounds_toArray, List.set_cons_zero, List.set_cons_succ]
            refine held_take 15 (some 99) rfl rfl (by kernel_rfl) (by kernel_rfl) (by kernel_rfl) (fun _ _ _ h => h) rfl hY2 (v := ?_) (fun w' hS => by skip; go_simp; try with_reducible rfl) ?_
            simp only [Act.put, List.setIfInBounds_toArray, List.set_cons_zero, List.set_cons_succ]
            refine held_take 16 (some 2) rfl rfl (by kernel_rfl) (by kernel_rfl) (by kernel_rfl) (fun _ _ _ h => h) rfl hY2 (v := ?_) (fun w' hS => by skip; go_simp; try with_reducible rfl) ?_
            simp only [Act.put, List.setIfInBounds_toArray, List.set_cons_zero, List.set_cons_succ]
            refine wpAnyH_done (by kernel_rfl) ?_ _
            go_wp2_with fail
            go_ret
            exact ⟨rfl, H2.out.2.1.trans (HN.out.trans hY2)⟩
    · obtain ⟨rfl, -⟩ := H3.out.1.2 (fun h => hv h.1)
      obtain rfl : t = -1 := H5.out.1.2 hv
      clear hv
      go_wp2_with fail
      refine (equalInts_any _ _ out out _ (H5.out.2.2.1.new H6.out) (H5.out.2.2.2.new H6.out)).mono ?_
      rintro e w7 ⟨rfl, m7, rfl⟩
      rw [eqL_self]
      go_wp2_with fail
      go_ret
      exact ⟨rfl, H2.out.2.1.trans (H5.out.2.1.trans (H6.out.trans (New.drewN _ _)))⟩
end Go.Proofs.Ytgpmkbenjlhfhaa
