/- The walk of FnPlainOf. -/
import Derived.Test.YtgpmkbenjlhfhaaLawF
import Derived.Test.YtgpmkbenjlhfhaaCodE
import Derived.Test.YtgpmkbenjlhfhaaDrawK
import Derived.Test.YtgpmkbenjlhfhaaPlainOf
import Derived.Test.YtgpmkbenjlhfhaaIsPlain
import Derived.Test.YtgpmkbenjlhfhaaSolveRows
namespace Go.Proofs.Ytgpmkbenjlhfhaa
open Go.RowKit Mat
set_option linter.unusedVariables false

/-- Plain rows are reduced. -/
theorem plain_red {q : Nat} [NeZero q] {rows out : List (List Int)} (hv : ValidC q rows) (h : ∀ i k, i < rows.length → k < rows.length → gi (gr rows i) k = if i = k then 1 else 0) (hr : IsRed q (gr rows 0).length rows out) : out = rows := by
  have hq : Pr q := (vtB_ok hv.1).pr
  have hg := vtB_good hv.1
  have hf := hv.few
  have hl : ∀ i, i < rows.length → leadZ (gr rows i) = i := fun i hi => lead_is (p := q) (hg i hi) (by omega) (by
      show phi q (gi (gr rows i) i) ≠ 0
      rw [h i i hi hi, if_pos rfl, phi_one]
      exact one_ne_zero hq.pos.1) (fun k hk => by
      show phi q (gi (gr rows i) k) = 0
      rw [h i k hi (by omega), if_neg (by omega), phi_zero])
  have hld : ∀ i, i < rows.length → ldN (gr rows i) = i := fun i hi => by unfold ldN; rw [hl i hi]; rfl
  refine IsRed.unique hq hr (⟨⟨hg, fun i hi => by rw [hl i hi]; omega, ⟨fun i j hi hj => ?_, fun i k hi hk => ?_⟩, fun v => Iff.rfl⟩, fun i j hij hj => by rw [hld i (by omega), hld j hj]; exact hij⟩)
  · show phi q (gi (gr rows i) (ldN (gr rows j))) = _
    rw [hld j hj, h i j hi hj]
    split
    · exact phi_one
    · exact phi_zero
  · show phi q (gi (gr rows i) k) = 0
    rw [hld i hi] at hk
    rw [h i k hi (by omega), if_neg (by omega), phi_zero]

/-- Reduced rows of a code are a code. -/
theorem ValidC.plain {q : Nat} [NeZero q] {rows out : List (List Int)} (hv : ValidC q rows) (hr : IsRed q (gr rows 0).length rows out) : ValidC q out ∧ RedOf q out out ∧ out.length = rows.length := by
  have hq : Pr q := (vtB_ok hv.1).pr
  obtain ⟨_, h4, o, ho, hl⟩ := id hv
  obtain rfl : o = out := ho.unique ⟨q, _, rfl, hq, hr⟩
  have hto := (vtB_ok hv.1).of_red hr (by rw [hl]; exact hv.few.1)
  have h2 : RedOf q o o := ⟨q, _, rfl, hq, by rw [hto.cols]; exact hr.self⟩
  exact ⟨⟨hto.vtB, by omega, o, h2, rfl⟩, h2, hl⟩

set_option maxRecDepth 100000 in
set_option maxHeartbeats 8000000 in
theorem lawPlainOf_any (v : Value) (n : Nat) (w : World) (hb : RawB w v n) :
    Calls Try.prog 4 #[v] w fun e w' => e = .returned (.bool true) ∧ New w w' := by
  obtain ⟨ao, cap, rfl, hcap, hmx, -⟩ := id hb
  unfold maxLen at hmx
  have HB := Lib.hid hb
  clear hb
  by_cases hbig : 1048576 < n
  · go_enter Try.func4, Try.ntmps4
    go_wp2_with fail
    go_ret
    exact ⟨rfl, Chg.refl _ _⟩
  · go_enter Try.func4, Try.ntmps4
    go_wp2_with fail
    refine (drawPlainOf_any _ _ _ HB.out).mono ?_
    rintro e w1 ⟨a, l, c, rows, p, rfl, hr, hk, hp, hn1⟩
    obtain rfl : l = rows.length := hr.len
    go_upto_region 4 with fail
    have b2 := Blk2.alloc w1 (.int .i64 p) (.slice a rows.length c) 25
    have n2 := New.alloc w1 (.cells #[.int .i64 p, .slice a rows.length c] 25)
    obtain ⟨w2, hw2⟩ : ∃ w2, w2 = w1.alloc (.cells #[.int .i64 p, .slice a rows.length c] 25) := ⟨_, rfl⟩
    rw [← hw2] at b2 n2
    rw [← hw2]
    clear hw2
    obtain ⟨l, hll⟩ : ∃ l, l = rows.length := ⟨_, rfl⟩
    rw [← hll] at b2 hr ⊢
    have H2 := Lib.hid (And.intro (hr.new n2) (And.intro (hn1.trans n2) b2))
    have HLL := Lib.hid hll
    have HK := Lib.hid hk
    obtain ⟨q0, q1, _, _⟩ := b2.cells
    clear hr hn1 b2 n2 hll hk
    go_wp2_with fail
    refine (implPlainOf_any p _ rows _ H2.out.1).mono ?_
    rintro e w3 ⟨u3, vs3, out, p', rfl, ho3, hf3, hq3, hn3⟩
    have hsm := hq3.small
    have hi3 := ho3.isR (by unfold Mid; omega) (fun i hi => by have := hsm.2 i hi; unfold Mid; omega)
    obtain ⟨a3, l3, c3, rfl, HL3, hl3⟩ := hi3.shape
    go_upto_region 5 with fail
    have b4 := Blk2.alloc w3 (.int .i64 p') (.slice a3 l3 c3) 25
    have n4 := New.alloc w3 (.cells #[.int .i64 p', .slice a3 l3 c3] 25)
    obtain ⟨w4, hw4⟩ : ∃ w4, w4 = w3.alloc (.cells #[.int .i64 p', .slice a3 l3 c3] 25) := ⟨_, rfl⟩
    rw [← hw4] at b4 n4
    rw [← hw4]
    clear hw4
    have n24 := hn3.trans n4
    have H4 := Lib.hid (And.intro b4 (And.intro (H2.out.1.new n24) (And.intro (H2.out.2.2.new n24) (And.intro hq3 (And.intro (hi3.new n4) n24)))))
    clear ho3 hf3 hq3 hsm hi3 hn3 b4 n4 n24 q0 q1
    refine wp_region_held_drew (S := fun w' => New w4 w') (by kernel_rfl) (New.drew _) (fun hHeld => ?_)
    refine held_take 0 (some 15) rfl rfl (by kernel_rfl) (by kernel_rfl) (by kernel_rfl) (fun _ _ _ h => h) rfl hHeld (v := (.agg #[.int .i64 p', .slice a3 l3 c3])) (fun w' hS => by obtain ⟨q0, q1, _, _⟩ := (H4.out.2.2.1.new hS).cells; obtain ⟨d0, d1, _, _⟩ := (H4.out.1.new hS).cells; go_simp; try with_reducible rfl) ?_
    simp only [Act.put, List.setIfInBounds_toArray, List.set_cons_zero, List.set_cons_succ]
    refine held_take 1 (some 16) rfl rfl (by kernel_rfl) (by kernel_rfl) (by kernel_rfl) (fun _ _ _ h => h) rfl hHeld (v := .agg #[.int .i64 p, .slice a l c]) (fun w' hS => by obtain ⟨q0, q1, _, _⟩ := (H4.out.2.2.1.new hS).cells; obtain ⟨d0, d1, _, _⟩ := (H4.out.1.new hS).cells; go_simp; try with_reducible rfl) ?_
    simp only [Act.put, List.setIfInBounds_toArray, List.set_cons_zero, List.set_cons_succ]
    refine held_only 2 (by kernel_rfl) rfl rfl (fun K1 hK1 => ?_)
    go_simp
    refine (specPlainOf_any p _ rows _ (H4.out.2.1.new (New.drew _))).mono ?_
    rintro e w5 ⟨u5, vs5, out5, p5, rfl, ho5, hf5, hq5, hn5⟩
    obtain ⟨rfl, rfl⟩ := H4.out.2.2.2.1.unique hq5
    have hsm := hq5.small
    have hi5 := ho5.isR (by unfold Mid; omega) (fun i hi => by have := hsm.2 i hi; unfold Mid; omega)
    obtain ⟨a5, l5, c5, rfl, _, _⟩ := hi5.shape
    have H5 := Lib.hid (And.intro hi5 (hHeld.trans hn5))
    clear ho5 hf5 hq5 hsm hi5
    refine hK1.out _ _ (hHeld.trans hn5) (fun hHeld1 => ?_)
    clear hK1 K1
    refine held_only 3 (by kernel_rfl) rfl rfl (fun K2 hK2 => ?_)
    go_simp
    refine (equalCode_any _ _ _ _ out out _ (H4.out.2.2.2.2.1.new H5.out.2) H5.out.1).mono ?_
    rintro e w6 ⟨rfl, hn6⟩
    rw [eqLL_self, decide_eq_true rfl, Bool.true_and]
    have H6 := Lib.hid (H5.out.2.trans hn6)
    refine hK2.out _ _ (hHeld1.trans hn6) (fun hHeld2 => ?_)
    clear hK2 K2
    refine held_take 4 (some 19) rfl rfl (by kernel_rfl) (by kernel_rfl) (by kernel_rfl) (fun _ _ _ h => h) rfl hHeld2 (v := ?_) (fun w' hS => by skip; go_simp; try with_reducible rfl) ?_
    simp only [Act.put, List.setIfInBounds_toArray, List.set_cons_zero, List.set_cons_succ]
    refine held_take 5 (some 20) rfl rfl (by kernel_rfl) (by kernel_rfl) (by kernel_rfl) (fun _ _ _ h => h) rfl hHeld2 (v := ?_) (fun w' hS => by skip; go_simp; try with_reducible rfl) ?_
    simp only [Act.put, List.setIfInBounds_toArray, List.set_cons_zero, List.set_cons_succ]
    refine held_take 6 (some 21) rfl rfl (by kernel_rfl) (by kernel_rfl) (by kernel_rfl) (fun _ _ _ h => h) rfl hHeld2 (v := .agg #[.int .i64 p, .slice a l c]) (fun w' hS => by obtain ⟨q0, q1, _, _⟩ := (H4.out.2.2.1.new hS).cells; obtain ⟨d0, d1, _, _⟩ := (H4.out.1.new hS).cells; go_simp; try with_reducible rfl) ?_
    simp only [Act.put, List.setIfInBounds_toArray, List.set_cons_zero, List.set_cons_succ]
    refine held_only 7 (by kernel_rfl) rfl rfl (fun K3 hK3 => ?_)
    go_simp
    refine (implValidCode_any p _ rows _ (H4.out.2.1.new H6.out)).mono ?_
    rintro e w7 ⟨⟨z, rfl, hz⟩, hn7⟩
    have H7 := Lib.hid (And.intro hz (H6.out.trans hn7))
    clear hz
    refine hK3.out _ _ (hHeld2.trans hn7) (fun hHeld3 => ?_)
    clear hK3 K3
    refine held_take 8 (some 23) rfl rfl (by kernel_rfl) (by kernel_rfl) (by kernel_rfl) (fun _ _ _ h => h) rfl hHeld3 (v := ?_) (fun w' hS => by skip; go_simp; try with_reducible rfl) ?_
    simp only [Act.put, List.setIfInBounds_toArray, List.set_cons_zero, List.set_cons_succ]
    refine held_take 9 (some 24) rfl rfl (by kernel_rfl) (by kernel_rfl) (by kernel_rfl) (fun _ _ _ h => h) rfl hHeld3 (v := ?_) (fun w' hS => by skip; go_simp; try with_reducible rfl) ?_
    simp only [Act.put, List.setIfInBounds_toArray, List.set_cons_zero, List.set_cons_succ]
    refine wpAnyH_done (by kernel_rfl) ?_ _
    cases z with
    | false =>
      go_wp2_with fail
      refine wp_region_held_drew (S := fun w' => New w7 w') (by kernel_rfl) (New.drew _) (fun hHeld => ?_)
      refine held_take 0 (some 25) rfl rfl (by kernel_rfl) (by kernel_rfl) (by kernel_rfl) (fun _ _ _ h => h) rfl hHeld (v := (.agg #[.int .i64 p', .slice a3 l3 c3])) (fun w' hS => by obtain ⟨q0, q1, _, _⟩ := ((H4.out.2.2.1.new H7.out.2).new hS).cells; obtain ⟨d0, d1, _, _⟩ := ((H4.out.1.new H7.out.2).new hS).cells; go_simp; try with_reducible rfl) ?_
      simp only [Act.put, List.setIfInBounds_toArray, List.set_cons_zero, List.set_cons_succ]
      refine held_take 1 (some 26) rfl rfl (by kernel_rfl) (by kernel_rfl) (by kernel_rfl) (fun _ _ _ h => h) rfl hHeld (v := .agg #[.int .i64 p, .slice a l c]) (fun w' hS => by obtain ⟨q0, q1, _, _⟩ := ((H4.out.2.2.1.new H7.out.2).new hS).cells; obtain ⟨d0, d1, _, _⟩ := ((H4.out.1.new H7.out.2).new hS).cells; go_simp; try with_reducible rfl) ?_
      simp only [Act.put, List.setIfInBounds_toArray, List.set_cons_zero, List.set_cons_succ]
      refine held_only 2 (by kernel_rfl) rfl rfl (fun K1 hK1 => ?_)
      go_simp
      refine (specPlainOf_any p _ rows _ ((H4.out.2.1.new H7.out.2).new (New.drew _))).mono ?_
      rintro e w8 ⟨u5, vs5, out5, p5, rfl, ho5, hf5, hq5, hn8⟩
      obtain ⟨rfl, rfl⟩ := H4.out.2.2.2.1.unique hq5
      have hsm := hq5.small
      have hi5 := ho5.isR (by unfold Mid; omega) (fun i hi => by have := hsm.2 i hi; unfold Mid; omega)
      obtain ⟨a5, l5, c5, rfl, _, _⟩ := hi5.shape
      have H8 := Lib.hid (And.intro hi5 (hHeld.trans hn8))
      clear ho5 hf5 hq5 hsm hi5
      refine hK1.out _ _ (hHeld.trans hn8) (fun hHeld1 => ?_)
      clear hK1 K1
      refine held_only 3 (by kernel_rfl) rfl rfl (fun K2 hK2 => ?_)
      go_simp
      refine (equalCode_any _ _ _ _ out out _ ((H4.out.2.2.2.2.1.new H7.out.2).new H8.out.2) H8.out.1).mono ?_
      rintro e w9 ⟨rfl, hn9⟩
      rw [eqLL_self, decide_eq_true rfl, Bool.true_and]
      refine hK2.out _ _ (hHeld1.trans hn9) (fun hHeld2 => ?_)
      clear hK2 K2
      refine held_take 4 (some 2) rfl rfl (by kernel_rfl) (by kernel_rfl) (by kernel_rfl) (fun _ _ _ h => h) rfl hHeld2 (v := ?_) (fun w' hS => by skip; go_simp; try with_reducible rfl) ?_
      simp only [Act.put, List.setIfInBounds_toArray, List.set_cons_zero, List.set_cons_succ]
      refine wpAnyH_done (by kernel_rfl) ?_ _
      go_wp2_with fail
      go_ret
      exact ⟨rfl, H2.out.2.1.trans (H4.out.2.2.2.2.2.trans (H7.out.2.trans hHeld2))⟩
    | true =>
      have hv := H7.out.1.1 rfl
      obtain ⟨q, rfl, hq⟩ := prime_nat (vtB_pr hv.1)
      haveI := hq.nz
      obtain ⟨rfl, hred⟩ := H4.out.2.2.2.1.told.1 hv
      obtain ⟨q', i2, e', hq', hred⟩ := hred
      obtain rfl : q = q' := by omega
      have hto := vtB_ok hv.1
      have hpl := hv.plain hred
      have hgoal : ∀ i, i < out.length → GoalC q rows (gr out i) := fun i hi => hto.goal (hred.inv.good i hi)
      have HV := Lib.hid (And.intro hv (And.intro hred (And.intro hgoal (And.intro hpl.1 hpl.2.1))))
      have h37 : l3 ≤ 7 := by rw [HL3.out]; have := hpl.2.2; have := hv.2.1; omega
      clear hv hq hred hto hpl hgoal e' hq'
      go_wp2_with fail
      go_loopw [5] (fun t5 wr => ∃ i : Nat, t5 = .int .i64 i ∧ i ≤ l3 ∧ Hid (New w4 wr)) (fun t5 _ => l3 - (intOf t5).toNat)
      case atStart => exact ⟨0, rfl, Nat.zero_le _, H7.out.2⟩
      case round =>
        clear hHeld hHeld1 hHeld2 hHeld3 hn5 hn6 hn7
        obtain ⟨i, rfl, hi, HN⟩ := hrel
        obtain ⟨wy, hwy⟩ : ∃ wy : World, wy = wr := ⟨_, rfl⟩
        rw [← hwy] at HN
        rw [← hwy]
        clear hwy
        have HC := Lib.hid (And.intro (H4.out.2.2.1.new HN.out) (H4.out.1.new HN.out))
        by_cases hil : i < l3
        · obtain ⟨b3, o3, ur, rfl, ckr, hur⟩ := (H4.out.2.2.2.2.1.new HN.out).at hil
          obtain ⟨ar, lr, cr, rfl, _, _⟩ := hur.shape
          have HR := Lib.hid hur
          clear hur
          obtain ⟨d0, d1, _, _⟩ := HC.out.2.cells
          go_upto_region 10 with fail
          clear d0 d1
          refine wp_region_held_drew (S := fun w' => New wy w') (by kernel_rfl) (New.drew _) (fun hY => ?_)
          refine held_take 0 (some 37) rfl rfl (by kernel_rfl) (by kernel_rfl) (by kernel_rfl) (fun _ _ _ h => h) rfl hY (v := ?_) (fun w' hS => by skip; go_simp; try with_reducible rfl) ?_
          simp only [Act.put, List.setIfInBounds_toArray, List.set_cons_zero, List.set_cons_succ]
          refine held_take 1 (some 38) rfl rfl (by kernel_rfl) (by kernel_rfl) (by kernel_rfl) (fun _ _ _ h => h) rfl hY (v := .int .i64 q) (fun w' hS => by obtain ⟨q0, q1, _, _⟩ := (HC.out.1.new hS).cells; obtain ⟨d0, d1, _, _⟩ := (HC.out.2.new hS).cells; have cko := hS.cellNew ckr; go_simp; try with_reducible rfl) ?_
          simp only [Act.put, List.setIfInBounds_toArray, List.set_cons_zero, List.set_cons_succ]
          refine held_take 2 (some 39) rfl rfl (by kernel_rfl) (by kernel_rfl) (by kernel_rfl) (fun _ _ _ h => h) rfl hY (v := ?_) (fun w' hS => by skip; go_simp; try with_reducible rfl) ?_
          simp only [Act.put, List.setIfInBounds_toArray, List.set_cons_zero, List.set_cons_succ]
          refine held_take 3 (some 40) rfl rfl (by kernel_rfl) (by kernel_rfl) (by kernel_rfl) (fun _ _ _ h => h) rfl hY (v := .slice a l c) (fun w' hS => by obtain ⟨q0, q1, _, _⟩ := (HC.out.1.new hS).cells; obtain ⟨d0, d1, _, _⟩ := (HC.out.2.new hS).cells; have cko := hS.cellNew ckr; go_simp; try with_reducible rfl) ?_
          simp only [Act.put, List.setIfInBounds_toArray, List.set_cons_zero, List.set_cons_succ]
          refine held_take 4 (some 41) rfl rfl (by kernel_rfl) (by kernel_rfl) (by kernel_rfl) (fun _ _ _ h => h) rfl hY (v := ?_) (fun w' hS => by skip; go_simp; try with_reducible rfl) ?_
          simp only [Act.put, List.setIfInBounds_toArray, List.set_cons_zero, List.set_cons_succ]
          refine held_take 5 (some 42) rfl rfl (by kernel_rfl) (by kernel_rfl) (by kernel_rfl) (fun _ _ _ h => h) rfl hY (v := .slice (some ⟨b3, o3, none⟩) l3 c3) (fun w' hS => by obtain ⟨q0, q1, _, _⟩ := (HC.out.1.new hS).cells; obtain ⟨d0, d1, _, _⟩ := (HC.out.2.new hS).cells; have cko := hS.cellNew ckr; go_simp; try with_reducible rfl) ?_
          simp only [Act.put, List.setIfInBounds_toArray, List.set_cons_zero, List.set_cons_succ]
          refine held_take 6 (some 43) rfl rfl (by kernel_rfl) (by kernel_rfl) (by kernel_rfl) (fun _ _ _ h => h) rfl hY (v := ?_) (fun w' hS => by skip; go_simp; try with_reducible rfl) ?_
          simp only [Act.put, List.setIfInBounds_toArray, List.set_cons_zero, List.set_cons_succ]
          refine held_take 7 (some 44) rfl rfl (by kernel_rfl) (by kernel_rfl) (by kernel_rfl) (fun _ _ _ h => h) rfl hY (v := ?_) (fun w' hS => by skip; go_simp; try with_reducible rfl) ?_
          simp only [Act.put, List.setIfInBounds_toArray, List.set_cons_zero, List.set_cons_succ]
          refine held_take 8 (some 45) rfl rfl (by kernel_rfl) (by kernel_rfl) (by kernel_rfl) (fun _ _ _ h => h) rfl hY (v := .slice ar lr cr) (fun w' hS => by obtain ⟨q0, q1, _, _⟩ := (HC.out.1.new hS).cells; obtain ⟨d0, d1, _, _⟩ := (HC.out.2.new hS).cells; have cko := hS.cellNew ckr; go_simp; try with_reducible rfl) ?_
          simp only [Act.put, List.setIfInBounds_toArray, List.set_cons_zero, List.set_cons_succ]
          refine held_only 9 (by kernel_rfl) rfl rfl (fun K1 hK1 => ?_)
          go_simp
          refine (implSolveRows_any q _ _ rows (gr out i) _ ((H4.out.2.1.new HN.out).new (New.drew _)) (HR.out.new (New.drew _))).mono ?_
          rintro e w9 ⟨u9, x9, ok9, rfl, ho9, hf9, hq9, hn9⟩
          obtain rfl : ok9 = true := by
            have hgc : GoalC q rows (gr out i) := HV.out.2.2.1 i (by rw [← HL3.out]; exact hil)
            obtain ⟨q', i2, e', hsb⟩ := hq9.yes hgc
            obtain rfl : q = q' := by omega
            cases ok9 with
            | true => rfl
            | false => exact absurd (HV.out.2.1.out_in (by rw [← HL3.out]; exact hil)) (hsb.2 rfl).2
          obtain ⟨a9, c9, rfl, _, _⟩ := ho9.shape'
          clear ho9 hf9 hq9
          refine hK1.out _ _ (hY.trans hn9) (fun hY1 => ?_)
          clear hK1 K1
          refine held_take 10 (some 36) rfl rfl (by kernel_rfl) (by kernel_rfl) (by kernel_rfl) (fun _ _ _ h => h) rfl hY1 (v := ?_) (fun w' hS => by skip; go_simp; try with_reducible rfl) ?_
          simp only [Act.put, List.setIfInBounds_toArray, List.set_cons_zero, List.set_cons_succ]
          refine held_take 11 (some 47) rfl rfl (by kernel_rfl) (by kernel_rfl) (by kernel_rfl) (fun _ _ _ h => h) rfl hY1 (v := ?_) (fun w' hS => by skip; go_simp; try with_reducible rfl) ?_
          simp only [Act.put, List.setIfInBounds_toArray, List.set_cons_zero, List.set_cons_succ]
          refine held_take 12 (some 48) rfl rfl (by kernel_rfl) (by kernel_rfl) (by kernel_rfl) (fun _ _ _ h => h) rfl hY1 (v := ?_) (fun w' hS => by skip; go_simp; try with_reducible rfl) ?_
          simp only [Act.put, List.setIfInBounds_toArray, List.set_cons_zero, List.set_cons_succ]
          refine held_take 13 (some 6) rfl rfl (by kernel_rfl) (by kernel_rfl) (by kernel_rfl) (fun _ _ _ h => h) rfl hY1 (v := ?_) (fun w' hS => by skip; go_simp; try with_reducible rfl) ?_
          simp only [Act.put, List.setIfInBounds_toArray, List.set_cons_zero, List.set_cons_succ]
          refine held_take 14 (some 7) rfl rfl (by kernel_rfl) (by kernel_rfl) (by kernel_rfl) (fun _ _ _ h => h) rfl hY1 (v := ?_) (fun w' hS => by skip; go_simp; try with_reducible rfl) ?_
          simp only [Act.put, List.setIfInBounds_toArray, List.set_cons_zero, List.set_cons_succ]
          refine wpAnyH_done (by kernel_rfl) ?_ _
          go_wp2_with fail
          go_roundw
          case rel => exact ⟨i + 1, by go_num, by omega, HN.out.trans hY1⟩
          case measure => simp [intOf]; omega
        · obtain rfl : l3 = i := by omega
          obtain ⟨d0, d1, _, _⟩ := HC.out.2.cells
          go_upto_region 13 with fail
          clear d0 d1
          by_cases hpl : IsPl q rows
          · have heq := plain_red HV.out.1 hpl.2 HV.out.2.1
            have HEQ := Lib.hid heq
            have HPL := Lib.hid hpl
            clear heq hpl
            refine wp_region_held_drew (S := fun w' => New wy w') (by kernel_rfl) (New.drew _) (fun hZ => ?_)
            refine held_take 0 (some 51) rfl rfl (by kernel_rfl) (by kernel_rfl) (by kernel_rfl) (fun _ _ _ h => h) rfl hZ (v := .agg #[.int .i64 q, .slice a3 l3 c3]) (fun w' hS => by obtain ⟨q0, q1, _, _⟩ := (HC.out.1.new hS).cells; obtain ⟨d0, d1, _, _⟩ := (HC.out.2.new hS).cells; go_simp; try with_reducible rfl) ?_
            simp only [Act.put, List.setIfInBounds_toArray, List.set_cons_zero, List.set_cons_succ]
            refine held_take 2 (some 53) rfl rfl (by kernel_rfl) (by kernel_rfl) (by kernel_rfl) (fun _ _ _ h => h) rfl hZ (v := .agg #[.int .i64 q, .slice a3 l3 c3]) (fun w' hS => by obtain ⟨q0, q1, _, _⟩ := (HC.out.1.new hS).cells; obtain ⟨d0, d1, _, _⟩ := (HC.out.2.new hS).cells; go_simp; try with_reducible rfl) ?_
            simp only [Act.put, List.setIfInBounds_toArray, List.set_cons_zero, List.set_cons_succ]
            refine held_only 1 (by kernel_rfl) rfl rfl (fun K1 hK1 => ?_)
            go_simp
            refine (implPlainOf_any q _ out _ ((H4.out.2.2.2.2.1.new HN.out).new (New.drew _))).mono ?_
            rintro e w9 ⟨u9, vs9, out9, p9, rfl, ho9, hf9, hq9, hn9⟩
            obtain ⟨rfl, hred9⟩ := hq9.told.1 HV.out.2.2.2.1
            obtain rfl := hred9.unique HV.out.2.2.2.2
            have hsm := hq9.small
            have hi9 := ho9.isR (by unfold Mid; omega) (fun i hi => by have := hsm.2 i hi; unfold Mid; omega)
            obtain ⟨a9, l9, c9, rfl, _, _⟩ := hi9.shape
            have H9 := Lib.hid (And.intro hi9 (hZ.trans hn9))
            clear ho9 hf9 hq9 hsm hi9 hred9
            refine hK1.out _ _ (hZ.trans hn9) (fun hZ1 => ?_)
            clear hK1 K1
            refine held_only 3 (by kernel_rfl) rfl rfl (fun K2 hK2 => ?_)
            go_simp
            refine (equalCode_any _ _ _ _ _ _ _ H9.out.1 ((H4.out.2.2.2.2.1.new HN.out).new H9.out.2)).mono ?_
            rintro e w10 ⟨rfl, hn10⟩
            rw [eqLL_self, decide_eq_true rfl, Bool.true_and]
            have H10 := Lib.hid (H9.out.2.trans hn10)
            refine hK2.out _ _ (hZ1.trans hn10) (fun hZ2 => ?_)
            clear hK2 K2
            refine held_take 4 (some 55) rfl rfl (by kernel_rfl) (by kernel_rfl) (by kernel_rfl) (fun _ _ _ h => h) rfl hZ2 (v := ?_) (fun w' hS => by skip; go_simp; try with_reducible rfl) ?_
            simp only [Act.put, List.setIfInBounds_toArray, List.set_cons_zero, List.set_cons_succ]
            refine held_take 5 (some 56) rfl rfl (by kernel_rfl) (by kernel_rfl) (by kernel_rfl) (fun _ _ _ h => h) rfl hZ2 (v := .agg #[.int .i64 q, .slice a l c]) (fun w' hS => by obtain ⟨q0, q1, _, _⟩ := (HC.out.1.new hS).cells; obtain ⟨d0, d1, _, _⟩ := (HC.out.2.new hS).cells; go_simp; try with_reducible rfl) ?_
            simp only [Act.put, List.setIfInBounds_toArray, List.set_cons_zero, List.set_cons_succ]
            refine held_only 6 (by kernel_rfl) rfl rfl (fun K3 hK3 => ?_)
            go_simp
            refine (implIsPlain_any _ _ rows _ ((H4.out.2.1.new HN.out).new H10.out)).mono ?_
            rintro e w11 ⟨⟨y, rfl, hy⟩, hn11⟩
            obtain rfl : y = true := by rw [Bool.eq_iff_iff, hy]; exact ⟨fun _ => rfl, fun _ => HPL.out⟩
            have H11 := Lib.hid (H10.out.trans hn11)
            clear hy
            refine hK3.out _ _ (hZ2.trans hn11) (fun hZ3 => ?_)
            clear hK3 K3
            refine held_take 7 (some 58) rfl rfl (by kernel_rfl) (by kernel_rfl) (by kernel_rfl) (fun _ _ _ h => h) rfl hZ3 (v := ?_) (fun w' hS => by skip; go_simp; try with_reducible rfl) ?_
            simp only [Act.put, List.setIfInBounds_toArray, List.set_cons_zero, List.set_cons_succ]
            refine held_take 8 (some 59) rfl rfl (by kernel_rfl) (by kernel_rfl) (by kernel_rfl) (fun _ _ _ h => h) rfl hZ3 (v := ?_) (fun w' hS => by skip; go_simp; try with_reducible rfl) ?_
            simp only [Act.put, List.setIfInBounds_toArray, List.set_cons_zero, List.set_cons_succ]
            refine held_take 9 (some 60) rfl rfl (by kernel_rfl) (by kernel_rfl) (by kernel_rfl) (fun _ _ _ h => h) rfl hZ3 (v := .agg #[.int .i64 q, .slice a3 l3 c3]) (fun w' hS => by obtain ⟨q0, q1, _, _⟩ := (HC.out.1.new hS).cells; obtain ⟨d0, d1, _, _⟩ := (HC.out.2.new hS).cells; go_simp; try with_reducible rfl) ?_
            simp only [Act.put, List.setIfInBounds_toArray, List.set_cons_zero, List.set_cons_succ]
            refine held_take 10 (some 61) rfl rfl (by kernel_rfl) (by kernel_rfl) (by kernel_rfl) (fun _ _ _ h => h) rfl hZ3 (v := .agg #[.int .i64 q, .slice a l c]) (fun w' hS => by obtain ⟨q0, q1, _, _⟩ := (HC.out.1.new hS).cells; obtain ⟨d0, d1, _, _⟩ := (HC.out.2.new hS).cells; go_simp; try with_reducible rfl) ?_
            simp only [Act.put, List.setIfInBounds_toArray, List.set_cons_zero, List.set_cons_succ]
            refine held_only 11 (by kernel_rfl) rfl rfl (fun K4 hK4 => ?_)
            go_simp
            refine (equalCode_any _ _ _ _ _ _ _ ((H4.out.2.2.2.2.1.new HN.out).new H11.out) ((H4.out.2.1.new HN.out).new H11.out)).mono ?_
            rintro e w12 ⟨rfl, hn12⟩
            rw [HEQ.out, eqLL_self, decide_eq_true rfl, Bool.true_and]
            refine hK4.out _ _ (hZ3.trans hn12) (fun hZ4 => ?_)
            clear hK4 K4
            refine held_take 12 (some 63) rfl rfl (by kernel_rfl) (by kernel_rfl) (by kernel_rfl) (fun _ _ _ h => h) rfl hZ4 (v := ?_) (fun w' hS => by skip; go_simp; try with_reducible rfl) ?_
            simp only [Act.put, List.setIfInBounds_toArray, List.set_cons_zero, List.set_cons_succ]
            refine held_take 13 (some 64) rfl rfl (by kernel_rfl) (by kernel_rfl) (by kernel_rfl) (fun _ _ _ h => h) rfl hZ4 (v := ?_) (fun w' hS => by skip; go_simp; try with_reducible rfl) ?_
            simp only [Act.put, List.setIfInBounds_toArray, List.set_cons_zero, List.set_cons_succ]
            refine held_take 14 (some 2) rfl rfl (by kernel_rfl) (by kernel_rfl) (by kernel_rfl) (fun _ _ _ h => h) rfl hZ4 (v := ?_) (fun w' hS => by skip; go_simp; try with_reducible rfl) ?_
            simp only [Act.put, List.setIfInBounds_toArray, List.set_cons_zero, List.set_cons_succ]
            refine wpAnyH_done (by kernel_rfl) ?_ _
            go_wp2_with fail
            go_ret
            exact ⟨rfl, H2.out.2.1.trans (H4.out.2.2.2.2.2.trans (HN.out.trans hZ4))⟩
          · have HPL := Lib.hid hpl
            clear hpl
            refine wp_region_held_drew (S := fun w' => New wy w') (by kernel_rfl) (New.drew _) (fun hZ => ?_)
            refine held_take 0 (some 51) rfl rfl (by kernel_rfl) (by kernel_rfl) (by kernel_rfl) (fun _ _ _ h => h) rfl hZ (v := .agg #[.int .i64 q, .slice a3 l3 c3]) (fun w' hS => by obtain ⟨q0, q1, _, _⟩ := (HC.out.1.new hS).cells; obtain ⟨d0, d1, _, _⟩ := (HC.out.2.new hS).cells; go_simp; try with_reducible rfl) ?_
            simp only [Act.put, List.setIfInBounds_toArray, List.set_cons_zero, List.set_cons_succ]
            refine held_take 2 (some 53) rfl rfl (by kernel_rfl) (by kernel_rfl) (by kernel_rfl) (fun _ _ _ h => h) rfl hZ (v := .agg #[.int .i64 q, .slice a3 l3 c3]) (fun w' hS => by obtain ⟨q0, q1, _, _⟩ := (HC.out.1.new hS).cells; obtain ⟨d0, d1, _, _⟩ := (HC.out.2.new hS).cells; go_simp; try with_reducible rfl) ?_
            simp only [Act.put, List.setIfInBounds_toArray, List.set_cons_zero, List.set_cons_succ]
            refine held_only 1 (by kernel_rfl) rfl rfl (fun K1 hK1 => ?_)
            go_simp
            refine (implPlainOf_any q _ out _ ((H4.out.2.2.2.2.1.new HN.out).new (New.drew _))).mono ?_
            rintro e w9 ⟨u9, vs9, out9, p9, rfl, ho9, hf9, hq9, hn9⟩
            obtain ⟨rfl, hred9⟩ := hq9.told.1 HV.out.2.2.2.1
            obtain rfl := hred9.unique HV.out.2.2.2.2
            have hsm := hq9.small
            have hi9 := ho9.isR (by unfold Mid; omega) (fun i hi => by have := hsm.2 i hi; unfold Mid; omega)
            obtain ⟨a9, l9, c9, rfl, _, _⟩ := hi9.shape
            have H9 := Lib.hid (And.intro hi9 (hZ.trans hn9))
            clear ho9 hf9 hq9 hsm hi9 hred9
            refine hK1.out _ _ (hZ.trans hn9) (fun hZ1 => ?_)
            clear hK1 K1
            refine held_only 3 (by kernel_rfl) rfl rfl (fun K2 hK2 => ?_)
            go_simp
            refine (equalCode_any _ _ _ _ _ _ _ H9.out.1 ((H4.out.2.2.2.2.1.new HN.out).new H9.out.2)).mono ?_
            rintro e w10 ⟨rfl, hn10⟩
            rw [eqLL_self, decide_eq_true rfl, Bool.true_and]
            have H10 := Lib.hid (H9.out.2.trans hn10)
            refine hK2.out _ _ (hZ1.trans hn10) (fun hZ2 => ?_)
            clear hK2 K2
            refine held_take 4 (some 55) rfl rfl (by kernel_rfl) (by kernel_rfl) (by kernel_rfl) (fun _ _ _ h => h) rfl hZ2 (v := ?_) (fun w' hS => by skip; go_simp; try with_reducible rfl) ?_
            simp only [Act.put, List.setIfInBounds_toArray, List.set_cons_zero, List.set_cons_succ]
            refine held_take 5 (some 56) rfl rfl (by kernel_rfl) (by kernel_rfl) (by kernel_rfl) (fun _ _ _ h => h) rfl hZ2 (v := .agg #[.int .i64 q, .slice a l c]) (fun w' hS => by obtain ⟨q0, q1, _, _⟩ := (HC.out.1.new hS).cells; obtain ⟨d0, d1, _, _⟩ := (HC.out.2.new hS).cells; go_simp; try with_reducible rfl) ?_
            simp only [Act.put, List.setIfInBounds_toArray, List.set_cons_zero, List.set_cons_succ]
            refine held_only 6 (by kernel_rfl) rfl rfl (fun K3 hK3 => ?_)
            go_simp
            refine (implIsPlain_any _ _ rows _ ((H4.out.2.1.new HN.out).new H10.out)).mono ?_
            rintro e w11 ⟨⟨y, rfl, hy⟩, hn11⟩
            obtain rfl : y = false := by rw [Bool.eq_iff_iff, hy]; exact ⟨fun h => absurd h HPL.out, fun h => by cases h⟩
            have H11 := Lib.hid (H10.out.trans hn11)
            clear hy
            refine hK3.out _ _ (hZ2.trans hn11) (fun hZ3 => ?_)
            clear hK3 K3
            refine held_take 7 (some 58) rfl rfl (by kernel_rfl) (by kernel_rfl) (by kernel_rfl) (fun _ _ _ h => h) rfl hZ3 (v := ?_) (fun w' hS => by skip; go_simp; try with_reducible rfl) ?_
            simp only [Act.put, List.setIfInBounds_toArray, List.set_cons_zero, List.set_cons_succ]
            refine held_take 8 (some 59) rfl rfl (by kernel_rfl) (by kernel_rfl) (by kernel_rfl) (fun _ _ _ h => h) rfl hZ3 (v := ?_) (fun w' hS => by skip; go_simp; try with_reducible rfl) ?_
            simp only [Act.put, List.setIfInBounds_toArray, List.set_cons_zero, List.set_cons_succ]
            refine held_skip 9 (some 60) rfl rfl (by kernel_rfl) (by kernel_rfl) (by kernel_rfl) (fun _ _ _ h => h) rfl hZ3 ?_
            simp only [Act.put, List.setIfInBounds_toArray, List.set_cons_zero, List.set_cons_succ]
            refine held_skip 10 (some 61) rfl rfl (by kernel_rfl) (by kernel_rfl) (by kernel_rfl) (fun _ _ _ h => h) rfl hZ3 ?_
            simp only [Act.put, List.setIfInBounds_toArray, List.set_cons_zero, List.set_cons_succ]
            refine held_skip 11 (some 62) rfl rfl (by kernel_rfl) (by kernel_rfl) (by kernel_rfl) (fun _ _ _ h => h) rfl hZ3 ?_
            simp only [Act.put, List.setIfInBounds_toArray, List.set_cons_zero, List.set_cons_succ]
            refine held_take 12 (some 63) rfl rfl (by kernel_rfl) (by kernel_rfl) (by kernel_rfl) (fun _ _ _ h => h) rfl hZ3 (v := ?_) (fun w' hS => by skip; go_simp; try with_reducible rfl) ?_
            simp only [Act.put, List.setIfInBounds_toArray, List.set_cons_zero, List.set_cons_succ]
            refine held_take 13 (some 64) rfl rfl (by kernel_rfl) (by kernel_rfl) (by kernel_rfl) (fun _ _ _ h => h) rfl hZ3 (v := ?_) (fun w' hS => by skip; go_simp; try with_reducible rfl) ?_
            simp only [Act.put, List.setIfInBounds_toArray, List.set_cons_zero, List.set_cons_succ]
            refine held_take 14 (some 2) rfl rfl (by kernel_rfl) (by kernel_rfl) (by kernel_rfl) (fun _ _ _ h => h) rfl hZ3 (v := ?_) (fun w' hS => by skip; go_simp; try with_reducible rfl) ?_
            simp only [Act.put, List.setIfInBounds_toArray, List.set_cons_zero, List.set_cons_succ]
            refine wpAnyH_done (by kernel_rfl) ?_ _
            go_wp2_with fail
            go_ret
            exact ⟨rfl, H2.out.2.1.trans (H4.out.2.2.2.2.2.trans (HN.out.trans hZ3))⟩
end Go.Proofs.Ytgpmkbenjlhfhaa
