/- The walk of FnRankOf. -/
import Derived.Test.YtjnfnhcbplbceaaPlaM
import Derived.Test.YtjnfnhcbplbceaaRank
import Derived.Test.YtjnfnhcbplbceaaNullsOf
import Derived.Test.YtjnfnhcbplbceaaDrawT
import Derived.Test.YtjnfnhcbplbceaaBase
namespace Go.Proofs.Ytjnfnhcbplbceaa
open Go.RowKit Mat
set_option linter.unusedVariables false

set_option maxRecDepth 100000 in
set_option maxHeartbeats 4000000 in
theorem lawRankOf_any (v : Value) (n : Nat) (w : World) (hb : RawB w v n) :
    Calls Try.prog 12 #[v] w fun e w' => e = .returned (.bool true) ∧ New w w' := by
  obtain ⟨ao, cap, rfl, hcap, hmx, -⟩ := id hb
  unfold maxLen at hmx
  have HB := Lib.hid hb
  clear hb
  by_cases hbig : 1048576 < n
  · go_enter Try.func12, Try.ntmps12
    go_wp2_with fail
    go_ret
    exact ⟨rfl, Chg.refl _ _⟩
  · go_enter Try.func12, Try.ntmps12
    go_wp2_with fail
    refine (drawRankOf_any _ _ _ HB.out).mono ?_
    rintro e w1 ⟨p, u, rows, rfl, hp, hr, hs, hn1⟩
    have H1 := Lib.hid (And.intro hr (And.intro hs hn1))
    obtain ⟨ar, m, cr, rfl, HM, hm⟩ := hr.shape
    have hm100 : m ≤ 100 := by rw [HM.out]; exact hs.1
    clear hr hs hn1
    go_wp2_with fail
    refine (implRankOf_any p _ rows _ H1.out.1).mono ?_
    rintro e w2 ⟨⟨r, rfl, hr0, hr1⟩, hn2⟩
    have H2 := Lib.hid (And.intro (H1.out.1.new hn2) (And.intro (H1.out.2.2.trans hn2) (And.intro hr0 hr1)))
    clear hr0 hr1 hn2
    go_wp2_with fail
    refine (specRankOf_any p _ rows _ H2.out.1).mono ?_
    rintro e w3 ⟨⟨s, rfl, hs0, hs1⟩, hn3⟩
    obtain rfl : s = r := by
      cases hv : vtB p rows with
      | false => rw [hs0 hv, H2.out.2.2.1 hv]
      | true =>
        obtain ⟨o1, h1, e1⟩ := hs1 hv
        obtain ⟨o2, h2, e2⟩ := H2.out.2.2.2 hv
        rw [e1, e2, h1.unique h2]
    have H3 := Lib.hid (And.intro (H2.out.1.new hn3) (H2.out.2.1.trans hn3))
    clear hs0 hs1 hn3
    cases hv : vtB p rows with
    | false =>
      obtain rfl : s = -1 := H2.out.2.2.1 hv
      clear hv
      go_wp2_with fail
      refine (specRankOf_any p _ rows _ H3.out.1).mono ?_
      rintro e w4 ⟨⟨t, rfl, ht0, ht1⟩, hn4⟩
      obtain rfl : t = -1 := ht0 (by
        cases hv : vtB p rows with
        | false => rfl
        | true => obtain ⟨o2, h2, e2⟩ := H2.out.2.2.2 hv; omega)
      have H4 := Lib.hid (H3.out.2.trans hn4)
      clear ht0 ht1 hn4
      go_wp2_with fail
      go_ret
      exact ⟨rfl, H4.out⟩
    | true =>
      obtain ⟨out, ho, hse⟩ := H2.out.2.2.2 hv
      obtain ⟨q, rfl, hq⟩ := prime_nat (vtB_pr hv)
      haveI := hq.nz
      have hred : IsRed q (gr rows 0).length rows out := by
        obtain ⟨q', i2, e, hq', h⟩ := ho
        obtain rfl : q' = q := by omega
        exact h
      have ht := vtB_ok hv
      obtain ⟨r, hr⟩ : ∃ r, r = out.length := ⟨_, rfl⟩
      rw [← hr] at hse
      subst hse
      have hrm : r ≤ m := by rw [hr, HM.out]; exact hred.le_rows hq
      have hcnt := nlTo_count hred
      have hm0 : 0 < m := by rw [HM.out]; exact ht.r1
      obtain ⟨b0, o0, u0, rfl, ck0, hu0⟩ := H3.out.1.at (i := 0) hm0
      rw [Nat.add_zero] at ck0
      obtain ⟨a0, l, cc0, rfl, HL, hl⟩ := hu0.shape
      have hl7 : l ≤ 7 := by rw [HL.out]; exact ht.n7
      have HV := Lib.hid (And.intro hv (And.intro hred (And.intro ht (And.intro hcnt hr))))
      have HQ := Lib.hid hq
      clear hv hred ht hq hu0 hcnt hr ho
      have hr7 : r ≤ 100 := by omega
      have hge : decide ((r : Int) < 0) = false := by simp
      go_wp2_with fail
      refine wp_region_held_drew (S := fun w'' => New w3 w'') (by kernel_rfl) (New.drew _) (fun hHeld => ?_)
      refine held_take 0 (some 31) rfl rfl (by kernel_rfl) (by kernel_rfl) (by kernel_rfl) (fun _ _ _ h => h) rfl hHeld (v := ?_) (fun w' hS => by skip; go_simp; try with_reducible rfl) ?_
      simp only [Act.put, List.setIfInBounds_toArray, List.set_cons_zero, List.set_cons_succ]
      refine held_take 1 (some 32) rfl rfl (by kernel_rfl) (by kernel_rfl) (by kernel_rfl) (fun _ _ _ h => h) rfl hHeld (v := ?_) (fun w' hS => by skip; go_simp; try with_reducible rfl) ?_
      simp only [Act.put, List.setIfInBounds_toArray, List.set_cons_zero, List.set_cons_succ]
      refine held_take 2 (some 33) rfl rfl (by kernel_rfl) (by kernel_rfl) (by kernel_rfl) (fun _ _ _ h => h) rfl hHeld (v := ?_) (fun w' hS => by skip; go_simp; try with_reducible rfl) ?_
      simp only [Act.put, List.setIfInBounds_toArray, List.set_cons_zero, List.set_cons_succ]
      refine held_take 6 (some 37) rfl rfl (by kernel_rfl) (by kernel_rfl) (by kernel_rfl) (fun _ _ _ h => h) rfl hHeld (v := ?_) (fun w' hS => by skip; go_simp; try with_reducible rfl) ?_
      simp only [Act.put, List.setIfInBounds_toArray, List.set_cons_zero, List.set_cons_succ]
      refine held_take 7 (some 38) rfl rfl (by kernel_rfl) (by kernel_rfl) (by kernel_rfl) (fun _ _ _ h => h) rfl hHeld (v := ?_) (fun w' hS => by skip; go_simp; try with_reducible rfl) ?_
      simp only [Act.put, List.setIfInBounds_toArray, List.set_cons_zero, List.set_cons_succ]
      refine held_take 8 (some 39) rfl rfl (by kernel_rfl) (by kernel_rfl) (by kernel_rfl) (fun _ _ _ h => h) rfl hHeld (v := .slice a0 l cc0) (fun w' hS => by have cS := hS.cellNew ck0; go_simp; try with_reducible rfl) ?_
      simp only [Act.put, List.setIfInBounds_toArray, List.set_cons_zero, List.set_cons_succ]
      refine held_take 9 (some 40) rfl rfl (by kernel_rfl) (by kernel_rfl) (by kernel_rfl) (fun _ _ _ h => h) rfl hHeld (v := ?_) (fun w' hS => by skip; go_simp; try with_reducible rfl) ?_
      simp only [Act.put, List.setIfInBounds_toArray, List.set_cons_zero, List.set_cons_succ]
      refine held_only 3 (by kernel_rfl) rfl rfl (fun K hK => ?_)
      go_simp
      refine (implNullsOf_any q _ rows _ (H3.out.1.new (New.drew _))).mono ?_
      rintro e w5 ⟨u5, vs5, out5, rfl, ho5, hf5, hq5, hn5⟩
      have hl5 : out5.length + r = l := by
        obtain ⟨q', i', e', _, a, hra, hoa⟩ := hq5.yes HV.out.1
        obtain rfl : q' = q := by omega
        have h1 := nlTo_count hra
        have h2 := hra.unique HQ.out HV.out.2.1
        rw [h2] at h1 hoa
        have h3 := HV.out.2.2.2.2
        rw [hoa, HL.out]
        omega
      have h57 : out5.length ≤ 7 := by omega
      obtain ⟨a5, l5, c5, rfl, HL5, _, _⟩ := ho5.outer.opened (by rw [ho5.len]; unfold Mid; omega)
      have HL5' := Lib.hid (show l5 + r = l by rw [HL5.out, ho5.len]; exact hl5)
      have h75 : l5 ≤ 7 := by have := HL5'.out; omega
      have hsum : (r : Int) + (l5 : Int) = (l : Int) := by have := HL5'.out; omega
      have HSUM := Lib.hid hsum
      refine hK.out _ _ (hHeld.trans hn5) (fun hHeld2 => ?_)
      clear hK K hn5 hHeld ho5 hf5 hq5 hl5 h57 hsum
      refine held_take 4 (some 35) rfl rfl (by kernel_rfl) (by kernel_rfl) (by kernel_rfl) (fun _ _ _ h => h) rfl hHeld2 (v := ?_) (fun w' hS => by skip; go_simp; try with_reducible rfl) ?_
      simp only [Act.put, List.setIfInBounds_toArray, List.set_cons_zero, List.set_cons_succ]
      refine held_take 5 (some 36) rfl rfl (by kernel_rfl) (by kernel_rfl) (by kernel_rfl) (fun _ _ _ h => h) rfl hHeld2 (v := .int .i64 l) (fun w' hS => by skip; go_simp; rw [HSUM.out, IntWalk.i64_in _ (by omega)]) ?_
      simp only [Act.put, List.setIfInBounds_toArray, List.set_cons_zero, List.set_cons_succ]
      refine held_take 10 (some 41) rfl rfl (by kernel_rfl) (by kernel_rfl) (by kernel_rfl) (fun _ _ _ h => h) rfl hHeld2 (v := .bool true) (fun w' hS => by skip; go_simp; try with_reducible rfl) ?_
      simp only [Act.put, List.setIfInBounds_toArray, List.set_cons_zero, List.set_cons_succ]
      refine held_take 11 (some 42) rfl rfl (by kernel_rfl) (by kernel_rfl) (by kernel_rfl) (fun _ _ _ h => h) rfl hHeld2 (v := ?_) (fun w' hS => by skip; go_simp; try with_reducible rfl) ?_
      simp only [Act.put, List.setIfInBounds_toArray, List.set_cons_zero, List.set_cons_succ]
      refine held_take 12 (some 43) rfl rfl (by kernel_rfl) (by kernel_rfl) (by kernel_rfl) (fun _ _ _ h => h) rfl hHeld2 (v := ?_) (fun w' hS => by skip; go_simp; try with_reducible rfl) ?_
      simp only [Act.put, List.setIfInBounds_toArray, List.set_cons_zero, List.set_cons_succ]
      refine held_take 13 (some 44) rfl rfl (by kernel_rfl) (by kernel_rfl) (by kernel_rfl) (fun _ _ _ h => h) rfl hHeld2 (v := ?_) (fun w' hS => by skip; go_simp; try with_reducible rfl) ?_
      simp only [Act.put, List.setIfInBounds_toArray, List.set_cons_zero, List.set_cons_succ]
      refine held_take 14 (some 45) rfl rfl (by kernel_rfl) (by kernel_rfl) (by kernel_rfl) (fun _ _ _ h => h) rfl hHeld2 (v := ?_) (fun w' hS => by skip; go_simp; try with_reducible rfl) ?_
      simp only [Act.put, List.setIfInBounds_toArray, List.set_cons_zero, List.set_cons_succ]
      refine held_take 15 (some 46) rfl rfl (by kernel_rfl) (by kernel_rfl) (by kernel_rfl) (fun _ _ _ h => h) rfl hHeld2 (v := ?_) (fun w' hS => by skip; go_simp; try with_reducible rfl) ?_
      simp only [Act.put, List.setIfInBounds_toArray, List.set_cons_zero, List.set_cons_succ]
      refine held_take 16 (some 47) rfl rfl (by kernel_rfl) (by kernel_rfl) (by kernel_rfl) (fun _ _ _ h => h) rfl hHeld2 (v := ?_) (fun w' hS => by skip; go_simp; try with_reducible rfl) ?_
      simp only [Act.put, List.setIfInBounds_toArray, List.set_cons_zero, List.set_cons_succ]
      refine held_take 17 (some 2) rfl rfl (by kernel_rfl) (by kernel_rfl) (by kernel_rfl) (fun _ _ _ h => h) rfl hHeld2 (v := ?_) (fun w' hS => by skip; go_simp; try with_reducible rfl) ?_
      simp only [Act.put, List.setIfInBounds_toArray, List.set_cons_zero, List.set_cons_succ]
      refine wpAnyH_done (by kernel_rfl) ?_ _
      go_wp2_with fail
      go_ret
      exact ⟨rfl, H3.out.2.trans hHeld2⟩
end Go.Proofs.Ytjnfnhcbplbceaa
