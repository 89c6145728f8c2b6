/- The walk of FnReadsOf. -/
import Derived.Test.YtgpmkbenjlhfhaaCodH
import Derived.Test.YtgpmkbenjlhfhaaDrawL
import Derived.Test.YtgpmkbenjlhfhaaReadsOf
import Derived.Test.YtgpmkbenjlhfhaaHelpersOf
namespace Go.Proofs.Ytgpmkbenjlhfhaa
open Go.RowKit Mat
set_option linter.unusedVariables false

/-- How many are apart: no more than there are, some just if there are some, and no more than the other columns. -/
theorem reads_bound {q : Nat} [NeZero q] {n : Nat} {rows : List (List Int)} (h : CodeOk q n rows) {i : Nat} (hi : i < n) {out : List Int} (ho : LeastTo (2 ^ n) (HelpQ q rows n i) ((n + 1) * 2 ^ n) out) : apt out 0 ≤ max (n - 1) 1 := by
  obtain ⟨h1, h2, h3⟩ := ho.sets h.tab.n7
  by_cases hz : ∃ j, j < out.length ∧ (gi out j).toNat = 0
  · obtain ⟨j, hj, e⟩ := hz
    have hl : out.length ≤ 1 := by
      apply Classical.byContradiction; intro c
      obtain ⟨k, hk, hne⟩ : ∃ k, k < out.length ∧ j ≠ k := by
        by_cases e0 : j = 0
        · exact ⟨1, by omega, by omega⟩
        · exact ⟨0, by omega, by omega⟩
      refine h2 j k hj hk hne ?_
      rw [e]
      exact Nat.zero_and _
    have := apt_le out 0
    omega
  · have := apt_bound h.tab.n7 hi out 0 (fun j hj => by
      obtain ⟨s, hs, hs1, hs2⟩ := h1 j hj
      rw [hs, Int.toNat_natCast]
      refine ⟨hs1, hs2.1, fun e => hz ⟨j, hj, by rw [hs, Int.toNat_natCast]; exact e⟩⟩) (Nat.two_pow_pos n) (by unfold bitN; simp)
    omega

set_option maxRecDepth 100000 in
set_option maxHeartbeats 8000000 in
theorem lawReadsOf_any (v : Value) (n : Nat) (w : World) (hb : RawB w v n) :
    Calls Try.prog 12 #[v] w fun e w' => e = .returned (.bool true) ∧ New w w' := by
  obtain ⟨ao, cap, rfl, hcap, hmx, -⟩ := id hb
  unfold maxLen at hmx
  have HB := Lib.hid hb
  clear hb
  by_cases hbig : 1048576 < n
  · go_enter Try.func12, Try.ntmps12
    go_wp2_with fail
    go_ret
    exact ⟨rfl, Chg.refl _ _⟩
  · go_enter Try.func12, Try.ntmps12
    go_wp2_with fail
    refine (drawReadsOf_any _ _ _ HB.out).mono ?_
    rintro e w1 ⟨a, l, c, vs, rows, p, x, rfl, ho, hk, hp, hn1⟩
    have hr := ho.isR hk.mid.1 hk.mid.2
    go_upto_region 4 with fail
    have b2 := Blk2.alloc w1 (.int .i64 p) (.slice a l c) 25
    have n2 := New.alloc w1 (.cells #[.int .i64 p, .slice a l c] 25)
    obtain ⟨w2, hw2⟩ : ∃ w2, w2 = w1.alloc (.cells #[.int .i64 p, .slice a l c] 25) := ⟨_, rfl⟩
    rw [← hw2] at b2 n2
    rw [← hw2]
    clear hw2
    have HLL := Lib.hid hr.len
    have H2 := Lib.hid (And.intro (hr.new n2) (And.intro (hn1.trans n2) b2))
    obtain ⟨q0, q1, _, _⟩ := b2.cells
    clear hr hn1 b2 n2 hk ho
    go_wp2_with fail
    refine (implReadsOf_any p _ x rows _ H2.out.1).mono ?_
    rintro e w3 ⟨t, rfl, hq, hn3⟩
    have H3 := Lib.hid (And.intro hq hn3)
    replace q0 := hn3.cellNew q0
    replace q1 := hn3.cellNew q1
    clear hq hn3
    go_wp2_with fail
    refine (specReadsOf_any p _ x rows _ (H2.out.1.new H3.out.2)).mono ?_
    rintro e w4 ⟨t', rfl, hq, hn4⟩
    obtain rfl : t = t' := H3.out.1.unique hq
    have H4 := Lib.hid (H3.out.2.trans hn4)
    replace q0 := hn4.cellNew q0
    replace q1 := hn4.cellNew q1
    clear hq hn4
    by_cases hv : ValidC p rows ∧ inB x 0 (((gr rows 0).length : Int) - 1) = true
    · obtain ⟨q, i2, rfl, out, hout, rfl⟩ := H3.out.1.1 hv
      have hc := hv.1.code
      have hxb := inB_iff.1 hv.2
      obtain ⟨i, rfl⟩ : ∃ i : Nat, x = i := ⟨x.toNat, by omega⟩
      rw [Int.toNat_natCast] at hout
      have hi : i < (gr rows 0).length := by omega
      have hb1 := apt_le out 0
      have hb2 := apt_pos out
      have hb3 := reads_bound hc hi hout
      have hn7 := hc.tab.n7
      have hl0 : 0 < l := by rw [HLL.out]; exact hc.tab.r1
      have HV := Lib.hid (And.intro hv (And.intro hc hout))
      obtain ⟨r, hre⟩ : ∃ r, r = apt out 0 := ⟨_, rfl⟩
      rw [← hre] at hb1 hb2 hb3
      rw [← hre]
      obtain ⟨b, o, u, rfl, ck, hu⟩ := (H2.out.1.new H4.out).at hl0
      rw [Nat.add_zero] at ck
      obtain ⟨a0, m, c0, rfl, HM, _⟩ := hu.shape
      rw [← HM.out] at hb3 hn7
      clear hv hc hxb hout hi hu hre
      go_wp2_with fail
      refine (implHelpersOf_any q _ i rows _ (H2.out.1.new H4.out)).mono ?_
      rintro e w5 ⟨u5, list, rfl, ho5, hf5, hq5, hn5⟩
      have hlist : list = out := by
        obtain ⟨q', i3, e', hl⟩ := hq5.1 HV.out.1
        obtain rfl : q = q' := by omega
        rw [Int.toNat_natCast] at hl
        exact hl.unique HV.out.2.2
      subst hlist
      have hsm := hq5.small
      have hi5 := ho5.isI (by unfold Mid; omega)
      obtain ⟨a5, l5, c5, rfl, HL5, _⟩ := hi5.shape
      rw [← HL5.out] at hb1 hb2
      replace q0 := hn5.cellNew q0
      replace q1 := hn5.cellNew q1
      replace ck := hn5.cellNew ck
      have H5 := Lib.hid (H4.out.trans hn5)
      clear ho5 hf5 hq5 hsm hi5 hn5
      have hw : IntKind.i64.wrap ((m : Int) - 1) = (m : Int) - 1 := IntWalk.i64_in _ (by omega)
      have hle : (r : Int) ≤ (l5 : Int) := by omega
      have hcs : (r = 0 ∧ l5 = 0) ∨ ((0 : Int) < (r : Int) ∧ (0 : Int) < (l5 : Int)) := by omega
      have hmx : (m : Int) - 1 < 1 ∧ (r : Int) ≤ 1 ∨ ¬ ((m : Int) - 1 < 1) ∧ (r : Int) ≤ (m : Int) - 1 := by omega
      clear hb1 hb2 hb3
      rcases hcs with ⟨rfl, rfl⟩ | ⟨hr0, hl50⟩
      all_goals rcases hmx with ⟨hm1, hm2⟩ | ⟨hm1, hm2⟩
      all_goals go_wp2_with fail
      all_goals go_ret
      all_goals exact ⟨ret_bool (by first | rfl | (simp; done) | (simp; omega)), H2.out.2.1.trans H5.out⟩
    · obtain rfl : t = -1 := H3.out.1.2 hv
      clear hv
      go_wp2_with fail
      refine (specReadsOf_any p _ x rows _ (H2.out.1.new H4.out)).mono ?_
      rintro e w5 ⟨t', rfl, hq, hn5⟩
      obtain rfl : (-1 : Int) = t' := H3.out.1.unique hq
      have H5 := Lib.hid (H4.out.trans hn5)
      clear hq hn5
      go_wp2_with fail
      go_ret
      exact ⟨rfl, H2.out.2.1.trans H5.out⟩
end Go.Proofs.Ytgpmkbenjlhfhaa
