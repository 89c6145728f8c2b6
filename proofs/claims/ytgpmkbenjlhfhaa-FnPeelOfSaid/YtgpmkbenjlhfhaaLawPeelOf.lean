/- The walk of FnPeelOf. -/
import Derived.Test.YtgpmkbenjlhfhaaCodS
import Derived.Test.YtgpmkbenjlhfhaaDrawL
import Derived.Test.YtgpmkbenjlhfhaaStopsOf
import Derived.Test.YtgpmkbenjlhfhaaMend
namespace Go.Proofs.Ytgpmkbenjlhfhaa
open Go.RowKit Mat
set_option linter.unusedVariables false

set_option maxRecDepth 100000 in
set_option maxHeartbeats 8000000 in
theorem lawPeelOf_any (v : Value) (n : Nat) (w : World) (hb : RawB w v n) :
    Calls Try.prog 9 #[v] w fun e w' => e = .returned (.bool true) ∧ New w w' := by
  obtain ⟨ao, cap, rfl, hcap, hmx, -⟩ := id hb
  unfold maxLen at hmx
  have HB := Lib.hid hb
  clear hb
  by_cases hbig : 1048576 < n
  · go_enter Try.func9, Try.ntmps9
    go_wp2_with fail
    go_ret
    exact ⟨rfl, Chg.refl _ _⟩
  · go_enter Try.func9, Try.ntmps9
    go_wp2_with fail
    refine (drawPeelOf_any _ _ _ HB.out).mono ?_
    rintro e w1 ⟨a, l, c, vs, rows, p, x, rfl, ho, hk, hp, hn1⟩
    have hr := ho.isR hk.mid.1 hk.mid.2
    go_upto_region 4 with fail
    have b2 := Blk2.alloc w1 (.int .i64 p) (.slice a l c) 25
    have n2 := New.alloc w1 (.cells #[.int .i64 p, .slice a l c] 25)
    obtain ⟨w2, hw2⟩ : ∃ w2, w2 = w1.alloc (.cells #[.int .i64 p, .slice a l c] 25) := ⟨_, rfl⟩
    rw [← hw2] at b2 n2
    rw [← hw2]
    clear hw2
    have HLL := Lib.hid hr.len
    have H2 := Lib.hid (And.intro (hr.new n2) (And.intro (hn1.trans n2) b2))
    obtain ⟨q0, q1, _, _⟩ := b2.cells
    clear hr hn1 b2 n2 hk ho
    go_wp2_with fail
    refine (implPeelOf_any p _ x rows _ H2.out.1).mono ?_
    rintro e w3 ⟨t, rfl, hq, hn3⟩
    have H3 := Lib.hid (And.intro hq hn3)
    replace q0 := hn3.cellNew q0
    replace q1 := hn3.cellNew q1
    clear hq hn3
    go_wp2_with fail
    refine (specPeelOf_any p _ x rows _ (H2.out.1.new H3.out.2)).mono ?_
    rintro e w4 ⟨t', rfl, hq, hn4⟩
    obtain rfl : t = t' := H3.out.1.unique hq
    have H4 := Lib.hid (H3.out.2.trans hn4)
    replace q0 := hn4.cellNew q0
    replace q1 := hn4.cellNew q1
    clear hq hn4
    by_cases hv : PeelC p rows x
    · obtain ⟨q, rfl, hq⟩ := prime_nat (vtB_pr hv.1.1)
      haveI := hq.nz
      obtain ⟨checks, hnul, out, rfl, hpeel⟩ := H3.out.1.yes hv
      have hc := hv.1.code
      have hxb := inB_iff.1 hv.2
      have hp0 := Nat.two_pow_pos (gr rows 0).length
      have hp7 := pow_lt hc.tab.n7
      obtain ⟨L, rfl⟩ : ∃ L : Nat, x = L := ⟨x.toNat, by omega⟩
      rw [Int.toNat_natCast] at hpeel
      have hL : L < 2 ^ (gr rows 0).length := by omega
      have hout : out ≤ L := hpeel.1.le
      have HV := Lib.hid (And.intro hv (And.intro hc (And.intro hnul (And.intro hpeel hL))))
      have ho128 : out < 128 := by omega
      have hL128 : L < 128 := by omega
      clear hv hc hnul hpeel hL hq hxb hp0 hp7
      go_wp2_with fail
      refine (implStopsOf_any q _ rows _ (H2.out.1.new H4.out)).mono ?_
      rintro e w5 ⟨u, list, rfl, ho5, hf5, hq5, hn5⟩
      have hsm := hq5.small
      have hi5 := ho5.isI (by unfold Mid; omega)
      obtain ⟨checks', hnul', hst⟩ := hq5.yes HV.out.1.1
      obtain rfl := HV.out.2.2.1.unique hnul'
      have hlen := hst.length
      have hp7 := pow_lt HV.out.2.1.tab.n7
      obtain ⟨a5, l5, c5, rfl, HL5, hl5⟩ := hi5.shape
      have h5l : l5 ≤ 128 := by rw [HL5.out]; omega
      replace q0 := hn5.cellNew q0
      replace q1 := hn5.cellNew q1
      have H5 := Lib.hid (And.intro hi5 (And.intro hst (H4.out.trans hn5)))
      clear ho5 hf5 hq5 hsm hi5 hnul' hst hlen hn5 hp7 q0 q1
      go_wp2_with fail
      go_loopw [7] (fun t7 wr => ∃ i : Nat, t7 = .int .i64 i ∧ i ≤ l5 ∧ Hid (New w5 wr)) (fun t7 _ => l5 - (intOf t7).toNat)
      case atStart => exact ⟨0, rfl, Nat.zero_le _, Chg.refl _ _⟩
      case round =>
        obtain ⟨i, rfl, hi, HN⟩ := hrel
        obtain ⟨wy, hwy⟩ : ∃ wy : World, wy = wr := ⟨_, rfl⟩
        rw [← hwy] at HN
        rw [← hwy]
        clear hwy
        by_cases hil : i < l5
        · obtain ⟨b, o, rfl, ck⟩ := (H5.out.1.new HN.out).at hil
          obtain ⟨s, hs, hs1, hs2, hs3⟩ := H5.out.2.1.at (show i < list.length by rw [← HL5.out]; exact hil)
          rw [hs] at ck
          have hp7 := pow_lt HV.out.2.1.tab.n7
          have hs128 : s < 128 := by omega
          have ha1 := and_i64 s hs128 L hL128
          have ha2 := and_i64 s hs128 out ho128
          by_cases hsub : s &&& L = s
          · have h2 : s &&& out = s := HV.out.2.2.2.1.2.2 s hsub hs3
            rw [hsub] at ha1
            rw [h2] at ha2
            clear hs hs1 hs2 hs3 hp7 hsub h2
            go_wp2_with fail
            go_quiet (fail)
            go_wp2_with fail
            go_roundw
            case rel => exact ⟨i + 1, by go_num, by omega, HN.out.trans (New.drewN _ _)⟩
            case measure => simp [intOf]; omega
          · obtain ⟨y, hy⟩ : ∃ y, y = s &&& L := ⟨_, rfl⟩
            rw [← hy] at ha1 hsub
            have hd : ((y : Int) == (s : Int)) = false := by simp; omega
            clear hs hs1 hs2 hs3 hp7 hsub hy
            go_wp2_with fail
            go_quiet (fail)
            go_wp2_with fail
            go_roundw
            case rel => exact ⟨i + 1, by go_num, by omega, HN.out.trans (New.drewN _ _)⟩
            case measure => simp [intOf]; omega
        · obtain rfl : l5 = i := by omega
          have ha : bits BinOp.and IntKind.i64 (out : Int) (L : Int) = (out : Int) := by
            have h1 := and_i64 out ho128 L hL128
            rw [show out &&& L = out from HV.out.2.2.2.1.1] at h1
            exact h1
          obtain ⟨q0, q1, _, _⟩ := (H2.out.2.2.new (H5.out.2.2.trans HN.out)).cells
          by_cases h0 : out = 0
          · have hmend : MendC q rows L := HV.out.2.1.peel_mend HV.out.2.2.1 HV.out.2.2.2.2 (by rw [← h0]; exact HV.out.2.2.2.1)
            have hmc : IsMendC q rows L := ⟨HV.out.1.1, HV.out.1.2, by rw [Int.toNat_natCast]; exact hmend⟩
            have HM := Lib.hid hmc
            clear hmend hmc
            rw [h0] at ha ho128 hout
            rw [h0]
            clear h0
            go_wp2_with fail
            refine (implIsMendable_any q _ L rows _ (H2.out.1.new (H5.out.2.2.trans HN.out))).mono ?_
            rintro e w6 ⟨y, rfl, hy, hn6⟩
            obtain rfl : y = true := hy.2 HM.out
            have H6 := Lib.hid hn6
            clear hy hn6
            go_wp2_with fail
            go_ret
            exact ⟨rfl, H2.out.2.1.trans (H5.out.2.2.trans (HN.out.trans H6.out))⟩
          · have hin : inL list (out : Int) := (H5.out.2.1.mem _).2 ⟨out, rfl, by have := HV.out.2.2.2.2; omega, by omega, HV.out.2.2.2.1.2.1⟩
            have HIN := Lib.hid hin
            have hd : ((out : Int) == 0) = false := by simp; omega
            have hd2 : decide ((0 : Int) < (out : Int)) = true := by simp; omega
            have hpos : (0 : Int) < (out : Int) := by omega
            clear hin h0
            go_wp2_with (go_at_call 47; refine (isIn_yes _ list _ _ (H5.out.1.new HN.out) HIN.out).mono ?_; rintro e w' ⟨rfl, rfl⟩)
            go_ret
            exact ⟨rfl, H2.out.2.1.trans (H5.out.2.2.trans HN.out)⟩
    · obtain rfl : t = -1 := H3.out.1.no hv
      clear hv
      go_wp2_with fail
      refine (specPeelOf_any p _ x rows _ (H2.out.1.new H4.out)).mono ?_
      rintro e w5 ⟨t', rfl, hq, hn5⟩
      obtain rfl : (-1 : Int) = t' := H3.out.1.unique hq
      have H5 := Lib.hid (H4.out.trans hn5)
      clear hq hn5
      go_wp2_with fail
      go_ret
      exact ⟨rfl, H2.out.2.1.trans H5.out⟩
end Go.Proofs.Ytgpmkbenjlhfhaa
