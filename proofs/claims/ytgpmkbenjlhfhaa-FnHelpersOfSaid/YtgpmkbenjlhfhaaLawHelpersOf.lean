/- The walk of FnHelpersOf. -/
import Derived.Test.YtgpmkbenjlhfhaaCodH
import Derived.Test.YtgpmkbenjlhfhaaDrawL
import Derived.Test.YtgpmkbenjlhfhaaHelpersOf
import Derived.Test.YtgpmkbenjlhfhaaMend
import Derived.Test.YtgpmkbenjlhfhaaKnow
import Derived.Test.YtgpmkbenjlhfhaaSolveRows
import Derived.Test.YtgpmkbenjlhfhaaLawF
namespace Go.Proofs.Ytgpmkbenjlhfhaa
open Go.RowKit Mat
set_option linter.unusedVariables false

theorem cols_tab {q n : Nat} {rows : List (List Int)} (h : TabOk q n rows) {s : Nat} (h1 : 1 ≤ wtN s n) (h6 : wtN s n ≤ 6) : TabOk q rows.length (colsTo rows s n) := by
  have hg := cols_good (s := s) h.good n (Nat.le_refl _)
  have hl := colsTo_length rows s n
  exact ⟨h.pr, hg, (hg 0 (by omega)).1, by have := h.r6; omega, h.r1, by omega, by omega⟩

set_option maxRecDepth 100000 in
set_option maxHeartbeats 16000000 in
theorem lawHelpersOf_any (v : Value) (n : Nat) (w : World) (hb : RawB w v n) :
    Calls Try.prog 11 #[v] w fun e w' => e = .returned (.bool true) ∧ New w w' := by
  obtain ⟨ao, cap, rfl, hcap, hmx, -⟩ := id hb
  unfold maxLen at hmx
  have HB := Lib.hid hb
  clear hb
  by_cases hbig : 1048576 < n
  · go_enter Try.func11, Try.ntmps11
    go_wp2_with fail
    go_ret
    exact ⟨rfl, Chg.refl _ _⟩
  · go_enter Try.func11, Try.ntmps11
    go_wp2_with fail
    refine (drawHelpersOf_any _ _ _ HB.out).mono ?_
    rintro e w1 ⟨a, l, c, vs, rows, p, x, rfl, ho, hk, hp, hn1⟩
    have hr := ho.isR hk.mid.1 hk.mid.2
    go_upto_region 4 with fail
    have b2 := Blk2.alloc w1 (.int .i64 p) (.slice a l c) 25
    have n2 := New.alloc w1 (.cells #[.int .i64 p, .slice a l c] 25)
    obtain ⟨w2, hw2⟩ : ∃ w2, w2 = w1.alloc (.cells #[.int .i64 p, .slice a l c] 25) := ⟨_, rfl⟩
    rw [← hw2] at b2 n2
    rw [← hw2]
    clear hw2
    have HLL := Lib.hid hr.len
    have H2 := Lib.hid (And.intro (hr.new n2) (And.intro (hn1.trans n2) b2))
    obtain ⟨q0, q1, _, _⟩ := b2.cells
    clear hr hn1 b2 n2 hk ho
    go_wp2_with fail
    refine (implHelpersOf_any p _ x rows _ H2.out.1).mono ?_
    rintro e w3 ⟨u, out, rfl, ho, hf, hq, hn3⟩
    have hsm := hq.small
    have hi3 := ho.isI (by unfold Mid; omega)
    obtain ⟨a3, l3, c3, rfl, HL3, hl3⟩ := hi3.shape
    have H3 := Lib.hid (And.intro hq (And.intro hn3 hi3))
    replace q0 := hn3.cellNew q0
    replace q1 := hn3.cellNew q1
    clear ho hf hq hn3 hi3 hsm
    go_wp2_with fail
    refine (specHelpersOf_any p _ x rows _ (H2.out.1.new H3.out.2.1)).mono ?_
    rintro e w4 ⟨u, out4, rfl, ho, hf, hq, hn4⟩
    obtain rfl := H3.out.1.unique hq
    have hsm := hq.small
    have hi4 := ho.isI (by unfold Mid; omega)
    obtain ⟨a4, l4, c4, rfl, HL4, hl4⟩ := hi4.shape
    have H4 := Lib.hid (And.intro hi4 hn4)
    replace q0 := hn4.cellNew q0
    replace q1 := hn4.cellNew q1
    clear ho hf hq hn4 hi4 hsm
    go_wp2_with fail
    refine (equalInts_any _ _ out out _ (H3.out.2.2.new H4.out.2) H4.out.1).mono ?_
    rintro e w5 ⟨rfl, m5, rfl⟩
    rw [eqL_self]
    have H5 := Lib.hid (New.drewN w4 m5)
    replace q0 := H5.out.cellNew q0
    replace q1 := H5.out.cellNew q1
    obtain ⟨w5, hw5⟩ : ∃ w5, w5 = w4.drewN m5 := ⟨_, rfl⟩
    rw [← hw5] at H5 q0 q1
    rw [← hw5]
    clear hw5
    go_wp2_with fail
    refine (implValidCode_any p _ rows _ (H2.out.1.new (H3.out.2.1.trans (H4.out.2.trans H5.out)))).mono ?_
    rintro e w6 ⟨⟨z, rfl, hz⟩, hn6⟩
    have H6 := Lib.hid (And.intro (H3.out.2.1.trans (H4.out.2.trans (H5.out.trans hn6))) (And.intro (H4.out.2.trans (H5.out.trans hn6)) hz))
    replace q0 := hn6.cellNew q0
    replace q1 := hn6.cellNew q1
    clear hz hn6
    cases z with
    | false =>
      go_wp2_with fail
      refine (specHelpersOf_any p _ x rows _ (H2.out.1.new H6.out.1)).mono ?_
      rintro e w7 ⟨u, out7, rfl, ho, hf, hq, hn7⟩
      obtain rfl := H3.out.1.unique hq
      have hsm := hq.small
      have hi7 := ho.isI (by unfold Mid; omega)
      obtain ⟨a7, l7, c7, rfl, HL7, hl7⟩ := hi7.shape
      have H7 := Lib.hid (And.intro hi7 hn7)
      clear ho hf hq hn7 hi7 hsm
      go_wp2_with fail
      refine (equalInts_any _ _ out out _ (H3.out.2.2.new (H6.out.2.1.trans H7.out.2)) H7.out.1).mono ?_
      rintro e w8 ⟨rfl, m8, rfl⟩
      rw [eqL_self]
      go_wp2_with fail
      go_ret
      exact ⟨rfl, H2.out.2.1.trans (H6.out.1.trans (H7.out.2.trans (New.drewN _ _)))⟩
    | true =>
      have hv := H6.out.2.2.1 rfl
      have hl0 : 0 < l := by rw [HLL.out]; exact hv.few.1
      have hl4 : l ≤ 4 := by rw [HLL.out]; exact hv.few.2.1
      obtain ⟨b0, o0, u0, rfl, ck0, hu0⟩ := (H2.out.1.new H6.out.1).at hl0
      rw [Nat.add_zero] at ck0
      obtain ⟨a0, m, c0, rfl, HM, _⟩ := hu0.shape
      have hm7 : m ≤ 7 := by rw [HM.out]; exact hv.few.2.2.2.1
      have HVV := Lib.hid hv
      clear hv hu0
      by_cases hx0 : x < 0
      · go_wp2_with fail
        refine (specHelpersOf_any p _ x rows _ (H2.out.1.new H6.out.1)).mono ?_
        rintro e w7 ⟨u, out7, rfl, ho, hf, hq, hn7⟩
        obtain rfl := H3.out.1.unique hq
        have hsm := hq.small
        have hi7 := ho.isI (by unfold Mid; omega)
        obtain ⟨a7, l7, c7, rfl, HL7, hl7⟩ := hi7.shape
        have H7 := Lib.hid (And.intro hi7 hn7)
        clear ho hf hq hn7 hi7 hsm
        go_wp2_with fail
        refine (equalInts_any _ _ out out _ (H3.out.2.2.new (H6.out.2.1.trans H7.out.2)) H7.out.1).mono ?_
        rintro e w8 ⟨rfl, m8, rfl⟩
        rw [eqL_self]
        go_wp2_with fail
        go_ret
        exact ⟨rfl, H2.out.2.1.trans (H6.out.1.trans (H7.out.2.trans (New.drewN _ _)))⟩
      · by_cases hxm : x ≥ (m : Int)
        · go_wp2_with fail
          refine (specHelpersOf_any p _ x rows _ (H2.out.1.new H6.out.1)).mono ?_
          rintro e w7 ⟨u, out7, rfl, ho, hf, hq, hn7⟩
          obtain rfl := H3.out.1.unique hq
          have hsm := hq.small
          have hi7 := ho.isI (by unfold Mid; omega)
          obtain ⟨a7, l7, c7, rfl, HL7, hl7⟩ := hi7.shape
          have H7 := Lib.hid (And.intro hi7 hn7)
          clear ho hf hq hn7 hi7 hsm
          go_wp2_with fail
          refine (equalInts_any _ _ out out _ (H3.out.2.2.new (H6.out.2.1.trans H7.out.2)) H7.out.1).mono ?_
          rintro e w8 ⟨rfl, m8, rfl⟩
          rw [eqL_self]
          go_wp2_with fail
          go_ret
          exact ⟨rfl, H2.out.2.1.trans (H6.out.1.trans (H7.out.2.trans (New.drewN _ _)))⟩
        · obtain ⟨i, rfl⟩ : ∃ i : Nat, x = i := ⟨x.toNat, by omega⟩
          have him : i < m := by omega
          obtain ⟨q, rfl, hq⟩ := prime_nat (vtB_pr HVV.out.1)
          haveI := hq.nz
          have hc := HVV.out.code
          have hle : LeastTo (2 ^ (gr rows 0).length) (HelpQ q rows (gr rows 0).length i) (((gr rows 0).length + 1) * 2 ^ (gr rows 0).length) out := by
            obtain ⟨q', i3, e', hl⟩ := H3.out.1.1 ⟨HVV.out, inB_iff.2 (by rw [← HM.out]; omega)⟩
            obtain rfl : q = q' := by omega
            rw [Int.toNat_natCast] at hl
            exact hl
          have hb3 := hle.bounds (Nat.two_pow_pos _)
          have h3l : l3 ≤ 1024 := by
            have h1 := pow_lt hc.tab.n7
            have h2 := Nat.mul_le_mul (show (gr rows 0).length + 1 ≤ 8 by have := hc.tab.n7; omega) h1
            have := hb3.1
            rw [HL3.out]; omega
          have hcm : (gr rows 0).length = m := HM.out.symm
          have hset := hle.sets hc.tab.n7
          rw [hcm] at hset hc
          have HV := Lib.hid (And.intro HVV.out (And.intro hc (And.intro hset him)))
          have HCM := Lib.hid hcm
          have b6 := Lib.hid (H2.out.2.2.new H6.out.1)
          have CK0 := Lib.hid ck0
          have hd1 : decide ((m : Int) ≤ (i : Int)) = false := by simp; omega
          have hd2 : decide ((i : Int) < 0) = false := by simp
          have hd3 : decide ((i : Int) ≥ (m : Int)) = false := by simp; omega
          have hd4 : decide (m ≤ i) = false := by simp; omega
          clear hle hb3 hset hc hcm hq
          go_wp2_with fail
          clear q0 q1 ck0 hd1 hd2 hd3 hd4
          -- the goal: the column i
          go_loopw [6, 7] (fun t6 t7 wr => ∃ k : Nat, t7 = .int .i64 k ∧ k ≤ l ∧ Hid (Own wr 3 t6 ((tab k (fun r => gi (gr rows r) i)).map (Value.int .i64)) ∧ From w6.heap.size t6 ∧ New w6 wr)) (fun _ t7 _ => l - (intOf t7).toNat)
          case atStart => exact ⟨0, rfl, Nat.zero_le _, Own.empty _ _, From.new _ _ _, New.alloc _ _⟩
          case round =>
            obtain ⟨k, rfl, hk, HG⟩ := hrel
            obtain ⟨wo, hwo⟩ : ∃ wo : World, wo = wr := ⟨_, rfl⟩
            rw [← hwo] at HG
            rw [← hwo]
            clear hwo
            obtain ⟨q0, q1, _, _⟩ := (b6.out.new HG.out.2.2).cells
            have htl : ((tab k (fun r => gi (gr rows r) i)).map (Value.int .i64)).length ≤ 6 := by rw [List.length_map, tab_length]; omega
            have htl' : ((tab k (fun r => gi (gr rows r) i)).map (Value.int .i64)).length + 1 ≤ 1099511627776 := by omega
            obtain ⟨a7, l7, c7, rfl, _, _, _⟩ := HG.out.1.opened (by unfold Mid; omega)
            by_cases hkm : k < l
            · obtain ⟨b, o, u, hbe, ck, hu⟩ := (H2.out.1.new (H6.out.1.trans HG.out.2.2)).at hkm
              obtain ⟨rfl, rfl⟩ : b0 = b ∧ o0 = o := by simpa using hbe
              obtain ⟨au, nu, cu, rfl, HNU, hnu⟩ := hu.shape
              have hin : i < nu := by rw [HNU.out, (HV.out.2.1.tab.good k (by rw [← HLL.out]; exact hkm)).1]; exact him
              obtain ⟨bx, ox, rfl, cx⟩ := hu.at hin
              obtain ⟨y, hy⟩ : ∃ y, y = gi (gr rows k) i := ⟨_, rfl⟩
              rw [← hy] at cx
              have HY := Lib.hid hy
              clear hy hu hbe
              go_wp2_with (at_builtin; refine wpList_app1 rfl _ _ _ rfl tyInt _ HG.out.1 rfl _ _ rfl rfl rfl htl' ?_; intro v2 w7 k1 k2 k3; have K2 := Lib.hid (And.intro k1 (And.intro k2 k3)); clear k1 k2 k3)
              go_roundw
              case rel =>
                obtain ⟨k1, k2, k3⟩ := K2.out
                exact ⟨k + 1, by go_num, by omega, by rw [tab_succ, List.map_append]; rw [HY.out] at k1; exact k1, (fun g hg => by
                  rcases k3 g hg with x | x
                  · exact HG.out.2.1 g x
                  · exact Nat.le_trans HG.out.2.2.size x), HG.out.2.2.then k2 (fun i hi => HG.out.2.1 i hi)⟩
              case measure => simp [intOf]; omega
            · obtain rfl : k = l := by omega
              have hgo : Own wo 3 (.slice a7 l7 c7) ((colN rows i).map (Value.int .i64)) := by have h := HG.out.1; rw [HLL.out] at h; exact h
              have hcl : (colN rows i).length = k := by rw [HLL.out]; exact tab_length _ _
              have HGO := Lib.hid (And.intro hgo (And.intro HG.out.2.2 hcl))
              clear hgo hcl HG htl htl'
              go_wp2_with fail
              clear q0 q1
              go_loopw [8] (fun t8 wr => ∃ j : Nat, t8 = .int .i64 j ∧ j ≤ l3 ∧ Hid (New wo wr)) (fun t8 _ => l3 - (intOf t8).toNat)
              case atStart => exact ⟨0, rfl, Nat.zero_le _, Chg.refl _ _⟩
              case round =>
                obtain ⟨j, rfl, hj, HNO⟩ := hrel
                obtain ⟨wy, hwy⟩ : ∃ wy : World, wy = wr := ⟨_, rfl⟩
                rw [← hwy] at HNO
                rw [← hwy]
                clear hwy
                have HN := Lib.hid (HGO.out.2.1.trans HNO.out)
                by_cases hjl : j < l3
                · obtain ⟨s, hs, hs2, hsq⟩ := HV.out.2.2.1.1 j (by rw [← HL3.out]; exact hjl)
                  have hs128 : s < 128 := by have := pow_lt hm7; omega
                  have hw6 := wt_less m (by omega) s hs128 i him hsq.1
                  have HS := Lib.hid (And.intro hs (And.intro hs2 hsq))
                  clear hs hs2 hsq
                  go_wp2_with fail
                  go_loopw [9, 10] (fun t9 t10 wr => ∃ (d : Nat) (vs : List Value), t10 = .int .i64 d ∧ d ≤ m ∧ Hid (OwnR wr 28 3 t9 vs (colsTo rows s d) ∧ FromR wy.heap.size t9 vs (colsTo rows s d) ∧ New wy wr)) (fun _ t10 _ => m - (intOf t10).toNat)
                  case atStart => exact ⟨0, [], rfl, Nat.zero_le _, ⟨Own.empty _ _, rfl, fun i hi => by simp [colsTo] at hi, fun i j hi => by simp [colsTo] at hi⟩, ⟨From.new _ _ _, fun i hi => by simp [colsTo] at hi⟩, New.alloc _ _⟩
                  case round =>
                    obtain ⟨d, vs, rfl, hd, HC⟩ := hrel
                    obtain ⟨wp, hwp⟩ : ∃ wp : World, wp = wr := ⟨_, rfl⟩
                    rw [← hwp] at HC
                    rw [← hwp]
                    clear hwp
                    obtain ⟨q0, q1, _, _⟩ := (b6.out.new (HN.out.trans HC.out.2.2)).cells
                    have ck0 := (HN.out.trans HC.out.2.2).cellNew CK0.out
                    have hcl7 : (colsTo rows s d).length ≤ 7 := by rw [colsTo_length]; have := wtN_le s d; omega
                    have hvl : vs.length ≤ 7 := by rw [HC.out.1.len]; exact hcl7
                    have hvl' : vs.length + 1 ≤ 1099511627776 := by omega
                    obtain ⟨a9, l9, c9, rfl, HL9, hl9, _⟩ := HC.out.1.outer.opened (by unfold Mid; omega)
                    by_cases hdm : d < m
                    · obtain ⟨bo, oo, rfl, co⟩ := (H3.out.2.2.new (H6.out.2.1.trans (HN.out.trans HC.out.2.2))).at hjl
                      rw [HS.out.1] at co
                      rcases bit01 s d with hb | hb
                      · have HB := Lib.hid hb
                        clear hb
                        go_wp2_with (go_at_call 37; refine (lawBit_any _ _ _ (by omega) (by omega)).mono ?_; rintro e w' ⟨rfl, rfl⟩; rw [HB.out])
                        go_roundw
                        case rel => exact ⟨d + 1, vs, by go_num, by omega, by rw [colsTo, if_neg (by rw [HB.out]; omega)]; exact HC.out⟩
                        case measure => simp [intOf]; omega
                      · have HB := Lib.hid hb
                        clear hb
                        go_wp2_with (go_at_call 37; refine (lawBit_any _ _ _ (by omega) (by omega)).mono ?_; rintro e w' ⟨rfl, rfl⟩; rw [HB.out])
                        clear q0 q1 ck0 co
                        go_loopw [11, 12] (fun t11 t12 wr => ∃ r : Nat, t12 = .int .i64 r ∧ r ≤ k ∧ Hid (Own wr 3 t11 ((tab r (fun z => gi (gr rows z) d)).map (Value.int .i64)) ∧ From wp.heap.size t11 ∧ New wp wr)) (fun _ t12 _ => k - (intOf t12).toNat)
                        case atStart => exact ⟨0, rfl, Nat.zero_le _, Own.empty _ _, From.new _ _ _, New.alloc _ _⟩
                        case round =>
                          obtain ⟨r, rfl, hr, HQ⟩ := hrel
                          obtain ⟨wq, hwq⟩ : ∃ wq : World, wq = wr := ⟨_, rfl⟩
                          rw [← hwq] at HQ
                          rw [← hwq]
                          clear hwq
                          have hrl : ((tab r (fun z => gi (gr rows z) d)).map (Value.int .i64)).length ≤ 6 := by rw [List.length_map, tab_length]; omega
                          have hrl' : ((tab r (fun z => gi (gr rows z) d)).map (Value.int .i64)).length + 1 ≤ 1099511627776 := by omega
                          obtain ⟨a11, l11, c11, rfl, _, _, _⟩ := HQ.out.1.opened (by unfold Mid; omega)
                          obtain ⟨q0, q1, _, _⟩ := (b6.out.new (HN.out.trans (HC.out.2.2.trans HQ.out.2.2))).cells
                          by_cases hrk : r < k
                          · obtain ⟨b, o, u, hbe, ck, hu⟩ := (H2.out.1.new (H6.out.1.trans (HN.out.trans (HC.out.2.2.trans HQ.out.2.2)))).at hrk
                            obtain ⟨rfl, rfl⟩ : b0 = b ∧ o0 = o := by simpa using hbe
                            obtain ⟨au, nu, cu, rfl, HNU, hnu⟩ := hu.shape
                            have hin : d < nu := by rw [HNU.out, (HV.out.2.1.tab.good r (by rw [← HLL.out]; exact hrk)).1]; exact hdm
                            obtain ⟨bx, ox, rfl, cx⟩ := hu.at hin
                            obtain ⟨y, hy⟩ : ∃ y, y = gi (gr rows r) d := ⟨_, rfl⟩
                            rw [← hy] at cx
                            have HY := Lib.hid hy
                            clear hy hu hbe
                            go_wp2_with (at_builtin; refine wpList_app1 rfl _ _ _ rfl tyInt _ HQ.out.1 rfl _ _ rfl rfl rfl hrl' ?_; intro v2 w7 k1 k2 k3; have K2 := Lib.hid (And.intro k1 (And.intro k2 k3)); clear k1 k2 k3)
                            go_roundw
                            case rel =>
                              obtain ⟨k1, k2, k3⟩ := K2.out
                              exact ⟨r + 1, by go_num, by omega, by rw [tab_succ, List.map_append]; rw [HY.out] at k1; exact k1, (fun g hg => by
                                rcases k3 g hg with x | x
                                · exact HQ.out.2.1 g x
                                · exact Nat.le_trans HQ.out.2.2.size x), HQ.out.2.2.then k2 (fun i hi => HQ.out.2.1 i hi)⟩
                            case measure => simp [intOf]; omega
                          · obtain rfl : r = k := by omega
                            clear q0 q1
                            obtain ⟨q0, q1, _, _⟩ := (b6.out.new (HN.out.trans (HC.out.2.2.trans HQ.out.2.2))).cells
                            go_wp2_with (at_builtin; refine wpList_app1 rfl _ _ _ rfl tyRow _ (HC.out.1.outer.new HQ.out.2.2) rfl _ _ rfl rfl rfl hvl' ?_; intro v2 w7 k1 k2 k3; have K2 := Lib.hid (And.intro k1 (And.intro k2 k3)); clear k1 k2 k3)
                            go_roundw
                            case rel =>
                              obtain ⟨m1, m2, m3⟩ := K2.out
                              have hk1 : Own wq 3 (.slice a11 l11 c11) ((colN rows d).map (Value.int .i64)) := by have h := HQ.out.1; rw [HLL.out] at h; exact h
                              obtain ⟨p1, p2, p3⟩ := OwnR.push HC.out.1 HC.out.2.1 HC.out.2.2.size HQ.out.2.2 hk1 HQ.out.2.1 m1 m2 m3
                              refine ⟨d + 1, vs ++ [Value.slice a11 l11 c11], by go_num, by omega, ?_, ?_, ?_⟩
                              · rw [colsTo, if_pos HB.out]; exact p1
                              · rw [colsTo, if_pos HB.out]; exact p2
                              · exact HC.out.2.2.then p3 (fun g hg => HC.out.2.1.1 g hg)
                            case measure => simp [intOf]; omega
                    · obtain rfl : d = m := by omega
                      have hri := HC.out.1.isR (by unfold Mid; omega) (fun t ht => by rw [(cols_good HV.out.2.1.tab.good d (Nat.le_refl _) t ht).1]; rw [← HLL.out]; unfold Mid; omega)
                      have hgi := (HGO.out.1.new (HNO.out.trans HC.out.2.2)).isI (by rw [HGO.out.2.2]; unfold Mid; omega)
                      have HI := Lib.hid (And.intro hgi (And.intro hri (HNO.out.trans HC.out.2.2)))
                      have hl9w : l9 = wtN s d := by rw [HL9.out, HC.out.1.len, colsTo_length]
                      have HLW := Lib.hid hl9w
                      clear hgi hri hl9w hvl hvl' hcl7
                      go_upto_region 26 with fail
                      clear q0 q1 ck0
                      obtain ⟨q0, q1, _, _⟩ := (b6.out.new (HN.out.trans HC.out.2.2)).cells
                      go_wp2_with fail
                      refine (lawHeavy_any _ _ _ HI.out.1 (by rw [HGO.out.2.2]; omega)).mono ?_
                      rintro e w' ⟨rfl, rfl⟩
                      obtain ⟨hv0, hhv⟩ : ∃ c, c = hvTo (colN rows i) (colN rows i).length := ⟨_, rfl⟩
                      rw [← hhv]
                      have HHV := Lib.hid hhv
                      clear hhv
                      go_upto_if 125 with fail
                      go_cut [13] (fun t13 wx => t13 = .bool true ∧ Hid (New wp wx))
                      case first =>
                        by_cases hl90 : l9 = 0
                        · subst hl90
                          have hz := (help_none (i := i) HV.out.2.1.tab.good HV.out.2.2.2 HLW.out.symm).1 HS.out.2.2.2
                          obtain rfl : hv0 = 0 := by rw [HHV.out]; exact (hvTo_zero _ _).2 hz
                          go_wp2_with fail
                          go_meet
                          exact ⟨rfl, Chg.refl _ _⟩
                        · have hpos : (0 : Int) < (l9 : Int) := by omega
                          have hto := cols_tab HV.out.2.1.tab (s := s) (by rw [← HLW.out]; omega) hw6
                          have hgoal : GoalC q (colsTo rows s d) (colN rows i) := hto.goal (colN_good HV.out.2.1.tab.good HV.out.2.2.2)
                          have HGC := Lib.hid hgoal
                          clear hto hgoal
                          go_wp2_with fail
                          refine (implSolveRows_any q _ _ (colsTo rows s d) (colN rows i) _ HI.out.2.1 HI.out.1).mono ?_
                          rintro e w8 ⟨u8, x8, ok8, rfl, ho8, hf8, hq8, hn8⟩
                          obtain ⟨q', i3, e', hsb⟩ := hq8.yes HGC.out
                          obtain rfl : q = q' := by omega
                          obtain rfl : ok8 = true := hsb.help.2 HS.out.2.2.2
                          obtain ⟨a8, c8, rfl, _, _⟩ := ho8.shape'
                          have H8 := Lib.hid hn8
                          clear ho8 hf8 hq8 hsb hn8 e'
                          go_wp2_with fail
                          go_meet
                          exact ⟨rfl, H8.out⟩
                      case rest =>
                        obtain ⟨rfl, HX⟩ := hcut
                        obtain ⟨wz, hwz⟩ : ∃ wz : World, wz = wc := ⟨_, rfl⟩
                        rw [← hwz] at HX
                        rw [← hwz]
                        clear hwz q0 q1
                        have HNZ := Lib.hid (HI.out.2.2.trans HX.out)
                        have HNW := Lib.hid (HGO.out.2.1.trans HNZ.out)
                        obtain ⟨bo, oo, rfl, co⟩ := (H3.out.2.2.new (H6.out.2.1.trans HNW.out)).at hjl
                        rw [HS.out.1] at co
                        have hb0 := HS.out.2.2.1
                        have HB := Lib.hid hb0
                        clear hb0
                        go_wp2_with (go_at_call 37; refine (lawBit_any _ _ _ (by omega) (by omega)).mono ?_; rintro e w' ⟨rfl, rfl⟩; rw [HB.out])
                        clear co
                        go_loopw [14] (fun t14 wr => ∃ e : Nat, t14 = .int .i64 e ∧ e ≤ j ∧ Hid (New wo wr)) (fun t14 _ => j - (intOf t14).toNat)
                        case atStart => exact ⟨0, rfl, Nat.zero_le _, HNZ.out⟩
                        case round =>
                          obtain ⟨e, rfl, he, HE⟩ := hrel
                          obtain ⟨wq, hwq⟩ : ∃ wq : World, wq = wr := ⟨_, rfl⟩
                          rw [← hwq] at HE
                          rw [← hwq]
                          clear hwq
                          by_cases hej : e < j
                          · have hel : e < l3 := by omega
                            obtain ⟨b1, o1, e1, cj⟩ := (H3.out.2.2.new (H6.out.2.1.trans (HGO.out.2.1.trans HE.out))).at hjl
                            simp only [Option.some.injEq, Addr.mk.injEq, and_true] at e1
                            obtain ⟨rfl, rfl⟩ := e1
                            obtain ⟨b1, o1, e1, ce⟩ := (H3.out.2.2.new (H6.out.2.1.trans (HGO.out.2.1.trans HE.out))).at hel
                            simp only [Option.some.injEq, Addr.mk.injEq, and_true] at e1
                            obtain ⟨rfl, rfl⟩ := e1
                            obtain ⟨t, ht, ht2, _⟩ := HV.out.2.2.1.1 e (by rw [← HL3.out]; exact hel)
                            have hn1 := HV.out.2.2.1.2.1 j e (by rw [← HL3.out]; exact hjl) (by rw [← HL3.out]; exact hel) (by omega)
                            have hn2 := HV.out.2.2.1.2.1 e j (by rw [← HL3.out]; exact hel) (by rw [← HL3.out]; exact hjl) (by omega)
                            rw [HS.out.1, ht, Int.toNat_natCast, Int.toNat_natCast] at hn1 hn2
                            rw [HS.out.1] at cj
                            rw [ht] at ce
                            have ht128 : t < 128 := by have := pow_lt hm7; omega
                            have hand := and_i64 s hs128 t ht128
                            obtain ⟨y, hy⟩ : ∃ y, y = s &&& t := ⟨_, rfl⟩
                            have hy1 : y ≠ s := fun h => hn1 (by rw [← h, hy]; show s &&& t &&& t = s &&& t; rw [Nat.and_assoc, Nat.and_self])
                            have hy2 : y ≠ t := fun h => hn2 (by show t &&& s = t; rw [Nat.and_comm, ← hy]; exact h)
                            rw [← hy] at hand
                            have hd1 : ((y : Int) == (s : Int)) = false := by simp; omega
                            have hd2 : ((y : Int) == (t : Int)) = false := by simp; omega
                            clear ht ht2 hn1 hn2 hy hy1 hy2
                            go_upto_region 34 with fail
                            refine wp_region_held_drew (S := fun w' => New wq w') (by kernel_rfl) (New.drew _) (fun hW => ?_)
                            refine held_take 0 (some 150) rfl rfl (by kernel_rfl) (by kernel_rfl) (by kernel_rfl) (fun _ _ _ h => h) rfl hW (v := ?_) (fun w' hS => by skip; go_simp; try with_reducible rfl) ?_
                            simp only [Act.put, List.setIfInBounds_toArray, List.set_cons_zero, List.set_cons_succ]
                            refine held_take 1 (some 151) rfl rfl (by kernel_rfl) (by kernel_rfl) (by kernel_rfl) (fun _ _ _ h => h) rfl hW (v := ?_) (fun w' hS => by skip; go_simp; try with_reducible rfl) ?_
                            simp only [Act.put, List.setIfInBounds_toArray, List.set_cons_zero, List.set_cons_succ]
                            refine held_take 2 (some 152) rfl rfl (by kernel_rfl) (by kernel_rfl) (by kernel_rfl) (fun _ _ _ h => h) rfl hW (v := ?_) (fun w' hS => by skip; go_simp; try with_reducible rfl) ?_
                            simp only [Act.put, List.setIfInBounds_toArray, List.set_cons_zero, List.set_cons_succ]
                            refine held_take 3 (some 153) rfl rfl (by kernel_rfl) (by kernel_rfl) (by kernel_rfl) (fun _ _ _ h => h) rfl hW (v := .int .i64 s) (fun w' hS => by have cj := hS.cellNew cj; have ce := hS.cellNew ce; go_simp; try with_reducible rfl) ?_
                            simp only [Act.put, List.setIfInBounds_toArray, List.set_cons_zero, List.set_cons_succ]
                            refine held_take 4 (some 154) rfl rfl (by kernel_rfl) (by kernel_rfl) (by kernel_rfl) (fun _ _ _ h => h) rfl hW (v := ?_) (fun w' hS => by skip; go_simp; try with_reducible rfl) ?_
                            simp only [Act.put, List.setIfInBounds_toArray, List.set_cons_zero, List.set_cons_succ]
                            refine held_take 5 (some 155) rfl rfl (by kernel_rfl) (by kernel_rfl) (by kernel_rfl) (fun _ _ _ h => h) rfl hW (v := ?_) (fun w' hS => by skip; go_simp; try with_reducible rfl) ?_
                            simp only [Act.put, List.setIfInBounds_toArray, List.set_cons_zero, List.set_cons_succ]
                            refine held_take 6 (some 156) rfl rfl (by kernel_rfl) (by kernel_rfl) (by kernel_rfl) (fun _ _ _ h => h) rfl hW (v := ?_) (fun w' hS => by skip; go_simp; try with_reducible rfl) ?_
                            simp only [Act.put, List.setIfInBounds_toArray, List.set_cons_zero, List.set_cons_succ]
                            refine held_take 7 (some 157) rfl rfl (by kernel_rfl) (by kernel_rfl) (by kernel_rfl) (fun _ _ _ h => h) rfl hW (v := .int .i64 t) (fun w' hS => by have cj := hS.cellNew cj; have ce := hS.cellNew ce; go_simp; try with_reducible rfl) ?_
                            simp only [Act.put, List.setIfInBounds_toArray, List.set_cons_zero, List.set_cons_succ]
                            refine held_take 8 (some 158) rfl rfl (by kernel_rfl) (by kernel_rfl) (by kernel_rfl) (fun _ _ _ h => h) rfl hW (v := .int .i64 y) (fun w' hS => by skip; go_simp; try with_reducible rfl) ?_
                            simp only [Act.put, List.setIfInBounds_toArray, List.set_cons_zero, List.set_cons_succ]
                            refine held_take 9 (some 159) rfl rfl (by kernel_rfl) (by kernel_rfl) (by kernel_rfl) (fun _ _ _ h => h) rfl hW (v := ?_) (fun w' hS => by skip; go_simp; try with_reducible rfl) ?_
                            simp only [Act.put, List.setIfInBounds_toArray, List.set_cons_zero, List.set_cons_succ]
                            refine held_take 10 (some 160) rfl rfl (by kernel_rfl) (by kernel_rfl) (by kernel_rfl) (fun _ _ _ h => h) rfl hW (v := ?_) (fun w' hS => by skip; go_simp; try with_reducible rfl) ?_
                            simp only [Act.put, List.setIfInBounds_toArray, List.set_cons_zero, List.set_cons_succ]
                            refine held_take 11 (some 161) rfl rfl (by kernel_rfl) (by kernel_rfl) (by kernel_rfl) (fun _ _ _ h => h) rfl hW (v := ?_) (fun w' hS => by skip; go_simp; try with_reducible rfl) ?_
                            simp only [Act.put, List.setIfInBounds_toArray, List.set_cons_zero, List.set_cons_succ]
                            refine held_take 12 (some 162) rfl rfl (by kernel_rfl) (by kernel_rfl) (by kernel_rfl) (fun _ _ _ h => h) rfl hW (v := .int .i64 t) (fun w' hS => by have cj := hS.cellNew cj; have ce := hS.cellNew ce; go_simp; try with_reducible rfl) ?_
                            simp only [Act.put, List.setIfInBounds_toArray, List.set_cons_zero, List.set_cons_succ]
                            refine held_take 13 (some 163) rfl rfl (by kernel_rfl) (by kernel_rfl) (by kernel_rfl) (fun _ _ _ h => h) rfl hW (v := .bool false) (fun w' hS => by skip; go_simp; try with_reducible rfl) ?_
                            simp only [Act.put, List.setIfInBounds_toArray, List.set_cons_zero, List.set_cons_succ]
                            refine held_take 14 (some 164) rfl rfl (by kernel_rfl) (by kernel_rfl) (by kernel_rfl) (fun _ _ _ h => h) rfl hW (v := ?_) (fun w' hS => by skip; go_simp; try with_reducible rfl) ?_
                            simp only [Act.put, List.setIfInBounds_toArray, List.set_cons_zero, List.set_cons_succ]
                            refine held_take 15 (some 165) rfl rfl (by kernel_rfl) (by kernel_rfl) (by kernel_rfl) (fun _ _ _ h => h) rfl hW (v := ?_) (fun w' hS => by skip; go_simp; try with_reducible rfl) ?_
                            simp only [Act.put, List.setIfInBounds_toArray, List.set_cons_zero, List.set_cons_succ]
                            refine held_take 16 (some 166) rfl rfl (by kernel_rfl) (by kernel_rfl) (by kernel_rfl) (fun _ _ _ h => h) rfl hW (v := ?_) (fun w' hS => by skip; go_simp; try with_reducible rfl) ?_
                            simp only [Act.put, List.setIfInBounds_toArray, List.set_cons_zero, List.set_cons_succ]
                            refine held_take 17 (some 167) rfl rfl (by kernel_rfl) (by kernel_rfl) (by kernel_rfl) (fun _ _ _ h => h) rfl hW (v := ?_) (fun w' hS => by skip; go_simp; try with_reducible rfl) ?_
                            simp only [Act.put, List.setIfInBounds_toArray, List.set_cons_zero, List.set_cons_succ]
                            refine held_take 18 (some 168) rfl rfl (by kernel_rfl) (by kernel_rfl) (by kernel_rfl) (fun _ _ _ h => h) rfl hW (v := .int .i64 s) (fun w' hS => by have cj := hS.cellNew cj; have ce := hS.cellNew ce; go_simp; try with_reducible rfl) ?_
                            simp only [Act.put, List.setIfInBounds_toArray, List.set_cons_zero, List.set_cons_succ]
                            refine held_take 19 (some 169) rfl rfl (by kernel_rfl) (by kernel_rfl) (by kernel_rfl) (fun _ _ _ h => h) rfl hW (v := ?_) (fun w' hS => by skip; go_simp; try with_reducible rfl) ?_
                            simp only [Act.put, List.setIfInBounds_toArray, List.set_cons_zero, List.set_cons_succ]
                            refine held_take 20 (some 170) rfl rfl (by kernel_rfl) (by kernel_rfl) (by kernel_rfl) (fun _ _ _ h => h) rfl hW (v := ?_) (fun w' hS => by skip; go_simp; try with_reducible rfl) ?_
                            simp only [Act.put, List.setIfInBounds_toArray, List.set_cons_zero, List.set_cons_succ]
                            refine held_take 21 (some 171) rfl rfl (by kernel_rfl) (by kernel_rfl) (by kernel_rfl) (fun _ _ _ h => h) rfl hW (v := ?_) (fun w' hS => by skip; go_simp; try with_reducible rfl) ?_
                            simp only [Act.put, List.setIfInBounds_toArray, List.set_cons_zero, List.set_cons_succ]
                            refine held_take 22 (some 172) rfl rfl (by kernel_rfl) (by kernel_rfl) (by kernel_rfl) (fun _ _ _ h => h) rfl hW (v := .int .i64 t) (fun w' hS => by have cj := hS.cellNew cj; have ce := hS.cellNew ce; go_simp; try with_reducible rfl) ?_
                            simp only [Act.put, List.setIfInBounds_toArray, List.set_cons_zero, List.set_cons_succ]
                            refine held_take 23 (some 173) rfl rfl (by kernel_rfl) (by kernel_rfl) (by kernel_rfl) (fun _ _ _ h => h) rfl hW (v := .int .i64 y) (fun w' hS => by skip; go_simp; try with_reducible rfl) ?_
                            simp only [Act.put, List.setIfInBounds_toArray, List.set_cons_zero, List.set_cons_succ]
                            refine held_take 24 (some 174) rfl rfl (by kernel_rfl) (by kernel_rfl) (by kernel_rfl) (fun _ _ _ h => h) rfl hW (v := ?_) (fun w' hS => by skip; go_simp; try with_reducible rfl) ?_
                            simp only [Act.put, List.setIfInBounds_toArray, List.set_cons_zero, List.set_cons_succ]
                            refine held_take 25 (some 175) rfl rfl (by kernel_rfl) (by kernel_rfl) (by kernel_rfl) (fun _ _ _ h => h) rfl hW (v := ?_) (fun w' hS => by skip; go_simp; try with_reducible rfl) ?_
                            simp only [Act.put, List.setIfInBounds_toArray, List.set_cons_zero, List.set_cons_succ]
                            refine held_take 26 (some 176) rfl rfl (by kernel_rfl) (by kernel_rfl) (by kernel_rfl) (fun _ _ _ h => h) rfl hW (v := ?_) (fun w' hS => by skip; go_simp; try with_reducible rfl) ?_
                            simp only [Act.put, List.setIfInBounds_toArray, List.set_cons_zero, List.set_cons_succ]
                            refine held_take 27 (some 177) rfl rfl (by kernel_rfl) (by kernel_rfl) (by kernel_rfl) (fun _ _ _ h => h) rfl hW (v := .int .i64 s) (fun w' hS => by have cj := hS.cellNew cj; have ce := hS.cellNew ce; go_simp; try with_reducible rfl) ?_
                            simp only [Act.put, List.setIfInBounds_toArray, List.set_cons_zero, List.set_cons_succ]
                            refine held_take 28 (some 178) rfl rfl (by kernel_rfl) (by kernel_rfl) (by kernel_rfl) (fun _ _ _ h => h) rfl hW (v := .bool false) (fun w' hS => by skip; go_simp; try with_reducible rfl) ?_
                            simp only [Act.put, List.setIfInBounds_toArray, List.set_cons_zero, List.set_cons_succ]
                            refine held_take 29 (some 179) rfl rfl (by kernel_rfl) (by kernel_rfl) (by kernel_rfl) (fun _ _ _ h => h) rfl hW (v := ?_) (fun w' hS => by skip; go_simp; try with_reducible rfl) ?_
                            simp only [Act.put, List.setIfInBounds_toArray, List.set_cons_zero, List.set_cons_succ]
                            refine wpAnyH_done (by kernel_rfl) ?_ _
                            go_wp2_with fail
                            go_roundw
                            case rel => exact ⟨e + 1, by go_num, by omega, HE.out.trans hW⟩
                            case measure => simp [intOf]; omega
                          · obtain rfl : e = j := by omega
                            go_wp2_with fail
                            go_roundw
                            case rel => exact ⟨e + 1, by go_num, by omega, HE.out⟩
                            case measure => simp [intOf]; omega
                · obtain rfl : l3 = j := by omega
                  obtain ⟨q0, q1, _, _⟩ := (b6.out.new HN.out).cells
                  go_upto_region 36 with fail
                  clear q0 q1
                  refine wp_region_held_drew (S := fun w' => New wy w') (by kernel_rfl) (New.drew _) (fun hY => ?_)
                  refine held_take 0 (some 180) rfl rfl (by kernel_rfl) (by kernel_rfl) (by kernel_rfl) (fun _ _ _ h => h) rfl hY (v := ?_) (fun w' hS => by skip; go_simp; try with_reducible rfl) ?_
                  simp only [Act.put, List.setIfInBounds_toArray, List.set_cons_zero, List.set_cons_succ]
                  refine held_take 1 (some 181) rfl rfl (by kernel_rfl) (by kernel_rfl) (by kernel_rfl) (fun _ _ _ h => h) rfl hY (v := ?_) (fun w' hS => by skip; go_simp; try with_reducible rfl) ?_
                  simp only [Act.put, List.setIfInBounds_toArray, List.set_cons_zero, List.set_cons_succ]
                  refine held_take 2 (some 182) rfl rfl (by kernel_rfl) (by kernel_rfl) (by kernel_rfl) (fun _ _ _ h => h) rfl hY (v := ?_) (fun w' hS => by skip; go_simp; try with_reducible rfl) ?_
                  simp only [Act.put, List.setIfInBounds_toArray, List.set_cons_zero, List.set_cons_succ]
                  refine held_take 3 (some 183) rfl rfl (by kernel_rfl) (by kernel_rfl) (by kernel_rfl) (fun _ _ _ h => h) rfl hY (v := .agg #[.int .i64 q, .slice (some ⟨b0, o0, none⟩) k c]) (fun w' hS => by obtain ⟨q0, q1, _, _⟩ := (b6.out.new (HN.out.trans hS)).cells; go_simp; try with_reducible rfl) ?_
                  simp only [Act.put, List.setIfInBounds_toArray, List.set_cons_zero, List.set_cons_succ]
                  refine held_take 4 (some 184) rfl rfl (by kernel_rfl) (by kernel_rfl) (by kernel_rfl) (fun _ _ _ h => h) rfl hY (v := ?_) (fun w' hS => by skip; go_simp; try with_reducible rfl) ?_
                  simp only [Act.put, List.setIfInBounds_toArray, List.set_cons_zero, List.set_cons_succ]
                  refine held_only 5 (by kernel_rfl) rfl rfl (fun K1 hK1 => ?_)
                  go_simp
                  refine (lawPower_any i _ (by omega)).mono ?_
                  rintro e w' ⟨rfl, rfl⟩
                  have hnp := Chg.refl (fun _ => False) wy.drew
                  refine hK1.out _ _ (hY.trans hnp) (fun hY1 => ?_)
                  clear hK1 K1
                  refine held_only 6 (by kernel_rfl) rfl rfl (fun K2 hK2 => ?_)
                  go_simp
                  refine (implIsMendable_any q _ ((2 ^ i : Nat) : Int) rows _ (H2.out.1.new (H6.out.1.trans (HN.out.trans hY1)))).mono ?_
                  rintro e w9 ⟨y, rfl, hy, hn9⟩
                  have hyd : (decide ((0 : Int) < (l3 : Int)) == y) = true := by
                    rw [beq_iff_eq, Bool.eq_iff_iff, hy, decide_eq_true_eq, IsMendC.place HV.out.1 (by rw [HCM.out]; exact HV.out.2.2.2), ← HV.out.2.1.help_mend HV.out.2.2.2]
                    have e3 := HL3.out
                    constructor
                    · intro h
                      obtain ⟨s, h1, h2, h3⟩ := HV.out.2.2.1.1 0 (by omega)
                      exact ⟨s, h2, h3⟩
                    · rintro ⟨s, h1, h2⟩
                      obtain ⟨j, hj, _⟩ := HV.out.2.2.1.2.2 s h1 h2
                      omega
                  clear hy
                  refine hK2.out _ _ (hY1.trans hn9) (fun hY2 => ?_)
                  clear hK2 K2
                  refine held_take 7 (some 187) rfl rfl (by kernel_rfl) (by kernel_rfl) (by kernel_rfl) (fun _ _ _ h => h) rfl hY2 (v := ?_) (fun w' hS => by skip; go_simp; try with_reducible rfl) ?_
                  simp only [Act.put, List.setIfInBounds_toArray, List.set_cons_zero, List.set_cons_succ]
                  refine held_take 8 (some 2) rfl rfl (by kernel_rfl) (by kernel_rfl) (by kernel_rfl) (fun _ _ _ h => h) rfl hY2 (v := ?_) (fun w' hS => by skip; go_simp; try with_reducible rfl) ?_
                  simp only [Act.put, List.setIfInBounds_toArray, List.set_cons_zero, List.set_cons_succ]
                  refine wpAnyH_done (by kernel_rfl) ?_ _
                  go_wp2_with fail
                  go_ret
                  exact ⟨ret_bool (by first | exact hyd | simpa using hyd), H2.out.2.1.trans (H6.out.1.trans (HN.out.trans hY2))⟩
end Go.Proofs.Ytgpmkbenjlhfhaa
