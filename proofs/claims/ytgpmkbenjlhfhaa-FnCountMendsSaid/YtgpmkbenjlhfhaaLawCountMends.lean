/- The walk of FnCountMends. -/
import Derived.Test.YtgpmkbenjlhfhaaCodF
import Derived.Test.YtgpmkbenjlhfhaaDrawM
import Derived.Test.YtgpmkbenjlhfhaaMends
import Derived.Test.YtgpmkbenjlhfhaaRank
import Derived.Test.YtgpmkbenjlhfhaaLawF
namespace Go.Proofs.Ytgpmkbenjlhfhaa
open Go.RowKit Mat
set_option linter.unusedVariables false

set_option maxRecDepth 100000 in
set_option maxHeartbeats 8000000 in
theorem lawCountMends_any (v : Value) (n : Nat) (w : World) (hb : RawB w v n) :
    Calls Try.prog 13 #[v] w fun e w' => e = .returned (.bool true) ∧ New w w' := by
  obtain ⟨ao, cap, rfl, hcap, hmx, -⟩ := id hb
  unfold maxLen at hmx
  have HB := Lib.hid hb
  clear hb
  by_cases hbig : 1048576 < n
  · go_enter Try.func13, Try.ntmps13
    go_wp2_with fail
    go_ret
    exact ⟨rfl, Chg.refl _ _⟩
  · go_enter Try.func13, Try.ntmps13
    go_wp2_with fail
    refine (drawCountMends_any _ _ _ HB.out).mono ?_
    rintro e w1 ⟨a, l, c, vs, rows, p, am, lm, cm, kn, rfl, ho, hk, hp, hom, hlm, hn1⟩
    have hr := ho.isR hk.mid.1 hk.mid.2
    have hrm := hom.isI (by unfold Mid; omega)
    go_upto_region 4 with fail
    have b2 := Blk2.alloc w1 (.int .i64 p) (.slice a l c) 25
    have n2 := New.alloc w1 (.cells #[.int .i64 p, .slice a l c] 25)
    obtain ⟨w2, hw2⟩ : ∃ w2, w2 = w1.alloc (.cells #[.int .i64 p, .slice a l c] 25) := ⟨_, rfl⟩
    rw [← hw2] at b2 n2
    rw [← hw2]
    clear hw2
    have HLL := Lib.hid hr.len
    have HLM := Lib.hid hrm.len
    have H2 := Lib.hid (And.intro (hr.new n2) (And.intro (hn1.trans n2) (And.intro b2 (hrm.new n2))))
    obtain ⟨q0, q1, _, _⟩ := b2.cells
    clear hr hn1 b2 n2 hk ho hom hrm
    go_wp2_with fail
    refine (implCountMends_any p _ _ rows kn _ H2.out.1 H2.out.2.2.2).mono ?_
    rintro e w3 ⟨t, rfl, hq, hn3⟩
    have H3 := Lib.hid (And.intro hq hn3)
    replace q0 := hn3.cellNew q0
    replace q1 := hn3.cellNew q1
    clear hq hn3
    go_wp2_with fail
    refine (specCountMends_any p _ _ rows kn _ (H2.out.1.new H3.out.2) (H2.out.2.2.2.new H3.out.2)).mono ?_
    rintro e w4 ⟨t', rfl, hq, hn4⟩
    obtain rfl : t = t' := H3.out.1.unique hq
    have H4 := Lib.hid (H3.out.2.trans hn4)
    replace q0 := hn4.cellNew q0
    replace q1 := hn4.cellNew q1
    clear hq hn4
    by_cases hv : LostC p rows kn
    · obtain ⟨q, rfl, hq⟩ := prime_nat (vtB_pr hv.1.1)
      haveI := hq.nz
      obtain rfl := H3.out.1.1 hv
      have hc := hv.1.code
      obtain ⟨cnt, hcnt⟩ : ∃ cnt, cnt = cntOf q rows kn := ⟨_, rfl⟩
      rw [← hcnt]
      have HV := Lib.hid (And.intro hv (And.intro hc hcnt))
      have hn7 := hc.tab.n7
      have hlm7 : lm ≤ 7 := by rw [HLM.out, hv.2.1]; exact hn7
      have hl0 : 0 < l := by rw [HLL.out]; exact hc.tab.r1
      have hl4 : l ≤ 4 := by rw [HLL.out]; exact hc.r4
      have b4 := Lib.hid (H2.out.2.2.1.new H4.out)
      clear hv hc hcnt hq hn7
      by_cases hc0 : cnt = 0
      · subst hc0
        go_wp2_with fail
        go_ret
        exact ⟨rfl, H2.out.2.1.trans H4.out⟩
      · have hd0 : ((cnt : Int) == 0) = false := by simp; omega
        have HCNT : Hid (cnt = q ^ (rows.length - rkN q (gr rows 0).length rows (leftN kn (gr rows 0).length))) := by
          show cnt = _
          have h1 := fit_count HV.out.2.1.tab.pr HV.out.2.1.tab.good (kn := kn) (fun i hi => HV.out.1.2.2 i (by rw [HV.out.1.2.1]; exact hi))
          have h2 := HV.out.2.2
          unfold cntOf at h2
          rw [Int.toNat_natCast] at h2
          rw [← h2] at h1
          rcases h1 with h1 | h1
          · exact absurd h1 hc0
          · exact h1
        obtain ⟨S, hS⟩ : ∃ S, S = leftN kn (gr rows 0).length := ⟨_, rfl⟩
        rw [← hS] at HCNT
        have hbit : ∀ k, k < (gr rows 0).length → (bitN S k = 1 ↔ 0 ≤ gi kn k) := fun k hk => by
          rw [hS, leftN_bit]
          by_cases c : 0 ≤ gi kn k
          · rw [if_pos ⟨hk, c⟩]; exact ⟨fun _ => c, fun _ => rfl⟩
          · rw [if_neg (fun h => c h.2)]; exact ⟨fun h => by omega, fun h => absurd h c⟩
        have HS := Lib.hid (And.intro hS hbit)
        clear hS hbit hc0
        go_wp2_with fail
        clear q0 q1 hd0
        go_loopw [6, 7] (fun t6 t7 wr => ∃ (i : Nat) (vs : List Value), t7 = .int .i64 i ∧ i ≤ l ∧ Hid (OwnR wr 28 3 t6 vs ((rows.take i).map (sel S)) ∧ FromR w4.heap.size t6 vs ((rows.take i).map (sel S)) ∧ New w4 wr)) (fun _ t7 _ => l - (intOf t7).toNat)
        case atStart => exact ⟨0, [], rfl, Nat.zero_le _, ⟨Own.empty _ _, rfl, fun i hi => by simp at hi, fun i j hi => by simp at hi⟩, ⟨From.new _ _ _, fun i hi => by simp at hi⟩, New.alloc _ _⟩
        case round =>
          obtain ⟨i, vs, rfl, hi, HO⟩ := hrel
          obtain ⟨wo, hwo⟩ : ∃ wo : World, wo = wr := ⟨_, rfl⟩
          rw [← hwo] at HO
          rw [← hwo]
          clear hwo
          obtain ⟨q0, q1, _, _⟩ := (b4.out.new HO.out.2.2).cells
          have hrl : ((rows.take i).map (sel S)).length = i := by rw [List.length_map, List.length_take, ← HLL.out]; omega
          have hvl : vs.length ≤ 7 := by rw [HO.out.1.len, hrl]; omega
          have hvl' : vs.length + 1 ≤ 1099511627776 := by omega
          obtain ⟨a6, l6, c6, rfl, HL6, hl6, _⟩ := HO.out.1.outer.opened (by unfold Mid; omega)
          have HRL := Lib.hid hrl
          clear hrl
          by_cases hil : i < l
          · go_wp2_with fail
            clear q0 q1
            go_loopw [8, 9] (fun t8 t9 wr => ∃ k : Nat, t9 = .int .i64 k ∧ k ≤ lm ∧ Hid (Own wr 3 t8 ((selTo S (gr rows i) k).map (Value.int .i64)) ∧ From wo.heap.size t8 ∧ New wo wr)) (fun _ t9 _ => lm - (intOf t9).toNat)
            case atStart => exact ⟨0, rfl, Nat.zero_le _, Own.empty _ _, From.new _ _ _, New.alloc _ _⟩
            case round =>
              obtain ⟨k, rfl, hk, HQ⟩ := hrel
              obtain ⟨wq, hwq⟩ : ∃ wq : World, wq = wr := ⟨_, rfl⟩
              rw [← hwq] at HQ
              rw [← hwq]
              clear hwq
              have hsl : ((selTo S (gr rows i) k).map (Value.int .i64)).length ≤ 7 := by rw [List.length_map, selTo_length]; have := wtN_le S k; omega
              have hsl' : ((selTo S (gr rows i) k).map (Value.int .i64)).length + 1 ≤ 1099511627776 := by omega
              obtain ⟨a8, l8, c8, rfl, _, _, _⟩ := HQ.out.1.opened (by unfold Mid; omega)
              have hnq := HO.out.2.2.trans HQ.out.2.2
              obtain ⟨q0, q1, _, _⟩ := (b4.out.new hnq).cells
              by_cases hkm : k < lm
              · obtain ⟨bk, ok, rfl, ckk⟩ := (H2.out.2.2.2.new (H4.out.trans hnq)).at hkm
                have hkn : k < (gr rows 0).length := by have := HV.out.1.2.1; have := HLM.out; omega
                by_cases hpos : 0 ≤ gi kn k
                · have hb1 := (HS.out.2 k hkn).2 hpos
                  obtain ⟨z, hz⟩ : ∃ z, z = gi kn k := ⟨_, rfl⟩
                  rw [← hz] at ckk hpos
                  obtain ⟨b, o, u, rfl, ck, hu⟩ := (H2.out.1.new (H4.out.trans hnq)).at hil
                  obtain ⟨au, nu, cu, rfl, HNU, hnu⟩ := hu.shape
                  have hin : k < nu := by rw [HNU.out, (HV.out.2.1.tab.good i (by rw [← HLL.out]; exact hil)).1]; exact hkn
                  obtain ⟨bx, ox, rfl, cx⟩ := hu.at hin
                  obtain ⟨y, hy⟩ : ∃ y, y = gi (gr rows i) k := ⟨_, rfl⟩
                  rw [← hy] at cx
                  have HY := Lib.hid (And.intro hy hb1)
                  have hge : decide (z ≥ 0) = true := by simp; omega
                  clear hy hz hu hb1 hnq
                  go_wp2_with (at_builtin; refine wpList_app1 rfl _ _ _ rfl tyInt _ HQ.out.1 rfl _ _ rfl rfl rfl hsl' ?_; intro v2 w7 k1 k2 k3; have K2 := Lib.hid (And.intro k1 (And.intro k2 k3)); clear k1 k2 k3)
                  go_roundw
                  case rel =>
                    obtain ⟨k1, k2, k3⟩ := K2.out
                    exact ⟨k + 1, by go_num, by omega, by rw [selTo, if_pos HY.out.2, List.map_append]; rw [HY.out.1] at k1; exact k1, (fun g hg => by
                      rcases k3 g hg with x | x
                      · exact HQ.out.2.1 g x
                      · exact Nat.le_trans HQ.out.2.2.size x), HQ.out.2.2.then k2 (fun i hi => HQ.out.2.1 i hi)⟩
                  case measure => simp [intOf]; omega
                · have hb1 : ¬ bitN S k = 1 := fun h => hpos ((HS.out.2 k hkn).1 h)
                  obtain ⟨z, hz⟩ : ∃ z, z = gi kn k := ⟨_, rfl⟩
                  rw [← hz] at ckk hpos
                  have HY := Lib.hid hb1
                  clear hz hb1 hnq
                  go_wp2_with fail
                  go_roundw
                  case rel => exact ⟨k + 1, by go_num, by omega, by rw [selTo, if_neg HY.out]; exact HQ.out⟩
                  case measure => simp [intOf]; omega
              · obtain rfl : k = lm := by omega
                clear q0 q1
                obtain ⟨q0, q1, _, _⟩ := (b4.out.new hnq).cells
                have HNQ := Lib.hid hnq
                clear hnq
                go_wp2_with (at_builtin; refine wpList_app1 rfl _ _ _ rfl tyRow _ (HO.out.1.outer.new HQ.out.2.2) rfl _ _ rfl rfl rfl hvl' ?_; intro v2 w7 k1 k2 k3; have K2 := Lib.hid (And.intro k1 (And.intro k2 k3)); clear k1 k2 k3)
                go_roundw
                case rel =>
                  obtain ⟨m1, m2, m3⟩ := K2.out
                  have hir : i < rows.length := by rw [← HLL.out]; exact hil
                  have hk1 : Own wq 3 (.slice a8 l8 c8) ((sel S (gr rows i)).map (Value.int .i64)) := by
                    have h := HQ.out.1
                    unfold sel
                    rw [(HV.out.2.1.tab.good i hir).1, ← HV.out.1.2.1, ← HLM.out]; exact h
                  obtain ⟨p1, p2, p3⟩ := OwnR.push HO.out.1 HO.out.2.1 HO.out.2.2.size HQ.out.2.2 hk1 HQ.out.2.1 m1 m2 m3
                  have et : (rows.take (i + 1)).map (sel S) = (rows.take i).map (sel S) ++ [sel S (gr rows i)] := by rw [take_succ_gr hir, List.map_append]; rfl
                  exact ⟨i + 1, vs ++ [Value.slice a8 l8 c8], by go_num, by omega, by rw [et]; exact p1, by rw [et]; exact p2, HO.out.2.2.then p3 (fun g hg => HO.out.2.1.1 g hg)⟩
                case measure => simp [intOf]; omega
          · obtain rfl : l = i := by omega
            have htk : rows.take l = rows := by rw [HLL.out]; exact List.take_length
            have hg := selRows_good S HV.out.2.1.tab.good
            have hisr : IsR wo (.slice a6 l6 c6) (rows.map (sel S)) := by
              have h := HO.out.1
              rw [htk] at h
              exact h.isR (by rw [List.length_map, ← HLL.out]; unfold Mid; omega) (fun j hj => by rw [(hg j hj).1]; have := wtN_le S (gr rows 0).length; have := HV.out.2.1.tab.n7; unfold Mid; omega)
            have h06 : 0 < l6 := by rw [HL6.out, HO.out.1.len, HRL.out]; exact hl0
            obtain ⟨b6, o6, u6, rfl, ck6, hu6⟩ := hisr.at h06
            rw [Nat.add_zero] at ck6
            obtain ⟨a7, l7, c7, rfl, HL7, _⟩ := hu6.shape
            have hl7 : l7 = wtN S (gr rows 0).length := by rw [HL7.out]; exact (hg 0 (by rw [List.length_map, ← HLL.out]; exact hl0)).1
            obtain ⟨b0, o0, u0, rfl, ck0, hu0⟩ := (H2.out.1.new (H4.out.trans HO.out.2.2)).at hl0
            by_cases hl70 : l7 = 0
            · subst hl70
              have hr0 : rkN q (gr rows 0).length rows S = 0 := by have := rk_wt HV.out.2.1.tab.pr HV.out.2.1.tab.good S; omega
              have hpw : q ^ l = cnt := by rw [HCNT.out, hr0, HLL.out]; rfl
              have HPW := Lib.hid hpw
              have hq27 := HV.out.2.1.tab.pr.pos
              clear hl7 hr0 hpw hu6 hisr hg htk hu0
              go_wp2_with (go_at_call 60; refine (times_any q l _ hq27 hl4).mono ?_; rintro e w' ⟨rfl, rfl⟩; rw [HPW.out])
              go_ret
              exact ⟨ret_bool (by simp), H2.out.2.1.trans (H4.out.trans HO.out.2.2)⟩
            · have hd7 : ((l7 : Int) == 0) = false := by simp; omega
              have hn1 := HV.out.2.1.tab.n7
              have hwl := wtN_le S (gr rows 0).length
              have hcols : (gr (rows.map (sel S)) 0).length = wtN S (gr rows 0).length := (hg 0 (by rw [List.length_map, ← HLL.out]; exact hl0)).1
              have htab : TabOk q (wtN S (gr rows 0).length) (rows.map (sel S)) := ⟨HV.out.2.1.tab.pr, hg, hcols, by omega, by omega, by rw [List.length_map, ← HLL.out]; omega, by rw [List.length_map, ← HLL.out]; omega⟩
              have HM := Lib.hid (And.intro hisr (And.intro htab.vtB hcols))
              clear hl7 hl70 hu6 hisr hg htk hu0 htab hn1 hwl hcols
              go_upto_region 22 with fail
              clear q0 q1 ck6 ck0
              obtain ⟨i, hii⟩ : ∃ i, i = l := ⟨_, rfl⟩
              subst hii
              refine wp_region_held_drew (S := fun w' => New wo w') (by kernel_rfl) (New.drew _) (fun hY => ?_)
              refine held_take 0 (some 85) rfl rfl (by kernel_rfl) (by kernel_rfl) (by kernel_rfl) (fun _ _ _ h => h) rfl hY (v := ?_) (fun w' hS => by skip; go_simp; try with_reducible rfl) ?_
              simp only [Act.put, List.setIfInBounds_toArray, List.set_cons_zero, List.set_cons_succ]
              refine held_take 1 (some 86) rfl rfl (by kernel_rfl) (by kernel_rfl) (by kernel_rfl) (fun _ _ _ h => h) rfl hY (v := ?_) (fun w' hS => by skip; go_simp; try with_reducible rfl) ?_
              simp only [Act.put, List.setIfInBounds_toArray, List.set_cons_zero, List.set_cons_succ]
              refine held_take 2 (some 87) rfl rfl (by kernel_rfl) (by kernel_rfl) (by kernel_rfl) (fun _ _ _ h => h) rfl hY (v := .int .i64 q) (fun w' hS => by obtain ⟨q0, q1, _, _⟩ := (b4.out.new (HO.out.2.2.trans hS)).cells; go_simp; try with_reducible rfl) ?_
              simp only [Act.put, List.setIfInBounds_toArray, List.set_cons_zero, List.set_cons_succ]
              refine held_take 3 (some 88) rfl rfl (by kernel_rfl) (by kernel_rfl) (by kernel_rfl) (fun _ _ _ h => h) rfl hY (v := ?_) (fun w' hS => by skip; go_simp; try with_reducible rfl) ?_
              simp only [Act.put, List.setIfInBounds_toArray, List.set_cons_zero, List.set_cons_succ]
              refine held_take 4 (some 89) rfl rfl (by kernel_rfl) (by kernel_rfl) (by kernel_rfl) (fun _ _ _ h => h) rfl hY (v := .slice (some ⟨b0, o0, none⟩) i c) (fun w' hS => by obtain ⟨q0, q1, _, _⟩ := (b4.out.new (HO.out.2.2.trans hS)).cells; go_simp; try with_reducible rfl) ?_
              simp only [Act.put, List.setIfInBounds_toArray, List.set_cons_zero, List.set_cons_succ]
              refine held_take 5 (some 90) rfl rfl (by kernel_rfl) (by kernel_rfl) (by kernel_rfl) (fun _ _ _ h => h) rfl hY (v := ?_) (fun w' hS => by skip; go_simp; try with_reducible rfl) ?_
              simp only [Act.put, List.setIfInBounds_toArray, List.set_cons_zero, List.set_cons_succ]
              refine held_take 6 (some 91) rfl rfl (by kernel_rfl) (by kernel_rfl) (by kernel_rfl) (fun _ _ _ h => h) rfl hY (v := ?_) (fun w' hS => by skip; go_simp; try with_reducible rfl) ?_
              simp only [Act.put, List.setIfInBounds_toArray, List.set_cons_zero, List.set_cons_succ]
              refine held_take 7 (some 92) rfl rfl (by kernel_rfl) (by kernel_rfl) (by kernel_rfl) (fun _ _ _ h => h) rfl hY (v := .int .i64 q) (fun w' hS => by obtain ⟨q0, q1, _, _⟩ := (b4.out.new (HO.out.2.2.trans hS)).cells; go_simp; try with_reducible rfl) ?_
              simp only [Act.put, List.setIfInBounds_toArray, List.set_cons_zero, List.set_cons_succ]
              refine held_take 8 (some 93) rfl rfl (by kernel_rfl) (by kernel_rfl) (by kernel_rfl) (fun _ _ _ h => h) rfl hY (v := ?_) (fun w' hS => by skip; go_simp; try with_reducible rfl) ?_
              simp only [Act.put, List.setIfInBounds_toArray, List.set_cons_zero, List.set_cons_succ]
              refine held_only 9 (by kernel_rfl) rfl rfl (fun K1 hK1 => ?_)
              go_simp
              refine (implRankOf_any q _ (rows.map (sel S)) _ (HM.out.1.new (New.drew _))).mono ?_
              rintro e w7 ⟨⟨r, rfl, -, hrk⟩, hn7⟩
              obtain ⟨o2, ⟨q2, i2, e2, _, hr2⟩, hr⟩ := hrk HM.out.2.1
              obtain rfl : q = q2 := by omega
              rw [HM.out.2.2] at hr2
              have hrr := red_rk HV.out.2.1.tab.pr HV.out.2.1.tab.good hr2
              obtain rfl : r = (rkN q (gr rows 0).length rows S : Nat) := by rw [hr, hrr]
              obtain ⟨R, hR⟩ : ∃ R, R = rkN q (gr rows 0).length rows S := ⟨_, rfl⟩
              have hRle := rk_le HV.out.2.1.tab.pr (gr rows 0).length rows S
              rw [← hR, ← HLL.out] at hRle
              rw [← hR]
              have HR := Lib.hid hR
              have hsub : IntKind.i64.wrap ((i : Int) - (R : Int)) = ((i - R : Nat) : Int) := by rw [IntWalk.i64_in _ (by omega)]; omega
              clear hrk e2 hr2 hr hrr hR
              refine hK1.out _ _ (hY.trans hn7) (fun hY1 => ?_)
              clear hK1 K1
              refine held_take 10 (some 95) rfl rfl (by kernel_rfl) (by kernel_rfl) (by kernel_rfl) (fun _ _ _ h => h) rfl hY1 (v := ?_) (fun w' hS => by skip; go_simp; try with_reducible rfl) ?_
              simp only [Act.put, List.setIfInBounds_toArray, List.set_cons_zero, List.set_cons_succ]
              refine held_only 11 (by kernel_rfl) rfl rfl (fun K2 hK2 => ?_)
              go_simp
              first | rw [hsub] | skip
              refine (times_any q (i - R) _ (by have := HV.out.2.1.tab.pr.pos; omega) (by omega)).mono ?_
              rintro e w' ⟨rfl, rfl⟩
              have hpw : q ^ (i - R) = cnt := by rw [HCNT.out, HR.out, HLL.out]
              rw [hpw]
              have hnt := Chg.refl (fun _ => False) w7
              refine hK2.out _ _ (hY1.trans hnt) (fun hY2 => ?_)
              clear hK2 K2
              refine held_take 12 (some 97) rfl rfl (by kernel_rfl) (by kernel_rfl) (by kernel_rfl) (fun _ _ _ h => h) rfl hY2 (v := ?_) (fun w' hS => by skip; go_simp; try with_reducible rfl) ?_
              simp only [Act.put, List.setIfInBounds_toArray, List.set_cons_zero, List.set_cons_succ]
              refine held_take 13 (some 2) rfl rfl (by kernel_rfl) (by kernel_rfl) (by kernel_rfl) (fun _ _ _ h => h) rfl hY2 (v := ?_) (fun w' hS => by skip; go_simp; try with_reducible rfl) ?_
              simp only [Act.put, List.setIfInBounds_toArray, List.set_cons_zero, List.set_cons_succ]
              refine wpAnyH_done (by kernel_rfl) ?_ _
              go_wp2_with fail
              go_ret
              exact ⟨ret_bool (by simp), H2.out.2.1.trans (H4.out.trans (HO.out.2.2.trans hY2))⟩
    · obtain rfl : t = -1 := H3.out.1.2 hv
      clear hv
      go_wp2_with fail
      refine (specCountMends_any p _ _ rows kn _ (H2.out.1.new H4.out) (H2.out.2.2.2.new H4.out)).mono ?_
      rintro e w5 ⟨t', rfl, hq, hn5⟩
      obtain rfl : (-1 : Int) = t' := H3.out.1.unique hq
      have H5 := Lib.hid (H4.out.trans hn5)
      clear hq hn5
      go_wp2_with fail
      go_ret
      exact ⟨rfl, H2.out.2.1.trans H5.out⟩
end Go.Proofs.Ytgpmkbenjlhfhaa
