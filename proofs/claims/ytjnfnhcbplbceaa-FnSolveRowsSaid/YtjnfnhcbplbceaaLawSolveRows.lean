/- The walk of FnSolveRows. -/
import Derived.Test.YtjnfnhcbplbceaaTabLawM
import Derived.Test.YtjnfnhcbplbceaaSolveRowsS
import Derived.Test.YtjnfnhcbplbceaaRank
import Derived.Test.YtjnfnhcbplbceaaLawE
namespace Go.Proofs.Ytjnfnhcbplbceaa
open Go.RowKit Mat
set_option linter.unusedVariables false

theorem gr_one (x : List Int) : gr [x] 0 = x := rfl
/-- One row is a table just if its numbers are rests. -/
theorem vtB_one {p : Int} {rows : List (List Int)} {x : List Int} (hv : vtB p rows = true) (hl : x.length = (gr rows 0).length) : vtB p [x] = hasB p x := by
  have h := vtB_iff.1 hv
  rw [Bool.eq_iff_iff, vtB_iff, gr_one]
  constructor
  · intro h2
    exact hasB_iff.2 (fun i hi => (h2.2.2.2 0 (by simp)).2 i hi)
  · intro h2
    refine ⟨h.1, by simp, by rw [hl]; exact h.2.2.1, fun i hi => ?_⟩
    obtain rfl : i = 0 := by simp at hi; omega
    exact ⟨rfl, hasB_iff.1 h2⟩

set_option maxRecDepth 100000 in
set_option maxHeartbeats 8000000 in
theorem lawSolveRows_any (v : Value) (n : Nat) (w : World) (hb : RawB w v n) :
    Calls Try.prog 14 #[v] w fun e w' => e = .returned (.bool true) ∧ New w w' := by
  obtain ⟨ao, cap, rfl, hcap, hmx, -⟩ := id hb
  unfold maxLen at hmx
  have HB := Lib.hid hb
  clear hb
  by_cases hbig : 1048576 < n
  · go_enter Try.func14, Try.ntmps14
    go_wp2_with fail
    go_ret
    exact ⟨rfl, Chg.refl _ _⟩
  · go_enter Try.func14, Try.ntmps14
    go_wp2_with fail
    refine (drawSolveRows_any _ _ _ HB.out).mono ?_
    rintro e w1 ⟨p, u, g, rows, goal, rfl, hp, hr, hs, hg, hg1, hn1⟩
    have H1 := Lib.hid (And.intro hr (And.intro hg (And.intro hs hn1)))
    obtain ⟨ar, m, cr, rfl, HM, hm⟩ := hr.shape
    obtain ⟨ag, l, cg, rfl, HL, hl⟩ := hg.shape
    have hm100 : m ≤ 100 := by rw [HM.out]; exact hs.1
    have hl1 : l ≤ 1001 := by rw [HL.out]; exact hg1
    clear hr hs hn1 hg hg1
    go_wp2_with fail
    refine (implSolveRows_any p _ _ rows goal _ H1.out.1 H1.out.2.1).mono ?_
    rintro e w2 ⟨u2, out, ok, rfl, ho2, hf2, hq2, hn2⟩
    have hsm := hq2.len
    have hi2 := ho2.isI (by unfold Mid; omega)
    obtain ⟨a2, l2, c2, rfl, HL2, _⟩ := hi2.shape
    have hl26 : l2 ≤ 6 := by rw [HL2.out]; exact hsm
    have H2 := Lib.hid (And.intro hi2 (And.intro hq2 (H1.out.2.2.2.trans hn2)))
    have HR2 := Lib.hid (And.intro (H1.out.1.new hn2) (H1.out.2.1.new hn2))
    clear ho2 hf2 hq2 hn2 hi2 hsm
    go_wp2_with fail
    refine (specSolveRows_any p _ _ rows goal _ HR2.out.1 HR2.out.2).mono ?_
    rintro e w3 ⟨u3, out3, ok3, rfl, ho3, hf3, hq3, hn3⟩
    obtain ⟨rfl, rfl⟩ := hq3.unique H2.out.2.1
    have hsm := hq3.len
    have hi3 := ho3.isI (by unfold Mid; omega)
    obtain ⟨a3, l3, c3, rfl, HL3, _⟩ := hi3.shape
    have H3 := Lib.hid (And.intro hi3 hn3)
    clear ho3 hf3 hq3 hi3 hn3 hsm
    go_wp2_with fail
    refine (equalInts_any _ _ out3 out3 _ (H2.out.1.new H3.out.2) H3.out.1).mono ?_
    rintro e w4 ⟨rfl, m4, rfl⟩
    rw [eqL_self]
    have H4 := Lib.hid (H3.out.2.trans (New.drewN w3 m4))
    have HI3 := Lib.hid (H3.out.1.new (New.drewN w3 m4))
    obtain ⟨wz, hwz⟩ : ∃ wz : World, wz = w3.drewN m4 := ⟨_, rfl⟩
    rw [← hwz] at H4 HI3
    rw [← hwz]
    clear hwz
    go_wp2_with fail
    refine (implValidTable_any p _ rows _ (HR2.out.1.new H4.out)).mono ?_
    rintro e w5 ⟨rfl, hn5⟩
    have H5 := Lib.hid hn5
    clear hn5
    cases hv : vtB p rows with
    | false =>
      clear hv
      go_wp2_with fail
      refine (equalInts_any _ _ out3 out3 _ (H2.out.1.new (H4.out.trans H5.out)) (HI3.out.new H5.out)).mono ?_
      rintro e w9 ⟨rfl, m9, rfl⟩
      rw [eqL_self]
      go_wp2_with fail
      go_ret
      exact ⟨rfl, (H2.out.2.2.trans (H4.out.trans H5.out)).trans (New.drewN _ _)⟩
    | true =>
      have HV := Lib.hid hv
      have ht := vtB_iff.1 hv
      have hm1 : 0 < m := by rw [HM.out]; omega
      have hm6 : m ≤ 6 := by rw [HM.out]; omega
      obtain ⟨b0, o0, u0, rfl, ck0, hu0⟩ := (HR2.out.1.new (H4.out.trans H5.out)).at (i := 0) hm1
      rw [Nat.add_zero] at ck0
      obtain ⟨a0, c, cc0, rfl, HC, hc⟩ := hu0.shape
      have hc7 : c ≤ 7 := by rw [HC.out]; omega
      clear hv ht hu0
      by_cases hlc : l = c
      · subst hlc
        have hgl : goal.length = (gr rows 0).length := by rw [← HL.out, ← HC.out]
        have HGL := Lib.hid hgl
        have hone : IsR (w5.alloc (.cells #[.slice ag l cg] 31)) (.slice (some ⟨w5.heap.size, 0, none⟩) 1 1) [goal] := by
          refine isR_of_own (vs := [.slice ag l cg]) (Own.lit w5 31 [.slice ag l cg] (by simp)) rfl (by simp [Mid]) (fun i hi => ?_)
          obtain rfl : i = 0 := by simp at hi; omega
          exact (HR2.out.2.new (H4.out.trans H5.out)).new (New.alloc _ _)
        have HONE := Lib.hid hone
        clear hone hgl
        go_wp2_with fail
        refine (implValidTable_any p _ [goal] _ HONE.out).mono ?_
        rintro e w6 ⟨rfl, hn6⟩
        rw [vtB_one HV.out HGL.out]
        have H6 := Lib.hid (H5.out.trans ((New.alloc _ _).trans hn6))
        clear hn6
        cases hb : hasB p goal with
        | false =>
          clear hb
          go_wp2_with fail
          refine (equalInts_any _ _ out3 out3 _ (H2.out.1.new (H4.out.trans H6.out)) (HI3.out.new H6.out)).mono ?_
          rintro e w9 ⟨rfl, m9, rfl⟩
          rw [eqL_self]
          go_wp2_with fail
          go_ret
          exact ⟨rfl, (H2.out.2.2.trans (H4.out.trans H6.out)).trans (New.drewN _ _)⟩
        | true =>
          have HB2 := Lib.hid hb
          obtain ⟨q, rfl, hq⟩ := prime_nat (vtB_pr HV.out)
          haveI := hq.nz
          have HQ := Lib.hid hq
          have hq2 := hq.pos
          have hto := vtB_ok HV.out
          have hgc : GoalC q rows goal := ⟨HV.out, HGL.out, hb⟩
          have hgg : GoodRow q l goal := ⟨HL.out.symm, fun i hi => by have := hasB_iff.1 hb i (by rw [← HL.out]; exact hi); omega⟩
          obtain ⟨q', i2, e', hsb⟩ := H2.out.2.1.yes hgc
          obtain rfl : q' = q := by omega
          have hcc : l = (gr rows 0).length := HC.out
          rw [← hcc] at hto
          have HT := Lib.hid (And.intro hto (And.intro hgg hsb))
          clear hb hq hto hgc hgg hsb hcc
          go_wp2_with fail
          go_loopw [10] (fun t10 wr => ∃ k : Nat, t10 = .int .i64 k ∧ k ≤ l ∧ Hid (New wz wr)) (fun t10 _ => l - (intOf t10).toNat)
          case atStart => exact ⟨0, rfl, Nat.zero_le _, H6.out⟩
          case round =>
            obtain ⟨k, rfl, hk, HN⟩ := hrel
            obtain ⟨wy, hwy⟩ : ∃ wy : World, wy = wr := ⟨_, rfl⟩
            rw [← hwy] at HN
            rw [← hwy]
            clear hwy
            by_cases hgo : k < l ∧ ok3 = true
            · obtain ⟨hkl, rfl⟩ := hgo
              have hs := HT.out.2.2.1 rfl
              have hol : out3.length = rows.length := hs.1.1
              have hl2m : l2 = m := by rw [HL2.out, HM.out]; exact hol
              have hfr := fsum_range (q := q') (f := out3) (rows := rows) (k := k) hq2.2 rows.length (fun i hi => hs.1.2 i hi) (fun i hi => (HT.out.1.good i hi).2 k hkl)
              have hfg := fsum_goal HT.out.2.1 hkl (hs.2.1 k)
              have HF := Lib.hid (And.intro hs (And.intro hfr hfg))
              subst hl2m
              clear hs hol hfr hfg
              go_wp2_with fail
              go_loopw [11, 12] (fun t11 t12 wr => ∃ (i : Nat) (s : Int), t11 = .int .i64 s ∧ t12 = .int .i64 i ∧ i ≤ l2 ∧ 0 ≤ s ∧ s ≤ 36 * i ∧ Hid (s = fsum out3 rows k i) ∧ Hid (New wz wr)) (fun _ t12 _ => l2 - (intOf t12).toNat)
              case atStart => exact ⟨0, 0, rfl, rfl, Nat.zero_le _, Int.le_refl _, by simp, rfl, HN.out⟩
              case round =>
                clear HN
                obtain ⟨i, s, rfl, rfl, hi, hs0, hs1, HS, HN⟩ := hrel
                obtain ⟨wx, hwx⟩ : ∃ wx : World, wx = wr := ⟨_, rfl⟩
                rw [← hwx] at HN
                rw [← hwx]
                clear hwx
                by_cases him : i < l2
                · have hir : i < rows.length := by rw [← HM.out]; exact him
                  obtain ⟨bo, oo, rfl, co⟩ := (H2.out.1.new (H4.out.trans HN.out)).at him
                  obtain ⟨bR, oR, uR, hbe, cR, huR⟩ := (HR2.out.1.new (H4.out.trans HN.out)).at him
                  obtain ⟨rfl, rfl⟩ : b0 = bR ∧ o0 = oR := by simpa using hbe
                  obtain ⟨aR, nR, kR, rfl, HNR, _⟩ := huR.shape
                  have hkn : k < nR := by rw [HNR.out, (HT.out.1.good i hir).1]; exact hkl
                  obtain ⟨bx, ox, rfl, cx⟩ := huR.at hkn
                  obtain ⟨x, hx⟩ : ∃ x, x = gi out3 i := ⟨_, rfl⟩
                  obtain ⟨y, hy⟩ : ∃ y, y = gi (gr rows i) k := ⟨_, rfl⟩
                  rw [← hx] at co
                  rw [← hy] at cx
                  have hxr : 0 ≤ x ∧ x ≤ 6 := by rw [hx]; have := HF.out.1.1.2 i hir; omega
                  have hyr : 0 ≤ y ∧ y ≤ 6 := by rw [hy]; have := (HT.out.1.good i hir).2 k hkl; omega
                  have hm0 : 0 ≤ x * y := Int.mul_nonneg hxr.1 hyr.1
                  have hm36 : x * y ≤ 6 * 6 := Int.mul_le_mul hxr.2 hyr.2 hyr.1 (by omega)
                  have hstep : fsum out3 rows k (i + 1) = s + x * y := by rw [fsum, ← HS.out, hx, hy]
                  have HST := Lib.hid hstep
                  have hi36 : (36 : Int) * i ≤ 36 * 6 := by omega
                  have hw1 : IntKind.i64.wrap (x * y) = x * y := IntWalk.i64_in _ (by omega)
                  have hw2 : IntKind.i64.wrap (s + x * y) = s + x * y := IntWalk.i64_in _ (by omega)
                  clear hx hy hstep huR hbe
                  go_wp2_with fail
                  go_quiet (fail)
                  go_wp2_with fail
                  go_roundw
                  case rel => exact ⟨i + 1, s + x * y, by first | rfl | go_num, by go_num, by omega, by omega, by push_cast; omega, HST.out.symm, HN.out.trans (New.drewN _ _)⟩
                  case measure => simp [intOf]; omega
                · obtain rfl : i = l2 := by omega
                  have hgk := HF.out.2.2
                  rw [← HM.out, ← HS.out] at hgk
                  obtain ⟨bg, og, rfl, cg'⟩ := (HR2.out.2.new (H4.out.trans HN.out)).at hkl
                  rw [← hgk] at cg'
                  have hq0 : (2 : Int) ≤ q' := by omega
                  have hb0 := Int.emod_nonneg s (show (q' : Int) ≠ 0 by omega)
                  have hb1 := Int.emod_lt_of_pos s (show 0 < (q' : Int) by omega)
                  clear hgk
                  go_wp2_with fail
                  go_quiet (fail)
                  go_wp2_with fail
                  go_roundw
                  case rel => exact ⟨k + 1, by go_num, by omega, HN.out.trans (New.drewN _ _)⟩
                  case measure => simp [intOf]; omega
            · by_cases hkl : k < l
              · obtain rfl : ok3 = false := by
                  cases ok3 with
                  | true => exact absurd ⟨hkl, rfl⟩ hgo
                  | false => rfl
                obtain ⟨vs, hv1, hv2, hv3, hv4, hv5⟩ := (HR2.out.1.new (H4.out.trans HN.out)).srcs
                have HVS := Lib.hid (And.intro hv1 (And.intro hv2 (And.intro hv3 (And.intro hv4 hv5))))
                clear hv1 hv2 hv3 hv4 hv5
                go_wp2_with (first
                  | (at_builtin; refine wpList_app rfl (.tmp 113) (.tmp 114) _ rfl tyRow (Own.empty wy 31) rfl (some ⟨b0, o0, none⟩) m cr vs rfl HVS.out.1 HVS.out.2.1 (fun ad had j u hj => (New.alloc wy _).cellNew (HVS.out.2.2.1 ad had j u hj)) HVS.out.2.2.2.1 (by simp; omega) ?_; intro v7 w7 k1 k2 k3; have N7 := Lib.hid (New.then (New.alloc wy _) k2 (fun i hi => Nat.le_of_eq (Option.some.inj hi))); have K7 := Lib.hid (And.intro k1 k3); obtain ⟨a7, l7, c7, rfl, _, _, _⟩ := k1.opened (by rw [List.length_append, HVS.out.1]; unfold Mid; simp; omega); clear k1 k2 k3)
                  | (at_builtin; refine wpList_app1 rfl (.tmp 115) (.tmp 117) _ rfl tyRow w7 K7.out.1 rfl _ _ rfl rfl rfl (by rw [List.length_append, HVS.out.1]; simp; omega) ?_; intro v8 w8 k1 k2 k3; have N8 := Lib.hid (N7.out.then k2 (fun i hi => by
                      rcases K7.out.2 i hi with h | h
                      · simp [Value.ownBlock] at h; omega
                      · simp at h; omega)); have K8 := Lib.hid k1; obtain ⟨a8, l8, c8, rfl, HL8, _, _⟩ := k1.opened (by rw [List.length_append, List.length_append, HVS.out.1]; unfold Mid; simp; omega); clear k1 k2 k3))
                rotate_left
                · go_ret
                  exact ⟨rfl, H2.out.2.2.trans (H4.out.trans (HN.out.trans N8.out))⟩
                have hl8 : l8 = m + 1 := by rw [HL8.out, List.length_append, List.length_append, HVS.out.1]; simp
                have hmore : IsR w8 (.slice a8 l8 c8) (rows ++ [goal]) := by
                  have ho := K8.out
                  rw [List.nil_append] at ho
                  refine isR_of_own ho (by rw [List.length_append, List.length_append, HVS.out.1, HM.out]; rfl) (by rw [List.length_append, ← HM.out]; unfold Mid; simp; omega) (fun i hi => ?_)
                  by_cases e : i < m
                  · rw [gv_snoc_lt (by rw [HVS.out.1]; exact e), gr_snoc_lt (by rw [← HM.out]; exact e)]
                    exact (HVS.out.2.2.2.2 i e).new N8.out
                  · have hi2 : i = m := by rw [List.length_append, ← HM.out] at hi; simp at hi; omega
                    subst hi2
                    rw [gv_snoc_eq HVS.out.1.symm, gr_snoc_eq HM.out]
                    exact (HR2.out.2.new (H4.out.trans HN.out)).new N8.out
                have HL9 := Lib.hid hl8
                have HMORE := Lib.hid (And.intro hmore (HN.out.trans N8.out))
                clear hmore hl8
                refine (implRankOf_any q' _ (rows ++ [goal]) _ HMORE.out.1).mono ?_
                rintro e w10 ⟨⟨r, rfl, -, hrk⟩, hn10⟩
                have hvm : vtB q' (rows ++ [goal]) = true := by
                  have hg := HT.out.1.good
                  refine TabOk.vtB (n := l) ⟨HQ.out, fun i hi => ?_, ?_, hc7, HT.out.1.n1, by simp, by rw [List.length_append, ← HM.out]; have := HL9.out; simp; omega⟩
                  · by_cases e : i < rows.length
                    · rw [gr_snoc_lt e]; exact hg i e
                    · rw [gr_snoc_eq (by rw [List.length_append] at hi; simp at hi; omega)]; exact HT.out.2.1
                  · rw [gr_snoc_lt (by rw [← HM.out]; exact hm1)]; exact HT.out.1.cols
                obtain ⟨o2, ⟨q2, i2, e2, _, hr2⟩, hr⟩ := hrk hvm
                obtain rfl : q2 = q' := by omega
                rw [show (gr (rows ++ [goal]) 0).length = l by rw [gr_snoc_lt (by rw [← HM.out]; exact hm1)]; exact HT.out.1.cols] at hr2
                have H10 := Lib.hid (And.intro (HMORE.out.2.trans hn10) (And.intro hr2 hr))
                obtain ⟨r, rfl⟩ : ∃ n : Nat, r = n := ⟨o2.length, hr⟩
                clear hn10 hrk hvm e2 hr2 hr
                go_wp2_with fail
                refine (implRankOf_any q2 _ rows _ (HR2.out.1.new (H4.out.trans H10.out.1))).mono ?_
                rintro e w11 ⟨⟨r', rfl, -, hrk⟩, hn11⟩
                obtain ⟨o3, ⟨q3, i3, e3, _, hr3⟩, hr'⟩ := hrk HV.out
                obtain rfl : q3 = q2 := by omega
                rw [HT.out.1.cols] at hr3
                have hm3 := rank_more HQ.out hr3 H10.out.2.1
                have H11 := Lib.hid (H10.out.1.trans hn11)
                obtain ⟨r', rfl⟩ : ∃ n : Nat, r' = n := ⟨o3.length, hr'⟩
                have hok' : ∀ b : Bool, SolB q3 rows goal out3 b → (b == ((r : Int) == (r' : Int))) = true := fun b hb => by
                  have e1 : ((r : Int) = (r' : Int)) ↔ Span (mat q3 rows) rows.length (vec q3 goal) := by rw [← hm3, H10.out.2.2, hr']; omega
                  cases b with
                  | true =>
                    have := e1.2 (hb.1 rfl).spans
                    simp; omega
                  | false =>
                    have h2 := (hb.2 rfl).2
                    have h3 : ¬ ((r : Int) = (r' : Int)) := fun h => h2 (e1.1 h)
                    simp; omega
                have hok := hok' _ HT.out.2.2
                clear hok'
                have hd6 : decide ((6 : Int) < (l8 : Int)) = false := by simp; omega
                have HOK := Lib.hid hok
                clear hn11 hrk e3 hr3 hr' hm3 hok
                go_wp2_with fail
                go_ret
                exact ⟨ret_bool (by have h := HOK.out; first | exact h | (rw [hd6, Bool.false_or]; exact h) | simpa using h), H2.out.2.2.trans (H4.out.trans H11.out)⟩
              · obtain rfl : k = l := by omega
                obtain ⟨vs, hv1, hv2, hv3, hv4, hv5⟩ := (HR2.out.1.new (H4.out.trans HN.out)).srcs
                have HVS := Lib.hid (And.intro hv1 (And.intro hv2 (And.intro hv3 (And.intro hv4 hv5))))
                clear hv1 hv2 hv3 hv4 hv5
                go_wp2_with (first
                  | (at_builtin; refine wpList_app rfl (.tmp 113) (.tmp 114) _ rfl tyRow (Own.empty wy 31) rfl (some ⟨b0, o0, none⟩) m cr vs rfl HVS.out.1 HVS.out.2.1 (fun ad had j u hj => (New.alloc wy _).cellNew (HVS.out.2.2.1 ad had j u hj)) HVS.out.2.2.2.1 (by simp; omega) ?_; intro v7 w7 k1 k2 k3; have N7 := Lib.hid (New.then (New.alloc wy _) k2 (fun i hi => Nat.le_of_eq (Option.some.inj hi))); have K7 := Lib.hid (And.intro k1 k3); obtain ⟨a7, l7, c7, rfl, _, _, _⟩ := k1.opened (by rw [List.length_append, HVS.out.1]; unfold Mid; simp; omega); clear k1 k2 k3)
                  | (at_builtin; refine wpList_app1 rfl (.tmp 115) (.tmp 117) _ rfl tyRow w7 K7.out.1 rfl _ _ rfl rfl rfl (by rw [List.length_append, HVS.out.1]; simp; omega) ?_; intro v8 w8 k1 k2 k3; have N8 := Lib.hid (N7.out.then k2 (fun i hi => by
                      rcases K7.out.2 i hi with h | h
                      · simp [Value.ownBlock] at h; omega
                      · simp at h; omega)); have K8 := Lib.hid k1; obtain ⟨a8, l8, c8, rfl, HL8, _, _⟩ := k1.opened (by rw [List.length_append, List.length_append, HVS.out.1]; unfold Mid; simp; omega); clear k1 k2 k3))
                rotate_left
                · go_ret
                  exact ⟨rfl, H2.out.2.2.trans (H4.out.trans (HN.out.trans N8.out))⟩
                have hl8 : l8 = m + 1 := by rw [HL8.out, List.length_append, List.length_append, HVS.out.1]; simp
                have hmore : IsR w8 (.slice a8 l8 c8) (rows ++ [goal]) := by
                  have ho := K8.out
                  rw [List.nil_append] at ho
                  refine isR_of_own ho (by rw [List.length_append, List.length_append, HVS.out.1, HM.out]; rfl) (by rw [List.length_append, ← HM.out]; unfold Mid; simp; omega) (fun i hi => ?_)
                  by_cases e : i < m
                  · rw [gv_snoc_lt (by rw [HVS.out.1]; exact e), gr_snoc_lt (by rw [← HM.out]; exact e)]
                    exact (HVS.out.2.2.2.2 i e).new N8.out
                  · have hi2 : i = m := by rw [List.length_append, ← HM.out] at hi; simp at hi; omega
                    subst hi2
                    rw [gv_snoc_eq HVS.out.1.symm, gr_snoc_eq HM.out]
                    exact (HR2.out.2.new (H4.out.trans HN.out)).new N8.out
                have HL9 := Lib.hid hl8
                have HMORE := Lib.hid (And.intro hmore (HN.out.trans N8.out))
                clear hmore hl8
                refine (implRankOf_any q' _ (rows ++ [goal]) _ HMORE.out.1).mono ?_
                rintro e w10 ⟨⟨r, rfl, -, hrk⟩, hn10⟩
                have hvm : vtB q' (rows ++ [goal]) = true := by
                  have hg := HT.out.1.good
                  refine TabOk.vtB (n := k) ⟨HQ.out, fun i hi => ?_, ?_, hc7, HT.out.1.n1, by simp, by rw [List.length_append, ← HM.out]; have := HL9.out; simp; omega⟩
                  · by_cases e : i < rows.length
                    · rw [gr_snoc_lt e]; exact hg i e
                    · rw [gr_snoc_eq (by rw [List.length_append] at hi; simp at hi; omega)]; exact HT.out.2.1
                  · rw [gr_snoc_lt (by rw [← HM.out]; exact hm1)]; exact HT.out.1.cols
                obtain ⟨o2, ⟨q2, i2, e2, _, hr2⟩, hr⟩ := hrk hvm
                obtain rfl : q2 = q' := by omega
                rw [show (gr (rows ++ [goal]) 0).length = k by rw [gr_snoc_lt (by rw [← HM.out]; exact hm1)]; exact HT.out.1.cols] at hr2
                have H10 := Lib.hid (And.intro (HMORE.out.2.trans hn10) (And.intro hr2 hr))
                obtain ⟨r, rfl⟩ : ∃ n : Nat, r = n := ⟨o2.length, hr⟩
                clear hn10 hrk hvm e2 hr2 hr
                go_wp2_with fail
                refine (implRankOf_any q2 _ rows _ (HR2.out.1.new (H4.out.trans H10.out.1))).mono ?_
                rintro e w11 ⟨⟨r', rfl, -, hrk⟩, hn11⟩
                obtain ⟨o3, ⟨q3, i3, e3, _, hr3⟩, hr'⟩ := hrk HV.out
                obtain rfl : q3 = q2 := by omega
                rw [HT.out.1.cols] at hr3
                have hm3 := rank_more HQ.out hr3 H10.out.2.1
                have H11 := Lib.hid (H10.out.1.trans hn11)
                obtain ⟨r', rfl⟩ : ∃ n : Nat, r' = n := ⟨o3.length, hr'⟩
                have hok' : ∀ b : Bool, SolB q3 rows goal out3 b → (b == ((r : Int) == (r' : Int))) = true := fun b hb => by
                  have e1 : ((r : Int) = (r' : Int)) ↔ Span (mat q3 rows) rows.length (vec q3 goal) := by rw [← hm3, H10.out.2.2, hr']; omega
                  cases b with
                  | true =>
                    have := e1.2 (hb.1 rfl).spans
                    simp; omega
                  | false =>
                    have h2 := (hb.2 rfl).2
                    have h3 : ¬ ((r : Int) = (r' : Int)) := fun h => h2 (e1.1 h)
                    simp; omega
                have hok := hok' _ HT.out.2.2
                clear hok'
                have hd6 : decide ((6 : Int) < (l8 : Int)) = false := by simp; omega
                have HOK := Lib.hid hok
                clear hn11 hrk e3 hr3 hr' hm3 hok
                go_wp2_with fail
                go_ret
                exact ⟨ret_bool (by have h := HOK.out; first | exact h | (rw [hd6, Bool.false_or]; exact h) | simpa using h), H2.out.2.2.trans (H4.out.trans H11.out)⟩
      · have hd : ((l : Int) != (c : Int)) = true := by simp; omega
        go_wp2_with fail
        refine (equalInts_any _ _ out3 out3 _ (H2.out.1.new (H4.out.trans H5.out)) (HI3.out.new H5.out)).mono ?_
        rintro e w9 ⟨rfl, m9, rfl⟩
        rw [eqL_self]
        go_wp2_with fail
        go_ret
        exact ⟨rfl, (H2.out.2.2.trans (H4.out.trans H5.out)).trans (New.drewN _ _)⟩
end Go.Proofs.Ytjnfnhcbplbceaa
