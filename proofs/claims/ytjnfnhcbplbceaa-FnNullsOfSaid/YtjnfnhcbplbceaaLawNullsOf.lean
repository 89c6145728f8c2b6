/- The walk of FnNullsOf. -/
import Derived.Test.YtjnfnhcbplbceaaTabLawM
import Derived.Test.YtjnfnhcbplbceaaRank
import Derived.Test.YtjnfnhcbplbceaaNullsOf
import Derived.Test.YtjnfnhcbplbceaaSolveRows
import Derived.Test.YtjnfnhcbplbceaaLawE
import Derived.Test.YtjnfnhcbplbceaaDrawT
namespace Go.Proofs.Ytjnfnhcbplbceaa
open Go.RowKit Mat
set_option linter.unusedVariables false

set_option maxRecDepth 100000 in
set_option maxHeartbeats 4000000 in
theorem lawNullsOf_any (v : Value) (n : Nat) (w : World) (hb : RawB w v n) :
    Calls Try.prog 13 #[v] w fun e w' => e = .returned (.bool true) ∧ New w w' := by
  obtain ⟨ao, cap, rfl, hcap, hmx, -⟩ := id hb
  unfold maxLen at hmx
  have HB := Lib.hid hb
  clear hb
  by_cases hbig : 1048576 < n
  · go_enter Try.func13, Try.ntmps13
    go_wp2_with fail
    go_ret
    exact ⟨rfl, Chg.refl _ _⟩
  · go_enter Try.func13, Try.ntmps13
    go_wp2_with fail
    refine (drawNullsOf_any _ _ _ HB.out).mono ?_
    rintro e w1 ⟨p, u, rows, rfl, hp, hr, hs, hn1⟩
    have H1 := Lib.hid (And.intro hr (And.intro hs hn1))
    obtain ⟨ar, m, cr, rfl, HM, hm⟩ := hr.shape
    have hm100 : m ≤ 100 := by rw [HM.out]; exact hs.1
    clear hr hs hn1
    go_wp2_with fail
    refine (implNullsOf_any p _ rows _ H1.out.1).mono ?_
    rintro e w2 ⟨u2, vs2, out, rfl, ho2, hf2, hq2, hn2⟩
    have hsm := hq2.small
    have hi2 : IsR w2 u2 out := ho2.isR (by unfold Mid; omega) (fun i hi => by have := hsm.2 i hi; unfold Mid; omega)
    obtain ⟨a2, l, c2, rfl, HL, hl⟩ := hi2.shape
    have hl6 : l ≤ 1048576 := by rw [HL.out]; exact hsm.1
    have H2 := Lib.hid (And.intro hi2 (And.intro hq2 (H1.out.2.2.trans hn2)))
    have HR2 := Lib.hid (H1.out.1.new hn2)
    clear ho2 hf2 hq2 hn2 hi2 hsm
    go_wp2_with fail
    refine (specNullsOf_any p _ rows _ HR2.out).mono ?_
    rintro e w3 ⟨u3, vs3, out3, rfl, ho3, hf3, hq3, hn3⟩
    obtain rfl := hq3.unique H2.out.2.1
    have hsm := hq3.small
    have hi3 : IsR w3 u3 out3 := ho3.isR (by unfold Mid; omega) (fun i hi => by have := hsm.2 i hi; unfold Mid; omega)
    have H3 := Lib.hid (And.intro hi3 hn3)
    clear ho3 hf3 hq3 hi3 hn3 hsm
    go_wp2_with fail
    refine (equalLists_any _ _ out3 out3 _ (H2.out.1.new H3.out.2) H3.out.1).mono ?_
    rintro e w4 ⟨rfl, m4, rfl⟩
    rw [eqLL_self]
    have H4 := Lib.hid (H3.out.2.trans (New.drewN w3 m4))
    obtain ⟨wz, hwz⟩ : ∃ wz : World, wz = w3.drewN m4 := ⟨_, rfl⟩
    rw [← hwz] at H4
    rw [← hwz]
    clear hwz
    go_wp2_with fail
    refine (implValidTable_any p _ rows _ (HR2.out.new H4.out)).mono ?_
    rintro e w5 ⟨rfl, hn5⟩
    have H5 := Lib.hid (H4.out.trans hn5)
    have HN5 := Lib.hid hn5
    clear hn5
    cases hv : vtB p rows with
    | false =>
      have HV := Lib.hid hv
      clear hv
      go_wp2_with fail
      refine (specNullsOf_any p _ rows _ (HR2.out.new H5.out)).mono ?_
      rintro e w6 ⟨u6, vs6, out6, rfl, ho6, hf6, hq6, hn6⟩
      obtain rfl := hq6.unique H2.out.2.1
      have hsm := hq6.small
      have hi6 : IsR w6 u6 out6 := ho6.isR (by unfold Mid; omega) (fun i hi => by have := hsm.2 i hi; unfold Mid; omega)
      have H6 := Lib.hid (And.intro hi6 hn6)
      clear ho6 hf6 hq6 hi6 hn6 hsm
      go_wp2_with fail
      refine (equalLists_any _ _ out6 out6 _ (H2.out.1.new (H5.out.trans H6.out.2)) H6.out.1).mono ?_
      rintro e w7 ⟨rfl, m7, rfl⟩
      rw [eqLL_self]
      go_wp2_with fail
      go_ret
      exact ⟨rfl, (H2.out.2.2.trans (H5.out.trans H6.out.2)).trans (New.drewN _ _)⟩
    | true =>
      obtain ⟨q, rfl, hq⟩ := prime_nat (vtB_pr hv)
      haveI := hq.nz
      obtain ⟨q', i', e', _, a, hra, hoa⟩ := H2.out.2.1.yes hv
      obtain rfl : q' = q := by omega
      have ht := vtB_ok hv
      obtain ⟨c, hc⟩ : ∃ c, c = (gr rows 0).length := ⟨_, rfl⟩
      rw [← hc] at hra hoa ht
      have hgo : GoodRows q' c out3 := by rw [hoa]; exact nlTo_good hq c a c
      have hio : Ind (mat q' out3) out3.length := by rw [hoa]; exact nulls_ind hq a
      have hort : ∀ i k, i < out3.length → k < rows.length → dt c (vec q' (gr out3 i)) (vec q' (gr rows k)) = 0 := fun i k hi hk => by rw [hoa] at hi ⊢; exact nulls_orth hq hra hi hk
      have HT := Lib.hid (And.intro ht (And.intro hgo (And.intro hio hort)))
      have HQ := Lib.hid hq
      have hq2 := hq.pos
      have hc7 := ht.n7
      have hcl : out3.length ≤ c := by rw [hoa]; exact nlTo_length _ _ _ _
      have hl7 : l ≤ 7 := by rw [HL.out]; omega
      have hc1 := ht.n1
      clear hv hq hra hoa ht hgo hio hort hc e' hcl
      go_wp2_with fail
      go_loopw [6] (fun t6 wr => ∃ i : Nat, t6 = .int .i64 i ∧ i ≤ l ∧ Hid (New wz wr)) (fun t6 _ => l - (intOf t6).toNat)
      case atStart => exact ⟨0, rfl, Nat.zero_le _, HN5.out⟩
      case round =>
        obtain ⟨i, rfl, hi, HN⟩ := hrel
        obtain ⟨wy, hwy⟩ : ∃ wy : World, wy = wr := ⟨_, rfl⟩
        rw [← hwy] at HN
        rw [← hwy]
        clear hwy
        have HW := Lib.hid (H4.out.trans HN.out)
        by_cases hil : i < l
        · go_wp2_with fail
          go_loopw [7] (fun t7 wr => ∃ k : Nat, t7 = .int .i64 k ∧ k ≤ m ∧ Hid (New wz wr)) (fun t7 _ => m - (intOf t7).toNat)
          case atStart => exact ⟨0, rfl, Nat.zero_le _, HN.out⟩
          case round =>
            clear HN HW
            obtain ⟨k, rfl, hk, HN⟩ := hrel
            obtain ⟨wx, hwx⟩ : ∃ wx : World, wx = wr := ⟨_, rfl⟩
            rw [← hwx] at HN
            rw [← hwx]
            clear hwx
            have HW := Lib.hid (H4.out.trans HN.out)
            by_cases hkm : k < m
            · obtain ⟨b, o, ui, rfl, ci, hui⟩ := (H2.out.1.new HW.out).at hil
              obtain ⟨b', o', uk, rfl, ck, huk⟩ := (HR2.out.new HW.out).at hkm
              obtain ⟨ai, ni, ki, rfl, HNI, hni⟩ := hui.shape
              obtain ⟨ak, nk, kk, rfl, HNK, hnk⟩ := huk.shape
              have HU := Lib.hid (And.intro hui huk)
              have hio : i < out3.length := by rw [← HL.out]; exact hil
              have hko : k < rows.length := by rw [← HM.out]; exact hkm
              have hdz := (dotTo_zero (q := q') (gr out3 i) (gr rows k) c).2 (HT.out.2.2.2 i k hio hko)
              have HD := Lib.hid (And.intro (HT.out.2.1 i hio) (And.intro (HT.out.1.good k hko) hdz))
              clear hui huk hio hko hdz
              go_wp2_with fail
              go_quiet ((go_at_call 55; exact Calls.quiet_of (dot_any q' c _ _ (gr out3 i) (gr rows k) _ (HU.out.1.new (New.drewN _ _)) (HU.out.2.new (New.drewN _ _)) HD.out.1 HD.out.2.1 (by omega) (by omega))))
              rw [HD.out.2.2]
              go_wp2_with fail
              go_roundw
              case rel => exact ⟨k + 1, by go_num, by omega, HN.out.trans (New.drewN _ _)⟩
              case measure => simp [intOf]; omega
            · obtain rfl : k = m := by omega
              go_wp2_with fail
              go_roundw
              case rel => exact ⟨i + 1, by go_num, by omega, HN.out⟩
              case measure => simp [intOf]; omega
        · obtain rfl : i = l := by omega
          by_cases hl0 : i = 0
          · subst hl0
            go_wp2_with fail
            go_ret
            exact ⟨rfl, H2.out.2.2.trans HW.out⟩
          · by_cases hl6 : 6 < i
            · go_wp2_with fail
              go_ret
              exact ⟨rfl, H2.out.2.2.trans HW.out⟩
            · go_wp2_with fail
              refine (implRankOf_any q' _ out3 _ (H2.out.1.new HW.out)).mono ?_
              rintro e w10 ⟨⟨r, rfl, -, hrk⟩, hn10⟩
              obtain rfl : r = i := by
                have hto : TabOk q' c out3 := ⟨HQ.out, HT.out.2.1, (HT.out.2.1 0 (by rw [← HL.out]; omega)).1, hc7, hc1, by rw [← HL.out]; omega, by rw [← HL.out]; omega⟩
                obtain ⟨o, ⟨q2, i2, e2, hq2, h⟩, e3⟩ := hrk hto.vtB
                obtain rfl : q2 = q' := by omega
                rw [e3, rank_of_ind HQ.out h HT.out.2.2.1, HL.out]
              have H10 := Lib.hid (H2.out.2.2.trans (HW.out.trans hn10))
              clear hn10 hrk
              go_wp2_with fail
              go_ret
              exact ⟨rfl, H10.out⟩
end Go.Proofs.Ytjnfnhcbplbceaa
