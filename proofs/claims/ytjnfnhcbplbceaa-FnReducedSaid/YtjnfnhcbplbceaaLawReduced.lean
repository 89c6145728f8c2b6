/- The walk of FnReduced. -/
import Derived.Test.YtjnfnhcbplbceaaPlaM
import Derived.Test.YtjnfnhcbplbceaaReducedC
import Derived.Test.YtjnfnhcbplbceaaRank
import Derived.Test.YtjnfnhcbplbceaaSolveRows
import Derived.Test.YtjnfnhcbplbceaaLawE
import Derived.Test.YtjnfnhcbplbceaaDrawT
namespace Go.Proofs.Ytjnfnhcbplbceaa
open Go.RowKit Mat
set_option linter.unusedVariables false

theorem solve_yes {q : Nat} [NeZero q] {rows : List (List Int)} {goal out : List Int} {ok : Bool} (h : SolveQ q rows goal out ok) (hc : GoalC q rows goal) (hs : Span (mat q rows) rows.length (vec q goal)) : ok = true := by
  obtain ⟨q', i2, e, h2⟩ := h.yes hc
  obtain rfl : q' = q := by omega
  cases ok with
  | true => rfl
  | false => exact absurd hs (h2.2 rfl).2

set_option maxRecDepth 100000 in
set_option maxHeartbeats 4000000 in
theorem lawReduced_any (v : Value) (n : Nat) (w : World) (hb : RawB w v n) :
    Calls Try.prog 11 #[v] w fun e w' => e = .returned (.bool true) ∧ New w w' := by
  obtain ⟨ao, cap, rfl, hcap, hmx, -⟩ := id hb
  unfold maxLen at hmx
  have HB := Lib.hid hb
  clear hb
  by_cases hbig : 1048576 < n
  · go_enter Try.func11, Try.ntmps11
    go_wp2_with fail
    go_ret
    exact ⟨rfl, Chg.refl _ _⟩
  · go_enter Try.func11, Try.ntmps11
    go_wp2_with fail
    refine (drawReduced_any _ _ _ HB.out).mono ?_
    rintro e w1 ⟨p, u, rows, rfl, hp, hr, hs, hn1⟩
    have H1 := Lib.hid (And.intro hr (And.intro hs hn1))
    obtain ⟨ar, m, cr, rfl, HM, hm⟩ := hr.shape
    have hm100 : m ≤ 100 := by rw [HM.out]; exact hs.1
    clear hr hs hn1
    go_wp2_with fail
    refine (implReduced_any p _ rows _ H1.out.1).mono ?_
    rintro e w2 ⟨u2, vs2, out, rfl, ho2, hf2, hred, hn2⟩
    have hsm := hred.small
    have hi2 : IsR w2 u2 out := ho2.isR (by unfold Mid; omega) (fun i hi => by have := hsm.2 i hi; unfold Mid; omega)
    obtain ⟨a2, l, c2, rfl, HL, hl⟩ := hi2.shape
    have hl7 : l ≤ 7 := by rw [HL.out]; exact hsm.1
    have H2 := Lib.hid (And.intro hi2 (And.intro hred (And.intro hsm (H1.out.2.2.trans hn2))))
    have HR2 := Lib.hid (H1.out.1.new hn2)
    clear ho2 hf2 hred hn2 hi2 hsm
    go_wp2_with fail
    refine (specReduced_any p _ rows _ HR2.out).mono ?_
    rintro e w3 ⟨u3, vs3, out3, rfl, ho3, hf3, hred3, hn3⟩
    obtain rfl := hred3.unique H2.out.2.1
    have hi3 : IsR w3 u3 out3 := ho3.isR (by have := H2.out.2.2.1.1; unfold Mid; omega) (fun i hi => by have := H2.out.2.2.1.2 i hi; unfold Mid; omega)
    have H3 := Lib.hid (And.intro hi3 hn3)
    clear ho3 hf3 hred3 hi3 hn3
    go_wp2_with fail
    refine (equalLists_any _ _ out3 out3 _ (H2.out.1.new H3.out.2) H3.out.1).mono ?_
    rintro e w4 ⟨rfl, m4, rfl⟩
    rw [eqLL_self]
    have hn4 : New w3 (w3.drewN m4) := New.drewN _ _
    have H4 := Lib.hid (H3.out.2.trans hn4)
    obtain ⟨wz, hwz⟩ : ∃ wz : World, wz = w3.drewN m4 := ⟨_, rfl⟩
    rw [← hwz] at H4
    rw [← hwz]
    clear hwz hn4
    by_cases hl0 : l = 0
    · subst hl0
      go_wp2_with fail
      refine (specReduced_any p _ rows _ (HR2.out.new H4.out)).mono ?_
      rintro e w5 ⟨u5, vs5, out5, rfl, ho5, hf5, hred5, hn5⟩
      obtain rfl := hred5.unique H2.out.2.1
      have hi5 : IsR w5 u5 out5 := ho5.isR (by have := H2.out.2.2.1.1; unfold Mid; omega) (fun i hi => by have := H2.out.2.2.1.2 i hi; unfold Mid; omega)
      have H5 := Lib.hid (And.intro hi5 hn5)
      clear ho5 hf5 hred5 hi5 hn5
      go_wp2_with fail
      refine (equalLists_any _ _ out5 out5 _ (H2.out.1.new (H4.out.trans H5.out.2)) H5.out.1).mono ?_
      rintro e w6 ⟨rfl, m6, rfl⟩
      rw [eqLL_self]
      go_wp2_with fail
      go_ret
      exact ⟨rfl, (H2.out.2.2.2.trans (H4.out.trans H5.out.2)).trans (New.drewN _ _)⟩
    · -- there are some: the table is one
      have hv : vtB p rows = true := by
        cases e : vtB p rows with
        | true => rfl
        | false => have := H2.out.2.1.1 e; rw [this] at HL; have := HL.out; simp at this; omega
      obtain ⟨q, rfl, hq⟩ := prime_nat (vtB_pr hv)
      haveI := hq.nz
      have hred : IsRed q (gr rows 0).length rows out3 := by
        obtain ⟨q', i2, e, hq', h⟩ := H2.out.2.1.2 hv
        obtain rfl : q' = q := by omega
        exact h
      have ht := vtB_ok hv
      have hto := ht.of_red hred (by rw [← HL.out]; omega)
      have HT := Lib.hid (And.intro ht (And.intro hto (And.intro hred hv)))
      have HQ := Lib.hid hq
      have hld : ((l : Int) == 0) = false := by simp; omega
      clear hv hq hred ht hto
      go_wp2_with fail
      clear hld
      go_loopw [6] (fun t6 wr => ∃ i : Nat, t6 = .int .i64 i ∧ i ≤ l ∧ Hid (New wz wr)) (fun t6 _ => l - (intOf t6).toNat)
      case atStart => exact ⟨0, rfl, Nat.zero_le _, Chg.refl _ _⟩
      case round =>
        obtain ⟨i, rfl, hi, HN⟩ := hrel
        obtain ⟨wy, hwy⟩ : ∃ wy : World, wy = wr := ⟨_, rfl⟩
        rw [← hwy] at HN
        rw [← hwy]
        clear hwy
        have HW := Lib.hid (H4.out.trans HN.out)
        by_cases hil : i < l
        · obtain ⟨b, o, ui, rfl, ci, hui⟩ := (H2.out.1.new HW.out).at hil
          obtain ⟨ai, ni, ki, rfl, HNI, hni⟩ := hui.shape
          have HUI := Lib.hid hui
          clear hui
          go_wp2_with fail
          refine (implSolveRows_any q _ _ rows (gr out3 i) _ (HR2.out.new HW.out) HUI.out).mono ?_
          rintro e w7 ⟨u7, out7, ok7, rfl, ho7, hf7, hs7, hn7⟩
          have hio : i < out3.length := by rw [← HL.out]; exact hil
          have hg := HT.out.2.2.1.inv.good i hio
          obtain rfl := solve_yes hs7 ⟨HT.out.2.2.2, hg.1, hasB_iff.2 (fun k hk => by rw [hg.1] at hk; have := hg.2 k hk; omega)⟩ (HT.out.2.2.1.out_in hio)
          have H7 := Lib.hid (HN.out.trans hn7)
          clear ho7 hf7 hs7 hn7 hg hio
          go_wp2_with fail
          go_roundw
          case rel => exact ⟨i + 1, by go_num, by omega, H7.out⟩
          case measure => simp [intOf]; omega
        · obtain rfl : l = i := by omega
          go_wp2_with fail
          go_loopw [9] (fun t9 wr => ∃ i : Nat, t9 = .int .i64 i ∧ i ≤ m ∧ Hid (New wz wr)) (fun t9 _ => m - (intOf t9).toNat)
          case atStart => exact ⟨0, rfl, Nat.zero_le _, HN.out⟩
          case round =>
            clear HN HW
            obtain ⟨i, rfl, hi, HN⟩ := hrel
            obtain ⟨wx, hwx⟩ : ∃ wx : World, wx = wr := ⟨_, rfl⟩
            rw [← hwx] at HN
            rw [← hwx]
            clear hwx
            have HW := Lib.hid (H4.out.trans HN.out)
            by_cases him : i < m
            · obtain ⟨b, o, ui, rfl, ci, hui⟩ := (HR2.out.new HW.out).at him
              obtain ⟨ai, ni, ki, rfl, HNI, hni⟩ := hui.shape
              have HUI := Lib.hid hui
              clear hui
              go_wp2_with fail
              refine (implSolveRows_any q _ _ out3 (gr rows i) _ (H2.out.1.new HW.out) HUI.out).mono ?_
              rintro e w7 ⟨u7, out7, ok7, rfl, ho7, hf7, hs7, hn7⟩
              have hio : i < rows.length := by rw [← HM.out]; exact him
              have hg := HT.out.1.good i hio
              obtain rfl := solve_yes hs7 ⟨HT.out.2.1.vtB, by rw [HT.out.2.1.cols]; exact hg.1, hasB_iff.2 (fun k hk => by rw [hg.1] at hk; have := hg.2 k hk; omega)⟩ (HT.out.2.2.1.row_in hio)
              have H7 := Lib.hid (HN.out.trans hn7)
              clear ho7 hf7 hs7 hn7 hg hio
              go_wp2_with fail
              go_roundw
              case rel => exact ⟨i + 1, by go_num, by omega, H7.out⟩
              case measure => simp [intOf]; omega
            · obtain rfl : m = i := by omega
              go_wp2_with fail
              refine (implReduced_any q _ out3 _ (H2.out.1.new HW.out)).mono ?_
              rintro e w8 ⟨u8, vs8, out8, rfl, ho8, hf8, hred8, hn8⟩
              have he8 : out8 = out3 := by
                obtain ⟨q', i2, e, hq', h⟩ := hred8.2 HT.out.2.1.vtB
                obtain rfl : q' = q := by omega
                rw [HT.out.2.1.cols] at h
                exact h.unique HQ.out HT.out.2.2.1.self
              subst he8
              have hi8 : IsR w8 u8 out8 := ho8.isR (by have := H2.out.2.2.1.1; unfold Mid; omega) (fun i hi => by have := H2.out.2.2.1.2 i hi; unfold Mid; omega)
              have H8 := Lib.hid (And.intro hi8 (HW.out.trans hn8))
              clear ho8 hf8 hred8 hi8 hn8
              go_wp2_with fail
              refine (equalLists_any _ _ out8 out8 _ H8.out.1 (H2.out.1.new H8.out.2)).mono ?_
              rintro e w9 ⟨rfl, m9, rfl⟩
              rw [eqLL_self]
              have H9 := Lib.hid (H8.out.2.trans (New.drewN w8 m9))
              obtain ⟨wv, hwv⟩ : ∃ wv : World, wv = w8.drewN m9 := ⟨_, rfl⟩
              rw [← hwv] at H9
              rw [← hwv]
              clear hwv
              go_wp2_with fail
              refine (implRankOf_any q _ rows _ (HR2.out.new H9.out)).mono ?_
              rintro e w10 ⟨⟨r, rfl, -, hrk⟩, hn10⟩
              obtain rfl : r = l := by
                obtain ⟨o, ⟨q', i2, e, hq', h⟩, e2⟩ := hrk HT.out.2.2.2
                obtain rfl : q' = q := by omega
                rw [e2, HL.out, h.unique HQ.out HT.out.2.2.1]
              have H10 := Lib.hid (H2.out.2.2.2.trans (H9.out.trans hn10))
              clear hn10 hrk
              go_wp2_with fail
              go_ret
              exact ⟨rfl, H10.out⟩
end Go.Proofs.Ytjnfnhcbplbceaa
