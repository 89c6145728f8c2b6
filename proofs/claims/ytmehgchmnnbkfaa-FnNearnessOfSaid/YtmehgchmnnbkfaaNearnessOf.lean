/- NearnessOf of both. -/
import Derived.Test.YtmehgchmnnbkfaaNearness
namespace Go.Proofs.Ytmehgchmnnbkfaa
open Go.RowKit Mat
set_option linter.unusedVariables false

set_option maxRecDepth 100000 in
set_option maxHeartbeats 1000000 in
theorem specNearnessOf_any (p : Int) (v : Value) (rows : List (List Int)) (w : World) (hr : IsR w v rows) :
    Calls Try.prog 37 #[.agg #[.int .i64 p, v]] w fun e w' => TellsNB w e w' (NearR p rows) := by
  obtain ⟨ao, n, cap, rfl, HN, hn⟩ := hr.shape
  have HR := Lib.hid hr
  clear hr
  have h1 : New w (w.alloc (.cells #[.int .i64 p, .slice ao n cap] 25)) := New.alloc _ _
  have b1 := Blk2.alloc w (.int .i64 p) (.slice ao n cap) 25
  go_enter Try.func37, Try.ntmps37
  go_wp2_with fail
  refine (validCode_any _ _ rows _ (HR.out.new h1)).mono ?_
  rintro e w2 ⟨⟨b, rfl, hb⟩, hn2⟩
  have h2 := h1.trans hn2
  have b2 := b1.new hn2
  have HB := Lib.hid hb
  clear hb hn2 b1 h1
  obtain ⟨c0, c1, _, _⟩ := b2.cells
  cases b with
  | false =>
    go_wp2_with fail
    go_ret2
    exact ⟨0, false, rfl, ⟨(fun h => by have := HB.out.2 h; cases this), fun _ => ⟨rfl, rfl⟩⟩, h2⟩
  | true =>
    have hv := HB.out.1 rfl
    obtain ⟨q, rfl, hq⟩ := prime_nat (vtB_pr hv.1)
    haveI := hq.nz
    have HV := Lib.hid hv
    have HT := Lib.hid (vtB_ok hv.1)
    clear hv hq HB
    go_wp2_with fail
    refine (specNearness_any q _ _ rows _ (HR.out.new h2) HT.out).mono ?_
    rintro e w4 ⟨⟨t, rfl, ht⟩, hn4⟩
    have HE := Lib.hid hn4
    clear hn4
    rcases ht with ⟨m, rfl, hm⟩ | ⟨rfl, hm⟩
    · have HM := Lib.hid hm
      have hmax : max (m : Int) 0 = m := by omega
      have hge : decide ((m : Int) ≥ 0) = true := by simp
      clear hm
      go_wp2_with fail
      go_ret2
      refine ⟨_, _, rfl, ⟨fun _ => ⟨q, this, rfl, .inl ⟨by simp, m, by omega, HM.out⟩⟩, fun h => absurd HV.out h⟩, h2.trans HE.out⟩
    · have HM := Lib.hid hm
      clear hm
      go_wp2_with fail
      go_ret2
      refine ⟨_, _, rfl, ⟨fun _ => ⟨q, this, rfl, .inr ⟨by decide, by decide, HM.out⟩⟩, fun h => absurd HV.out h⟩, h2.trans HE.out⟩

set_option maxRecDepth 100000 in
set_option maxHeartbeats 2000000 in
theorem implNearnessOf_any (p : Int) (v : Value) (rows : List (List Int)) (w : World) (hr : IsR w v rows) :
    Calls Try.prog 36 #[.agg #[.int .i64 p, v]] w fun e w' => TellsNB w e w' (NearR p rows) := by
  obtain ⟨ao, m, cap, rfl, HN, hn⟩ := hr.shape
  have HR := Lib.hid hr
  clear hr
  have h1 : New w (w.alloc (.cells #[.int .i64 p, .slice ao m cap] 25)) := New.alloc _ _
  have b1 := Blk2.alloc w (.int .i64 p) (.slice ao m cap) 25
  go_enter Try.func36, Try.ntmps36
  go_wp2_with fail
  refine (known_any _ _ rows _ (HR.out.new h1)).mono ?_
  rintro e w2 ⟨⟨b, rfl, hb⟩, hn2⟩
  have h2 := h1.trans hn2
  have b2 := b1.new hn2
  have HB := Lib.hid hb
  clear hb hn2 b1 h1
  obtain ⟨c0, c1, _, _⟩ := b2.cells
  cases b with
  | false =>
    go_wp2_with fail
    go_ret2
    exact ⟨0, false, rfl, ⟨(fun h => by have := HB.out.2 h; cases this), fun _ => ⟨rfl, rfl⟩⟩, h2⟩
  | true =>
    have hv := HB.out.1 rfl
    obtain ⟨q, rfl, hq⟩ := prime_nat (vtB_pr hv.1)
    haveI := hq.nz
    obtain ⟨n, hl⟩ : ∃ n, n = (gr rows 0).length := ⟨_, rfl⟩
    have ht : TabOk q n rows := by rw [hl]; exact vtB_ok hv.1
    have hn7 := ht.n7
    have HV := Lib.hid hv
    have HT := Lib.hid ht
    have HL := Lib.hid hl
    clear hv hq HB ht hl
    go_wp2_with fail
    refine (columnsOf_any _ _ rows _ (HR.out.new h2) HT.out.r1).mono ?_
    rintro e w3 ⟨rfl, hn3⟩
    rw [← HL.out]
    have h3 := h2.trans hn3
    have b3 := b2.new hn3
    clear c0 c1 b2 hn3 h2
    go_wp2_with fail
    go_loopw [6, 18] (fun t6 t18 wr => ∃ k t : Nat, t6 = .int .i64 t ∧ t18 = .int .i64 k ∧ k ≤ n ∧ t ≤ 7 ∧ Hid (NearTo q rows n k t ∧ New w wr ∧ Blk2 wr w.heap.size (.int .i64 q) (.slice ao m cap) 25)) (fun _ t18 _ => n - (intOf t18).toNat)
    case atStart => exact ⟨0, 0, rfl, rfl, Nat.zero_le _, by omega, rfl, h3, b3⟩
    case round =>
      obtain ⟨k, t, rfl, rfl, hk, ht7, HD⟩ := hrel
      obtain ⟨wz, hwz⟩ : ∃ wz : World, wz = wr := ⟨_, rfl⟩
      rw [← hwz] at HD
      rw [← hwz]
      clear hwz
      obtain ⟨c0, c1, _, _⟩ := HD.out.2.2.cells
      by_cases hkn : k < n
      · go_wp2_with fail
        refine (implHelpers_any q n k _ rows _ (HR.out.new HD.out.2.1) HT.out hkn).mono ?_
        rintro e w4 ⟨u, out, rfl, ho, hf, hq, hn4⟩
        have hq' : HelpL q rows n k out := hq
        have hbd := hq.bounds (Nat.two_pow_pos _)
        have hp := pow_lt hn7
        have hol : out.length ≤ 1200 := by have := Nat.mul_le_mul (show n + 1 ≤ 8 by omega) hp; omega
        have hoi := ho.isI (by unfold Mid; omega)
        obtain ⟨au, l, cu, rfl, HLU, hlu⟩ := hoi.shape
        have HE := Lib.hid (And.intro hq' (And.intro hn4 (And.intro hbd hoi)))
        clear ho hf hq hq' hn4 hbd hoi c0 c1
        by_cases hl0 : l = 0
        · subst hl0
          go_wp2_with fail
          go_ret2
          exact ⟨0, false, rfl, ⟨fun _ => ⟨q, this, rfl, .inr ⟨rfl, rfl, k, by rw [← HL.out]; exact hkn, by have h := HE.out.1; rw [List.eq_nil_of_length_eq_zero HLU.out.symm] at h; rw [← HL.out]; exact h⟩⟩, fun h => absurd HV.out h⟩, HD.out.2.1.trans HE.out.2.1⟩
        · have hd : ((l : Int) == 0) = false := by simp; omega
          obtain ⟨bx, ox, rfl, cx⟩ := HE.out.2.2.2.at (i := 0) (by omega)
          rw [Nat.add_zero] at cx
          have hb0 := HE.out.2.2.1.2 0 (by rw [← HLU.out]; omega)
          obtain ⟨x, hx⟩ : ∃ x : Nat, gi out 0 = x := ⟨(gi out 0).toNat, by omega⟩
          rw [hx] at cx hb0
          have hx128 : x < 128 := by omega
          obtain ⟨c, hc⟩ : ∃ c, c = wtN x 7 := ⟨_, rfl⟩
          have hc7 : c ≤ 7 := by rw [hc]; exact wtN_le _ _
          have HX := Lib.hid (And.intro hx hc)
          clear hx hb0 hc
          go_wp2_with (go_at_call 69; refine (size_any x _ hx128).mono ?_; rintro e w' ⟨rfl, rfl⟩; rw [← HX.out.2])
          go_roundw
          case rel => exact ⟨k + 1, max t c, by go_num, by go_num, by omega, by omega, ⟨t, out, HD.out.1, HE.out.1, by rw [← HLU.out]; omega, by rw [HX.out.1, Int.toNat_natCast, ← HX.out.2]⟩, HD.out.2.1.trans HE.out.2.1, HD.out.2.2.new HE.out.2.1⟩
          case measure => simp [intOf]; omega
      · obtain rfl : k = n := by omega
        go_wp2_with fail
        go_ret2
        exact ⟨_, true, rfl, ⟨fun _ => ⟨q, this, rfl, .inl ⟨rfl, t, rfl, by rw [← HL.out]; exact HD.out.1⟩⟩, fun h => absurd HV.out h⟩, HD.out.2.1⟩
end Go.Proofs.Ytmehgchmnnbkfaa
