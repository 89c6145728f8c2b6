/- WeightsOf and DistanceOf of both. -/
import Derived.Test.YtmehgchmnnbkfaaWtsS
import Derived.Test.YtmehgchmnnbkfaaWtsI
import Derived.Test.YtmehgchmnnbkfaaWtsN
namespace Go.Proofs.Ytmehgchmnnbkfaa
open Go.RowKit Mat
set_option linter.unusedVariables false

set_option maxHeartbeats 1000000 in
theorem specWeightsOf_any (p : Int) (v : Value) (rows : List (List Int)) (w : World) (hr : IsR w v rows) :
    Calls Try.prog 26 #[.agg #[.int .i64 p, v]] w fun e w' => GivesI w e w' (WtsR p rows) := by
  obtain ⟨ao, n, cap, rfl, HN, hn⟩ := hr.shape
  have HR := Lib.hid hr
  clear hr
  have h1 : New w (w.alloc (.cells #[.int .i64 p, .slice ao n cap] 25)) := New.alloc _ _
  have b1 := Blk2.alloc w (.int .i64 p) (.slice ao n cap) 25
  go_enter Try.func26, Try.ntmps26
  go_wp2_with fail
  refine (validCode_any _ _ rows _ (HR.out.new h1)).mono ?_
  rintro e w2 ⟨⟨b, rfl, hb⟩, hn2⟩
  have H2 := Lib.hid (h1.trans hn2)
  obtain ⟨c0, c1, _, _⟩ := (b1.new hn2).cells
  have HB := Lib.hid hb
  clear hb hn2 b1 h1
  cases b with
  | false =>
    go_wp2_with fail
    go_ret
    exact givesNil H2.out ⟨(fun h => by have := HB.out.2 h; cases this), fun _ => rfl⟩
  | true =>
    have hv := HB.out.1 rfl
    obtain ⟨q, rfl, hq⟩ := prime_nat (vtB_pr hv.1)
    haveI := hq.nz
    have HV := Lib.hid hv
    clear hv hq HB
    go_wp2_with fail
    refine (specWeights_any q (gr rows 0).length _ rows _ (HR.out.new H2.out) (vtB_ok HV.out.1) HV.out.2.1).mono ?_
    rintro e w3 ⟨u, out, rfl, ho, hf, hq, hn3⟩
    have HG := Lib.hid (show GivesI w (.returned u) w3 (WtsR q rows) from ⟨u, out, rfl, ho, (fun g hg => Nat.le_trans H2.out.size (hf g hg)), ⟨fun _ => by rw [hq, Int.toNat_natCast], fun h => absurd HV.out h⟩, H2.out.trans hn3⟩)
    clear ho hf hq hn3
    go_wp2_with fail
    go_ret
    exact HG.out

set_option maxHeartbeats 2000000 in
theorem implDistanceOf_any (p : Int) (v : Value) (rows : List (List Int)) (w : World) (hr : IsR w v rows) :
    Calls Try.prog 33 #[.agg #[.int .i64 p, v]] w fun e w' => TellsN w e w' (DistR p rows) := by
  obtain ⟨ao, n, cap, rfl, HN, hn⟩ := hr.shape
  have HR := Lib.hid hr
  clear hr
  have h1 : New w (w.alloc (.cells #[.int .i64 p, .slice ao n cap] 25)) := New.alloc _ _
  go_enter Try.func33, Try.ntmps33
  go_wp2_with fail
  refine (implWeightsOf_any p _ rows _ (HR.out.new h1)).mono ?_
  rintro e w2 ⟨u, out, rfl, ho, hf, hq, hn2⟩
  have hsm := hq.small
  have hI := ho.isI (by unfold Mid; omega)
  obtain ⟨au, m, cu, rfl, HM, hm⟩ := hI.shape
  have hm6 : m ≤ 1048576 := by rw [HM.out]; exact hsm
  have HI := Lib.hid (And.intro hI (And.intro hq (h1.trans hn2)))
  clear ho hf hq hn2 hI hsm h1
  go_wp2_with fail
  go_loop [8] (fun t8 => ∃ k : Nat, t8 = .int .i64 k ∧ k ≤ m ∧ Hid (∀ i, 1 ≤ i → i < k → gi out i ≤ 0)) (fun t8 => m - (intOf t8).toNat)
  case atStart => exact ⟨0, rfl, Nat.zero_le _, fun i _ hi => by omega⟩
  case round =>
    obtain ⟨k, rfl, hk, HK⟩ := hrel
    by_cases hkm : k < m
    · obtain ⟨b, o, rfl, ck⟩ := HI.out.1.at hkm
      obtain ⟨x, hx⟩ : ∃ x, x = gi out k := ⟨_, rfl⟩
      rw [← hx] at ck
      have HX := Lib.hid hx
      clear hx
      by_cases hk0 : k < 1
      · go_wp2_with fail
        go_round
        case rel => exact ⟨k + 1, by go_num, by omega, fun i h1 h2 => by omega⟩
        case measure => simp [intOf]; omega
      · have hk1 : 0 < k := by omega
        by_cases hx0 : 0 < x
        · go_wp2_with fail
          go_ret
          refine ⟨k, rfl, ⟨fun hv => ?_, fun hv => ?_⟩, HI.out.2.2⟩
          · have e := HI.out.2.1.eq hv
            refine ⟨k, rfl, by omega, ?_, ?_, fun i h1 h2 => ?_⟩
            · have := HM.out; rw [e, wtsOf_length] at this; omega
            · rw [← e, ← HX.out]; exact hx0
            · rw [← e]; exact HK.out i h1 h2
          · have := HM.out; rw [HI.out.2.1.2 hv] at this; simp at this; omega
        · go_wp2_with fail
          go_round
          case rel => exact ⟨k + 1, by go_num, by omega, fun i h1 h2 => by
              by_cases e : i = k
              · rw [e, ← HX.out]; omega
              · exact HK.out i h1 (by omega)⟩
          case measure => simp [intOf]; omega
    · obtain rfl : k = m := by omega
      go_wp2_with fail
      go_ret
      refine ⟨-1, rfl, ⟨fun hv => ?_, fun _ => rfl⟩, HI.out.2.2⟩
      exfalso
      have e := HI.out.2.1.eq hv
      obtain ⟨d, d1, d2, d3⟩ := wtsOf_some hv
      have := HK.out d d1 (by have := HM.out; rw [e, wtsOf_length] at this; omega)
      rw [e] at this
      omega

end Go.Proofs.Ytmehgchmnnbkfaa
