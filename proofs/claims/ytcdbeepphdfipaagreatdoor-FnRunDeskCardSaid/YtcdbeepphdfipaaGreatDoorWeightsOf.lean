/- WeightsOf and DistanceOf of both. -/
import Derived.Test.YtcdbeepphdfipaaGreatDoorWtsS
import Derived.Test.YtcdbeepphdfipaaGreatDoorWtsI
import Derived.Test.YtcdbeepphdfipaaGreatDoorWtsN
namespace Go.Proofs.YtcdbeepphdfipaaGreatDoor
open Go.RowKit Mat
set_option linter.unusedVariables false

set_option maxHeartbeats 2000000 in
theorem implDistanceOf_any (p : Int) (v : Value) (rows : List (List Int)) (w : World) (hr : IsR w v rows) :
    Calls Tryz.prog 85 #[.agg #[.int .i64 p, v]] w fun e w' => TellsN w e w' (DistR p rows) := by
  obtain ⟨ao, n, cap, rfl, HN, hn⟩ := hr.shape
  have HR := Lib.hid hr
  clear hr
  have h1 : New w (w.alloc (.cells #[.int .i64 p, .slice ao n cap] 24)) := New.alloc _ _
  go_enter Tryz.func85, Tryz.ntmps85
  go_wp2_with fail
  refine (implWeightsOf_any p _ rows _ (HR.out.new h1)).mono ?_
  rintro e w2 ⟨u, out, rfl, ho, hf, hq, hn2⟩
  have hsm := hq.small
  have hI := ho.isI (by unfold Mid; omega)
  obtain ⟨au, m, cu, rfl, HM, hm⟩ := hI.shape
  have hm6 : m ≤ 1048576 := by rw [HM.out]; exact hsm
  have HI := Lib.hid (And.intro hI (And.intro hq (h1.trans hn2)))
  clear ho hf hq hn2 hI hsm h1
  go_wp2_with fail
  go_loop [8] (fun t8 => ∃ k : Nat, t8 = .int .i64 k ∧ k ≤ m ∧ Hid (∀ i, 1 ≤ i → i < k → gi out i ≤ 0)) (fun t8 => m - (intOf t8).toNat)
  case atStart => exact ⟨0, rfl, Nat.zero_le _, fun i _ hi => by omega⟩
  case round =>
    obtain ⟨k, rfl, hk, HK⟩ := hrel
    by_cases hkm : k < m
    · obtain ⟨b, o, rfl, ck⟩ := HI.out.1.at hkm
      obtain ⟨x, hx⟩ : ∃ x, x = gi out k := ⟨_, rfl⟩
      rw [← hx] at ck
      have HX := Lib.hid hx
      clear hx
      by_cases hk0 : k < 1
      · go_wp2_with fail
        go_round
        case rel => exact ⟨k + 1, by go_num, by omega, fun i h1 h2 => by omega⟩
        case measure => simp [intOf]; omega
      · have hk1 : 0 < k := by omega
        by_cases hx0 : 0 < x
        · go_wp2_with fail
          go_ret
          refine ⟨k, rfl, ⟨fun hv => ?_, fun hv => ?_⟩, HI.out.2.2⟩
          · have e := HI.out.2.1.eq hv
            refine ⟨k, rfl, by omega, ?_, ?_, fun i h1 h2 => ?_⟩
            · have := HM.out; rw [e, wtsOf_length] at this; omega
            · rw [← e, ← HX.out]; exact hx0
            · rw [← e]; exact HK.out i h1 h2
          · have := HM.out; rw [HI.out.2.1.2 hv] at this; simp at this; omega
        · go_wp2_with fail
          go_round
          case rel => exact ⟨k + 1, by go_num, by omega, fun i h1 h2 => by
              by_cases e : i = k
              · rw [e, ← HX.out]; omega
              · exact HK.out i h1 (by omega)⟩
          case measure => simp [intOf]; omega
    · obtain rfl : k = m := by omega
      go_wp2_with fail
      go_ret
      refine ⟨-1, rfl, ⟨fun hv => ?_, fun _ => rfl⟩, HI.out.2.2⟩
      exfalso
      have e := HI.out.2.1.eq hv
      obtain ⟨d, d1, d2, d3⟩ := wtsOf_some hv
      have := HK.out d d1 (by have := HM.out; rw [e, wtsOf_length] at this; omega)
      rw [e] at this
      omega

set_option maxHeartbeats 2000000 in
theorem specDistance_any (q : Nat) [NeZero q] (v : Value) (rows : List (List Int)) (w : World) (hr : IsR w v rows) (hv : ValidC q rows) :
    Calls Tryz.prog 77 #[.agg #[.int .i64 q, v]] w fun e w' => TellsN w e w' (DistR q rows) := by
  obtain ⟨ao, n, cap, rfl, HN, hn⟩ := hr.shape
  have HR := Lib.hid hr
  have HV := Lib.hid hv
  clear hr hv
  have h1 : New w (w.alloc (.cells #[.int .i64 q, .slice ao n cap] 24)) := New.alloc _ _
  go_enter Tryz.func77, Tryz.ntmps77
  go_wp2_with fail
  refine (specWeights_any q (gr rows 0).length _ rows _ (HR.out.new h1) (vtB_ok HV.out.1) HV.out.2.1).mono ?_
  rintro e w2 ⟨u, out, rfl, ho, hf, hq, hn2⟩
  have he : out = wtsOf q rows := by rw [hq]; unfold wtsOf; rw [Int.toNat_natCast]
  subst he
  have hI := ho.isI (by rw [wtsOf_length]; have := HV.out.few; unfold Mid; omega)
  obtain ⟨au, m, cu, rfl, HM, hm⟩ := hI.shape
  have hml := HM.out
  rw [wtsOf_length] at hml
  have HML := Lib.hid hml
  have HI := Lib.hid (And.intro hI (h1.trans hn2))
  have hm1 : 1 ≤ m := by omega
  clear ho hf hq hn2 hI h1 hml
  go_wp2_with fail
  go_loop [4] (fun t4 => ∃ k : Nat, t4 = .int .i64 k ∧ 1 ≤ k ∧ k ≤ m ∧ Hid (∀ i, 1 ≤ i → i < k → gi (wtsOf q rows) i ≤ 0)) (fun t4 => m - (intOf t4).toNat)
  case atStart => exact ⟨1, rfl, Nat.le_refl _, hm1, fun i _ hi => by omega⟩
  case round =>
    obtain ⟨k, rfl, hk1, hk, HK⟩ := hrel
    by_cases hkm : k < m
    · obtain ⟨b, o, rfl, ck⟩ := HI.out.1.at hkm
      obtain ⟨x, hx⟩ : ∃ x, x = gi (wtsOf q rows) k := ⟨_, rfl⟩
      rw [← hx] at ck
      have HX := Lib.hid hx
      clear hx
      by_cases hx0 : 0 < x
      · go_wp2_with fail
        go_ret
        exact ⟨k, rfl, ⟨fun hv => ⟨k, rfl, hk1, by have := HML.out; omega, by rw [← HX.out]; exact hx0, HK.out⟩, fun h => absurd HV.out h⟩, HI.out.2⟩
      · go_wp2_with fail
        go_round
        case rel => exact ⟨k + 1, by go_num, by omega, by omega, fun i h1 h2 => by
            by_cases e : i = k
            · rw [e, ← HX.out]; omega
            · exact HK.out i h1 (by omega)⟩
        case measure => simp [intOf]; omega
    · obtain rfl : k = m := by omega
      exfalso
      obtain ⟨d, d1, d2, d3⟩ := wtsOf_some HV.out
      have := HK.out d d1 (by have := HML.out; omega)
      omega

end Go.Proofs.YtcdbeepphdfipaaGreatDoor
