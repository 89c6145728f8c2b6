/- CountMends and MendWord of both. -/
import Derived.Test.YtgpmkbenjlhfhaaMendI
import Derived.Test.YtgpmkbenjlhfhaaSolveRows
namespace Go.Proofs.Ytgpmkbenjlhfhaa
open Go.RowKit Mat
set_option linter.unusedVariables false


set_option maxHeartbeats 2000000 in
theorem specLost_any (p : Int) (v vk : Value) (rows : List (List Int)) (kn : List Int) (w : World) (hr : IsR w v rows) (hk : IsI w vk kn) (hv : ValidC p rows) :
    Calls Try.prog 105 #[.agg #[.int .i64 p, v], vk] w fun e w' => (∃ b : Bool, e = .returned (.bool b) ∧ (b = true ↔ LostC p rows kn)) ∧ New w w' := by
  have hp := hv.prime
  refine (validLost_any p v vk rows kn w hr hv.few.1 hk (by omega)).mono ?_
  rintro e w' ⟨rfl, hn⟩
  refine ⟨⟨_, rfl, ?_⟩, hn⟩
  rw [lostB_iff]
  exact ⟨fun h => ⟨hv, h.2, h.1⟩, fun h => ⟨h.2.2, h.2.1⟩⟩

set_option maxHeartbeats 2000000 in
theorem specCountMends_any (p : Int) (v vk : Value) (rows : List (List Int)) (kn : List Int) (w : World) (hr : IsR w v rows) (hk : IsI w vk kn) :
    Calls Try.prog 59 #[.agg #[.int .i64 p, v], vk] w fun e w' => TellsN w e w' (CountR p rows kn) := by
  obtain ⟨ao, m, cap, rfl, HN, hm⟩ := hr.shape
  obtain ⟨ak, l, ck, rfl, HL, hl⟩ := hk.shape
  have HR := Lib.hid hr
  have HK := Lib.hid hk
  clear hr hk
  have h1 : New w (w.alloc (.cells #[.int .i64 p, .slice ao m cap] 25)) := New.alloc _ _
  have b1 := Blk2.alloc w (.int .i64 p) (.slice ao m cap) 25
  go_enter Try.func59, Try.ntmps59
  go_wp2_with fail
  refine (validCode_any _ _ rows _ (HR.out.new h1)).mono ?_
  rintro e w2 ⟨⟨b, rfl, hb⟩, hn2⟩
  have H2 := Lib.hid (And.intro (h1.trans hn2) (And.intro (b1.new hn2) hb))
  obtain ⟨c0, c1, _, _⟩ := (b1.new hn2).cells
  clear hb hn2 b1 h1
  cases b with
  | false =>
    have HNO := Lib.hid (show ¬ LostC p rows kn from fun h => by have := H2.out.2.2.2 h.1; cases this)
    go_wp2_with fail
    go_ret
    exact ⟨-1, rfl, ⟨fun h => absurd h HNO.out, fun _ => rfl⟩, H2.out.1⟩
  | true =>
    have hv := H2.out.2.2.1 rfl
    have HV := Lib.hid hv
    clear hv
    go_wp2_with fail
    refine (specLost_any p _ _ rows kn _ (HR.out.new H2.out.1) (HK.out.new H2.out.1) HV.out).mono ?_
    rintro e w3 ⟨⟨b, rfl, hb⟩, hn3⟩
    obtain ⟨d0, d1, _, _⟩ := (H2.out.2.1.new hn3).cells
    have H3 := Lib.hid (And.intro (H2.out.1.trans hn3) hb)
    clear hb hn3 c0 c1
    cases b with
    | false =>
      have HNO := Lib.hid (show ¬ LostC p rows kn from fun h => by have := H3.out.2.2 h; cases this)
      go_wp2_with fail
      go_ret
      exact ⟨-1, rfl, ⟨fun h => absurd h HNO.out, fun _ => rfl⟩, H3.out.1⟩
    | true =>
      have HLC := Lib.hid (H3.out.2.1 rfl)
      obtain ⟨q, rfl, hq⟩ := prime_nat (vtB_pr HV.out.1)
      haveI := hq.nz
      clear hq
      go_wp2_with fail
      refine (specMends_any q (gr rows 0).length _ _ rows kn _ (HR.out.new H3.out.1) (HK.out.new H3.out.1) (vtB_ok HV.out.1) HV.out.2.1 HLC.out.2.1).mono ?_
      rintro e w4 ⟨u, rfl, hu, hn4⟩
      have HU := Lib.hid (H3.out.1.trans hn4)
      clear hu hn4
      go_wp2_with fail
      go_ret
      exact ⟨_, rfl, ⟨fun _ => by unfold cntOf; rw [Int.toNat_natCast], fun h => absurd HLC.out h⟩, HU.out⟩

set_option maxHeartbeats 2000000 in
theorem specMendWord_any (p : Int) (v vk : Value) (rows : List (List Int)) (kn : List Int) (w : World) (hr : IsR w v rows) (hk : IsI w vk kn) :
    Calls Try.prog 64 #[.agg #[.int .i64 p, v], vk] w fun e w' => GivesIB w e w' (MendR p rows kn) := by
  obtain ⟨ao, m, cap, rfl, HN, hm⟩ := hr.shape
  obtain ⟨ak, l, ck, rfl, HL, hl⟩ := hk.shape
  have HR := Lib.hid hr
  have HK := Lib.hid hk
  clear hr hk
  have h1 : New w (w.alloc (.cells #[.int .i64 p, .slice ao m cap] 25)) := New.alloc _ _
  have b1 := Blk2.alloc w (.int .i64 p) (.slice ao m cap) 25
  go_enter Try.func64, Try.ntmps64
  go_wp2_with fail
  refine (validCode_any _ _ rows _ (HR.out.new h1)).mono ?_
  rintro e w2 ⟨⟨b, rfl, hb⟩, hn2⟩
  have H2 := Lib.hid (And.intro (h1.trans hn2) (And.intro (b1.new hn2) hb))
  obtain ⟨c0, c1, _, _⟩ := (b1.new hn2).cells
  clear hb hn2 b1 h1
  cases b with
  | false =>
    have HNO := Lib.hid (show ¬ LostC p rows kn from fun h => by have := H2.out.2.2.2 h.1; cases this)
    go_wp2_with fail
    go_ret2
    exact givesIBno H2.out.1 ⟨fun h => absurd h.1 HNO.out, fun _ => ⟨rfl, rfl⟩⟩
  | true =>
    have hv := H2.out.2.2.1 rfl
    have HV := Lib.hid hv
    clear hv
    go_wp2_with fail
    refine (specLost_any p _ _ rows kn _ (HR.out.new H2.out.1) (HK.out.new H2.out.1) HV.out).mono ?_
    rintro e w3 ⟨⟨b, rfl, hb⟩, hn3⟩
    obtain ⟨d0, d1, _, _⟩ := (H2.out.2.1.new hn3).cells
    have H3 := Lib.hid (And.intro (H2.out.1.trans hn3) hb)
    clear hb hn3 c0 c1
    cases b with
    | false =>
      have HNO := Lib.hid (show ¬ LostC p rows kn from fun h => by have := H3.out.2.2 h; cases this)
      go_wp2_with fail
      go_ret2
      exact givesIBno H3.out.1 ⟨fun h => absurd h.1 HNO.out, fun _ => ⟨rfl, rfl⟩⟩
    | true =>
      have HLC := Lib.hid (H3.out.2.1 rfl)
      obtain ⟨q, rfl, hq⟩ := prime_nat (vtB_pr HV.out.1)
      haveI := hq.nz
      clear hq
      go_wp2_with fail
      refine (specMends_any q (gr rows 0).length _ _ rows kn _ (HR.out.new H3.out.1) (HK.out.new H3.out.1) (vtB_ok HV.out.1) HV.out.2.1 HLC.out.2.1).mono ?_
      rintro e w4 ⟨u, rfl, hu, hn4⟩
      obtain ⟨c, hc⟩ : ∃ c, c = cntF q (gr rows 0).length rows kn (q ^ rows.length) := ⟨_, rfl⟩
      rw [← hc] at hu ⊢
      have HU := Lib.hid (And.intro hu (And.intro (H3.out.1.trans hn4) hc))
      clear hu hn4 hc
      by_cases h1 : c = 1
      · subst h1
        have HG := Lib.hid (show GivesIB w (.returned (.tuple #[u, .bool true])) w4 (MendR q rows kn) from by
          obtain ⟨t, t1, t2, t3, t4⟩ := HU.out.1 (Nat.le_refl _)
          have hcc : cntOf q rows kn = 1 := by unfold cntOf; rw [Int.toNat_natCast]; exact HU.out.2.2.symm
          exact ⟨u, _, true, rfl, t3, fun g hg => Nat.le_trans H3.out.1.size (t4 g hg), ⟨fun _ => ⟨rfl, t, by rw [Int.toNat_natCast]; exact t1, by rw [Int.toNat_natCast]; exact t2, by rw [Int.toNat_natCast]⟩, fun h => absurd ⟨HLC.out, hcc⟩ h⟩, HU.out.2.1⟩)
        go_wp2_with fail
        go_ret2
        exact HG.out
      · have hd : ((c : Int) != 1) = true := by simp; omega
        have HNO := Lib.hid (show ¬ (LostC q rows kn ∧ cntOf q rows kn = 1) from fun h => h1 (by have := h.2; unfold cntOf at this; rw [Int.toNat_natCast] at this; rw [HU.out.2.2]; exact this))
        go_wp2_with fail
        go_ret2
        exact givesIBno HU.out.2.1 ⟨fun h => absurd h HNO.out, fun _ => ⟨rfl, rfl⟩⟩

set_option maxHeartbeats 2000000 in
theorem implCountMends_any (p : Int) (v vk : Value) (rows : List (List Int)) (kn : List Int) (w : World) (hr : IsR w v rows) (hk : IsI w vk kn) :
    Calls Try.prog 38 #[.agg #[.int .i64 p, v], vk] w fun e w' => TellsN w e w' (CountR p rows kn) := by
  obtain ⟨ao, m, cap, rfl, HN, hm⟩ := hr.shape
  obtain ⟨ak, l, ck, rfl, HL, hl⟩ := hk.shape
  have HR := Lib.hid hr
  have HK := Lib.hid hk
  clear hr hk
  have h1 : New w (w.alloc (.cells #[.int .i64 p, .slice ao m cap] 25)) := New.alloc _ _
  go_enter Try.func38, Try.ntmps38
  go_wp2_with fail
  refine (implMends_any p _ _ rows kn _ (HR.out.new h1) (HK.out.new h1)).mono ?_
  rintro e w2 ⟨hy, hno⟩
  by_cases hc : LostC p rows kn
  · obtain ⟨u, rfl, hu, hn2⟩ := hy hc
    have H2 := Lib.hid (And.intro hc (h1.trans hn2))
    clear hy hno hu hn2 hc h1
    go_wp2_with fail
    go_ret
    exact ⟨_, rfl, ⟨fun _ => by unfold cntOf; rfl, fun h => absurd H2.out.1 h⟩, H2.out.2⟩
  · obtain ⟨rfl, hn2⟩ := hno hc
    have H2 := Lib.hid (And.intro hc (h1.trans hn2))
    clear hy hno hn2 hc h1
    go_wp2_with fail
    go_ret
    exact ⟨-1, rfl, ⟨fun h => absurd h H2.out.1, fun _ => rfl⟩, H2.out.2⟩

set_option maxHeartbeats 2000000 in
theorem implMendWord_any (p : Int) (v vk : Value) (rows : List (List Int)) (kn : List Int) (w : World) (hr : IsR w v rows) (hk : IsI w vk kn) :
    Calls Try.prog 63 #[.agg #[.int .i64 p, v], vk] w fun e w' => GivesIB w e w' (MendR p rows kn) := by
  obtain ⟨ao, m, cap, rfl, HN, hm⟩ := hr.shape
  obtain ⟨ak, l, ck, rfl, HL, hl⟩ := hk.shape
  have HR := Lib.hid hr
  have HK := Lib.hid hk
  clear hr hk
  have h1 : New w (w.alloc (.cells #[.int .i64 p, .slice ao m cap] 25)) := New.alloc _ _
  go_enter Try.func63, Try.ntmps63
  go_wp2_with fail
  refine (implMends_any p _ _ rows kn _ (HR.out.new h1) (HK.out.new h1)).mono ?_
  rintro e w2 ⟨hy, hno⟩
  by_cases hc : LostC p rows kn
  · obtain ⟨u, rfl, hu, hn2⟩ := hy hc
    obtain ⟨c, hcc⟩ : ∃ c, c = cntF p.toNat (gr rows 0).length rows kn (p.toNat ^ rows.length) := ⟨_, rfl⟩
    rw [← hcc] at hu ⊢
    have H2 := Lib.hid (And.intro hc (And.intro (h1.trans hn2) (And.intro hu (And.intro hcc h1))))
    clear hy hno hn2 hc h1 hu hcc
    by_cases h1 : c = 1
    · subst h1
      obtain ⟨t, t1, t2, t3, t4⟩ := H2.out.2.2.1 (Nat.le_refl _)
      have hk4 := H2.out.1.1.few.2.1
      have HT := Lib.hid (And.intro t1 (And.intro t2 (And.intro t3 t4)))
      clear t1 t2 t3 t4
      go_wp2_with fail
      refine (clip_any _ _ _ HT.out.2.2.1 (by rw [List.length_map, msg_length]; unfold Mid; omega)).mono ?_
      rintro e w3 ⟨u3, rfl, ho, hob, rfl⟩
      have HG := Lib.hid (show GivesIB w (.returned (.tuple #[u3, .bool true])) w2 (MendR p rows kn) from
        ⟨u3, _, true, rfl, ho, fun g hg => Nat.le_trans H2.out.2.2.2.2.size (HT.out.2.2.2 g (by rw [← hob]; exact hg)), ⟨fun _ => ⟨rfl, t, HT.out.1, HT.out.2.1, rfl⟩, fun h => absurd ⟨H2.out.1, H2.out.2.2.2.1.symm⟩ h⟩, H2.out.2.1⟩)
      clear ho hob
      go_wp2_with fail
      go_ret2
      exact HG.out
    · have hd : ((c : Int) != 1) = true := by simp; omega
      have HNO := Lib.hid (show ¬ (LostC p rows kn ∧ cntOf p rows kn = 1) from fun h => h1 (by have := h.2; unfold cntOf at this; rw [H2.out.2.2.2.1]; exact this))
      go_wp2_with fail
      go_ret2
      exact givesIBno H2.out.2.1 ⟨fun h => absurd h HNO.out, fun _ => ⟨rfl, rfl⟩⟩
  · obtain ⟨rfl, hn2⟩ := hno hc
    have H2 := Lib.hid (And.intro hc (h1.trans hn2))
    clear hy hno hn2 hc h1
    go_wp2_with fail
    go_ret2
    exact givesIBno H2.out.2 ⟨fun h => absurd h.1 H2.out.1, fun _ => ⟨rfl, rfl⟩⟩
end Go.Proofs.Ytgpmkbenjlhfhaa
