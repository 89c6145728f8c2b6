/- CountMends and MendWord of both. -/
import Derived.Test.YtcdbeepphdfipaaGreatDoorMendI
import Derived.Test.YtcdbeepphdfipaaGreatDoorSolveRows
namespace Go.Proofs.YtcdbeepphdfipaaGreatDoor
open Go.RowKit Mat
set_option linter.unusedVariables false


set_option maxHeartbeats 2000000 in
theorem specLost_any (p : Int) (v vk : Value) (rows : List (List Int)) (kn : List Int) (w : World) (hr : IsR w v rows) (hk : IsI w vk kn) (hv : ValidC p rows) :
    Calls Tryz.prog 81 #[.agg #[.int .i64 p, v], vk] w fun e w' => (∃ b : Bool, e = .returned (.bool b) ∧ (b = true ↔ LostC p rows kn)) ∧ New w w' := by
  have hp := hv.prime
  refine (validLost_any p v vk rows kn w hr hv.few.1 hk (by omega)).mono ?_
  rintro e w' ⟨rfl, hn⟩
  refine ⟨⟨_, rfl, ?_⟩, hn⟩
  rw [lostB_iff]
  exact ⟨fun h => ⟨hv, h.2, h.1⟩, fun h => ⟨h.2.2, h.2.1⟩⟩

set_option maxHeartbeats 2000000 in
theorem specMendWord_any (p : Int) (v vk : Value) (rows : List (List Int)) (kn : List Int) (w : World) (hr : IsR w v rows) (hk : IsI w vk kn) :
    Calls Tryz.prog 82 #[.agg #[.int .i64 p, v], vk] w fun e w' => GivesIB w e w' (MendR p rows kn) := by
  obtain ⟨ao, m, cap, rfl, HN, hm⟩ := hr.shape
  obtain ⟨ak, l, ck, rfl, HL, hl⟩ := hk.shape
  have HR := Lib.hid hr
  have HK := Lib.hid hk
  clear hr hk
  have h1 : New w (w.alloc (.cells #[.int .i64 p, .slice ao m cap] 24)) := New.alloc _ _
  have b1 := Blk2.alloc w (.int .i64 p) (.slice ao m cap) 24
  go_enter Tryz.func82, Tryz.ntmps82
  go_wp2_with fail
  refine (validCode_any _ _ rows _ (HR.out.new h1)).mono ?_
  rintro e w2 ⟨⟨b, rfl, hb⟩, hn2⟩
  have H2 := Lib.hid (And.intro (h1.trans hn2) (And.intro (b1.new hn2) hb))
  obtain ⟨c0, c1, _, _⟩ := (b1.new hn2).cells
  clear hb hn2 b1 h1
  cases b with
  | false =>
    have HNO := Lib.hid (show ¬ LostC p rows kn from fun h => by have := H2.out.2.2.2 h.1; cases this)
    go_wp2_with fail
    go_ret2
    exact givesIBno H2.out.1 ⟨fun h => absurd h.1 HNO.out, fun _ => ⟨rfl, rfl⟩⟩
  | true =>
    have hv := H2.out.2.2.1 rfl
    have HV := Lib.hid hv
    clear hv
    go_wp2_with fail
    refine (specLost_any p _ _ rows kn _ (HR.out.new H2.out.1) (HK.out.new H2.out.1) HV.out).mono ?_
    rintro e w3 ⟨⟨b, rfl, hb⟩, hn3⟩
    obtain ⟨d0, d1, _, _⟩ := (H2.out.2.1.new hn3).cells
    have H3 := Lib.hid (And.intro (H2.out.1.trans hn3) hb)
    clear hb hn3 c0 c1
    cases b with
    | false =>
      have HNO := Lib.hid (show ¬ LostC p rows kn from fun h => by have := H3.out.2.2 h; cases this)
      go_wp2_with fail
      go_ret2
      exact givesIBno H3.out.1 ⟨fun h => absurd h.1 HNO.out, fun _ => ⟨rfl, rfl⟩⟩
    | true =>
      have HLC := Lib.hid (H3.out.2.1 rfl)
      obtain ⟨q, rfl, hq⟩ := prime_nat (vtB_pr HV.out.1)
      haveI := hq.nz
      clear hq
      go_wp2_with fail
      refine (specMends_any q (gr rows 0).length _ _ rows kn _ (HR.out.new H3.out.1) (HK.out.new H3.out.1) (vtB_ok HV.out.1) HV.out.2.1 HLC.out.2.1).mono ?_
      rintro e w4 ⟨u, rfl, hu, hn4⟩
      obtain ⟨c, hc⟩ : ∃ c, c = cntF q (gr rows 0).length rows kn (q ^ rows.length) := ⟨_, rfl⟩
      rw [← hc] at hu ⊢
      have HU := Lib.hid (And.intro hu (And.intro (H3.out.1.trans hn4) hc))
      clear hu hn4 hc
      by_cases h1 : c = 1
      · subst h1
        have HG := Lib.hid (show GivesIB w (.returned (.tuple #[u, .bool true])) w4 (MendR q rows kn) from by
          obtain ⟨t, t1, t2, t3, t4⟩ := HU.out.1 (Nat.le_refl _)
          have hcc : cntOf q rows kn = 1 := by unfold cntOf; rw [Int.toNat_natCast]; exact HU.out.2.2.symm
          exact ⟨u, _, true, rfl, t3, fun g hg => Nat.le_trans H3.out.1.size (t4 g hg), ⟨fun _ => ⟨rfl, t, by rw [Int.toNat_natCast]; exact t1, by rw [Int.toNat_natCast]; exact t2, by rw [Int.toNat_natCast]⟩, fun h => absurd ⟨HLC.out, hcc⟩ h⟩, HU.out.2.1⟩)
        go_wp2_with fail
        go_ret2
        exact HG.out
      · have hd : ((c : Int) != 1) = true := by simp; omega
        have HNO := Lib.hid (show ¬ (LostC q rows kn ∧ cntOf q rows kn = 1) from fun h => h1 (by have := h.2; unfold cntOf at this; rw [Int.toNat_natCast] at this; rw [HU.out.2.2]; exact this))
        go_wp2_with fail
        go_ret2
        exact givesIBno HU.out.2.1 ⟨fun h => absurd h HNO.out, fun _ => ⟨rfl, rfl⟩⟩

end Go.Proofs.YtcdbeepphdfipaaGreatDoor
