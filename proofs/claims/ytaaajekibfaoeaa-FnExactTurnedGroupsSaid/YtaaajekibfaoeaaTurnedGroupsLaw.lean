/- THE LAW: FnExactTurnedGroups returns true for all arguments, without any condition: the program's function returns what the reference's returns, leaves its arguments alone, and hands back memory of its own. -/
import Derived.Test.YtaaajekibfaoeaaSchG
import Derived.Test.YtaaajekibfaoeaaObS
import Derived.Test.YtaaajekibfaoeaaLawK
import Derived.Test.YtaaajekibfaoeaaRows
import Derived.Deep.RegionHeld3
import Derived.Lib.SmallJoins
namespace Go.Proofs.Ytaaajekibfaoeaa
open Go.ChangeShapes Go.WideShapes Go.ChangeAt Go.RowKit Go.Joins
set_option linter.unusedVariables false

set_option maxRecDepth 100000 in
set_option maxHeartbeats 4000000 in
theorem exactTurnedGroups_any (p0 : Int) (v0 s0 : Value) (rows0 : List (List Int)) (own0 : List Int) (w : World) (hr0 : RawR w v0 rows0) (hs0 : RawI w s0 own0) :
    Calls Try.prog 8 #[.agg #[.int .i64 p0, v0, s0]] w fun e w' => e = .returned (.bool true) ∧ New w w' := by
  obtain ⟨ao0, cap0, ev0, ⟨hcap0, _⟩, hmax0, _⟩ := id hr0
  obtain ⟨n0, hn0⟩ : ∃ n, n = rows0.length := ⟨_, rfl⟩
  rw [← hn0] at ev0 hcap0
  subst ev0
  obtain ⟨ay0, cay0, ey0, ⟨hcay0, _⟩, hmay0, _⟩ := id hs0
  obtain ⟨m0, hy0⟩ : ∃ n, n = own0.length := ⟨_, rfl⟩
  rw [← hy0] at ey0 hcay0
  subst ey0
  have HR0 := Lib.hid hr0
  have HY0 := Lib.hid hs0
  clear hr0 hn0 hcap0 hmax0 hs0 hy0 hcay0 hmay0
  have hN : New w w := Chg.refl _ _
  obtain ⟨b0, hb0⟩ : ∃ b, b = w.heap.size := ⟨_, rfl⟩
  have h0 : New w (w.alloc (.cells #[.int .i64 p0, .slice ao0 n0 cap0, .slice ay0 m0 cay0] 50)) := New.alloc _ _
  have KP0 := Lib.hid (Blk3.alloc w (.int .i64 p0) (.slice ao0 n0 cap0) (.slice ay0 m0 cay0) 50)
  have hS : b0 + 1 ≤ (w.alloc (.cells #[.int .i64 p0, .slice ao0 n0 cap0, .slice ay0 m0 cay0] 50)).heap.size := by rw [World.size_alloc, hb0]; exact Nat.le_refl _
  replace hN := hN.trans h0
  clear h0
  go_enter Try.func8, Try.ntmps8
  go_wp2_with fail
  refine (szS_any _ _ _ rows0 own0 _ _ (HR0.out.new hN) (HY0.out.new hN) (by omega)).mono ?_
  rintro e w1 ⟨r, rfl, hn1, hr1, hr2⟩
  replace hN := hN.trans hn1
  replace KP0 := Lib.hid (KP0.out.new hn1)
  replace hS := Nat.le_trans hS hn1.size
  clear hn1
  have HR2 := Lib.hid hr2
  clear hr2
  by_cases hneg : r < 0
  · go_wp2_with fail
    go_ret
    exact ⟨rfl, hN⟩
  have SN0 : SmR rows0 ∧ own0.length ≤ 1048576 := by
    rcases HR2.out with h | h
    · omega
    · exact ⟨⟨by omega, fun i hi => by have := h.2.1 i hi; omega⟩, by omega⟩
  have SM0 := SN0.1
  have HJ0 := Lib.hid (HY0.out.isI (by have := SN0.2; unfold Mid; omega))
  replace SN0 := Lib.hid SN0
  have HI0 := Lib.hid (HR0.out.isR (by have := SM0.1; unfold Mid; omega) (fun i hi => by have := SM0.2 i hi; unfold Mid; omega))
  replace SM0 := Lib.hid SM0
  clear HR2 hr1
  obtain ⟨dP00, dP01, dP02, _, _, _⟩ := KP0.out.cells
  go_wp2_with fail
  refine (toS_any p0 _ _ rows0 own0 _ (HI0.out.new hN) (HJ0.out.new hN)).mono ?_
  rintro e w2 ⟨uA0, tA0, rfl, ho, hn⟩
  clear dP00 dP01 dP02
  obtain ⟨⟨aA0, nA0, cA0, rfl⟩, ⟨ayA0, mA0, cyA0, rfl⟩⟩ := ho.shape SN0.out.1 SN0.out.2
  have hsz := hS
  replace hN := hN.trans hn
  replace KP0 := Lib.hid (KP0.out.new hn)
  replace hS := Nat.le_trans hS hn.size
  obtain ⟨bA0, hbA0⟩ : ∃ b, (b0 + 1 ≤ b ∧ b ≤ w2.heap.size) ∧ ObS w2 (.slice aA0 nA0 cA0) (.slice ayA0 mA0 cyA0) rows0 own0 b w2.heap.size := ⟨_, ⟨hsz, hn.size⟩, ho⟩
  obtain ⟨qA0, ho2⟩ := hbA0
  obtain ⟨eA0, heA0⟩ : ∃ e, e = w2.heap.size := ⟨_, rfl⟩
  rw [← heA0] at ho2 qA0 hS
  have OA0 := Lib.hid ho2
  replace hS : eA0 ≤ w2.heap.size := by omega
  clear ho ho2 hn hsz
  obtain ⟨dP00, dP01, dP02, _, _, _⟩ := KP0.out.cells
  go_wp2_with fail
  refine (specTurnedGroups_any p0 _ _ rows0 own0 _ (OA0.out.isR SM0.out) (OA0.out.isI SN0.out.2)).mono ?_
  rintro e w3 ⟨uW, outW, rfl, ho1, hf, hq, hn⟩
  have ho := ObI.of ho1 hf
  clear ho1 hf
  have HQ := Lib.hid hq
  have SQ := Lib.hid hq.small
  clear hq
  clear dP00 dP01 dP02
  obtain ⟨aW, nW, cW, rfl⟩ := ho.shape SQ.out
  have hsz := hS
  replace hN := hN.trans hn
  replace OA0 := Lib.hid (OA0.out.new hn)
  replace KP0 := Lib.hid (KP0.out.new hn)
  replace hS := Nat.le_trans hS hn.size
  obtain ⟨bW, hbW⟩ : ∃ b, (eA0 ≤ b ∧ b ≤ w3.heap.size) ∧ ObI w3 (.slice aW nW cW) outW b w3.heap.size := ⟨_, ⟨hsz, hn.size⟩, ho⟩
  obtain ⟨qW, ho2⟩ := hbW
  obtain ⟨eW, heW⟩ : ∃ e, e = w3.heap.size := ⟨_, rfl⟩
  rw [← heW] at ho2 qW hS
  have OW := Lib.hid ho2
  replace hS : eW ≤ w3.heap.size := by omega
  clear ho ho2 hn hsz
  clear OA0
  obtain ⟨dP00, dP01, dP02, _, _, _⟩ := KP0.out.cells
  go_wp2_with fail
  refine (toS_any p0 _ _ rows0 own0 _ (HI0.out.new hN) (HJ0.out.new hN)).mono ?_
  rintro e w4 ⟨uX0, tX0, rfl, ho, hn⟩
  clear dP00 dP01 dP02
  obtain ⟨⟨aX0, nX0, cX0, rfl⟩, ⟨ayX0, mX0, cyX0, rfl⟩⟩ := ho.shape SN0.out.1 SN0.out.2
  have hsz := hS
  replace hN := hN.trans hn
  replace OW := Lib.hid (OW.out.new hn)
  replace KP0 := Lib.hid (KP0.out.new hn)
  replace hS := Nat.le_trans hS hn.size
  obtain ⟨bX0, hbX0⟩ : ∃ b, (eW ≤ b ∧ b ≤ w4.heap.size) ∧ ObS w4 (.slice aX0 nX0 cX0) (.slice ayX0 mX0 cyX0) rows0 own0 b w4.heap.size := ⟨_, ⟨hsz, hn.size⟩, ho⟩
  obtain ⟨qX0, ho2⟩ := hbX0
  obtain ⟨eX0, heX0⟩ : ∃ e, e = w4.heap.size := ⟨_, rfl⟩
  rw [← heX0] at ho2 qX0 hS
  have OX0 := Lib.hid ho2
  replace hS : eX0 ≤ w4.heap.size := by omega
  clear ho ho2 hn hsz
  have hal : New w4 (w4.alloc (.cells #[.int .i64 p0, .slice aX0 nX0 cX0, .slice ayX0 mX0 cyX0] 43)) := New.alloc _ _
  have KB := Lib.hid (Blk3.alloc w4 (.int .i64 p0) (.slice aX0 nX0 cX0) (.slice ayX0 mX0 cyX0) 43)
  replace hN := hN.trans hal
  replace OW := Lib.hid (OW.out.new hal)
  replace OX0 := Lib.hid (OX0.out.new hal)
  replace KP0 := Lib.hid (KP0.out.new hal)
  replace hS := Nat.le_trans hS hal.size
  have KX0 := KB
  replace hS : eX0 + 1 ≤ (w4.alloc (.cells #[.int .i64 p0, .slice aX0 nX0 cX0, .slice ayX0 mX0 cyX0] 43)).heap.size := by rw [World.size_alloc, heX0]; exact Nat.le_refl _
  clear KB hal
  obtain ⟨dP00, dP01, dP02, _, _, _⟩ := KP0.out.cells
  obtain ⟨dX00, dX01, dX02, _, _, _⟩ := KX0.out.cells
  go_wp2_with fail
  refine (implTurnedGroups_any p0 _ _ rows0 own0 _ (OX0.out.isR SM0.out) (OX0.out.isI SN0.out.2)).mono ?_
  rintro e w5 ⟨uG, outG, rfl, ho1, hf, hq, hn⟩
  have ho := ObI.of ho1 hf
  clear ho1 hf
  obtain rfl : outG = outW := hq.unique HQ.out
  clear hq
  clear dP00 dP01 dP02 dX00 dX01 dX02
  obtain ⟨aG, nG, cG, rfl⟩ := ho.shape SQ.out
  have hsz := hS
  replace hN := hN.trans hn
  replace OW := Lib.hid (OW.out.new hn)
  replace OX0 := Lib.hid (OX0.out.new hn)
  replace KP0 := Lib.hid (KP0.out.new hn)
  replace KX0 := Lib.hid (KX0.out.new hn)
  replace hS := Nat.le_trans hS hn.size
  obtain ⟨bG, hbG⟩ : ∃ b, (eX0 + 1 ≤ b ∧ b ≤ w5.heap.size) ∧ ObI w5 (.slice aG nG cG) outG b w5.heap.size := ⟨_, ⟨hsz, hn.size⟩, ho⟩
  obtain ⟨qG, ho2⟩ := hbG
  obtain ⟨eG, heG⟩ : ∃ e, e = w5.heap.size := ⟨_, rfl⟩
  rw [← heG] at ho2 qG hS
  have OG := Lib.hid ho2
  replace hS : eG ≤ w5.heap.size := by omega
  clear ho ho2 hn hsz
  obtain ⟨dP00, dP01, dP02, _, _, _⟩ := KP0.out.cells
  obtain ⟨dX00, dX01, dX02, _, _, _⟩ := KX0.out.cells
  go_wp2_with fail
  refine (eqI _ _ outG _ _ _ _ _ SQ.out OG.out OW.out).mono ?_
  rintro e w6 ⟨rfl, hn⟩
  clear dP00 dP01 dP02 dX00 dX01 dX02
  replace hN := hN.trans hn
  replace OW := Lib.hid (OW.out.new hn)
  replace OX0 := Lib.hid (OX0.out.new hn)
  replace OG := Lib.hid (OG.out.new hn)
  replace KP0 := Lib.hid (KP0.out.new hn)
  replace KX0 := Lib.hid (KX0.out.new hn)
  replace hS := Nat.le_trans hS hn.size
  clear hn
  obtain ⟨dP00, dP01, dP02, _, _, _⟩ := KP0.out.cells
  obtain ⟨dX00, dX01, dX02, _, _, _⟩ := KX0.out.cells
  go_wp2_with fail
  go_region_held3 (fun w' => w'.cell? ⟨w.heap.size, 0, none⟩ = some (.int .i64 p0) ∧ w'.cell? ⟨w.heap.size, 1, none⟩ = some (.slice ao0 n0 cap0) ∧ w'.cell? ⟨w.heap.size, 2, none⟩ = some (.slice ay0 m0 cay0) ∧ w'.cell? ⟨w4.heap.size, 0, none⟩ = some (.int .i64 p0) ∧ w'.cell? ⟨w4.heap.size, 1, none⟩ = some (.slice aX0 nX0 cX0) ∧ w'.cell? ⟨w4.heap.size, 2, none⟩ = some (.slice ayX0 mX0 cyX0))
    (first | exact ⟨HK9.out.cellNew dP00, HK9.out.cellNew dP01, HK9.out.cellNew dP02, HK9.out.cellNew dX00, HK9.out.cellNew dX01, HK9.out.cellNew dX02⟩ | exact ⟨HK8.out.cellNew dP00, HK8.out.cellNew dP01, HK8.out.cellNew dP02, HK8.out.cellNew dX00, HK8.out.cellNew dX01, HK8.out.cellNew dX02⟩ | go_keep)
    (first | (go_at_call 37; refine (toS_any _ _ _ rows0 own0 _ (HI0.out.new (hN.trans (New.drew _))) (HJ0.out.new (hN.trans (New.drew _)))).mono ?_; rintro e w7 ⟨u8, t8, rfl, ho8, hn8⟩; have HO8 := Lib.hid ho8; have HK8 := Lib.hid ((New.drew _).trans hn8); clear ho8 hn8) | (go_at_call 39; refine (eqS _ _ _ _ _ rows0 own0 _ _ _ _ _ SM0.out SN0.out.2 (OX0.out.new HK8.out) HO8.out).mono ?_; rintro e w8 ⟨rfl, hn9⟩; have HK9 := Lib.hid (HK8.out.trans hn9); clear hn9))
  clear dP00 dP01 dP02 dX00 dX01 dX02
  have hn := HK9.out
  replace hN := hN.trans hn
  replace OW := Lib.hid (OW.out.new hn)
  replace OX0 := Lib.hid (OX0.out.new hn)
  replace OG := Lib.hid (OG.out.new hn)
  replace KP0 := Lib.hid (KP0.out.new hn)
  replace KX0 := Lib.hid (KX0.out.new hn)
  replace hS := Nat.le_trans hS hn.size
  clear hn HK9 HK8 HO8
  obtain ⟨dP00, dP01, dP02, _, _, _⟩ := KP0.out.cells
  obtain ⟨dX00, dX01, dX02, _, _, _⟩ := KX0.out.cells
  go_wp2_with fail
  refine (markS p0 _ _ rows0 own0 _ _ _ _ SM0.out SN0.out.2 OX0.out (by omega) (by omega)).mono ?_
  rintro e w9 ⟨M0, rfl, hM0, hM01, hM02, ho, hc⟩
  clear dP00 dP01 dP02 dX00 dX01 dX02
  have HM0 := Lib.hid hM0
  clear hM0
  replace hN := hN.ivNew hc (by omega)
  replace OW := Lib.hid (OW.out.chg hc (by omega))
  replace OG := Lib.hid (OG.out.chg hc (by omega))
  replace KP0 := Lib.hid (KP0.out.iv hc (by omega))
  replace KX0 := Lib.hid (KX0.out.iv hc (by omega))
  replace hS := Nat.le_trans hS hc.size
  replace OX0 := Lib.hid ho
  clear ho hc
  clear OX0
  obtain ⟨dP00, dP01, dP02, _, _, _⟩ := KP0.out.cells
  obtain ⟨dX00, dX01, dX02, _, _, _⟩ := KX0.out.cells
  go_wp2_with fail
  refine (eqI _ _ outG _ _ _ _ _ SQ.out OG.out OW.out).mono ?_
  rintro e w10 ⟨rfl, hn⟩
  clear dP00 dP01 dP02 dX00 dX01 dX02
  replace hN := hN.trans hn
  replace OW := Lib.hid (OW.out.new hn)
  replace OG := Lib.hid (OG.out.new hn)
  replace KP0 := Lib.hid (KP0.out.new hn)
  replace KX0 := Lib.hid (KX0.out.new hn)
  replace hS := Nat.le_trans hS hn.size
  clear hn
  obtain ⟨dP00, dP01, dP02, _, _, _⟩ := KP0.out.cells
  obtain ⟨dX00, dX01, dX02, _, _, _⟩ := KX0.out.cells
  go_wp2_with fail
  refine (markI _ outG _ _ _ _ SQ.out OG.out (by omega)).mono ?_
  rintro e w11 ⟨MG, rfl, hMG, hMG1, hMG2, ho, hc⟩
  clear dP00 dP01 dP02 dX00 dX01 dX02
  have HMG := Lib.hid hMG
  clear hMG
  replace hN := hN.ivNew hc (by omega)
  replace OW := Lib.hid (OW.out.chg hc (by omega))
  replace KP0 := Lib.hid (KP0.out.iv hc (by omega))
  replace KX0 := Lib.hid (KX0.out.iv hc (by omega))
  replace hS := Nat.le_trans hS hc.size
  replace OG := Lib.hid ho
  clear ho hc
  obtain ⟨dP00, dP01, dP02, _, _, _⟩ := KP0.out.cells
  obtain ⟨dX00, dX01, dX02, _, _, _⟩ := KX0.out.cells
  go_wp2_with fail
  refine (heldI _ outG.length _ MG _ _ _ SQ.out HMG.out OG.out (by omega)).mono ?_
  rintro e w12 ⟨rfl, hn⟩
  clear dP00 dP01 dP02 dX00 dX01 dX02
  replace hN := hN.trans hn
  replace OW := Lib.hid (OW.out.new hn)
  replace OG := Lib.hid (OG.out.new hn)
  replace KP0 := Lib.hid (KP0.out.new hn)
  replace KX0 := Lib.hid (KX0.out.new hn)
  replace hS := Nat.le_trans hS hn.size
  clear hn
  obtain ⟨dP00, dP01, dP02, _, _, _⟩ := KP0.out.cells
  obtain ⟨dX00, dX01, dX02, _, _, _⟩ := KX0.out.cells
  go_wp2_with fail
  refine (toS_any p0 _ _ rows0 own0 _ (HI0.out.new hN) (HJ0.out.new hN)).mono ?_
  rintro e w13 ⟨uB0, tB0, rfl, ho, hn⟩
  clear dP00 dP01 dP02 dX00 dX01 dX02
  obtain ⟨⟨aB0, nB0, cB0, rfl⟩, ⟨ayB0, mB0, cyB0, rfl⟩⟩ := ho.shape SN0.out.1 SN0.out.2
  have hsz := hS
  replace hN := hN.trans hn
  replace OW := Lib.hid (OW.out.new hn)
  replace OG := Lib.hid (OG.out.new hn)
  replace KP0 := Lib.hid (KP0.out.new hn)
  replace KX0 := Lib.hid (KX0.out.new hn)
  replace hS := Nat.le_trans hS hn.size
  obtain ⟨bB0, hbB0⟩ : ∃ b, (eG ≤ b ∧ b ≤ w13.heap.size) ∧ ObS w13 (.slice aB0 nB0 cB0) (.slice ayB0 mB0 cyB0) rows0 own0 b w13.heap.size := ⟨_, ⟨hsz, hn.size⟩, ho⟩
  obtain ⟨qB0, ho2⟩ := hbB0
  obtain ⟨eB0, heB0⟩ : ∃ e, e = w13.heap.size := ⟨_, rfl⟩
  rw [← heB0] at ho2 qB0 hS
  have OB0 := Lib.hid ho2
  replace hS : eB0 ≤ w13.heap.size := by omega
  clear ho ho2 hn hsz
  obtain ⟨dP00, dP01, dP02, _, _, _⟩ := KP0.out.cells
  obtain ⟨dX00, dX01, dX02, _, _, _⟩ := KX0.out.cells
  go_wp2_with fail
  refine (implTurnedGroups_any p0 _ _ rows0 own0 _ (OB0.out.isR SM0.out) (OB0.out.isI SN0.out.2)).mono ?_
  rintro e w14 ⟨uH, outH, rfl, ho1, hf, hq, hn⟩
  have ho := ObI.of ho1 hf
  clear ho1 hf
  obtain rfl : outH = outG := hq.unique HQ.out
  clear hq
  clear dP00 dP01 dP02 dX00 dX01 dX02
  obtain ⟨aH, nH, cH, rfl⟩ := ho.shape SQ.out
  have hsz := hS
  replace hN := hN.trans hn
  replace OW := Lib.hid (OW.out.new hn)
  replace OG := Lib.hid (OG.out.new hn)
  replace OB0 := Lib.hid (OB0.out.new hn)
  replace KP0 := Lib.hid (KP0.out.new hn)
  replace KX0 := Lib.hid (KX0.out.new hn)
  replace hS := Nat.le_trans hS hn.size
  obtain ⟨bH, hbH⟩ : ∃ b, (eB0 ≤ b ∧ b ≤ w14.heap.size) ∧ ObI w14 (.slice aH nH cH) outH b w14.heap.size := ⟨_, ⟨hsz, hn.size⟩, ho⟩
  obtain ⟨qH, ho2⟩ := hbH
  obtain ⟨eH, heH⟩ : ∃ e, e = w14.heap.size := ⟨_, rfl⟩
  rw [← heH] at ho2 qH hS
  have OH := Lib.hid ho2
  replace hS : eH ≤ w14.heap.size := by omega
  clear ho ho2 hn hsz
  clear OB0
  obtain ⟨dP00, dP01, dP02, _, _, _⟩ := KP0.out.cells
  obtain ⟨dX00, dX01, dX02, _, _, _⟩ := KX0.out.cells
  go_wp2_with fail
  refine (eqI _ _ outH _ _ _ _ _ SQ.out OH.out OW.out).mono ?_
  rintro e w15 ⟨rfl, hn⟩
  clear dP00 dP01 dP02 dX00 dX01 dX02
  replace hN := hN.trans hn
  replace OW := Lib.hid (OW.out.new hn)
  replace OG := Lib.hid (OG.out.new hn)
  replace OH := Lib.hid (OH.out.new hn)
  replace KP0 := Lib.hid (KP0.out.new hn)
  replace KX0 := Lib.hid (KX0.out.new hn)
  replace hS := Nat.le_trans hS hn.size
  clear hn
  obtain ⟨dP00, dP01, dP02, _, _, _⟩ := KP0.out.cells
  obtain ⟨dX00, dX01, dX02, _, _, _⟩ := KX0.out.cells
  go_wp2_with fail
  refine (heldI _ outH.length _ MG _ _ _ SQ.out HMG.out OG.out (by omega)).mono ?_
  rintro e w16 ⟨rfl, hn⟩
  clear dP00 dP01 dP02 dX00 dX01 dX02
  replace hN := hN.trans hn
  replace OW := Lib.hid (OW.out.new hn)
  replace OG := Lib.hid (OG.out.new hn)
  replace OH := Lib.hid (OH.out.new hn)
  replace KP0 := Lib.hid (KP0.out.new hn)
  replace KX0 := Lib.hid (KX0.out.new hn)
  replace hS := Nat.le_trans hS hn.size
  clear hn
  go_wp2_with fail
  go_ret
  exact ⟨rfl, hN⟩

theorem cellsScheme : Try.prog.cellsOf 50 = 3 := by kernel_rfl

set_option maxRecDepth 100000 in
theorem exactTurnedGroups_lifted (os : Os) (started : os.Started) (H : Type) (enc : TypeId × Value → H) :
    ReturnsInHanded {} Try.checked os 8 .any (Rows.fnExactTurnedGroupsSpec.pre6 enc Try.prog Try.f8 Rows.fnExactTurnedGroupsRow.domain false) (Rows.fnExactTurnedGroupsSpec.post enc Try.prog Try.f8 false true false false) := by
  refine returnsInHanded_of_change (C := Try.checked) own started (by kernel_rfl) Try.func8
    (ChangeSpec.witness6 (enc := enc) (C := Try.checked) false ⟨#[], #[.agg #[.int .i64 0, .slice none 0 0, .slice none 0 0]], []⟩ 8 (by kernel_rfl) (by kernel_rfl) (by kernel_rfl) (by kernel_rfl)) ?_
  intro W base args ds gs before hval0 hW hcnd _
  have hval : ∀ (j : Nat) t v, Try.f8.params[j]? = some t → args[j]? = some v → Value.okWide Try.prog W .any base t v := hval0
  have hW' := hW
  obtain ⟨p, q, hA0, hV, rfl, hfz, hnd⟩ := hW
  have hA : DataW.TrodAll enc Try.prog W 0 (fun _ => true) true Try.f8.params.toList args.toList ds p := hA0
  rw [Try.params8] at hA hval
  obtain ⟨v0, vs0, d0, ds0, pl0, q0, hargs, rfl, rfl, h0, r0⟩ := trodAll_cons hA
  obtain ⟨rfl, rfl, rfl⟩ := trodAll_nil r0
  obtain rfl : args = #[v0] := by cases args; simp_all
  obtain ⟨rfl, rfl⟩ := trodVars_none hV
  have k0 := h0
  have lt0 : ∀ x ∈ pl0, x.block < W.heap.size := by obtain ⟨m, hm⟩ := k0; exact DataW.trod_lt m _ _ _ hm
  obtain ⟨c0, cc0, cd0, y0, yy0, yz0, m0, rfl, rfl, rfl, hy0, hyy0, hyz0⟩ := open_agg3 Try.underlying50 (by kernel_rfl) cellsScheme (hval 0 50 v0 rfl rfl) h0
  obtain ⟨a0, e0, rfl, wa0⟩ := DataW.trod_int Try.underlying3 hy0
  simp only [List.cons.injEq, and_true] at e0
  subst e0
  obtain ⟨rows0, hrows0⟩ : ∃ rows, RawR W cc0 rows := rawR_of_cell hyy0
  obtain ⟨own0, hown0⟩ : ∃ own, RawI W cd0 own := rawI_of_cell hyz0
  clear hA0 hval0
  refine (exactTurnedGroups_any a0 _ _ rows0 own0 W hrows0 hown0).mono fun e W' ⟨he, hnew⟩ => ?_
  subst he
  have bel := hnew.below
  exact ⟨_, rfl, _, _, _, [], _, [], hW', trodAll_mk1 (shut_bool Try.underlying4 _), (trodAll_cons_mk (Below.trod laidOut (by kernel_rfl) (of_decide_eq_true (by kernel_rfl)) k0 bel lt0) trodAll_mk0), rfl, bel.frame _, fun h => by cases h⟩

theorem exactTurnedGroups_holds : Rows.FnExactTurnedGroupsSaid :=
  OpenClaim.holds_of_wide 8 Try.f8 rfl rfl rfl rfl rfl rfl rfl ⟨rfl, rfl, rfl, rfl, rfl⟩ rfl rfl rfl rfl rfl (by kernel_rfl) Try.func8 (by kernel_rfl)
    (of_decide_eq_true (by kernel_rfl)) (by unfold Func.isWrapper; first | (rw [if_pos (by decide +kernel)]; kernel_rfl) | (rw [if_neg (by decide +kernel)]; exact ⟨rfl, rfl⟩))
    (fun os started H enc _ => exactTurnedGroups_lifted os started H enc)
#print axioms exactTurnedGroups_holds
end Go.Proofs.Ytaaajekibfaoeaa
