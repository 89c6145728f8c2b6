/- THE LAW: FnExactCountMends returns true for all arguments, without any condition: the program's function returns what the reference's returns, leaves its arguments alone, and hands back memory of its own. -/
import Derived.Test.YtjnfnhcbplbceaaMends
import Derived.Test.YtjnfnhcbplbceaaLawK
import Derived.Test.YtjnfnhcbplbceaaRows
import Derived.Deep.RegionHeld3
import Derived.Lib.SmallJoins
namespace Go.Proofs.Ytjnfnhcbplbceaa
open Go.ChangeShapes Go.WideShapes Go.ChangeAt Go.RowKit Go.Joins
set_option linter.unusedVariables false

set_option maxRecDepth 100000 in
set_option maxHeartbeats 4000000 in
theorem exactCountMends_any (p0 : Int) (v0 : Value) (rows0 : List (List Int)) (v1 : Value) (xs1 : List Int) (w : World) (hr0 : RawR w v0 rows0) (hr1 : RawI w v1 xs1) :
    Calls Try.prog 4 #[.agg #[.int .i64 p0, v0], v1] w fun e w' => e = .returned (.bool true) ∧ New w w' := by
  obtain ⟨ao0, cap0, ev0, ⟨hcap0, _⟩, hmax0, _⟩ := id hr0
  obtain ⟨n0, hn0⟩ : ∃ n, n = rows0.length := ⟨_, rfl⟩
  rw [← hn0] at ev0 hcap0
  subst ev0
  have hnm0 : n0 ≤ 9223372036854775807 := by unfold maxLen at hmax0; omega
  have HR0 := Lib.hid hr0
  have HNN0 := Lib.hid hn0
  clear hr0 hn0 hcap0 hmax0
  obtain ⟨ao1, cap1, ev1, ⟨hcap1, _⟩, hmax1, _⟩ := id hr1
  obtain ⟨n1, hn1⟩ : ∃ n, n = xs1.length := ⟨_, rfl⟩
  rw [← hn1] at ev1 hcap1
  subst ev1
  have hnm1 : n1 ≤ 9223372036854775807 := by unfold maxLen at hmax1; omega
  have HR1 := Lib.hid hr1
  have HNN1 := Lib.hid hn1
  clear hr1 hn1 hcap1 hmax1
  by_cases hlen1 : n1 ≤ 1048576
  rotate_left
  · go_enter Try.func4, Try.ntmps4
    go_wp2_with fail
    go_ret
    exact ⟨rfl, New.alloc _ _⟩
  have hN : New w w := Chg.refl _ _
  obtain ⟨b0, hb0⟩ : ∃ b, b = w.heap.size := ⟨_, rfl⟩
  have h0 : New w (w.alloc (.cells #[.int .i64 p0, .slice ao0 n0 cap0] 24)) := New.alloc _ _
  have KP0 := Lib.hid (Blk2.alloc w (.int .i64 p0) (.slice ao0 n0 cap0) 24)
  have hS : b0 + 1 ≤ (w.alloc (.cells #[.int .i64 p0, .slice ao0 n0 cap0] 24)).heap.size := by rw [World.size_alloc, hb0]; exact Nat.le_refl _
  replace hN := hN.trans h0
  clear h0
  go_enter Try.func4, Try.ntmps4
  go_wp2_with fail
  refine (szCode_any _ _ rows0 _ _ (HR0.out.new hN) (by omega)).mono ?_
  rintro e w1 ⟨r, rfl, hn1, hr1, hr2⟩
  replace hN := hN.trans hn1
  replace KP0 := Lib.hid (KP0.out.new hn1)
  replace hS := Nat.le_trans hS hn1.size
  clear hn1
  have HR2 := Lib.hid hr2
  clear hr2
  by_cases hneg : r < 0
  · go_wp2_with fail
    go_ret
    exact ⟨rfl, hN⟩
  have SM0 : SmR rows0 := by
    rcases HR2.out with h | h
    · omega
    · exact ⟨by omega, fun i hi => by have := h.2 i hi; omega⟩
  have HI0 := Lib.hid (HR0.out.isR (by have := SM0.1; unfold Mid; omega) (fun i hi => by have := SM0.2 i hi; unfold Mid; omega))
  replace SM0 := Lib.hid SM0
  clear HR2 hr1
  have SM1 : xs1.length ≤ 1048576 := by rw [← HNN1.out]; omega
  have HI1 := Lib.hid (HR1.out.isI (by unfold Mid; omega))
  replace SM1 := Lib.hid SM1
  obtain ⟨dP00, dP01, _, _⟩ := KP0.out.cells
  go_wp2_with fail
  refine (toC_any p0 _ rows0 _ (HI0.out.new hN)).mono ?_
  rintro e w2 ⟨uA0, rfl, ho, hn⟩
  clear dP00 dP01
  obtain ⟨aA0, nA0, cA0, rfl⟩ := ho.shape SM0.out
  have hsz := hS
  replace hN := hN.trans hn
  replace KP0 := Lib.hid (KP0.out.new hn)
  replace hS := Nat.le_trans hS hn.size
  obtain ⟨bA0, hbA0⟩ : ∃ b, (b0 + 1 ≤ b ∧ b ≤ w2.heap.size) ∧ ObR w2 (.slice aA0 nA0 cA0) rows0 b w2.heap.size := ⟨_, ⟨hsz, hn.size⟩, ho⟩
  obtain ⟨qA0, ho2⟩ := hbA0
  obtain ⟨eA0, heA0⟩ : ∃ e, e = w2.heap.size := ⟨_, rfl⟩
  rw [← heA0] at ho2 qA0 hS
  have OA0 := Lib.hid ho2
  replace hS : eA0 ≤ w2.heap.size := by omega
  clear ho ho2 hn hsz
  obtain ⟨dP00, dP01, _, _⟩ := KP0.out.cells
  go_wp2_with fail
  refine (toI_any _ xs1 _ (HI1.out.new hN)).mono ?_
  rintro e w3 ⟨uA1, rfl, ho, hn⟩
  clear dP00 dP01
  obtain ⟨aA1, nA1, cA1, rfl⟩ := ho.shape SM1.out
  have hsz := hS
  replace hN := hN.trans hn
  replace OA0 := Lib.hid (OA0.out.new hn)
  replace KP0 := Lib.hid (KP0.out.new hn)
  replace hS := Nat.le_trans hS hn.size
  obtain ⟨bA1, hbA1⟩ : ∃ b, (eA0 ≤ b ∧ b ≤ w3.heap.size) ∧ ObI w3 (.slice aA1 nA1 cA1) xs1 b w3.heap.size := ⟨_, ⟨hsz, hn.size⟩, ho⟩
  obtain ⟨qA1, ho2⟩ := hbA1
  obtain ⟨eA1, heA1⟩ : ∃ e, e = w3.heap.size := ⟨_, rfl⟩
  rw [← heA1] at ho2 qA1 hS
  have OA1 := Lib.hid ho2
  replace hS : eA1 ≤ w3.heap.size := by omega
  clear ho ho2 hn hsz
  obtain ⟨dP00, dP01, _, _⟩ := KP0.out.cells
  go_wp2_with fail
  refine (specCountMends_any p0 _ _ rows0 xs1 _ (OA0.out.isR SM0.out) (OA1.out.isI SM1.out)).mono ?_
  rintro e w4 ⟨tW, rfl, hq, hn⟩
  clear dP00 dP01
  replace hN := hN.trans hn
  replace OA0 := Lib.hid (OA0.out.new hn)
  replace OA1 := Lib.hid (OA1.out.new hn)
  replace KP0 := Lib.hid (KP0.out.new hn)
  replace hS := Nat.le_trans hS hn.size
  have HQ := Lib.hid hq
  clear hq hn
  clear OA0
  clear OA1
  obtain ⟨dP00, dP01, _, _⟩ := KP0.out.cells
  go_wp2_with fail
  refine (toC_any p0 _ rows0 _ (HI0.out.new hN)).mono ?_
  rintro e w5 ⟨uX0, rfl, ho, hn⟩
  clear dP00 dP01
  obtain ⟨aX0, nX0, cX0, rfl⟩ := ho.shape SM0.out
  have hsz := hS
  replace hN := hN.trans hn
  replace KP0 := Lib.hid (KP0.out.new hn)
  replace hS := Nat.le_trans hS hn.size
  obtain ⟨bX0, hbX0⟩ : ∃ b, (eA1 ≤ b ∧ b ≤ w5.heap.size) ∧ ObR w5 (.slice aX0 nX0 cX0) rows0 b w5.heap.size := ⟨_, ⟨hsz, hn.size⟩, ho⟩
  obtain ⟨qX0, ho2⟩ := hbX0
  obtain ⟨eX0, heX0⟩ : ∃ e, e = w5.heap.size := ⟨_, rfl⟩
  rw [← heX0] at ho2 qX0 hS
  have OX0 := Lib.hid ho2
  replace hS : eX0 ≤ w5.heap.size := by omega
  clear ho ho2 hn hsz
  have hal : New w5 (w5.alloc (.cells #[.int .i64 p0, .slice aX0 nX0 cX0] 27)) := New.alloc _ _
  have KB := Lib.hid (Blk2.alloc w5 (.int .i64 p0) (.slice aX0 nX0 cX0) 27)
  replace hN := hN.trans hal
  replace OX0 := Lib.hid (OX0.out.new hal)
  replace KP0 := Lib.hid (KP0.out.new hal)
  replace hS := Nat.le_trans hS hal.size
  have KX0 := KB
  replace hS : eX0 + 1 ≤ (w5.alloc (.cells #[.int .i64 p0, .slice aX0 nX0 cX0] 27)).heap.size := by rw [World.size_alloc, heX0]; exact Nat.le_refl _
  clear KB hal
  obtain ⟨dP00, dP01, _, _⟩ := KP0.out.cells
  obtain ⟨dX00, dX01, _, _⟩ := KX0.out.cells
  go_wp2_with fail
  refine (toI_any _ xs1 _ (HI1.out.new hN)).mono ?_
  rintro e w6 ⟨uX1, rfl, ho, hn⟩
  clear dP00 dP01 dX00 dX01
  obtain ⟨aX1, nX1, cX1, rfl⟩ := ho.shape SM1.out
  have hsz := hS
  replace hN := hN.trans hn
  replace OX0 := Lib.hid (OX0.out.new hn)
  replace KP0 := Lib.hid (KP0.out.new hn)
  replace KX0 := Lib.hid (KX0.out.new hn)
  replace hS := Nat.le_trans hS hn.size
  obtain ⟨bX1, hbX1⟩ : ∃ b, (eX0 + 1 ≤ b ∧ b ≤ w6.heap.size) ∧ ObI w6 (.slice aX1 nX1 cX1) xs1 b w6.heap.size := ⟨_, ⟨hsz, hn.size⟩, ho⟩
  obtain ⟨qX1, ho2⟩ := hbX1
  obtain ⟨eX1, heX1⟩ : ∃ e, e = w6.heap.size := ⟨_, rfl⟩
  rw [← heX1] at ho2 qX1 hS
  have OX1 := Lib.hid ho2
  replace hS : eX1 ≤ w6.heap.size := by omega
  clear ho ho2 hn hsz
  obtain ⟨dP00, dP01, _, _⟩ := KP0.out.cells
  obtain ⟨dX00, dX01, _, _⟩ := KX0.out.cells
  go_wp2_with fail
  refine (implCountMends_any p0 _ _ rows0 xs1 _ (OX0.out.isR SM0.out) (OX1.out.isI SM1.out)).mono ?_
  rintro e w7 ⟨tG, rfl, hq, hn⟩
  clear dP00 dP01 dX00 dX01
  replace hN := hN.trans hn
  replace OX0 := Lib.hid (OX0.out.new hn)
  replace OX1 := Lib.hid (OX1.out.new hn)
  replace KP0 := Lib.hid (KP0.out.new hn)
  replace KX0 := Lib.hid (KX0.out.new hn)
  replace hS := Nat.le_trans hS hn.size
  have er : tG = tW := hq.unique HQ.out
  subst er
  clear hq hn
  obtain ⟨dP00, dP01, _, _⟩ := KP0.out.cells
  obtain ⟨dX00, dX01, _, _⟩ := KX0.out.cells
  go_wp2_with fail
  go_region_held3 (fun w' => w'.cell? ⟨w.heap.size, 0, none⟩ = some (.int .i64 p0) ∧ w'.cell? ⟨w.heap.size, 1, none⟩ = some (.slice ao0 n0 cap0) ∧ w'.cell? ⟨w5.heap.size, 0, none⟩ = some (.int .i64 p0) ∧ w'.cell? ⟨w5.heap.size, 1, none⟩ = some (.slice aX0 nX0 cX0))
    (first | exact ⟨HK9.out.cellNew dP00, HK9.out.cellNew dP01, HK9.out.cellNew dX00, HK9.out.cellNew dX01⟩ | exact ⟨HK8.out.cellNew dP00, HK8.out.cellNew dP01, HK8.out.cellNew dX00, HK8.out.cellNew dX01⟩ | go_keep)
    (first | (go_at_call 17; refine (toC_any _ _ rows0 _ (HI0.out.new (hN.trans (New.drew _)))).mono ?_; rintro e w8 ⟨u8, rfl, ho8, hn8⟩; have HO8 := Lib.hid ho8; have HK8 := Lib.hid ((New.drew _).trans hn8); clear ho8 hn8) | (go_at_call 19; refine (eqC _ _ _ rows0 _ _ _ _ _ SM0.out (OX0.out.new HK8.out) HO8.out).mono ?_; rintro e w9 ⟨rfl, hn9⟩; have HK9 := Lib.hid (HK8.out.trans hn9); clear hn9))
  clear dP00 dP01 dX00 dX01
  have hn := HK9.out
  replace hN := hN.trans hn
  replace OX0 := Lib.hid (OX0.out.new hn)
  replace OX1 := Lib.hid (OX1.out.new hn)
  replace KP0 := Lib.hid (KP0.out.new hn)
  replace KX0 := Lib.hid (KX0.out.new hn)
  replace hS := Nat.le_trans hS hn.size
  clear hn HK9 HK8 HO8
  obtain ⟨dP00, dP01, _, _⟩ := KP0.out.cells
  obtain ⟨dX00, dX01, _, _⟩ := KX0.out.cells
  go_wp2_with fail
  refine (toI_any _ xs1 _ (HI1.out.new hN)).mono ?_
  rintro e w10 ⟨uT, rfl, ho, hn⟩
  clear dP00 dP01 dX00 dX01
  obtain ⟨aT, nT, cT, rfl⟩ := ho.shape SM1.out
  have hsz := hS
  replace hN := hN.trans hn
  replace OX0 := Lib.hid (OX0.out.new hn)
  replace OX1 := Lib.hid (OX1.out.new hn)
  replace KP0 := Lib.hid (KP0.out.new hn)
  replace KX0 := Lib.hid (KX0.out.new hn)
  replace hS := Nat.le_trans hS hn.size
  obtain ⟨bT, hbT⟩ : ∃ b, (eX1 ≤ b ∧ b ≤ w10.heap.size) ∧ ObI w10 (.slice aT nT cT) xs1 b w10.heap.size := ⟨_, ⟨hsz, hn.size⟩, ho⟩
  obtain ⟨qT, ho2⟩ := hbT
  obtain ⟨eT, heT⟩ : ∃ e, e = w10.heap.size := ⟨_, rfl⟩
  rw [← heT] at ho2 qT hS
  have OT := Lib.hid ho2
  replace hS : eT ≤ w10.heap.size := by omega
  clear ho ho2 hn hsz
  obtain ⟨dP00, dP01, _, _⟩ := KP0.out.cells
  obtain ⟨dX00, dX01, _, _⟩ := KX0.out.cells
  go_wp2_with fail
  refine (eqI _ _ xs1 _ _ _ _ _ SM1.out OX1.out OT.out).mono ?_
  rintro e w11 ⟨rfl, hn⟩
  clear dP00 dP01 dX00 dX01
  replace hN := hN.trans hn
  replace OX0 := Lib.hid (OX0.out.new hn)
  replace OX1 := Lib.hid (OX1.out.new hn)
  replace OT := Lib.hid (OT.out.new hn)
  replace KP0 := Lib.hid (KP0.out.new hn)
  replace KX0 := Lib.hid (KX0.out.new hn)
  replace hS := Nat.le_trans hS hn.size
  clear hn
  clear OT
  go_wp2_with fail
  go_ret
  exact ⟨rfl, hN⟩

theorem cellsCode : Try.prog.cellsOf 24 = 2 := by kernel_rfl

set_option maxRecDepth 100000 in
theorem exactCountMends_lifted (os : Os) (started : os.Started) (H : Type) (enc : TypeId × Value → H) :
    ReturnsInHanded {} Try.checked os 4 .any (Rows.fnExactCountMendsSpec.pre6 enc Try.prog Try.f4 Rows.fnExactCountMendsRow.domain false) (Rows.fnExactCountMendsSpec.post enc Try.prog Try.f4 false true false false) := by
  refine returnsInHanded_of_change (C := Try.checked) own started (by kernel_rfl) Try.func4
    (ChangeSpec.witness6 (enc := enc) (C := Try.checked) false ⟨#[], #[.agg #[.int .i64 0, .slice none 0 0], .slice none 0 0], []⟩ 8 (by kernel_rfl) (by kernel_rfl) (by kernel_rfl) (by kernel_rfl)) ?_
  intro W base args ds gs before hval0 hW hcnd _
  have hval : ∀ (j : Nat) t v, Try.f4.params[j]? = some t → args[j]? = some v → Value.okWide Try.prog W .any base t v := hval0
  have hW' := hW
  obtain ⟨p, q, hA0, hV, rfl, hfz, hnd⟩ := hW
  have hA : DataW.TrodAll enc Try.prog W 0 (fun _ => true) true Try.f4.params.toList args.toList ds p := hA0
  rw [Try.params4] at hA hval
  obtain ⟨v0, vs0, d0, ds0, pl0, q0, hargs, rfl, rfl, h0, r0⟩ := trodAll_cons hA
  obtain ⟨v1, vs1, d1, ds1, pl1, q1, rfl, rfl, rfl, h1, r1⟩ := trodAll_cons r0
  obtain ⟨rfl, rfl, rfl⟩ := trodAll_nil r1
  obtain rfl : args = #[v0, v1] := by cases args; simp_all
  obtain ⟨rfl, rfl⟩ := trodVars_none hV
  have k0 := h0
  have lt0 : ∀ x ∈ pl0, x.block < W.heap.size := by obtain ⟨m, hm⟩ := k0; exact DataW.trod_lt m _ _ _ hm
  have k1 := h1
  have lt1 : ∀ x ∈ pl1, x.block < W.heap.size := by obtain ⟨m, hm⟩ := k1; exact DataW.trod_lt m _ _ _ hm
  obtain ⟨c0, cc0, y0, yy0, m0, rfl, rfl, rfl, hy0, hyy0⟩ := open_agg2 Try.underlying24 (by kernel_rfl) cellsCode (hval 0 24 v0 rfl rfl) h0
  obtain ⟨a0, e0, rfl, wa0⟩ := DataW.trod_int Try.underlying3 hy0
  simp only [List.cons.injEq, and_true] at e0
  subst e0
  obtain ⟨rows0, hrows0⟩ : ∃ rows, RawR W cc0 rows := rawR_of_cell hyy0
  obtain ⟨ad1, len1, cap1, rfl⟩ := okWide_slice Try.underlying31 (hval 1 31 v1 rfl rfl)
  obtain ⟨rows1, hrows1⟩ : ∃ rows, RawI W (.slice ad1 len1 cap1) rows := by
    obtain ⟨fuel, hf⟩ := h1
    exact rawI_of_trod hf
  clear hA0 hval0
  refine (exactCountMends_any a0 _ rows0 _ rows1 W hrows0 hrows1).mono fun e W' ⟨he, hnew⟩ => ?_
  subst he
  have bel := hnew.below
  exact ⟨_, rfl, _, _, _, [], _, [], hW', trodAll_mk1 (shut_bool Try.underlying4 _), (trodAll_cons_mk (Below.trod laidOut (by kernel_rfl) (of_decide_eq_true (by kernel_rfl)) k0 bel lt0) (trodAll_cons_mk (Below.trod laidOut (by kernel_rfl) (of_decide_eq_true (by kernel_rfl)) k1 bel lt1) trodAll_mk0)), rfl, bel.frame _, fun h => by cases h⟩

theorem exactCountMends_holds : Rows.FnExactCountMendsSaid :=
  OpenClaim.holds_of_wide 4 Try.f4 rfl rfl rfl rfl rfl rfl rfl ⟨rfl, rfl, rfl, rfl, rfl⟩ rfl rfl rfl rfl rfl (by kernel_rfl) Try.func4 (by kernel_rfl)
    (of_decide_eq_true (by kernel_rfl)) (by unfold Func.isWrapper; first | (rw [if_pos (by decide +kernel)]; kernel_rfl) | (rw [if_neg (by decide +kernel)]; exact ⟨rfl, rfl⟩))
    (fun os started H enc _ => exactCountMends_lifted os started H enc)
#print axioms exactCountMends_holds
end Go.Proofs.Ytjnfnhcbplbceaa
