/- THE LAW: FnExactCodeText returns true for every code: the program's answer is the reference's, and it leaves its argument alone. -/
import Derived.Test.YtcdbeepphdfipaaDoorTxtC
import Derived.Test.YtcdbeepphdfipaaDoorLawK
import Derived.Test.YtcdbeepphdfipaaDoorRows
import Derived.Deep.RegionHeld3
import Derived.Lib.SmallJoins
import Derived.ProofKit
import Derived.LaidMore
import Derived.OpenShut
import Derived.Stop.Joined
namespace Go.Proofs.YtcdbeepphdfipaaDoor
open Go.ChangeShapes Go.WideShapes Go.ChangeAt Go.WideMaps Go.WideElems Go.RowKit Go.Joins
set_option linter.unusedVariables false

set_option maxHeartbeats 1000000 in
theorem exactCodeText_any (p : Int) (v : Value) (rows : List (List Int)) (w : World) (hr : RawR w v rows) :
    Calls Tryd.prog 3 #[.agg #[.int .i64 p, v]] w fun e w' => e = .returned (.bool true) ∧ New w w' := by
  have HR := Lib.hid hr
  obtain ⟨ao, cap, ev, _⟩ := id hr
  obtain ⟨n, hn⟩ : ∃ n, n = rows.length := ⟨_, rfl⟩
  rw [← hn] at ev
  subst ev
  clear hr hn
  go_enter Tryd.func3, Tryd.ntmps3
  go_wp2_with fail
  have h0 : New w (w.alloc (.cells #[.int .i64 p, .slice ao n cap] 24)) := New.alloc _ _
  have hb0 := Blk2.alloc w (.int .i64 p) (.slice ao n cap) 24
  refine (szCode_any _ _ _ _ _ (HR.out.new h0) (by omega)).mono ?_
  rintro e w1 ⟨r, rfl, hn1, hr1, hr2⟩
  have h01 := h0.trans hn1
  obtain ⟨c0, c1, _, _⟩ := (hb0.new hn1).cells
  have HB1 := Lib.hid (hb0.new hn1)
  have HR2 := Lib.hid hr2
  clear hr2 hb0 hn1 h0
  by_cases hneg : r < 0
  · go_wp2_with fail
    go_ret
    exact ⟨rfl, h01⟩
  · have hsm : (rows.length : Int) ≤ 1048576 ∧ ∀ i, i < rows.length → ((gr rows i).length : Int) ≤ 1048576 := by
      rcases HR2.out with h | h
      · omega
      · exact h
    have HI := Lib.hid (HR.out.isR (by unfold Mid; omega) (fun i hi => by have := hsm.2 i hi; unfold Mid; omega))
    have HSM := Lib.hid hsm
    have hmr : ∀ (w : World) (u : Value) (vs : List Value), OwnR w 37 3 u vs rows → IsR w u rows := fun _ _ _ h => h.isR (by have := HSM.out.1; unfold Mid; omega) (fun i hi => by have := HSM.out.2 i hi; unfold Mid; omega)
    have HMR := Lib.hid hmr
    clear hsm hmr
    go_wp2_with fail
    refine (toCode_any _ _ rows _ (HI.out.new h01)).mono ?_
    rintro e w2 ⟨u2, vs2, rfl, ho2, _, hn2⟩
    have HO2 := Lib.hid ho2
    clear ho2
    have h02 := h01.trans hn2
    go_wp2_with fail
    refine (specCodeText_any _ _ rows _ (HMR.out _ _ _ HO2.out)).mono ?_
    rintro e w3 ⟨⟨b1, rfl, hb1⟩, hn3⟩
    have h03 := h02.trans hn3
    have HA1 := Lib.hid hb1
    clear hb1
    obtain ⟨c0', c1', _, _⟩ := (HB1.out.new (hn2.trans hn3)).cells
    have HB3 := Lib.hid (HB1.out.new (hn2.trans hn3))
    clear c0 c1 HB1 hn2 hn3 h01 h02 HO2
    go_wp2_with fail
    refine (toCode_any _ _ rows _ (HI.out.new h03)).mono ?_
    rintro e w4 ⟨u4, vs4, rfl, ho4, _, hn4⟩
    obtain ⟨a4, n4, k4, rfl, _, _, _⟩ := ho4.outer.opened (by rw [ho4.len]; have := HSM.out.1; unfold Mid; omega)
    have HO4 := Lib.hid ho4
    clear ho4
    have h04 := h03.trans hn4
    have h5 : New w4 (w4.alloc (.cells #[.int .i64 p, .slice a4 n4 k4] 27)) := New.alloc _ _
    have hb5 := Blk2.alloc w4 (.int .i64 p) (.slice a4 n4 k4) 27
    go_wp2_with fail
    refine (implCodeText_any _ _ rows _ ((HMR.out _ _ _ HO4.out).new h5)).mono ?_
    rintro e w6 ⟨⟨b2, rfl, hb2⟩, hn6⟩
    have er : b2 = b1 := hb2.unique HA1.out
    subst er
    clear hb2 HA1
    have h06 := h04.trans (h5.trans hn6)
    obtain ⟨d0, d1, _, _⟩ := (HB3.out.new (hn4.trans (h5.trans hn6))).cells
    obtain ⟨x0, x1, _, _⟩ := (hb5.new hn6).cells
    have HO6 := Lib.hid (HO4.out.new (h5.trans hn6))
    clear c0' c1' hb5 hn4 h5 hn6 HB3 h03 h04 HO4
    go_wp2_with fail
    go_region_held3 (fun w' => w'.cell? ⟨w.heap.size, 0, none⟩ = some (.int .i64 p) ∧ w'.cell? ⟨w.heap.size, 1, none⟩ = some (.slice ao n cap) ∧ w'.cell? ⟨w4.heap.size, 0, none⟩ = some (.int .i64 p) ∧ w'.cell? ⟨w4.heap.size, 1, none⟩ = some (.slice a4 n4 k4))
      (first | exact ⟨HK9.out.cellNew d0, HK9.out.cellNew d1, HK9.out.cellNew x0, HK9.out.cellNew x1⟩ | exact ⟨HK8.out.cellNew d0, HK8.out.cellNew d1, HK8.out.cellNew x0, HK8.out.cellNew x1⟩ | go_keep)
      (first | (go_at_call 6; refine (toCode_any _ _ rows _ (HI.out.new (h06.trans (New.drew _)))).mono ?_; rintro e w8 ⟨u8, vs8, rfl, ho8, _, hn8⟩; have HO8 := Lib.hid ho8; have HK8 := Lib.hid ((New.drew w6).trans hn8); clear ho8 hn8) | (go_at_call 8; refine (eqCode_any _ _ _ rows _ ((HMR.out _ _ _ HO6.out).new HK8.out) (HMR.out _ _ _ HO8.out)).mono ?_; rintro e w9 ⟨rfl, hn9⟩; have HK9 := Lib.hid (HK8.out.trans hn9); clear hn9))
    go_wp2_with fail
    go_ret
    exact ⟨rfl, h06.trans HK9.out⟩

theorem cellsCode : Tryd.prog.cellsOf 24 = 2 := by kernel_rfl

/-- The door's own heap meets the condition. -/
theorem door_met (os : Os) (args : Array Value) : laidMetH Tryd.prog Rows.fnExactCodeTextRow.laid ((World.doorLaid Tryd.prog 24 os).forCall (fun _ _ => 0) ⟨#[], args, []⟩).memory :=
  laidMetH_of_parts3 (fuel := 8) (laidMet_of_run' 8 (by kernel_rfl) (by kernel_rfl)) (by kernel_rfl) (by kernel_rfl)

set_option maxRecDepth 100000 in
theorem exactCodeText_lifted (os : Os) (started : os.Started) (H : Type) (enc : TypeId × Value → H) :
    ReturnsInHanded {} Tryd.checked os 3 .any (fun w args => (Rows.fnExactCodeTextSpec.pre enc Tryd.prog Tryd.f3 [] false w args ∧ laidMetH Tryd.prog Rows.fnExactCodeTextRow.laid w) ∧ sizedMet enc Tryd.prog Tryd.f3 (OpenSpec.ofChange Rows.fnExactCodeTextSpec) false w args)
      (Rows.fnExactCodeTextSpec.post enc Tryd.prog Tryd.f3 false true false false) := by
  refine returnsInHanded_of_change_and (C := Tryd.checked) (X := fun w _ => laidMetH Tryd.prog Rows.fnExactCodeTextRow.laid w) (fun _ _ _ hh h => h.of_heap hh) own started (by kernel_rfl) Tryd.func3
    (ChangeSpec.witness_shaped (enc := enc) (C := Tryd.checked) (os := os) (X := fun w _ => laidMetH Tryd.prog Rows.fnExactCodeTextRow.laid w) false (World.doorLaid Tryd.prog 24 os) #[.agg #[.int .i64 0, .slice none 0 0]] 8 rfl (World.shaped_of_RefB (by kernel_rfl) (by kernel_rfl)) (by kernel_rfl) (by kernel_rfl) (by kernel_rfl) (door_met os _)) ?_
  intro W base args ds gs before hval0 hW _ _ hL _
  have hval : ∀ (j : Nat) t v, Tryd.f3.params[j]? = some t → args[j]? = some v → Value.okWide Tryd.prog W .any base t v := hval0
  have hW' := hW
  obtain ⟨p, q, hA0, hV, rfl, hfz, hnd⟩ := hW
  have hA : DataW.TrodAll enc Tryd.prog W 0 (fun _ => true) true Tryd.f3.params.toList args.toList ds p := hA0
  rw [Tryd.params3] at hA hval
  obtain ⟨v0, vs0, d0, ds0, p0, q0, hargs, rfl, rfl, h0, r0⟩ := trodAll_cons hA
  obtain ⟨rfl, rfl, rfl⟩ := trodAll_nil r0
  obtain rfl : args = #[v0] := by cases args; simp_all
  obtain ⟨rfl, rfl⟩ := trodVars_none hV
  have k0 := h0
  have lt0 : ∀ x ∈ p0, x.block < W.heap.size := by obtain ⟨m, hm⟩ := k0; exact DataW.trod_lt m _ _ _ hm
  obtain ⟨c0, c1, y0, y1, m, rfl, rfl, rfl, hy0, hy1⟩ := open_agg2 Tryd.underlying24 (by kernel_rfl) cellsCode (hval 0 24 v0 rfl rfl) h0
  obtain ⟨a, e0, rfl, wa⟩ := DataW.trod_int Tryd.underlying3 hy0
  simp only [List.cons.injEq, and_true] at e0
  subst e0
  obtain ⟨rows, hrows⟩ : ∃ rows, RawR W c1 rows := rawR_of_cell hy1
  clear hA0 hval0
  refine (exactCodeText_any a _ rows W hrows).mono fun e W' ⟨he, hnew⟩ => ?_
  subst he
  have bel := hnew.below
  exact ⟨_, rfl, _, _, _, [], _, [], hW', trodAll_mk1 (shut_bool Tryd.underlying4 _), (trodAll_cons_mk (Below.trod laidOut (by kernel_rfl) (of_decide_eq_true (by kernel_rfl)) k0 bel lt0) trodAll_mk0), rfl, bel.frame _, fun h => by cases h⟩

theorem exactCodeText_holds : Rows.FnExactCodeTextSaid :=
  OpenClaim.holds_of_wide 3 Tryd.f3 rfl rfl rfl rfl rfl rfl rfl ⟨rfl, rfl, rfl, rfl, rfl⟩ rfl rfl rfl rfl rfl (by kernel_rfl) Tryd.func3 (by kernel_rfl)
    (of_decide_eq_true (by kernel_rfl)) (by unfold Func.isWrapper; first | (rw [if_pos (by decide +kernel)]; kernel_rfl) | (rw [if_neg (by decide +kernel)]; exact ⟨rfl, rfl⟩))
    (fun os started H enc _ => exactCodeText_lifted os started H enc)
#print axioms exactCodeText_holds
end Go.Proofs.YtcdbeepphdfipaaDoor
