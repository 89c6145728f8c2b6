/- THE LAW: FnExactNullsOf returns true for every prime and all rows, without any condition: the program's function returns what the reference's returns, leaves its argument alone, and hands back memory of its own. -/
import Derived.Test.YteoiaicpdmlecaaNullsOf
import Derived.Test.YteoiaicpdmlecaaLawB
import Derived.Test.YteoiaicpdmlecaaOpen
import Derived.Test.YteoiaicpdmlecaaRows
namespace Go.Proofs.Yteoiaicpdmlecaa
open Go.ChangeShapes Go.WideShapes Go.ChangeAt Go.RowKit
set_option linter.unusedVariables false

set_option maxHeartbeats 4000000 in
theorem exactNullsOf_any (p : Int) (v : Value) (rows : List (List Int)) (w : World) (hr : RawR w v rows) :
    Calls Try.prog 10 #[.int .i64 p, v] w fun e w' => e = .returned (.bool true) ∧ New w w' := by
  have HR := Lib.hid hr
  obtain ⟨ao, cap, ev, _⟩ := id hr
  obtain ⟨n, hn⟩ : ∃ n, n = rows.length := ⟨_, rfl⟩
  rw [← hn] at ev
  subst ev
  clear hr hn
  go_enter Try.func10, Try.ntmps10
  go_wp2_with fail
  refine (szIntSS_any _ _ _ _ HR.out (by omega)).mono ?_
  rintro e w1 ⟨r, rfl, rfl, hr1, hr2⟩
  by_cases hneg : r < 0
  · clear hr2
    go_wp2_with fail
    go_ret
    exact ⟨rfl, Chg.refl _ _⟩
  · have hsm : (rows.length : Int) ≤ 1048576 ∧ ∀ i, i < rows.length → ((gr rows i).length : Int) ≤ 1048576 := by
      rcases hr2 with h | h
      · omega
      · exact h
    have hI := HR.out.isR (by unfold Mid; omega) (fun i hi => by have := hsm.2 i hi; unfold Mid; omega)
    have HI := Lib.hid hI
    have HSM := Lib.hid hsm
    clear hr2 hI hsm
    go_wp2_with fail
    refine (toIntSS_any _ _ _ HI.out).mono ?_
    rintro e w2 ⟨u2, vs2, rfl, ho2, hf2, hn2⟩
    have HO2 := Lib.hid ho2
    clear ho2 hf2
    have hmr : ∀ (w : World) (u : Value) (vs : List Value), OwnR w 31 3 u vs rows → IsR w u rows := fun _ _ _ h => h.isR (by have := HSM.out.1; unfold Mid; omega) (fun i hi => by have := HSM.out.2 i hi; unfold Mid; omega)
    have HMR := Lib.hid hmr
    clear hmr
    go_wp2_with fail
    refine (specNullsOf_any _ _ rows _ (HMR.out _ _ _ HO2.out)).mono ?_
    rintro e w3 ⟨u3, vs3, out, rfl, ho3, hf3, hp3, hn3⟩
    have h13 := hn2.trans hn3
    have hsmall := hp3.small
    have hmo : ∀ (w : World) (u : Value) (vs : List Value), OwnR w 31 3 u vs out → IsR w u out := fun _ _ _ h => h.isR (by have := hsmall.1; unfold Mid; omega) (fun i hi => by have := hsmall.2 i hi; unfold Mid; omega)
    have HMO := Lib.hid hmo
    have HS := Lib.hid hsmall
    have HP := Lib.hid hp3
    have HO3 := Lib.hid ho3
    have HF3 := Lib.hid hf3
    clear ho3 hf3 hp3 hsmall hmo
    obtain ⟨a3, n3, c3, rfl, _, _, _⟩ := HO3.out.outer.opened (by rw [HO3.out.len]; have := HS.out.1; unfold Mid; omega)
    go_wp2_with fail
    refine (toIntSS_any _ _ _ (HI.out.new h13)).mono ?_
    rintro e w4 ⟨u4, vs4, rfl, ho4, hf4, hn4⟩
    have h14 := h13.trans hn4
    have HO4 := Lib.hid ho4
    have HF4 := Lib.hid hf4
    clear ho4 hf4
    obtain ⟨a4, n4, c4, rfl, _, _, _⟩ := HO4.out.outer.opened (by rw [HO4.out.len]; have := HSM.out.1; unfold Mid; omega)
    go_wp2_with fail
    refine (implNullsOf_any _ _ rows _ (HMR.out _ _ _ HO4.out)).mono ?_
    rintro e w5 ⟨u5, vs5, out5, rfl, ho5, hf5, hp5, hn5⟩
    obtain rfl : out5 = out := hp5.unique HP.out
    have h15 := h14.trans hn5
    have HO5 := Lib.hid ho5
    have HF5 := Lib.hid hf5
    clear ho5 hf5 hp5
    obtain ⟨a5, n5, c5, rfl, _, _, _⟩ := HO5.out.outer.opened (by rw [HO5.out.len]; have := HS.out.1; unfold Mid; omega)
    go_wp2_with fail
    refine (eqIntSS_any _ _ out5 out5 _ (HMO.out _ _ _ HO5.out) ((HMO.out _ _ _ HO3.out).new (hn4.trans hn5))).mono ?_
    rintro e w6 ⟨rfl, m6, rfl⟩
    rw [eqLL_self]
    have n56 : New w5 (w5.drewN m6) := New.drewN _ _
    have h16 := h15.trans n56
    go_wp2_with fail
    refine (toIntSS_any _ _ _ (HI.out.new h16)).mono ?_
    rintro e w7 ⟨u7, vs7, rfl, ho7, hf7, hn7⟩
    have h17 := h16.trans hn7
    have HO7 := Lib.hid ho7
    clear ho7 hf7
    obtain ⟨a7, n7, c7, rfl, _, _, _⟩ := HO7.out.outer.opened (by rw [HO7.out.len]; have := HSM.out.1; unfold Mid; omega)
    have n57 := n56.trans hn7
    go_wp2_with fail
    refine (eqIntSS_any _ _ rows rows _ ((HMR.out _ _ _ HO4.out).new (hn5.trans n57)) (HMR.out _ _ _ HO7.out)).mono ?_
    rintro e w8 ⟨rfl, m8, rfl⟩
    rw [eqLL_self]
    have n58 := n57.trans (New.drewN w7 m8)
    have h18 := h17.trans (New.drewN w7 m8)
    obtain ⟨w8, hw8⟩ : ∃ w8 : World, w8 = w7.drewN m8 := ⟨_, rfl⟩
    rw [← hw8] at n58 h18
    rw [← hw8]
    clear hw8 n57 h17 hn7 n56 h16 HO7
    go_wp2_with fail
    -- the argument is marked: the result stands
    refine (markIntSS_any _ vs4 rows _ _ (HO4.out.new (hn5.trans n58)) (by have := HSM.out.1; omega) (fun i hi => by have := HSM.out.2 i hi; omega) (by omega)).mono ?_
    rintro e w9 ⟨rfl, ho9, hc9⟩
    have hoff := offR_bounds rows 1048576 (by omega) (fun i hi => HSM.out.2 i hi) rows.length (Nat.le_refl _)
    have hoff1 := hoff.1
    have hoff2 : offR rows rows.length ≤ 1099511627776 := by have := hoff.2; have := HSM.out.1; omega
    have hc89 : ∀ g, (∃ i, i < rows.length ∧ (gv vs4 i).ownBlock = some g) → w3.heap.size ≤ g ∧ g < w4.heap.size := fun g ⟨i, hi, e⟩ => ⟨HF4.out.2 i hi g e, (HO4.out.inner i hi).lt e⟩
    have o5 : OwnR w9 31 3 (.slice a5 n5 c5) vs5 out5 := (HO5.out.new n58).chg hc9 (fun g hg hs => by have := (hc89 g hs).2; have := HF5.out.1 g hg; omega) (fun i hi g hg hs => by have := (hc89 g hs).2; have := HF5.out.2 i hi g hg; omega)
    have o3 : OwnR w9 31 3 (.slice a3 n3 c3) vs3 out5 := (HO3.out.new ((hn4.trans hn5).trans n58)).chg hc9 (fun g hg hs => by have := (hc89 g hs).1; have := HO3.out.outer.lt hg; omega) (fun i hi g hg hs => by have := (hc89 g hs).1; have := (HO3.out.inner i hi).lt hg; omega)
    have h19 : New w w9 := h18.then hc9 (fun g hs => by have := (hc89 g hs).1; have := h13.size; omega)
    have O5 := Lib.hid o5
    have O3 := Lib.hid o3
    have hk5 : ∀ g, (∃ i, i < out5.length ∧ (gv vs5 i).ownBlock = some g) → w4.heap.size ≤ g := fun g ⟨i, hi, e⟩ => HF5.out.2 i hi g e
    have hk3 : w3.heap.size ≤ w4.heap.size := hn4.size
    have hk4 : w.heap.size ≤ w4.heap.size := h14.size
    have HK5 := Lib.hid hk5
    clear ho9 hc9 hc89 o5 o3 hoff hk5
    go_wp2_with fail
    refine (eqIntSS_any _ _ out5 out5 _ (HMO.out _ _ _ O5.out) (HMO.out _ _ _ O3.out)).mono ?_
    rintro e w10 ⟨rfl, m10, rfl⟩
    rw [eqLL_self]
    have p5 := O5.out.new (New.drewN w9 m10)
    have p3 := O3.out.new (New.drewN w9 m10)
    have h20 := h19.trans (New.drewN w9 m10)
    obtain ⟨wa, hwa⟩ : ∃ wa : World, wa = w9.drewN m10 := ⟨_, rfl⟩
    rw [← hwa] at p5 p3 h20
    rw [← hwa]
    have P5 := Lib.hid p5
    have P3 := Lib.hid p3
    have l3 : ∀ g, (Value.slice a3 n3 c3).ownBlock = some g → g < w3.heap.size := fun g hg => HO3.out.outer.lt hg
    have l3' : ∀ i, i < out5.length → ∀ g, (gv vs3 i).ownBlock = some g → g < w3.heap.size := fun i hi g hg => (HO3.out.inner i hi).lt hg
    have L3 := Lib.hid l3
    have L3' := Lib.hid l3'
    clear hwa p5 p3 O5 O3 h19 l3 l3'
    go_wp2_with fail
    -- the result is marked: no two of its rows share memory
    refine (markIntSS_any _ vs5 out5 _ _ P5.out (by have := HS.out.1; omega) (fun i hi => by have := HS.out.2 i hi; omega) (by omega)).mono ?_
    rintro e wb ⟨rfl, hob, hcb⟩
    have hoo := offR_bounds out5 1048576 (by omega) (fun i hi => by have := HS.out.2 i hi; omega) out5.length (Nat.le_refl _)
    have hoo1 := hoo.1
    have hoo2 : offR out5 out5.length ≤ 1099511627776 := by have := hoo.2; have := HS.out.1; omega
    have o3 : OwnR wb 31 3 (.slice a3 n3 c3) vs3 out5 := P3.out.chg hcb (fun g hg hs => by have := HK5.out g hs; have := L3.out g hg; omega) (fun i hi g hg hs => by have := HK5.out g hs; have := L3'.out i hi g hg; omega)
    have h21 : New w wb := h20.then hcb (fun g hs => by have := HK5.out g hs; omega)
    have hib := hob.isR (by rw [mkR_length]; have := HS.out.1; unfold Mid; omega) (fun i hi => by rw [mkR_length] at hi; rw [mkR_get _ _ _ hi, if_pos hi, markL_length]; have := HS.out.2 i hi; unfold Mid; omega)
    have OB := Lib.hid hib
    have O3 := Lib.hid o3
    clear hob hcb hoo o3 hib P5 P3 h20
    go_wp2_with fail
    refine (heldIntSS_any _ out5 _ _ OB.out (by have := HS.out.1; omega) (fun i hi => by have := HS.out.2 i hi; omega) (by omega)).mono ?_
    rintro e w' ⟨rfl, rfl⟩
    go_wp2_with fail
    refine (toIntSS_any _ _ _ (HI.out.new h21)).mono ?_
    rintro e wc ⟨uc, vsc, rfl, hoc, hfc, hnc⟩
    have HOC := Lib.hid hoc
    clear hoc hfc
    obtain ⟨ac, nc, cc, rfl, _, _, _⟩ := HOC.out.outer.opened (by rw [HOC.out.len]; have := HSM.out.1; unfold Mid; omega)
    go_wp2_with fail
    refine (implNullsOf_any _ _ rows _ (HMR.out _ _ _ HOC.out)).mono ?_
    rintro e wd ⟨ud, vsd, outd, rfl, hod, hfd, hpd, hnd⟩
    obtain rfl : outd = out5 := hpd.unique HP.out
    have HOD := Lib.hid hod
    clear hod hfd hpd
    obtain ⟨ad, nd, cd, rfl, _, _, _⟩ := HOD.out.outer.opened (by rw [HOD.out.len]; have := HS.out.1; unfold Mid; omega)
    have hbd := hnc.trans hnd
    have h22 := h21.trans hbd
    go_wp2_with fail
    refine (eqIntSS_any _ _ outd outd _ (HMO.out _ _ _ HOD.out) ((HMO.out _ _ _ O3.out).new hbd)).mono ?_
    rintro e we ⟨rfl, me, rfl⟩
    rw [eqLL_self]
    have hbe := hbd.trans (New.drewN wd me)
    have h23 := h22.trans (New.drewN wd me)
    have hie := OB.out.new hbe
    obtain ⟨wf, hwf⟩ : ∃ wf : World, wf = wd.drewN me := ⟨_, rfl⟩
    rw [← hwf] at hie h23
    rw [← hwf]
    have HIE := Lib.hid hie
    clear hwf hie hbe h22 h21
    go_wp2_with fail
    refine (heldIntSS_any _ outd _ _ HIE.out (by have := HS.out.1; omega) (fun i hi => by have := HS.out.2 i hi; omega) (by omega)).mono ?_
    rintro e w' ⟨rfl, rfl⟩
    go_wp2_with fail
    go_ret
    exact ⟨rfl, h23⟩

set_option maxRecDepth 100000 in
theorem exactNullsOf_lifted (os : Os) (started : os.Started) (H : Type) (enc : TypeId × Value → H) :
    ReturnsInHanded {} Try.checked os 10 .any (Rows.fnExactNullsOfSpec.pre6 enc Try.prog Try.f10 Rows.fnExactNullsOfRow.domain false) (Rows.fnExactNullsOfSpec.post enc Try.prog Try.f10 false true false false) := by
  refine returnsInHanded_of_change (C := Try.checked) own started (by kernel_rfl) Try.func10
    (ChangeSpec.witness6 (enc := enc) (C := Try.checked) false ⟨#[], #[.int .i64 0, .slice none 0 0], []⟩ 8 (by kernel_rfl) (by kernel_rfl) (by kernel_rfl) (by kernel_rfl)) ?_
  intro W base args ds gs before hval0 hW hcnd _
  have hval : ∀ (j : Nat) t v, Try.f10.params[j]? = some t → args[j]? = some v → Value.okWide Try.prog W .any base t v := hval0
  have hW' := hW
  obtain ⟨p, q, hA0, hV, rfl, hfz, hnd⟩ := hW
  have hA : DataW.TrodAll enc Try.prog W 0 (fun _ => true) true Try.f10.params.toList args.toList ds p := hA0
  rw [Try.params10] at hA hval
  obtain ⟨v0, vs0, d0, ds0, p0, q0, hargs, rfl, rfl, h0, r0⟩ := trodAll_cons hA
  obtain ⟨v1, vs1, d1, ds1, p1, q1, rfl, rfl, rfl, h1, r1⟩ := trodAll_cons r0
  obtain ⟨rfl, rfl, rfl⟩ := trodAll_nil r1
  obtain rfl : args = #[v0, v1] := by cases args; simp_all
  obtain ⟨rfl, rfl⟩ := trodVars_none hV
  obtain ⟨a1, len1, cap1, rfl⟩ := okWide_slice Try.underlying22 (hval 1 22 v1 rfl rfl)
  have k1 := h1
  have lt1 : ∀ x ∈ p1, x.block < W.heap.size := by obtain ⟨m, hm⟩ := k1; exact DataW.trod_lt m _ _ _ hm
  obtain ⟨rows, hrows⟩ : ∃ rows, RawR W (.slice a1 len1 cap1) rows := by
    obtain ⟨fuel, hf⟩ := h1
    exact rawR_of_trod hf
  obtain ⟨a0, rfl, rfl, rfl, w0⟩ := open_int Try.underlying3 (hval 0 3 v0 rfl rfl) h0
  clear hA0 hval0
  refine (exactNullsOf_any a0 _ rows W hrows).mono fun e W' ⟨he, hnew⟩ => ?_
  subst he
  have bel := hnew.below
  exact ⟨_, rfl, _, _, _, [], _, [], hW', trodAll_mk1 (shut_bool Try.underlying4 _), (trodAll_cons_mk (shut_int Try.underlying3 w0) (trodAll_cons_mk (Below.trod laidOut (by kernel_rfl) (of_decide_eq_true (by kernel_rfl)) k1 bel lt1) trodAll_mk0)), rfl, bel.frame _, fun h => by cases h⟩

theorem exactNullsOf_holds : Rows.FnExactNullsOfSaid :=
  OpenClaim.holds_of_wide 10 Try.f10 rfl rfl rfl rfl rfl rfl rfl ⟨rfl, rfl, rfl, rfl, rfl⟩ rfl rfl rfl rfl rfl (by kernel_rfl) Try.func10 (by kernel_rfl)
    (of_decide_eq_true (by kernel_rfl)) (by unfold Func.isWrapper; first | (rw [if_pos (by decide +kernel)]; kernel_rfl) | (rw [if_neg (by decide +kernel)]; exact ⟨rfl, rfl⟩))
    (fun os started H enc _ => exactNullsOf_lifted os started H enc)
#print axioms exactNullsOf_holds
end Go.Proofs.Yteoiaicpdmlecaa
