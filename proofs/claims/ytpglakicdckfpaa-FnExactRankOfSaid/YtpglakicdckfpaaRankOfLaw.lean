/- THE LAW: FnExactRankOf returns true for every prime and all rows, without any condition: the program's RankOf is the reference's, and leaves its argument alone. -/
import Derived.Test.YtpglakicdckfpaaRank
import Derived.Test.YtpglakicdckfpaaLawB
import Derived.Test.YtpglakicdckfpaaOpen
import Derived.Test.YtpglakicdckfpaaRows
namespace Go.Proofs.Ytpglakicdckfpaa
open Go.ChangeShapes Go.WideShapes Go.ChangeAt Go.RowKit
set_option linter.unusedVariables false

theorem exactRankOf_any (p : Int) (v : Value) (rows : List (List Int)) (w : World) (hr : RawR w v rows) :
    Calls Try.prog 9 #[.int .i64 p, v] w fun e w' => e = .returned (.bool true) ∧ New w w' := by
  have HR := Lib.hid hr
  obtain ⟨ao, cap, ev, _⟩ := id hr
  obtain ⟨n, hn⟩ : ∃ n, n = rows.length := ⟨_, rfl⟩
  rw [← hn] at ev
  subst ev
  clear hr hn
  go_enter Try.func9, Try.ntmps9
  go_wp2_with fail
  refine (szIntSS_any _ _ _ _ HR.out (by omega)).mono ?_
  rintro e w1 ⟨r, rfl, rfl, hr1, hr2⟩
  by_cases hneg : r < 0
  · clear hr2
    go_wp2_with fail
    go_ret
    exact ⟨rfl, Chg.refl _ _⟩
  · have hsm : (rows.length : Int) ≤ 1048576 ∧ ∀ i, i < rows.length → ((gr rows i).length : Int) ≤ 1048576 := by
      rcases hr2 with h | h
      · omega
      · exact h
    have hI := HR.out.isR (by unfold Mid; omega) (fun i hi => by have := hsm.2 i hi; unfold Mid; omega)
    have HI := Lib.hid hI
    have HSM := Lib.hid hsm
    clear hr2 hI hsm
    go_wp2_with fail
    refine (toIntSS_any _ _ _ HI.out).mono ?_
    rintro e w2 ⟨u2, vs2, rfl, ho2, hf2, hn2⟩
    have HO2 := Lib.hid ho2
    clear ho2 hf2
    have hmr : ∀ (w : World) (u : Value) (vs : List Value), OwnR w 24 3 u vs rows → IsR w u rows := fun _ _ _ h => h.isR (by have := HSM.out.1; unfold Mid; omega) (fun i hi => by have := HSM.out.2 i hi; unfold Mid; omega)
    have HMR := Lib.hid hmr
    clear hmr
    go_wp2_with fail
    refine (specRankOf_any _ _ rows _ (HMR.out _ _ _ HO2.out)).mono ?_
    rintro e w3 ⟨⟨r1, rfl, ha1, hb1⟩, hn3⟩
    have h13 := hn2.trans hn3
    have HA1 := Lib.hid ha1
    have HB1 := Lib.hid hb1
    clear ha1 hb1
    go_wp2_with fail
    refine (toIntSS_any _ _ _ (HI.out.new h13)).mono ?_
    rintro e w4 ⟨u4, vs4, rfl, ho4, hf4, hn4⟩
    have h14 := h13.trans hn4
    have HO4 := Lib.hid ho4
    clear ho4 hf4
    go_wp2_with fail
    refine (implRankOf_any _ _ rows _ (HMR.out _ _ _ HO4.out)).mono ?_
    rintro e w5 ⟨⟨r2, rfl, ha2, hb2⟩, hn5⟩
    have h15 := h14.trans hn5
    have er : r2 = r1 := by
      cases hv : vtB p rows with
      | false => rw [HA1.out hv, ha2 hv]
      | true =>
        obtain ⟨o1, h1, e1⟩ := HB1.out hv
        obtain ⟨o2, h2, e2⟩ := hb2 hv
        rw [e1, e2, h1.unique h2]
    subst er
    clear ha2 hb2 HA1 HB1
    go_wp2_with fail
    refine (toIntSS_any _ _ _ (HI.out.new h15)).mono ?_
    rintro e w6 ⟨u6, vs6, rfl, ho6, hf6, hn6⟩
    have h16 := h15.trans hn6
    have HO6 := Lib.hid ho6
    clear ho6 hf6
    go_wp2_with fail
    refine (eqIntSS_any _ _ rows rows _ ((HMR.out _ _ _ HO4.out).new (hn5.trans hn6)) (HMR.out _ _ _ HO6.out)).mono ?_
    rintro e w7 ⟨rfl, m, rfl⟩
    rw [eqLL_self]
    go_wp2_with fail
    go_ret
    exact ⟨rfl, h16.trans (New.drewN _ _)⟩

set_option maxRecDepth 100000 in
theorem exactRankOf_lifted (os : Os) (started : os.Started) (H : Type) (enc : TypeId × Value → H) :
    ReturnsInHanded {} Try.checked os 9 .any (Rows.fnExactRankOfSpec.pre6 enc Try.prog Try.f9 Rows.fnExactRankOfRow.domain false) (Rows.fnExactRankOfSpec.post enc Try.prog Try.f9 false true false false) := by
  refine returnsInHanded_of_change (C := Try.checked) own started (by kernel_rfl) Try.func9
    (ChangeSpec.witness6 (enc := enc) (C := Try.checked) false ⟨#[], #[.int .i64 0, .slice none 0 0], []⟩ 8 (by kernel_rfl) (by kernel_rfl) (by kernel_rfl) (by kernel_rfl)) ?_
  intro W base args ds gs before hval0 hW hcnd _
  have hval : ∀ (j : Nat) t v, Try.f9.params[j]? = some t → args[j]? = some v → Value.okWide Try.prog W .any base t v := hval0
  have hW' := hW
  obtain ⟨p, q, hA0, hV, rfl, hfz, hnd⟩ := hW
  have hA : DataW.TrodAll enc Try.prog W 0 (fun _ => true) true Try.f9.params.toList args.toList ds p := hA0
  rw [Try.params9] at hA hval
  obtain ⟨v0, vs0, d0, ds0, p0, q0, hargs, rfl, rfl, h0, r0⟩ := trodAll_cons hA
  obtain ⟨v1, vs1, d1, ds1, p1, q1, rfl, rfl, rfl, h1, r1⟩ := trodAll_cons r0
  obtain ⟨rfl, rfl, rfl⟩ := trodAll_nil r1
  obtain rfl : args = #[v0, v1] := by cases args; simp_all
  obtain ⟨rfl, rfl⟩ := trodVars_none hV
  obtain ⟨a1, len1, cap1, rfl⟩ := okWide_slice Try.underlying23 (hval 1 23 v1 rfl rfl)
  have k1 := h1
  have lt1 : ∀ x ∈ p1, x.block < W.heap.size := by obtain ⟨m, hm⟩ := k1; exact DataW.trod_lt m _ _ _ hm
  obtain ⟨rows, hrows⟩ : ∃ rows, RawR W (.slice a1 len1 cap1) rows := by
    obtain ⟨fuel, hf⟩ := h1
    exact rawR_of_trod hf
  obtain ⟨a0, rfl, rfl, rfl, w0⟩ := open_int Try.underlying3 (hval 0 3 v0 rfl rfl) h0
  clear hA0 hval0
  refine (exactRankOf_any a0 _ rows W hrows).mono fun e W' ⟨he, hnew⟩ => ?_
  subst he
  have bel := hnew.below
  exact ⟨_, rfl, _, _, _, [], _, [], hW', trodAll_mk1 (shut_bool Try.underlying4 _), (trodAll_cons_mk (shut_int Try.underlying3 w0) (trodAll_cons_mk (Below.trod laidOut (by kernel_rfl) (of_decide_eq_true (by kernel_rfl)) k1 bel lt1) trodAll_mk0)), rfl, bel.frame _, fun h => by cases h⟩

theorem exactRankOf_holds : Rows.FnExactRankOfSaid :=
  OpenClaim.holds_of_wide 9 Try.f9 rfl rfl rfl rfl rfl rfl rfl ⟨rfl, rfl, rfl, rfl, rfl⟩ rfl rfl rfl rfl rfl (by kernel_rfl) Try.func9 (by kernel_rfl)
    (of_decide_eq_true (by kernel_rfl)) (by unfold Func.isWrapper; first | (rw [if_pos (by decide +kernel)]; kernel_rfl) | (rw [if_neg (by decide +kernel)]; exact ⟨rfl, rfl⟩))
    (fun os started H enc _ => exactRankOf_lifted os started H enc)
#print axioms exactRankOf_holds
end Go.Proofs.Ytpglakicdckfpaa
