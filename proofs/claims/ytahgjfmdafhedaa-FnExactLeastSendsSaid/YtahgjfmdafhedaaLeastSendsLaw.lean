/- THE LAW: FnExactLeastSends returns true for all arguments, without any condition: the program's function returns what the reference's returns, leaves its arguments alone, and hands back memory of its own. -/
import Derived.Test.YtahgjfmdafhedaaHintI
import Derived.Test.YtahgjfmdafhedaaLawK
import Derived.Test.YtahgjfmdafhedaaRows
import Derived.Deep.RegionHeld3
import Derived.Lib.SmallJoins
namespace Go.Proofs.Ytahgjfmdafhedaa
open Go.ChangeShapes Go.WideShapes Go.ChangeAt Go.RowKit Go.Joins
set_option linter.unusedVariables false

set_option maxRecDepth 100000 in
set_option maxHeartbeats 4000000 in
theorem exactLeastSends_any (v0 : Value) (xs0 : List Int) (w : World) (hr0 : RawI w v0 xs0) :
    Calls Try.prog 6 #[v0] w fun e w' => e = .returned (.bool true) ∧ New w w' := by
  obtain ⟨ao0, cap0, ev0, ⟨hcap0, _⟩, hmax0, _⟩ := id hr0
  obtain ⟨n0, hn0⟩ : ∃ n, n = xs0.length := ⟨_, rfl⟩
  rw [← hn0] at ev0 hcap0
  subst ev0
  have hnm0 : n0 ≤ 9223372036854775807 := by unfold maxLen at hmax0; omega
  have HR0 := Lib.hid hr0
  have HNN0 := Lib.hid hn0
  clear hr0 hn0 hcap0 hmax0
  by_cases hlen0 : n0 ≤ 1048576
  rotate_left
  · go_enter Try.func6, Try.ntmps6
    go_wp2_with fail
    go_ret
    exact ⟨rfl, Chg.refl _ _⟩
  have hN : New w w := Chg.refl _ _
  obtain ⟨b0, hb0⟩ : ∃ b, b = w.heap.size := ⟨_, rfl⟩
  have hS : b0 ≤ w.heap.size := by omega
  go_enter Try.func6, Try.ntmps6
  go_wp2_with fail
  have SM0 : xs0.length ≤ 1048576 := by rw [← HNN0.out]; omega
  have HI0 := Lib.hid (HR0.out.isI (by unfold Mid; omega))
  replace SM0 := Lib.hid SM0
  go_wp2_with fail
  refine (toI_any _ xs0 _ (HI0.out.new hN)).mono ?_
  rintro e w1 ⟨uA0, rfl, ho, hn⟩
  obtain ⟨aA0, nA0, cA0, rfl⟩ := ho.shape SM0.out
  have hsz := hS
  replace hN := hN.trans hn
  replace hS := Nat.le_trans hS hn.size
  obtain ⟨bA0, hbA0⟩ : ∃ b, (b0 ≤ b ∧ b ≤ w1.heap.size) ∧ ObI w1 (.slice aA0 nA0 cA0) xs0 b w1.heap.size := ⟨_, ⟨hsz, hn.size⟩, ho⟩
  obtain ⟨qA0, ho2⟩ := hbA0
  obtain ⟨eA0, heA0⟩ : ∃ e, e = w1.heap.size := ⟨_, rfl⟩
  rw [← heA0] at ho2 qA0 hS
  have OA0 := Lib.hid ho2
  replace hS : eA0 ≤ w1.heap.size := by omega
  clear ho ho2 hn hsz
  go_wp2_with fail
  refine (specLeastSends_any _ xs0 _ (OA0.out.isI SM0.out)).mono ?_
  rintro e w2 ⟨tW, rfl, hq, hn⟩
  replace hN := hN.trans hn
  replace OA0 := Lib.hid (OA0.out.new hn)
  replace hS := Nat.le_trans hS hn.size
  have HQ := Lib.hid hq
  clear hq hn
  clear OA0
  go_wp2_with fail
  refine (toI_any _ xs0 _ (HI0.out.new hN)).mono ?_
  rintro e w3 ⟨uX0, rfl, ho, hn⟩
  obtain ⟨aX0, nX0, cX0, rfl⟩ := ho.shape SM0.out
  have hsz := hS
  replace hN := hN.trans hn
  replace hS := Nat.le_trans hS hn.size
  obtain ⟨bX0, hbX0⟩ : ∃ b, (eA0 ≤ b ∧ b ≤ w3.heap.size) ∧ ObI w3 (.slice aX0 nX0 cX0) xs0 b w3.heap.size := ⟨_, ⟨hsz, hn.size⟩, ho⟩
  obtain ⟨qX0, ho2⟩ := hbX0
  obtain ⟨eX0, heX0⟩ : ∃ e, e = w3.heap.size := ⟨_, rfl⟩
  rw [← heX0] at ho2 qX0 hS
  have OX0 := Lib.hid ho2
  replace hS : eX0 ≤ w3.heap.size := by omega
  clear ho ho2 hn hsz
  go_wp2_with fail
  refine (implLeastSends_any _ xs0 _ (OX0.out.isI SM0.out)).mono ?_
  rintro e w4 ⟨tG, rfl, hq, hn⟩
  replace hN := hN.trans hn
  replace OX0 := Lib.hid (OX0.out.new hn)
  replace hS := Nat.le_trans hS hn.size
  have er : tG = tW := hq.unique HQ.out
  subst er
  clear hq hn
  go_wp2_with fail
  refine (toI_any _ xs0 _ (HI0.out.new hN)).mono ?_
  rintro e w5 ⟨uT, rfl, ho, hn⟩
  obtain ⟨aT, nT, cT, rfl⟩ := ho.shape SM0.out
  have hsz := hS
  replace hN := hN.trans hn
  replace OX0 := Lib.hid (OX0.out.new hn)
  replace hS := Nat.le_trans hS hn.size
  obtain ⟨bT, hbT⟩ : ∃ b, (eX0 ≤ b ∧ b ≤ w5.heap.size) ∧ ObI w5 (.slice aT nT cT) xs0 b w5.heap.size := ⟨_, ⟨hsz, hn.size⟩, ho⟩
  obtain ⟨qT, ho2⟩ := hbT
  obtain ⟨eT, heT⟩ : ∃ e, e = w5.heap.size := ⟨_, rfl⟩
  rw [← heT] at ho2 qT hS
  have OT := Lib.hid ho2
  replace hS : eT ≤ w5.heap.size := by omega
  clear ho ho2 hn hsz
  go_wp2_with fail
  refine (eqI _ _ xs0 _ _ _ _ _ SM0.out OX0.out OT.out).mono ?_
  rintro e w6 ⟨rfl, hn⟩
  replace hN := hN.trans hn
  replace OX0 := Lib.hid (OX0.out.new hn)
  replace OT := Lib.hid (OT.out.new hn)
  replace hS := Nat.le_trans hS hn.size
  clear hn
  clear OT
  go_wp2_with fail
  go_ret
  exact ⟨rfl, hN⟩

set_option maxRecDepth 100000 in
theorem exactLeastSends_lifted (os : Os) (started : os.Started) (H : Type) (enc : TypeId × Value → H) :
    ReturnsInHanded {} Try.checked os 6 .any (Rows.fnExactLeastSendsSpec.pre6 enc Try.prog Try.f6 Rows.fnExactLeastSendsRow.domain false) (Rows.fnExactLeastSendsSpec.post enc Try.prog Try.f6 false true false false) := by
  refine returnsInHanded_of_change (C := Try.checked) own started (by kernel_rfl) Try.func6
    (ChangeSpec.witness6 (enc := enc) (C := Try.checked) false ⟨#[], #[.slice none 0 0], []⟩ 8 (by kernel_rfl) (by kernel_rfl) (by kernel_rfl) (by kernel_rfl)) ?_
  intro W base args ds gs before hval0 hW hcnd _
  have hval : ∀ (j : Nat) t v, Try.f6.params[j]? = some t → args[j]? = some v → Value.okWide Try.prog W .any base t v := hval0
  have hW' := hW
  obtain ⟨p, q, hA0, hV, rfl, hfz, hnd⟩ := hW
  have hA : DataW.TrodAll enc Try.prog W 0 (fun _ => true) true Try.f6.params.toList args.toList ds p := hA0
  rw [Try.params6] at hA hval
  obtain ⟨v0, vs0, d0, ds0, pl0, q0, hargs, rfl, rfl, h0, r0⟩ := trodAll_cons hA
  obtain ⟨rfl, rfl, rfl⟩ := trodAll_nil r0
  obtain rfl : args = #[v0] := by cases args; simp_all
  obtain ⟨rfl, rfl⟩ := trodVars_none hV
  have k0 := h0
  have lt0 : ∀ x ∈ pl0, x.block < W.heap.size := by obtain ⟨m, hm⟩ := k0; exact DataW.trod_lt m _ _ _ hm
  obtain ⟨ad0, len0, cap0, rfl⟩ := okWide_slice Try.underlying23 (hval 0 23 v0 rfl rfl)
  obtain ⟨rows0, hrows0⟩ : ∃ rows, RawI W (.slice ad0 len0 cap0) rows := by
    obtain ⟨fuel, hf⟩ := h0
    exact rawI_of_trod hf
  clear hA0 hval0
  refine (exactLeastSends_any _ rows0 W hrows0).mono fun e W' ⟨he, hnew⟩ => ?_
  subst he
  have bel := hnew.below
  exact ⟨_, rfl, _, _, _, [], _, [], hW', trodAll_mk1 (shut_bool Try.underlying4 _), (trodAll_cons_mk (Below.trod laidOut (by kernel_rfl) (of_decide_eq_true (by kernel_rfl)) k0 bel lt0) trodAll_mk0), rfl, bel.frame _, fun h => by cases h⟩

theorem exactLeastSends_holds : Rows.FnExactLeastSendsSaid :=
  OpenClaim.holds_of_wide 6 Try.f6 rfl rfl rfl rfl rfl rfl rfl ⟨rfl, rfl, rfl, rfl, rfl⟩ rfl rfl rfl rfl rfl (by kernel_rfl) Try.func6 (by kernel_rfl)
    (of_decide_eq_true (by kernel_rfl)) (by unfold Func.isWrapper; first | (rw [if_pos (by decide +kernel)]; kernel_rfl) | (rw [if_neg (by decide +kernel)]; exact ⟨rfl, rfl⟩))
    (fun os started H enc _ => exactLeastSends_lifted os started H enc)
#print axioms exactLeastSends_holds
end Go.Proofs.Ytahgjfmdafhedaa
