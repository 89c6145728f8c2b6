/- THE LAW: FnExactParseCode returns true for all texts: the program's function returns what the reference's returns, and hands back memory of its own. -/
import Derived.Test.YtcdbeepphdfipaaGreatDoorImpP
import Derived.Test.YtcdbeepphdfipaaGreatDoorLawK
import Derived.Test.YtcdbeepphdfipaaGreatDoorLaidV
import Derived.Lib.SmallJoins
namespace Go.Proofs.YtcdbeepphdfipaaGreatDoor
open Go.ChangeShapes Go.WideShapes Go.ChangeAt Go.WideMaps Go.WideElems Go.RowKit Go.Joins Go.ChangeMaps
set_option linter.unusedVariables false

theorem ParseR.small {s : List UInt8} {p : Int} {rows : List (List Int)} {ok : Bool} (h : ParseR s p rows ok) : SmR rows := by
  cases ok with
  | true =>
    have hd := (h.1 rfl).1.digs
    exact ⟨by omega, fun i hi => by have := hd.2.2.2.2 i hi; omega⟩
  | false =>
    obtain ⟨_, h, _⟩ := h.2 rfl
    rw [h]
    exact ⟨by simp, fun i hi => by simp at hi⟩

set_option maxRecDepth 100000 in
set_option maxHeartbeats 4000000 in
theorem exactParseCode_any (L : List UInt8) (w : World) (hv : ErrV w) :
    Calls Tryz.prog 3 #[.string (bs L)] w fun e w' => e = .returned (.bool true) ∧ New w w' := by
  obtain ⟨S, hSS⟩ : ∃ S, S = bs L := ⟨_, rfl⟩
  have hN : New w w := Chg.refl _ _
  obtain ⟨b0, hb0⟩ : ∃ b, b = w.heap.size := ⟨_, rfl⟩
  have hS : b0 ≤ w.heap.size := by omega
  have HV := Lib.hid hv
  have hsl : S.size = L.length := by rw [hSS, bs_size]
  rw [← hSS]
  by_cases hbig : 1048576 < (S.size : Int)
  · clear hv hSS hsl
    go_enter Tryz.func3, Tryz.ntmps3
    go_wp2_with fail
    go_ret
    exact ⟨rfl, hN⟩
  have KSp := Lib.hid (fun w => specParseCode_any L w (by omega))
  have KIm := Lib.hid (fun w hv => implParseCode_any L w (by omega) hv)
  rw [← hSS] at KSp KIm
  clear hv hSS hsl
  go_enter Tryz.func3, Tryz.ntmps3
  go_wp2_with fail
  refine (KSp.out w).mono ?_
  rintro e w3 ⟨uW, vsW, outW, ppW, okW, rfl, ho1, hf, hq, hn⟩
  have ho := ObR.of ho1 hf
  clear ho1 hf
  have HQ := Lib.hid hq
  have SQ := Lib.hid hq.small
  clear hq
  obtain ⟨aW, nW, cW, rfl⟩ := ho.shape SQ.out
  have hsz := hS
  replace hN := hN.trans hn
  replace hS := Nat.le_trans hS hn.size
  obtain ⟨bW, hbW⟩ : ∃ b, (b0 ≤ b ∧ b ≤ w3.heap.size) ∧ ObR w3 (.slice aW nW cW) outW b w3.heap.size := ⟨_, ⟨hsz, hn.size⟩, ho⟩
  obtain ⟨qW, ho2⟩ := hbW
  obtain ⟨eW, heW⟩ : ∃ e, e = w3.heap.size := ⟨_, rfl⟩
  rw [← heW] at ho2 qW hS
  have OW := Lib.hid ho2
  replace hS : eW ≤ w3.heap.size := by omega
  clear ho ho2 hn hsz
  have hal : New w3 (w3.alloc (.cells #[.int .i64 ppW, .slice aW nW cW] 24)) := New.alloc _ _
  have KB := Lib.hid (Blk2.alloc w3 (.int .i64 ppW) (.slice aW nW cW) 24)
  replace hN := hN.trans hal
  replace OW := Lib.hid (OW.out.new hal)
  replace hS := Nat.le_trans hS hal.size
  have KW := KB
  replace hS : eW + 1 ≤ (w3.alloc (.cells #[.int .i64 ppW, .slice aW nW cW] 24)).heap.size := by rw [World.size_alloc, heW]; exact Nat.le_refl _
  clear KB hal
  obtain ⟨dW0, dW1, _, _⟩ := KW.out.cells
  go_wp2_with fail
  refine (KIm.out _ (HV.out.new hN)).mono ?_
  rintro e w5 ⟨uG, vsG, outG, ppG, okG, rfl, ho1, hf, hq, hn⟩
  have ho := ObR.of ho1 hf
  clear ho1 hf
  obtain ⟨rfl, rfl, rfl⟩ := hq.unique HQ.out
  clear hq
  clear dW0 dW1
  obtain ⟨aG, nG, cG, rfl⟩ := ho.shape SQ.out
  have hsz := hS
  replace hN := hN.trans hn
  replace OW := Lib.hid (OW.out.new hn)
  replace KW := Lib.hid (KW.out.new hn)
  replace hS := Nat.le_trans hS hn.size
  obtain ⟨bG, hbG⟩ : ∃ b, (eW + 1 ≤ b ∧ b ≤ w5.heap.size) ∧ ObR w5 (.slice aG nG cG) outG b w5.heap.size := ⟨_, ⟨hsz, hn.size⟩, ho⟩
  obtain ⟨qG, ho2⟩ := hbG
  obtain ⟨eG, heG⟩ : ∃ e, e = w5.heap.size := ⟨_, rfl⟩
  rw [← heG] at ho2 qG hS
  have OG := Lib.hid ho2
  replace hS : eG ≤ w5.heap.size := by omega
  clear ho ho2 hn hsz
  have hal : New w5 (w5.alloc (.cells #[.int .i64 ppG, .slice aG nG cG] 24)) := New.alloc _ _
  have KB := Lib.hid (Blk2.alloc w5 (.int .i64 ppG) (.slice aG nG cG) 24)
  replace hN := hN.trans hal
  replace OW := Lib.hid (OW.out.new hal)
  replace OG := Lib.hid (OG.out.new hal)
  replace KW := Lib.hid (KW.out.new hal)
  replace hS := Nat.le_trans hS hal.size
  have KG := KB
  replace hS : eG + 1 ≤ (w5.alloc (.cells #[.int .i64 ppG, .slice aG nG cG] 24)).heap.size := by rw [World.size_alloc, heG]; exact Nat.le_refl _
  clear KB hal
  obtain ⟨dW0, dW1, _, _⟩ := KW.out.cells
  obtain ⟨dG0, dG1, _, _⟩ := KG.out.cells
  go_wp2_with fail
  refine (eqC ppG _ _ outG _ _ _ _ _ SQ.out OG.out OW.out).mono ?_
  rintro e w10 ⟨rfl, hn⟩
  clear dW0 dW1 dG0 dG1
  replace hN := hN.trans hn
  replace OW := Lib.hid (OW.out.new hn)
  replace OG := Lib.hid (OG.out.new hn)
  replace KW := Lib.hid (KW.out.new hn)
  replace KG := Lib.hid (KG.out.new hn)
  replace hS := Nat.le_trans hS hn.size
  clear hn
  obtain ⟨dW0, dW1, _, _⟩ := KW.out.cells
  obtain ⟨dG0, dG1, _, _⟩ := KG.out.cells
  go_wp2_with fail
  refine (markC ppG _ outG _ _ _ _ SQ.out OG.out (by omega)).mono ?_
  rintro e w11 ⟨MG, rfl, hMG, hMG1, hMG2, ho, hc⟩
  clear dW0 dW1 dG0 dG1
  have HMG := Lib.hid hMG
  clear hMG
  replace hN := hN.ivNew hc (by omega)
  replace OW := Lib.hid (OW.out.chg hc (by omega))
  replace KW := Lib.hid (KW.out.iv hc (by omega))
  replace KG := Lib.hid (KG.out.iv hc (by omega))
  replace hS := Nat.le_trans hS hc.size
  replace OG := Lib.hid ho
  clear ho hc
  obtain ⟨dW0, dW1, _, _⟩ := KW.out.cells
  obtain ⟨dG0, dG1, _, _⟩ := KG.out.cells
  go_wp2_with fail
  refine (heldC ppG _ outG _ MG _ _ _ SQ.out HMG.out OG.out (by omega)).mono ?_
  rintro e w12 ⟨rfl, hn⟩
  clear dW0 dW1 dG0 dG1
  replace hN := hN.trans hn
  replace OW := Lib.hid (OW.out.new hn)
  replace OG := Lib.hid (OG.out.new hn)
  replace KW := Lib.hid (KW.out.new hn)
  replace KG := Lib.hid (KG.out.new hn)
  replace hS := Nat.le_trans hS hn.size
  clear hn
  obtain ⟨dW0, dW1, _, _⟩ := KW.out.cells
  obtain ⟨dG0, dG1, _, _⟩ := KG.out.cells
  go_wp2_with fail
  refine (KIm.out _ (HV.out.new hN)).mono ?_
  rintro e w14 ⟨uH, vsH, outH, ppH, okH, rfl, ho1, hf, hq, hn⟩
  have ho := ObR.of ho1 hf
  clear ho1 hf
  obtain ⟨rfl, rfl, rfl⟩ := hq.unique HQ.out
  clear hq
  clear dW0 dW1 dG0 dG1
  obtain ⟨aH, nH, cH, rfl⟩ := ho.shape SQ.out
  have hsz := hS
  replace hN := hN.trans hn
  replace OW := Lib.hid (OW.out.new hn)
  replace OG := Lib.hid (OG.out.new hn)
  replace KW := Lib.hid (KW.out.new hn)
  replace KG := Lib.hid (KG.out.new hn)
  replace hS := Nat.le_trans hS hn.size
  obtain ⟨bH, hbH⟩ : ∃ b, (eG + 1 ≤ b ∧ b ≤ w14.heap.size) ∧ ObR w14 (.slice aH nH cH) outH b w14.heap.size := ⟨_, ⟨hsz, hn.size⟩, ho⟩
  obtain ⟨qH, ho2⟩ := hbH
  obtain ⟨eH, heH⟩ : ∃ e, e = w14.heap.size := ⟨_, rfl⟩
  rw [← heH] at ho2 qH hS
  have OH := Lib.hid ho2
  replace hS : eH ≤ w14.heap.size := by omega
  clear ho ho2 hn hsz
  have hal : New w14 (w14.alloc (.cells #[.int .i64 ppH, .slice aH nH cH] 24)) := New.alloc _ _
  have KB := Lib.hid (Blk2.alloc w14 (.int .i64 ppH) (.slice aH nH cH) 24)
  replace hN := hN.trans hal
  replace OW := Lib.hid (OW.out.new hal)
  replace OG := Lib.hid (OG.out.new hal)
  replace OH := Lib.hid (OH.out.new hal)
  replace KW := Lib.hid (KW.out.new hal)
  replace KG := Lib.hid (KG.out.new hal)
  replace hS := Nat.le_trans hS hal.size
  have KH := KB
  replace hS : eH + 1 ≤ (w14.alloc (.cells #[.int .i64 ppH, .slice aH nH cH] 24)).heap.size := by rw [World.size_alloc, heH]; exact Nat.le_refl _
  clear KB hal
  obtain ⟨dW0, dW1, _, _⟩ := KW.out.cells
  obtain ⟨dG0, dG1, _, _⟩ := KG.out.cells
  obtain ⟨dH0, dH1, _, _⟩ := KH.out.cells
  go_wp2_with fail
  refine (eqC ppH _ _ outH _ _ _ _ _ SQ.out OH.out OW.out).mono ?_
  rintro e w15 ⟨rfl, hn⟩
  clear dW0 dW1 dG0 dG1 dH0 dH1
  replace hN := hN.trans hn
  replace OW := Lib.hid (OW.out.new hn)
  replace OG := Lib.hid (OG.out.new hn)
  replace OH := Lib.hid (OH.out.new hn)
  replace KW := Lib.hid (KW.out.new hn)
  replace KG := Lib.hid (KG.out.new hn)
  replace KH := Lib.hid (KH.out.new hn)
  replace hS := Nat.le_trans hS hn.size
  clear hn
  obtain ⟨dW0, dW1, _, _⟩ := KW.out.cells
  obtain ⟨dG0, dG1, _, _⟩ := KG.out.cells
  obtain ⟨dH0, dH1, _, _⟩ := KH.out.cells
  go_wp2_with fail
  refine (heldC ppH _ outH _ MG _ _ _ SQ.out HMG.out OG.out (by omega)).mono ?_
  rintro e w16 ⟨rfl, hn⟩
  clear dW0 dW1 dG0 dG1 dH0 dH1
  replace hN := hN.trans hn
  replace OW := Lib.hid (OW.out.new hn)
  replace OG := Lib.hid (OG.out.new hn)
  replace OH := Lib.hid (OH.out.new hn)
  replace KW := Lib.hid (KW.out.new hn)
  replace KG := Lib.hid (KG.out.new hn)
  replace KH := Lib.hid (KH.out.new hn)
  replace hS := Nat.le_trans hS hn.size
  clear hn
  go_wp2_with fail
  go_ret
  exact ⟨rfl, hN⟩

set_option maxRecDepth 100000 in
theorem exactParseCode_lifted (os : Os) (started : os.Started) (H : Type) (enc : TypeId × Value → H) :
    ReturnsInHanded {} Tryz.checked os 3 .any (fun w args => (Rows.fnExactParseCodeSpec.pre enc Tryz.prog Tryz.f3 [] false w args ∧ laidMetH Tryz.prog Rows.fnExactParseCodeRow.laid w) ∧ sizedMet enc Tryz.prog Tryz.f3 (OpenSpec.ofChange Rows.fnExactParseCodeSpec) false w args)
      (Rows.fnExactParseCodeSpec.post enc Tryz.prog Tryz.f3 false true false false) := by
  refine returnsInHanded_of_change_and (C := Tryz.checked) (X := fun w _ => laidMetH Tryz.prog Rows.fnExactParseCodeRow.laid w) (fun _ _ _ hh h => h.of_heap hh) own started (by kernel_rfl) Tryz.func3
    (ChangeSpec.witness_shaped (enc := enc) (C := Tryz.checked) (os := os) (X := fun w _ => laidMetH Tryz.prog Rows.fnExactParseCodeRow.laid w) false (World.laidAll Tryz.prog os laidL) #[.string ⟨#[]⟩] 8 (World.laidAll_os _ _ _)
      (laid_shaped os _) (by kernel_rfl) (by kernel_rfl) (by kernel_rfl) (laid_met os _)) ?_
  intro W base args ds gs before hval0 hW _ _ hL _
  have hval : ∀ (j : Nat) t v, Tryz.f3.params[j]? = some t → args[j]? = some v → Value.okWide Tryz.prog W .any base t v := hval0
  have hW' := hW
  obtain ⟨p, q, hA0, hV, rfl, hfz, hnd⟩ := hW
  have hA : DataW.TrodAll enc Tryz.prog W 0 (fun _ => true) true Tryz.f3.params.toList args.toList ds p := hA0
  rw [Tryz.params3] at hA hval
  obtain ⟨v0, d0, rfl, rfl, h0⟩ := trodAll_one hA
  obtain ⟨rfl, rfl⟩ := trodVars_none hV
  have k0 := h0
  have lt0 : ∀ x ∈ p, x.block < W.heap.size := by obtain ⟨m, hm⟩ := k0; exact DataW.trod_lt m _ _ _ hm
  obtain ⟨s, rfl, rfl, rfl, hs⟩ := open_string Tryz.underlying9 (hval 0 9 v0 rfl rfl) h0
  clear hA0 hval0
  obtain ⟨L, rfl⟩ : ∃ L, s = bs L := ⟨s.data.toList, by cases s; simp [bs]⟩
  refine (exactParseCode_any L W (errV_of_laid hL)).mono fun e W' ⟨he, hnew⟩ => ?_
  subst he
  have bel := hnew.below
  exact ⟨_, rfl, _, _, _, [], _, [], hW', trodAll_mk1 (shut_bool Tryz.underlying4 _), (trodAll_cons_mk (Below.trod laidOut (by kernel_rfl) (of_decide_eq_true (by kernel_rfl)) k0 bel lt0) trodAll_mk0), rfl, bel.frame _, fun h => by cases h⟩

theorem exactParseCode_holds : Rows.FnExactParseCodeSaid :=
  OpenClaim.holds_of_wide 3 Tryz.f3 rfl rfl rfl rfl rfl rfl rfl ⟨rfl, rfl, rfl, rfl, rfl⟩ rfl rfl rfl rfl rfl (by kernel_rfl) Tryz.func3 (by kernel_rfl)
    (of_decide_eq_true (by kernel_rfl)) (by unfold Func.isWrapper; first | (rw [if_pos (by decide +kernel)]; kernel_rfl) | (rw [if_neg (by decide +kernel)]; exact ⟨rfl, rfl⟩))
    (fun os started H enc _ => exactParseCode_lifted os started H enc)
#print axioms exactParseCode_holds
end Go.Proofs.YtcdbeepphdfipaaGreatDoor
