/- The reference's weights. -/
import Derived.Test.YtcdbeepphdfipaaGreatDoorWtsN
import Derived.Test.YtcdbeepphdfipaaGreatDoorMsgsS
import Derived.Test.YtcdbeepphdfipaaGreatDoorBase
namespace Go.Proofs.YtcdbeepphdfipaaGreatDoor
open Go.RowKit Mat
set_option linter.unusedVariables false

set_option maxRecDepth 100000 in
set_option maxHeartbeats 4000000 in
theorem specWeights_any (q : Nat) [NeZero q] (n : Nat) (v : Value) (rows : List (List Int)) (w : World) (hr : IsR w v rows) (ht : TabOk q n rows) (h4 : rows.length ≤ 4) :
    Calls Tryz.prog 118 #[.agg #[.int .i64 q, v]] w fun e w' => GivesI w e w' (fun out => out = wtsTo q n rows (q ^ rows.length)) := by
  have hq2 := ht.pr.pos
  have hn1 := ht.n1
  have hn7 := ht.n7
  obtain ⟨k, hk⟩ : ∃ k, k = rows.length := ⟨_, rfl⟩
  obtain ⟨ao, m, cap, rfl, HN, hm⟩ := hr.shape
  obtain rfl : m = k := by rw [HN.out, hk]
  have hm1 : 0 < m := by rw [HN.out]; exact ht.r1
  rw [← hk] at h4
  have HK := Lib.hid hk
  obtain ⟨b0, o0, u0, rfl, ck0, hu0⟩ := hr.at (i := 0) hm1
  rw [Nat.add_zero] at ck0
  obtain ⟨a0, n0, c0, rfl, HN0, hn0⟩ := hu0.shape
  obtain rfl : n = n0 := by rw [HN0.out, ht.cols]
  have HR := Lib.hid hr
  have HT := Lib.hid ht
  have h1 : New w (w.alloc (.cells #[.int .i64 q, .slice (some ⟨b0, o0, none⟩) m cap] 24)) := New.alloc _ _
  have b1 := Blk2.alloc w (.int .i64 q) (.slice (some ⟨b0, o0, none⟩) m cap) 24
  have hs1 : (w.alloc (.cells #[.int .i64 q, .slice (some ⟨b0, o0, none⟩) m cap] 24)).heap.size = w.heap.size + 1 := by simp
  have ck1 := h1.cellNew ck0
  clear hr ht hu0 hk
  go_enter Tryz.func118, Tryz.ntmps118
  go_wp2_with (at_make; refine wpList_mk rfl _ _ _ rfl tyInt _ _ _ _ (n + 1) (n + 1) rfl rfl (by push_cast; rfl) (by push_cast; rfl) (Nat.le_refl _) (by omega) ?_; intro v3 w3 hv3 ho3 hn3 hs3; rw [hs1] at hv3 hs3; subst hv3; have H3 := Lib.hid (And.intro ho3 (And.intro hn3 hs3)); obtain ⟨e0, e1, _, _⟩ := (b1.new hn3).cells; clear ho3 hn3 hs3)
  obtain ⟨T, hT⟩ : ∃ T, T = q ^ m := ⟨_, rfl⟩
  have hT2401 : T ≤ 2401 := by rw [hT]; exact pow_all hq2.2 h4
  have HTT := Lib.hid hT
  clear hT
  refine (specMessages_any q m w3 hq2 h4).mono ?_
  rintro e w4 ⟨u4, vs4, rfl, ho4, hf4, hn4⟩
  rw [← HTT.out] at ho4 hf4
  have hov : vs4.length = T := by rw [ho4.len, msgsTo_length]
  obtain ⟨a4, l4, c4, rfl, HL4, _, _⟩ := ho4.outer.opened (by unfold Mid; omega)
  obtain rfl : l4 = T := by rw [HL4.out, hov]
  have hb4 := (b1.new (H3.out.2.1)).new hn4
  have H4 := Lib.hid (And.intro ho4 (And.intro hf4 (And.intro hn4 (And.intro hb4 (And.intro ((h1.trans H3.out.2.1).trans hn4) (H3.out.1.new hn4))))))
  clear ho4 hf4 hn4 hb4 e0 e1 b1 h1 ck1 hs1 hov
  go_wp2_with fail
  go_loopw [5] (fun t5 wr => ∃ t : Nat, t5 = .int .i64 t ∧ t ≤ l4 ∧ Hid (Own wr 3 (.slice (some ⟨w.heap.size + 1, 0, none⟩) (n + 1) (n + 1)) ((wtsTo q n rows t).map (Value.int .i64)) ∧ Chg (· = w.heap.size + 1) w4 wr)) (fun t5 _ => l4 - (intOf t5).toNat)
  case atStart => exact ⟨0, rfl, Nat.zero_le _, by rw [wtsTo, List.map_replicate]; exact H4.out.2.2.2.2.2, Chg.refl _ _⟩
  case round =>
    obtain ⟨t, rfl, htl, HD⟩ := hrel
    obtain ⟨wz, hwz⟩ : ∃ wz : World, wz = wr := ⟨_, rfl⟩
    rw [← hwz] at HD
    rw [← hwz]
    clear hwz
    have hnz : New w wz := H4.out.2.2.2.2.1.then HD.out.2 (fun i hi => by omega)
    have HNZ := Lib.hid hnz
    clear hnz
    by_cases htT : t < l4
    · have hoz := H4.out.1.chg HD.out.2 (fun g hg e => by have := H4.out.2.1.1 g hg; have := H3.out.2.2; omega) (fun i hi g hg e => by have := H4.out.2.1.2 i hi g hg; have := H3.out.2.2; omega)
      obtain ⟨g4, rfl⟩ := hoz.outer.head (i := t) (by rw [hoz.len, msgsTo_length]; exact htT)
      have cm := (hoz.outer.cell (i := t) (by rw [hoz.len, msgsTo_length]; exact htT)).1
      have him := (hoz.inner t (by rw [msgsTo_length]; exact htT)).isI (by rw [msgsTo_get htT, msg_length]; unfold Mid; omega)
      rw [msgsTo_get htT] at him
      obtain ⟨am, lm, cm', hgv, HLM, hlm⟩ := him.shape
      rw [hgv] at cm him
      have HIM := Lib.hid him
      obtain ⟨f0, f1, _, _⟩ := (H4.out.2.2.2.1.chg HD.out.2 (by omega)).cells
      have hmg := msg_good (q := q) (k := m) (t := t) (by omega)
      have HMG := Lib.hid hmg
      clear hoz him hgv hmg
      go_wp2_with fail
      go_region_held3 (fun w' => w'.cell? ⟨w.heap.size, 0, none⟩ = some (.int .i64 q) ∧ w'.cell? ⟨w.heap.size, 1, none⟩ = some (.slice (some ⟨b0, o0, none⟩) m cap) ∧ w'.cell? ⟨g4, t, none⟩ = some (.slice am lm cm')) (first | exact ⟨HK8.out.cellNew f0, HK8.out.cellNew f1, HK8.out.cellNew cm⟩ | go_keep)
        (first | (go_at_call 55; refine (specEncode_any q n _ _ rows (msg q m t) _ (by omega) (by omega) (HR.out.new (HNZ.out.trans (New.drew _))) (HIM.out.new (New.drew _)) (fun i hi => ⟨(HT.out.good i hi).1, fun j hj => by have := (HT.out.good i hi).2 j hj; omega⟩) (by rw [← HN.out]; exact hm1) (by rw [HMG.out.1, HN.out]; exact Nat.le_refl _) (fun i hi => by rw [HMG.out.1] at hi; have := HMG.out.2 i hi; omega)).mono ?_; rintro e w5 ⟨u5, rfl, ho5, hf5, hn5⟩; rw [HMG.out.1] at ho5; have hie := ho5.isI (by rw [encZ_length]; unfold Mid; omega); obtain ⟨a5, l5, c5, rfl, _, _⟩ := hie.shape; have HIE := Lib.hid hie; have HK8 := Lib.hid ((New.drew _).trans hn5); clear ho5 hf5 hn5 hie) | (go_at_call 154; refine (heavy_any _ _ _ HIE.out (by rw [encZ_length]; omega)).mono ?_; rintro e w6 ⟨rfl, rfl⟩))
      have hw : hvTo (encZ (↑q) n rows (msg q m t) m) (encZ (↑q) n rows (msg q m t) m).length = wtT q n rows t := by rw [encZ_length]; unfold wtT wordT; rw [← HN.out]
      rw [hw]
      obtain ⟨c, hc⟩ : ∃ c, c = wtT q n rows t := ⟨_, rfl⟩
      rw [← hc]
      have hcn : c ≤ n := by rw [hc]; exact wtT_le _ _ _ _
      have hcl : c < (wtsTo q n rows t).length := by rw [wtsTo_length]; omega
      have hxr := wtsTo_range q n rows t c (by omega)
      obtain ⟨x, hx⟩ : ∃ x, x = gi (wtsTo q n rows t) c := ⟨_, rfl⟩
      rw [← hx] at hxr
      have ho6 := HD.out.1.new HK8.out
      obtain ⟨cl, fl⟩ := ho6.cell (i := c) (by rw [List.length_map]; exact hcl)
      rw [gv_map_int hcl, ← hx] at cl
      have hst := ho6.set c (.int .i64 (x + 1))
      rw [set_map_int] at hst
      have hst2 : Own (w5.setCell ⟨w.heap.size + 1, c, none⟩ (.int .i64 (x + 1))) 3 (.slice (some ⟨w.heap.size + 1, 0, none⟩) (n + 1) (n + 1)) ((wtsTo q n rows (t + 1)).map (Value.int .i64)) := by
        rw [wtsTo, bump, ← hc, ← hx]; exact hst
      have HST := Lib.hid hst2
      have hcn1 : c < n + 1 := by omega
      clear hst hst2 ho6 hcl hc hx hw
      go_wp2_with fail
      go_roundw
      case rel => exact ⟨t + 1, by go_num, by omega, HST.out, Chg.trans (Chg.trans HD.out.2 HK8.out (fun _ _ x => x) (fun _ _ x => x.elim)) (Chg.setCell w5 ⟨w.heap.size + 1, c, none⟩ _) (fun _ _ x => x) (fun _ _ x => x)⟩
      case measure => simp [intOf]; omega
    · obtain rfl : t = l4 := by omega
      go_wp2_with fail
      go_ret
      exact ⟨_, _, rfl, HD.out.1, fun g hg => by simp [Value.ownBlock] at hg; omega, by rw [← HN.out, ← HTT.out], HNZ.out⟩
end Go.Proofs.YtcdbeepphdfipaaGreatDoor
