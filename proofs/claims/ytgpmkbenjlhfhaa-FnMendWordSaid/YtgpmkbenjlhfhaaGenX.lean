/- A word of a code of which some numbers are lost. -/
import Derived.Test.YtgpmkbenjlhfhaaGenW
import Derived.Test.YtgpmkbenjlhfhaaBase
import Derived.Test.YtgpmkbenjlhfhaaCodP
namespace Go.Proofs.Ytgpmkbenjlhfhaa
open Go.RowKit Mat
set_option linter.unusedVariables false

set_option maxRecDepth 100000 in
set_option maxHeartbeats 8000000 in
theorem lostWord_any (g N : Nat) (p : Int) (v : Value) (vs : List Value) (rows : List (List Int)) (w : World) (hr : Rd w g N) (hN : N ≤ 500000) (ho : OwnR w 28 3 v vs rows) (hf : FromR (g + 1) v vs rows) (hk : RowsK rows) (hp : 0 ≤ p ∧ p ≤ 7) :
    Calls Try.prog 104 #[.pointer (some ⟨g, 0, none⟩), .agg #[.int .i64 p, v]] w fun e w' => PicksI g (N + 1100) w e w' (fun xs => xs.length ≤ 7) := by
  have hg := hr.lt
  obtain ⟨ao, l, c, rfl, HLL, hl⟩ := (ho.isR hk.mid.1 hk.mid.2).shape
  have n0 := New.alloc w (.cells #[.int .i64 p, .slice ao l c] 25)
  have b0 := Blk2.alloc w (.int .i64 p) (.slice ao l c) 25
  obtain ⟨w0, hw0⟩ : ∃ w0, w0 = w.alloc (.cells #[.int .i64 p, .slice ao l c] 25) := ⟨_, rfl⟩
  rw [← hw0] at n0 b0
  have HG := Lib.hid hg
  have HF := Lib.hid hf
  have HK := Lib.hid hk
  have H0 := Lib.hid (And.intro (hr.new n0) (And.intro n0 (And.intro b0 (ho.new n0))))
  have hs0 : w0.heap.size = w.heap.size + 1 := by rw [hw0, World.size_alloc]
  have hl8 : l ≤ 8 := by rw [HLL.out]; exact hk.1.2
  have HS0 := Lib.hid hs0
  clear hr hg ho hf hk n0 b0 hs0
  go_enter Try.func104, Try.ntmps104
  go_upto_region 1 with fail
  rw [← hw0]
  clear hw0
  have n1 := New.alloc w0 (.cells #[] 3)
  have e1 := Own.empty w0 3
  have f1 : From w.heap.size (.slice (some ⟨w0.heap.size, 0, none⟩) 0 0) := From.mono (From.new w0 0 0) (by have := HS0.out; omega)
  obtain ⟨w1, hw1⟩ : ∃ w1, w1 = w0.alloc (.cells #[] 3) := ⟨_, rfl⟩
  rw [← hw1] at n1 e1
  go_upto_region 2 with fail
  rw [← hw1]
  have H1 := Lib.hid (And.intro n1 (And.intro e1 f1))
  obtain ⟨q0, q1, _, _⟩ := (H0.out.2.2.1.new n1).cells
  clear hw1 n1 e1 f1
  go_wp2_with fail
  refine (validCode_any p _ rows _ ((H0.out.2.2.2.new H1.out.1).isR HK.out.mid.1 HK.out.mid.2)).mono ?_
  rintro e w2 ⟨⟨b, rfl, hb⟩, hn2⟩
  have n12 := H1.out.1.trans hn2
  have H2 := Lib.hid (And.intro (H0.out.1.new n12) (And.intro (H0.out.2.2.1.new n12) (And.intro (H0.out.2.2.2.new n12) (And.intro (H0.out.2.1.trans n12) (H1.out.2.1.new hn2)))))
  have HB := Lib.hid hb
  clear hb hn2 n12 q0 q1
  cases b with
  | false =>
    go_wp2_with fail
    go_loopw [6] (fun t6 wr => ∃ k : Nat, t6 = .int .i64 k ∧ k = 0 ∧ wr = w2) (fun _ _ => 0)
    case atStart => exact ⟨0, rfl, rfl, rfl⟩
    case round =>
      obtain ⟨k, rfl, rfl, rfl⟩ := hrel
      go_wp2_with fail
      go_ret
      exact ⟨_, [], rfl, H2.out.2.2.2.2, H1.out.2.2, by simp, H2.out.1.mono (by omega), Chg.trans H2.out.2.2.2.1 (Chg.refl (· = g) _) (fun _ _ x => x.elim) (fun _ _ x => x)⟩
  | true =>
    have hv := HB.out.1 rfl
    have HV := Lib.hid hv
    have hpr := hv.prime
    have HN7 := Lib.hid (show 1 ≤ (gr rows 0).length ∧ (gr rows 0).length ≤ 7 from ⟨by have := hv.few; omega, hv.few.2.2.2.1⟩)
    clear hv
    go_upto_region 3 with fail
    refine wp_region_held_drew (S := fun w' => Chg (· = g) w2 w') (by kernel_rfl) (Chg.trans (New.drew w2) (Chg.refl (· = g) _) (fun _ _ x => x.elim) (fun _ _ x => x)) (fun hHeld => ?_)
    refine held_take 0 (some 10) rfl rfl (by kernel_rfl) (by kernel_rfl) (by kernel_rfl) (fun _ _ _ h => h) rfl hHeld (v := .agg #[.int .i64 p, .slice ao l c]) (fun w' hS => by obtain ⟨q0, q1, _, _⟩ := (H2.out.2.1.chg hS (fun e => by have := HG.out; omega)).cells; go_simp; try with_reducible rfl) ?_
    simp only [Act.put, List.setIfInBounds_toArray, List.set_cons_zero, List.set_cons_succ]
    refine held_take 1 (some 11) rfl rfl (by kernel_rfl) (by kernel_rfl) (by kernel_rfl) (fun _ _ _ h => h) rfl hHeld (v := ?_) (fun w' hS => by skip; go_simp; try with_reducible rfl) ?_
    simp only [Act.put, List.setIfInBounds_toArray, List.set_cons_zero, List.set_cons_succ]
    refine held_take 2 (some 12) rfl rfl (by kernel_rfl) (by kernel_rfl) (by kernel_rfl) (fun _ _ _ h => h) rfl hHeld (v := ?_) (fun w' hS => by skip; go_simp; try with_reducible rfl) ?_
    simp only [Act.put, List.setIfInBounds_toArray, List.set_cons_zero, List.set_cons_succ]
    refine held_take 3 (some 13) rfl rfl (by kernel_rfl) (by kernel_rfl) (by kernel_rfl) (fun _ _ _ h => h) rfl hHeld (v := .int .i64 p) (fun w' hS => by obtain ⟨q0, q1, _, _⟩ := (H2.out.2.1.chg hS (fun e => by have := HG.out; omega)).cells; go_simp; try with_reducible rfl) ?_
    simp only [Act.put, List.setIfInBounds_toArray, List.set_cons_zero, List.set_cons_succ]
    refine held_take 4 (some 14) rfl rfl (by kernel_rfl) (by kernel_rfl) (by kernel_rfl) (fun _ _ _ h => h) rfl hHeld (v := ?_) (fun w' hS => by skip; go_simp; try with_reducible rfl) ?_
    simp only [Act.put, List.setIfInBounds_toArray, List.set_cons_zero, List.set_cons_succ]
    refine held_take 5 (some 15) rfl rfl (by kernel_rfl) (by kernel_rfl) (by kernel_rfl) (fun _ _ _ h => h) rfl hHeld (v := .slice ao l c) (fun w' hS => by obtain ⟨q0, q1, _, _⟩ := (H2.out.2.1.chg hS (fun e => by have := HG.out; omega)).cells; go_simp; try with_reducible rfl) ?_
    simp only [Act.put, List.setIfInBounds_toArray, List.set_cons_zero, List.set_cons_succ]
    refine held_take 6 (some 16) rfl rfl (by kernel_rfl) (by kernel_rfl) (by kernel_rfl) (fun _ _ _ h => h) rfl hHeld (v := ?_) (fun w' hS => by skip; go_simp; try with_reducible rfl) ?_
    simp only [Act.put, List.setIfInBounds_toArray, List.set_cons_zero, List.set_cons_succ]
    refine held_take 8 (some 18) rfl rfl (by kernel_rfl) (by kernel_rfl) (by kernel_rfl) (fun _ _ _ h => h) rfl hHeld (v := ?_) (fun w' hS => by skip; go_simp; try with_reducible rfl) ?_
    simp only [Act.put, List.setIfInBounds_toArray, List.set_cons_zero, List.set_cons_succ]
    refine held_take 9 (some 19) rfl rfl (by kernel_rfl) (by kernel_rfl) (by kernel_rfl) (fun _ _ _ h => h) rfl hHeld (v := .slice ao l c) (fun w' hS => by obtain ⟨q0, q1, _, _⟩ := (H2.out.2.1.chg hS (fun e => by have := HG.out; omega)).cells; go_simp; try with_reducible rfl) ?_
    simp only [Act.put, List.setIfInBounds_toArray, List.set_cons_zero, List.set_cons_succ]
    refine held_take 10 (some 20) rfl rfl (by kernel_rfl) (by kernel_rfl) (by kernel_rfl) (fun _ _ _ h => h) rfl hHeld (v := ?_) (fun w' hS => by skip; go_simp; try with_reducible rfl) ?_
    simp only [Act.put, List.setIfInBounds_toArray, List.set_cons_zero, List.set_cons_succ]
    refine held_only 7 (by kernel_rfl) rfl rfl (fun K1 hK1 => ?_)
    go_simp
    refine (aWordV_any g N p l _ (H2.out.1.new (New.drew _)) (by omega) (by omega) (by omega)).mono ?_
    rintro e w3 ⟨u3, xs, rfl, ho3, hf3, hl3, hr3, hc3⟩
    have hi3 := ho3.isI (by have := hl3.1.2.1; unfold Mid; omega)
    obtain ⟨a3, l3, c3, rfl, HL3, _⟩ := hi3.shape
    have hl33 : l ≤ l3 := by rw [HL3.out]; have := hl3.1.1; omega
    have hlc3 : l3 ≤ c3 := by obtain ⟨_, _, e, h, _⟩ := hi3; simp at e; have := h.1; have := e.2.1; have := e.2.2; omega
    have hl3i : (l : Int) ≤ (c3 : Int) := by omega
    have H3 := Lib.hid (And.intro (hi3.take hl33) (And.intro (hl3.2.take (k := l)) (And.intro hr3 (And.intro HL3.out hl33))))
    clear ho3 hf3 hl3 hr3 hi3
    refine hK1.out _ _ (hHeld.trans hc3 (fun _ _ x => x) (fun _ _ x => x)) (fun hHeld1 => ?_)
    clear hK1 K1
    refine held_take 11 (some 21) rfl rfl (by kernel_rfl) (by kernel_rfl) (by kernel_rfl) (fun _ _ _ h => h) rfl hHeld1 (v := ?_) (fun w' hS => by skip; go_simp; try with_reducible rfl) ?_
    simp only [Act.put, List.setIfInBounds_toArray, List.set_cons_zero, List.set_cons_succ]
    refine held_only 12 (by kernel_rfl) rfl rfl (fun K2 hK2 => ?_)
    go_simp
    refine (specEncode_some p (gr rows 0).length _ _ rows (xs.take l) _ HV.out.prime HN7.out ((H2.out.2.2.1.chg hHeld1 (fun b hb e => by have := HF.out.1 b hb; have := HG.out; omega) (fun i hi b hb e => by have := HF.out.2 i hi b hb; have := HG.out; omega)).isR HK.out.mid.1 HK.out.mid.2) H3.out.1 HV.out.rowsOk (by have := HK.out.1; omega) (by rw [List.length_take, ← HLL.out]; omega) H3.out.2.1).mono ?_
    rintro e w4 ⟨u4, ys, rfl, ho4, hf4, hq4, hn4⟩
    obtain ⟨a4, l4, c4, rfl, HL4, _, _⟩ := ho4.opened (by rw [List.length_map, hq4.1]; have := HN7.out; unfold Mid; omega)
    have H4 := Lib.hid (And.intro ho4 (And.intro hf4 (And.intro hq4 (H3.out.2.2.1.new hn4))))
    clear ho4 hf4 hq4
    refine hK2.out _ _ (hHeld1.trans hn4 (fun _ _ x => x) (fun _ _ x => x.elim)) (fun hHeld2 => ?_)
    clear hK2 K2
    refine held_take 13 (some 5) rfl rfl (by kernel_rfl) (by kernel_rfl) (by kernel_rfl) (fun _ _ _ h => h) rfl hHeld2 (v := ?_) (fun w' hS => by skip; go_simp; try with_reducible rfl) ?_
    simp only [Act.put, List.setIfInBounds_toArray, List.set_cons_zero, List.set_cons_succ]
    refine wpAnyH_done (by kernel_rfl) ?_ _
    have hl4 : l4 = (gr rows 0).length := by rw [HL4.out, List.length_map, H4.out.2.2.1.1]
    have h47 : l4 ≤ 7 := by rw [hl4]; exact HN7.out.2
    have h41 : 1 ≤ l4 := by rw [hl4]; exact HN7.out.1
    obtain ⟨g4, rfl⟩ := H4.out.1.head (i := 0) (by rw [List.length_map, H4.out.2.2.1.1]; exact HN7.out.1)
    have HL := Lib.hid hl4
    have hcc : Chg (· = g) w w4 := Chg.trans H2.out.2.2.2.1 hHeld2 (fun _ _ x => x.elim) (fun _ _ x => x)
    have hgg : w.heap.size ≤ g4 := Nat.le_trans (Nat.le_trans H2.out.2.2.2.1.size hHeld1.size) (H4.out.2.1 g4 rfl)
    have hbk : w.heap.size < g4 := by
      have h1 := Blk2.lt H2.out.2.1
      exact Nat.lt_of_lt_of_le h1 (Nat.le_trans hHeld1.size (H4.out.2.1 g4 rfl))
    have H5 := Lib.hid (And.intro (H2.out.2.1.chg hHeld2 (fun e => by have := HG.out; omega)) (And.intro hcc (And.intro hgg hbk)))
    clear hl4 hcc hgg hbk hHeld hHeld1 hHeld2 hc3 hn4
    go_wp2_with fail
    go_loopw [6] (fun t6 wr => ∃ (k : Nat) (zs : List Int), t6 = .int .i64 k ∧ k ≤ l4 ∧ zs.length = l4 ∧ Hid (Sml zs) ∧ Own wr 3 (.slice (some ⟨g4, 0, none⟩) l4 c4) (zs.map (Value.int .i64)) ∧ Hid (Rd wr g (N + 1002 + k) ∧ Chg (· = g) w wr ∧ Blk2 wr w.heap.size (.int .i64 p) (.slice ao l c) 25)) (fun t6 _ => l4 - (intOf t6).toNat)
    case atStart => exact ⟨0, ys, rfl, Nat.zero_le _, by rw [HL.out]; exact H4.out.2.2.1.1, H4.out.2.2.1.2, H4.out.1, H4.out.2.2.2, H5.out.2.1, H5.out.1⟩
    case round =>
      obtain ⟨k, zs, rfl, hk, hzl, HS, hown, HD⟩ := hrel
      obtain ⟨wy, hwy⟩ : ∃ wy : World, wy = wr := ⟨_, rfl⟩
      rw [← hwy] at hown HD
      rw [← hwy]
      clear hwy
      have HO := Lib.hid (And.intro hown hzl)
      clear hown hzl
      by_cases hkl : k < l4
      · obtain ⟨ck, fk⟩ := HO.out.1.cell (i := k) (by rw [List.length_map, HO.out.2]; exact hkl)
        rw [gv_map_int (by rw [HO.out.2]; exact hkl)] at ck
        obtain ⟨q0, q1, _, _⟩ := HD.out.2.2.cells
        have hz := HS.out k (by rw [HO.out.2]; exact hkl)
        obtain ⟨z, hze⟩ : ∃ z, z = gi zs k := ⟨_, rfl⟩
        rw [← hze] at ck hz
        have hpz : p ≠ 0 := by omega
        have hzc : (z < 0 ∧ (0 : Int).tmod p = 0) ∨ (¬ z < 0 ∧ z.tmod p = z % p) := by
          by_cases hz0 : z < 0
          · exact .inl ⟨hz0, Int.zero_tmod p⟩
          · exact .inr ⟨hz0, Int.tmod_eq_emod_of_nonneg (by omega)⟩
        have hr0 := Int.emod_nonneg z hpz
        have hr1 := Int.emod_lt_of_pos z (show 0 < p by omega)
        obtain ⟨r, hr⟩ : ∃ r, z % p = r := ⟨_, rfl⟩
        rw [hr] at hr0 hr1 hzc
        have hp1 : ¬ p < 1 := by omega
        clear hze
        have key : ∀ y : Int, (-1000 ≤ y ∧ y ≤ 1000) → Sml (zs.set k y) := fun y hy => HS.out.set hy
        have KEY := Lib.hid key
        clear key
        rcases hzc with ⟨hz0, htm⟩ | ⟨hz0, htm⟩
        · go_upto_region 7 with fail
          go_region
          go_upto_region 8 with fail
          have hs7 : Chg (· = g4) wy (wy.setCell ⟨g4, k, none⟩ (.int .i64 0)).drew := Chg.trans (Chg.setCell wy ⟨g4, k, none⟩ _) (New.drew _) (fun _ _ x => x) (fun _ _ x => x.elim)
          have hst := (HO.out.1.set k (.int .i64 0)).new (New.drew _)
          rw [set_map_int] at hst
          have hl7 : (zs.set k 0).length = l4 := by rw [List.length_set]; exact HO.out.2
          have sm7 := KEY.out (0) (by omega)
          obtain ⟨w7, hw7⟩ : ∃ w7, w7 = (wy.setCell ⟨g4, k, none⟩ (.int .i64 0)).drew := ⟨_, rfl⟩
          rw [← hw7] at hs7 hst
          rw [← hw7]
          clear hw7 KEY
          obtain ⟨ys7, hys⟩ : ∃ ys7, ys7 = zs.set k 0 := ⟨_, rfl⟩
          rw [← hys] at hst hl7 sm7
          have H7 := Lib.hid (And.intro (HD.out.1.chg hs7 (fun b hb => by have := H5.out.2.2.1; have := HG.out; omega)) (And.intro (Chg.trans HD.out.2.1 hs7 (fun _ _ x => x) (fun i hi h => by have := H5.out.2.2.1; omega) (U := (· = g))) (And.intro (HD.out.2.2.chg hs7 (fun e => by have := H5.out.2.2.2; omega)) (And.intro hst (And.intro hl7 sm7)))))
          clear hys hs7 hst hl7 sm7 hr ck fk q0 q1
          go_wp2_with fail
          refine (pick_any g (N + 1002 + k) 3 _ H7.out.1 (by omega) (by omega)).mono ?_
          rintro e w8 ⟨x, rfl, hx, hr8, hc8⟩
          have H8 := Lib.hid (And.intro hr8 (And.intro (Chg.trans H7.out.2.1 hc8 (fun _ _ x => x) (fun _ _ x => x) (U := (· = g))) (And.intro (H7.out.2.2.1.chg hc8 (fun e => by have := HG.out; omega)) (H7.out.2.2.2.1.chg hc8 (fun b hb e => by have := H5.out.2.2.1; have := HG.out; simp [Value.ownBlock] at hb; omega)))))
          clear hr8 hc8 hx
          by_cases hx0 : x = 0
          · subst hx0
            obtain ⟨ck, fk⟩ := H8.out.2.2.2.cell (i := k) (by rw [List.length_map, H7.out.2.2.2.2.1]; exact hkl)
            go_wp2_with fail
            go_roundw
            case rel =>
              have hst := H8.out.2.2.2.set k (.int .i64 (-1))
              rw [set_map_int] at hst
              have hs9 : Chg (· = g4) w8 (w8.setCell ⟨g4, k, none⟩ (.int .i64 (-1))) := Chg.setCell w8 ⟨g4, k, none⟩ _
              exact ⟨k + 1, ys7.set k (-1), by go_num, by omega, by rw [List.length_set]; exact H7.out.2.2.2.2.1, H7.out.2.2.2.2.2.set (by omega), hst, (H8.out.1.chg hs9 (fun b hb => by have := H5.out.2.2.1; have := HG.out; omega)), Chg.trans H8.out.2.1 hs9 (fun _ _ x => x) (fun i hi h => by have := H5.out.2.2.1; omega), H8.out.2.2.1.chg hs9 (fun e => by have := H5.out.2.2.2; omega)⟩
            case measure => simp [intOf]; omega
          · have hd0 : (x == 0) = false := beq_eq_false_iff_ne.2 hx0
            go_wp2_with fail
            go_roundw
            case rel => exact ⟨k + 1, ys7, by go_num, by omega, H7.out.2.2.2.2.1, H7.out.2.2.2.2.2, H8.out.2.2.2, H8.out.1, H8.out.2.1, H8.out.2.2.1⟩
            case measure => simp [intOf]; omega
        · go_upto_region 7 with fail
          go_region
          go_upto_region 8 with fail
          have hs7 : Chg (· = g4) wy (wy.setCell ⟨g4, k, none⟩ (.int .i64 r)).drew := Chg.trans (Chg.setCell wy ⟨g4, k, none⟩ _) (New.drew _) (fun _ _ x => x) (fun _ _ x => x.elim)
          have hst := (HO.out.1.set k (.int .i64 r)).new (New.drew _)
          rw [set_map_int] at hst
          have hl7 : (zs.set k r).length = l4 := by rw [List.length_set]; exact HO.out.2
          have sm7 := KEY.out (r) (by omega)
          obtain ⟨w7, hw7⟩ : ∃ w7, w7 = (wy.setCell ⟨g4, k, none⟩ (.int .i64 r)).drew := ⟨_, rfl⟩
          rw [← hw7] at hs7 hst
          rw [← hw7]
          clear hw7 KEY
          obtain ⟨ys7, hys⟩ : ∃ ys7, ys7 = zs.set k r := ⟨_, rfl⟩
          rw [← hys] at hst hl7 sm7
          have H7 := Lib.hid (And.intro (HD.out.1.chg hs7 (fun b hb => by have := H5.out.2.2.1; have := HG.out; omega)) (And.intro (Chg.trans HD.out.2.1 hs7 (fun _ _ x => x) (fun i hi h => by have := H5.out.2.2.1; omega) (U := (· = g))) (And.intro (HD.out.2.2.chg hs7 (fun e => by have := H5.out.2.2.2; omega)) (And.intro hst (And.intro hl7 sm7)))))
          clear hys hs7 hst hl7 sm7 hr ck fk q0 q1
          go_wp2_with fail
          refine (pick_any g (N + 1002 + k) 3 _ H7.out.1 (by omega) (by omega)).mono ?_
          rintro e w8 ⟨x, rfl, hx, hr8, hc8⟩
          have H8 := Lib.hid (And.intro hr8 (And.intro (Chg.trans H7.out.2.1 hc8 (fun _ _ x => x) (fun _ _ x => x) (U := (· = g))) (And.intro (H7.out.2.2.1.chg hc8 (fun e => by have := HG.out; omega)) (H7.out.2.2.2.1.chg hc8 (fun b hb e => by have := H5.out.2.2.1; have := HG.out; simp [Value.ownBlock] at hb; omega)))))
          clear hr8 hc8 hx
          by_cases hx0 : x = 0
          · subst hx0
            obtain ⟨ck, fk⟩ := H8.out.2.2.2.cell (i := k) (by rw [List.length_map, H7.out.2.2.2.2.1]; exact hkl)
            go_wp2_with fail
            go_roundw
            case rel =>
              have hst := H8.out.2.2.2.set k (.int .i64 (-1))
              rw [set_map_int] at hst
              have hs9 : Chg (· = g4) w8 (w8.setCell ⟨g4, k, none⟩ (.int .i64 (-1))) := Chg.setCell w8 ⟨g4, k, none⟩ _
              exact ⟨k + 1, ys7.set k (-1), by go_num, by omega, by rw [List.length_set]; exact H7.out.2.2.2.2.1, H7.out.2.2.2.2.2.set (by omega), hst, (H8.out.1.chg hs9 (fun b hb => by have := H5.out.2.2.1; have := HG.out; omega)), Chg.trans H8.out.2.1 hs9 (fun _ _ x => x) (fun i hi h => by have := H5.out.2.2.1; omega), H8.out.2.2.1.chg hs9 (fun e => by have := H5.out.2.2.2; omega)⟩
            case measure => simp [intOf]; omega
          · have hd0 : (x == 0) = false := beq_eq_false_iff_ne.2 hx0
            go_wp2_with fail
            go_roundw
            case rel => exact ⟨k + 1, ys7, by go_num, by omega, H7.out.2.2.2.2.1, H7.out.2.2.2.2.2, H8.out.2.2.2, H8.out.1, H8.out.2.1, H8.out.2.2.1⟩
            case measure => simp [intOf]; omega
      · obtain rfl : l4 = k := by omega
        have hpos : (0 : Int) < (l4 : Int) := by omega
        go_wp2_with fail
        refine (pick_any g (N + 1002 + l4) 8 _ HD.out.1 (by omega) (by omega)).mono ?_
        rintro e w8 ⟨x, rfl, hx, hr8, hc8⟩
        have H8 := Lib.hid (And.intro hr8 (And.intro (Chg.trans HD.out.2.1 hc8 (fun _ _ x => x) (fun _ _ x => x) (U := (· = g))) (HO.out.1.chg hc8 (fun b hb e => by have := H5.out.2.2.1; have := HG.out; simp [Value.ownBlock] at hb; omega))))
        clear hr8 hc8 hx
        by_cases hx0 : x = 0
        · subst hx0
          go_wp2_with fail
          refine (pick_any g (N + 1002 + l4 + 1) l4 _ H8.out.1 (by omega) (by omega)).mono ?_
          rintro e w9 ⟨j, rfl, hj, hr9, hc9⟩
          have hj0 := hj.1
          have hj1 := hj.2.1 (by omega)
          obtain ⟨j, rfl⟩ : ∃ j' : Nat, j = j' := ⟨j.toNat, by omega⟩
          have hjl : j < l4 := by omega
          have H9 := Lib.hid (And.intro hr9 (And.intro (Chg.trans H8.out.2.1 hc9 (fun _ _ x => x) (fun _ _ x => x) (U := (· = g))) (H8.out.2.2.chg hc9 (fun b hb e => by have := H5.out.2.2.1; have := HG.out; simp [Value.ownBlock] at hb; omega))))
          clear hr9 hc9 hj
          go_wp2_with fail
          refine (one_lit g (N + 1002 + l4 + 2) (fun _ => True) [0, 1, -2, 7, -1] _ _ _ _ rfl rfl H9.out.1 (by omega) (by simp) (by simp) (fun _ _ => trivial)).mono ?_
          rintro e w10 ⟨y, rfl, -, hr10, hc10⟩
          have ho10 := H9.out.2.2.chg hc10 (fun b hb e => by have := H5.out.2.2.1; have := HG.out; simp [Value.ownBlock] at hb; omega)
          obtain ⟨ck, fk⟩ := ho10.cell (i := j) (by rw [List.length_map, HO.out.2]; exact hjl)
          have H10 := Lib.hid (And.intro hr10 (And.intro (Chg.trans H9.out.2.1 hc10 (fun _ _ x => x) (fun _ _ x => x) (U := (· = g))) ho10))
          clear hr10 hc10 ho10
          go_wp2_with fail
          go_ret
          have hst := H10.out.2.2.set j (.int .i64 y)
          rw [set_map_int] at hst
          have hs11 : Chg (· = g4) w10 (w10.setCell ⟨g4, j, none⟩ (.int .i64 y)) := Chg.setCell w10 ⟨g4, j, none⟩ _
          exact ⟨_, zs.set j y, rfl, hst, (fun b hb => by simp [Value.ownBlock] at hb; have := H5.out.2.2.1; omega), by show (zs.set j y).length ≤ 7; rw [List.length_set, HO.out.2]; exact h47, (H10.out.1.chg hs11 (fun b hb => by have := H5.out.2.2.1; have := HG.out; omega)).mono (by omega), Chg.trans H10.out.2.1 hs11 (fun _ _ x => x) (fun i hi h => by have := H5.out.2.2.1; omega)⟩
        · have hd0 : (x == 0) = false := beq_eq_false_iff_ne.2 hx0
          go_wp2_with fail
          go_ret
          exact ⟨_, zs, rfl, H8.out.2.2, (fun b hb => by simp [Value.ownBlock] at hb; have := H5.out.2.2.1; omega), by show zs.length ≤ 7; rw [HO.out.2]; exact h47, H8.out.1.mono (by omega), H8.out.2.1⟩
end Go.Proofs.Ytgpmkbenjlhfhaa
