/- The generators' codes. -/
import Derived.Test.YtcdbeepphdfipaaGreatDoorGenM
import Derived.Deep.DeepCutAuto
import Derived.Deep.CutBlock
namespace Go.Proofs.YtcdbeepphdfipaaGreatDoor
open Go.RowKit
set_option linter.unusedVariables false

/-- It ends with a code of its own that has some rows, and the reader has gone on. -/
def PicksC (g N : Nat) (w : World) (e : Ending) (w' : World) : Prop :=
  ∃ a l c vs out p, e = .returned (.agg #[.int .i64 p, .slice a l c]) ∧ OwnR w' 53 3 (.slice a l c) vs out ∧ FromR w.heap.size (.slice a l c) vs out ∧ RowsQ out ∧ (2 ≤ p ∧ p ≤ 7) ∧ Rd w' g N ∧ Chg (· = g) w w'

/-- Three rows that have just been laid. -/
theorem ownR_lit3 (w : World) (x1 x2 x3 : List Int) (h1 : x1.length ≤ 1000) (h2 : x2.length ≤ 1000) (h3 : x3.length ≤ 1000) :
    OwnR ((((w.alloc (.cells (x1.map (Value.int .i64)).toArray 3)).alloc (.cells (x2.map (Value.int .i64)).toArray 3)).alloc (.cells (x3.map (Value.int .i64)).toArray 3)).alloc (.cells #[.slice (some ⟨w.heap.size, 0, none⟩) x1.length x1.length, .slice (some ⟨w.heap.size + 1, 0, none⟩) x2.length x2.length, .slice (some ⟨w.heap.size + 1 + 1, 0, none⟩) x3.length x3.length] 53))
      53 3 (.slice (some ⟨w.heap.size + 1 + 1 + 1, 0, none⟩) 3 3) [.slice (some ⟨w.heap.size, 0, none⟩) x1.length x1.length, .slice (some ⟨w.heap.size + 1, 0, none⟩) x2.length x2.length, .slice (some ⟨w.heap.size + 1 + 1, 0, none⟩) x3.length x3.length] [x1, x2, x3] := by
  have o1 := Own.lit w 3 (x1.map (Value.int .i64)) (by rw [List.length_map]; exact h1)
  have o2 := Own.lit (w.alloc (.cells (x1.map (Value.int .i64)).toArray 3)) 3 (x2.map (Value.int .i64)) (by rw [List.length_map]; exact h2)
  have o3 := Own.lit ((w.alloc (.cells (x1.map (Value.int .i64)).toArray 3)).alloc (.cells (x2.map (Value.int .i64)).toArray 3)) 3 (x3.map (Value.int .i64)) (by rw [List.length_map]; exact h3)
  have o4 := Own.lit (((w.alloc (.cells (x1.map (Value.int .i64)).toArray 3)).alloc (.cells (x2.map (Value.int .i64)).toArray 3)).alloc (.cells (x3.map (Value.int .i64)).toArray 3)) 53 [.slice (some ⟨w.heap.size, 0, none⟩) x1.length x1.length, .slice (some ⟨w.heap.size + 1, 0, none⟩) x2.length x2.length, .slice (some ⟨w.heap.size + 1 + 1, 0, none⟩) x3.length x3.length] (by simp)
  rw [List.length_map] at o1 o2 o3
  simp only [World.size_alloc] at o2 o3 o4
  refine ⟨o4, rfl, fun i hi => ?_, fun i j hi hj hne => ?_⟩
  · match i, hi with
    | 0, _ => exact ((o1.new (New.alloc _ _)).new (New.alloc _ _)).new (New.alloc _ _)
    | 1, _ => exact (o2.new (New.alloc _ _)).new (New.alloc _ _)
    | 2, _ => exact o3.new (New.alloc _ _)
  · intro g hg hg'
    match i, j, hi, hj with
    | 0, 0, _, _ => exact hne rfl
    | 0, 1, _, _ => simp [gv, Value.ownBlock] at hg hg'; omega
    | 0, 2, _, _ => simp [gv, Value.ownBlock] at hg hg'; omega
    | 1, 0, _, _ => simp [gv, Value.ownBlock] at hg hg'; omega
    | 1, 1, _, _ => exact hne rfl
    | 1, 2, _, _ => simp [gv, Value.ownBlock] at hg hg'; omega
    | 2, 0, _, _ => simp [gv, Value.ownBlock] at hg hg'; omega
    | 2, 1, _, _ => simp [gv, Value.ownBlock] at hg hg'; omega
    | 2, 2, _, _ => exact hne rfl
theorem fromR_lit3 (B g1 g2 g3 g4 n1 n2 n3 : Nat) (x1 x2 x3 : List Int) (h1 : B ≤ g1) (h2 : B ≤ g2) (h3 : B ≤ g3) (h4 : B ≤ g4) : FromR B (.slice (some ⟨g4, 0, none⟩) 3 3) [.slice (some ⟨g1, 0, none⟩) n1 n1, .slice (some ⟨g2, 0, none⟩) n2 n2, .slice (some ⟨g3, 0, none⟩) n3 n3] [x1, x2, x3] := by
  refine ⟨fun g hg => by simp [Value.ownBlock] at hg; omega, fun i hi => ?_⟩
  match i, hi with
  | 0, _ => intro g hg; simp [gv, Value.ownBlock] at hg; omega
  | 1, _ => intro g hg; simp [gv, Value.ownBlock] at hg; omega
  | 2, _ => intro g hg; simp [gv, Value.ownBlock] at hg; omega

/-- One row that has just been laid. -/
theorem ownR_lit1 (w : World) (x1 : List Int) (h1 : x1.length ≤ 1000) :
    OwnR ((w.alloc (.cells (x1.map (Value.int .i64)).toArray 3)).alloc (.cells #[.slice (some ⟨w.heap.size, 0, none⟩) x1.length x1.length] 53))
      53 3 (.slice (some ⟨w.heap.size + 1, 0, none⟩) 1 1) [.slice (some ⟨w.heap.size, 0, none⟩) x1.length x1.length] [x1] := by
  have o1 := Own.lit w 3 (x1.map (Value.int .i64)) (by rw [List.length_map]; exact h1)
  have o4 := Own.lit (w.alloc (.cells (x1.map (Value.int .i64)).toArray 3)) 53 [.slice (some ⟨w.heap.size, 0, none⟩) x1.length x1.length] (by simp)
  rw [List.length_map] at o1
  simp only [World.size_alloc] at o4
  refine ⟨o4, rfl, fun i hi => ?_, fun i j hi hj hne => ?_⟩
  · match i, hi with
    | 0, _ => exact o1.new (New.alloc _ _)
  · match i, j, hi, hj with
    | 0, 0, _, _ => exact (hne rfl).elim
theorem fromR_lit1 (B g1 g4 n1 : Nat) (x1 : List Int) (h1 : B ≤ g1) (h4 : B ≤ g4) : FromR B (.slice (some ⟨g4, 0, none⟩) 1 1) [.slice (some ⟨g1, 0, none⟩) n1 n1] [x1] := by
  refine ⟨fun g hg => by simp [Value.ownBlock] at hg; omega, fun i hi => ?_⟩
  match i, hi with
  | 0, _ => intro g hg; simp [gv, Value.ownBlock] at hg; omega

set_option maxRecDepth 100000 in
set_option maxHeartbeats 40000000 in
theorem goodCode_any (g N : Nat) (w : World) (hr : Rd w g N) (hN : N ≤ 700000) :
    Calls Tryz.prog 44 #[.pointer (some ⟨g, 0, none⟩)] w fun e w' => PicksC g (N + 3000) w e w' := by
  have hg := hr.lt
  have HR := Lib.hid hr
  have HG := Lib.hid hg
  clear hr hg
  have r0 := Blk2.alloc w (.int .i64 0) (.slice none 0 0) 24
  have n0 := New.alloc w (.cells #[.int .i64 0, .slice none 0 0] 24)
  obtain ⟨w0, hw0⟩ : ∃ w0, w0 = w.alloc (.cells #[.int .i64 0, .slice none 0 0] 24) := ⟨_, rfl⟩
  rw [← hw0] at r0 n0
  have hs0 : w.heap.size < w0.heap.size := Blk2.lt r0
  go_enter Tryz.func44, Tryz.ntmps44
  go_upto_region 1 with fail
  rw [← hw0]
  have H0 := Lib.hid (And.intro r0 (And.intro n0 hs0))
  clear r0 n0 hw0 hs0
  go_wp2_with fail
  refine (one_lit g N (fun p => p = 2 ∨ p = 3 ∨ p = 5 ∨ p = 7) [2, 3, 2, 5, 7, 2] _ _ _ _ rfl rfl (HR.out.new H0.out.2.1) (by omega) (by simp) (by simp) (by decide)).mono ?_
  rintro e w1 ⟨p, rfl, hp, hr1, hc1⟩
  have H1 := Lib.hid (And.intro hr1 (And.intro (Chg.trans H0.out.2.1 hc1 (fun _ _ x => x.elim) (fun _ _ x => x)) (H0.out.1.chg hc1 (fun e => by have := HG.out; omega))))
  clear hr1 hc1
  go_wp2_with fail
  refine (one_lit g (N + 1) (fun p => 1 ≤ p ∧ p ≤ 4) [2, 3, 2, 1, 4] _ _ _ _ rfl rfl H1.out.1 (by omega) (by simp) (by simp) (by decide)).mono ?_
  rintro e w2 ⟨k, rfl, hk, hr2, hc2⟩
  have H2 := Lib.hid (And.intro hr2 (And.intro (Chg.trans H1.out.2.1 hc2 (fun _ _ x => x) (fun _ _ x => x)) (H1.out.2.2.chg hc2 (fun e => by have := HG.out; omega))))
  clear hr2 hc2
  go_upto_if 27 with fail
  go_cut [4] (fun t4 wx => (∃ k' : Nat, t4 = .int .i64 k' ∧ 1 ≤ k' ∧ k' ≤ 4) ∧ wx = w2)
  case first =>
    obtain ⟨k, rfl⟩ : ∃ k' : Nat, k = k' := ⟨k.toNat, by omega⟩
    by_cases hp3 : p > 3
    · by_cases hk3 : (k : Int) ≤ 3
      · go_wp2_with fail
        go_meet
        exact ⟨⟨k, rfl, by omega, by omega⟩, rfl⟩
      · go_wp2_with fail
        go_meet
        exact ⟨⟨3, rfl, by omega, by omega⟩, rfl⟩
    · go_wp2_with fail
      go_meet
      exact ⟨⟨k, rfl, by omega, by omega⟩, rfl⟩
  case rest =>
    obtain ⟨⟨k, rfl, hk1, hk4⟩, rfl⟩ := hcut
    go_wp2_with fail
    refine (pick_any g (N + 2) 5 _ H2.out.1 (by omega) (by omega)).mono ?_
    rintro e w3 ⟨z, rfl, hz, hr3, hc3⟩
    have H3 := Lib.hid (And.intro hr3 (And.intro (Chg.trans H2.out.2.1 hc3 (fun _ _ x => x) (fun _ _ x => x)) (H2.out.2.2.chg hc3 (fun e => by have := HG.out; omega))))
    clear hr3 hc3
    go_upto_block 0 with fail
    go_cut [5] (fun t5 wx => Hid (Rd wx g (N + 2300) ∧ Chg (· = g) w wx ∧ Blk2 wx w.heap.size (.int .i64 0) (.slice none 0 0) 24))
    case first =>
      by_cases hz0 : z = 0
      · subst hz0
        have hcs : (p ≤ 6 ∧ (k : Int) ≤ p - 1) ∨ (p ≤ 6 ∧ ¬ (k : Int) ≤ p - 1) ∨ (¬ p ≤ 6 ∧ (k : Int) ≤ p - 1) := by omega
        rcases hcs with ⟨hp6, hkp⟩ | ⟨hp6, hkp⟩ | ⟨hp6, hkp⟩
        all_goals go_wp2_with fail
        all_goals refine (pointsOf_any g (N + 3) p _ _ H3.out.1 (by omega) (by omega) (by omega)).mono ?_
        all_goals rintro e w4 ⟨u, xs, rfl, ho, hf, hl, hr4, hc4⟩
        all_goals have hl7 : (xs.length : Int) ≤ 7 := by first | omega | (simp only at hl; omega)
        all_goals have hi4 := ho.isI (by unfold Mid; omega)
        all_goals obtain ⟨ao, n, cap, rfl, HN0, hn⟩ := hi4.shape
        all_goals have H4 := Lib.hid (And.intro hr4 (And.intro (Chg.trans H3.out.2.1 hc4 (fun _ _ x => x) (fun _ _ x => x)) (And.intro (H3.out.2.2.chg hc4 (fun e => by have := HG.out; omega)) hi4)))
        all_goals have HW4 := Lib.hid (show w.heap.size ≤ w4.heap.size from H4.out.2.1.size)
        all_goals clear ho hf hl hr4 hc4 hi4 hl7
        all_goals go_wp2_with fail
        all_goals refine (powersOf_some p _ _ xs _ H4.out.2.2.2).mono ?_
        all_goals rintro e w5 ⟨a, l, c, vs, out, p', b, rfl, hb, hn5⟩
        all_goals have H5 := Lib.hid (And.intro (H4.out.1.new hn5) (And.intro (Chg.trans H4.out.2.1 hn5 (fun _ _ x => x) (fun _ _ x => x.elim)) (H4.out.2.2.1.new hn5)))
        all_goals have HB := Lib.hid hb
        all_goals have HN5 := Lib.hid hn5
        all_goals clear hb hn5
        all_goals obtain ⟨s0, s1, s2, s3⟩ := (H5.out.2.2.new (New.alloc w5 (.cells #[.int .i64 p', .slice a l c] 24))).cells
        all_goals cases b
        all_goals go_wp2_with fail
        all_goals first
          | (go_meet
             exact ⟨(H5.out.1.new (New.alloc _ _)).mono (by omega), Chg.trans H5.out.2.1 (New.alloc _ _) (fun _ _ x => x) (fun _ _ x => x.elim), H5.out.2.2.new (New.alloc _ _)⟩)
          | (obtain ⟨x0, x1, hx⟩ := (H5.out.2.2.new (New.alloc w5 (.cells #[.int .i64 p', .slice a l c] 24))).put (.int .i64 p') (.slice a l c)
             refine bodyPost_ret (v := .agg #[.int .i64 p', .slice a l c]) (by simp [results, go_sem, x0, x1]) rfl ?_
             obtain ⟨rfl, hq, ho, hf⟩ := HB.out (by first | rfl | trivial)
             have n6 := New.alloc w5 (.cells #[.int .i64 p', .slice a l c] 24)
             have r6 := H5.out.2.2.new n6
             exact ⟨a, l, c, vs, out, p', rfl, (ho.new n6).chg hx (own_ne_blk2 (ho.new n6).outer r6 (by decide)) (fun i hi => own_ne_blk2 ((ho.new n6).inner i hi) r6 (by decide)), ⟨hf.1.mono HW4.out, fun i hi => (hf.2 i hi).mono HW4.out⟩, hq, by omega, ((H5.out.1.new n6).chg hx (fun b hb => by have := HG.out; omega)).mono (by omega), Chg.trans (Chg.trans H5.out.2.1 n6 (fun _ _ x => x) (fun _ _ x => x.elim)) hx (fun _ _ x => x) (fun i hi h => by omega)⟩)
      · by_cases hz1 : z = 1
        · subst hz1
          go_upto_region 11 with fail
          go_cut [7] (fun t7 wx => ∃ (ao : Option Addr) (n cap : Nat) (xs : List Int), t7 = .slice ao n cap ∧ n ≤ 7 ∧ Hid (n = xs.length) ∧ Hid (Rd wx g (N + 2200) ∧ Chg (· = g) w wx ∧ Blk2 wx w.heap.size (.int .i64 0) (.slice none 0 0) 24 ∧ IsI wx t7 xs))
          case first =>
            have hcs : (k : Int) ≤ p - 1 ∨ ¬ (k : Int) ≤ p - 1 := by omega
            rcases hcs with hkp | hkp
            all_goals go_wp2_with fail
            all_goals refine (pointsOf_any g (N + 3) p _ _ H3.out.1 (by omega) (by omega) (by omega)).mono ?_
            all_goals rintro e w4 ⟨u, xs, rfl, ho, hf, hl, hr4, hc4⟩
            all_goals have hl7 : (xs.length : Int) ≤ 7 := by first | omega | (simp only at hl; omega)
            all_goals have hi4 := ho.isI (by unfold Mid; omega)
            all_goals obtain ⟨ao, n, cap, rfl, HN0, hn⟩ := hi4.shape
            all_goals have hn7 : n ≤ 7 := by have := HN0.out; omega
            all_goals have H4 := Lib.hid (And.intro (hr4.mono (show N + 3 + 2100 ≤ N + 2200 by omega)) (And.intro (Chg.trans H3.out.2.1 hc4 (fun _ _ x => x) (fun _ _ x => x)) (And.intro (H3.out.2.2.chg hc4 (fun e => by have := HG.out; omega)) hi4)))
            all_goals clear ho hf hl hr4 hc4 hi4 hl7
            all_goals go_wp2_with fail
            all_goals go_meet
            all_goals exact ⟨ao, n, cap, xs, rfl, hn7, HN0, H4⟩
          case rest =>
            obtain ⟨ao, n, cap, xs, rfl, hn7, HN0, H4⟩ := hcut
            obtain ⟨wc4, hwc4⟩ : ∃ wc4 : World, wc4 = wc := ⟨_, rfl⟩
            rw [← hwc4] at H4
            rw [← hwc4]
            clear hwc4
            have hn : n ≤ 1099511627776 := by omega
            have HW4 := Lib.hid (show w.heap.size ≤ wc4.heap.size from H4.out.2.1.size)
            go_wp2_with fail
            go_loopw [8, 9] (fun t8 t9 wr => ∃ (y : Nat) (ys : List Int), t9 = .int .i64 y ∧ (y : Int) ≤ p ∧ ys.length ≤ 7 ∧ Own wr 3 t8 (ys.map (Value.int .i64)) ∧ From wc4.heap.size t8 ∧ Hid (New wc4 wr)) (fun _ t9 _ => (p - intOf t9).toNat)
            case atStart => exact ⟨0, [], rfl, by omega, by simp, Own.empty _ _, From.new _ _ _, New.alloc _ _⟩
            case round =>
              obtain ⟨y, ys, rfl, hy, hy7, hown, hfrom, HN⟩ := hrel
              obtain ⟨wy, hwy⟩ : ∃ wy : World, wy = wr := ⟨_, rfl⟩
              rw [← hwy] at hown HN
              rw [← hwy]
              clear hwy
              obtain ⟨a8, l8, c8, rfl, HL8, hl8, _⟩ := hown.opened (by rw [List.length_map]; unfold Mid; omega)
              obtain rfl : l8 = ys.length := by rw [HL8.out, List.length_map]
              have HOW := Lib.hid (And.intro hown hfrom)
              clear hown hfrom
              by_cases hgo : (y : Int) < p ∧ (ys.length : Int) + n < 7
              · obtain ⟨hyp, hln⟩ := hgo
                have HS := Lib.hid (H4.out.2.2.2.new (HN.out.trans (New.alloc wy (.cells #[] 3)))).src
                go_wp2_with (first
                  | (at_builtin; refine wpList_app rfl (.tmp 74) (.tmp 75) _ rfl tyInt (Own.empty wy 3) rfl ao n cap (xs.map (Value.int .i64)) rfl HS.out.1 HS.out.2.1 HS.out.2.2.1 HS.out.2.2.2 (by simp; omega) ?_; intro v1 w5 k1 k2 k3; obtain ⟨a1, l1, c1, rfl, _, _, _⟩ := k1.opened (by rw [List.length_append, HS.out.1]; unfold Mid; simp; omega); have N1 := Lib.hid (New.then (New.alloc wy _) k2 (fun i hi => Nat.le_of_eq (Option.some.inj hi))); have K1 := Lib.hid (And.intro k1 (And.intro k2 k3)); clear k1 k2 k3)
                  | (at_builtin; refine wpList_app1 rfl (.tmp 76) (.tmp 78) _ rfl tyInt w5 K1.out.1 rfl _ _ rfl rfl rfl (by rw [List.length_append, HS.out.1]; simp; omega) ?_; intro v2 w6 k1 k2 k3; obtain ⟨a2, l2, c2, rfl, _, _, _⟩ := k1.opened (by rw [List.length_append, List.length_append, HS.out.1]; unfold Mid; simp; omega); have N2 := Lib.hid (New.then N1.out k2 (fun i hi => by
                      rcases K1.out.2.2 i hi with h | h
                      · exact Nat.le_of_eq (Option.some.inj h)
                      · simp at h; omega)); have K2 := Lib.hid (And.intro k1 (And.intro k2 k3)); clear k1 k2 k3))
                have hi6 : IsI w6 (.slice a2 l2 c2) (xs ++ [(y : Int)]) := Own.isI (e := 3) (by rw [List.map_append]; simpa using K2.out.1) (by have := HN0.out; unfold Mid; rw [List.length_append]; simp; omega)
                refine (different_any p _ (xs ++ [(y : Int)]) _ (by omega) hi6).mono ?_
                rintro e w7 ⟨b, rfl, -, hn7⟩
                have HN7 := Lib.hid (N2.out.trans hn7)
                clear hi6 hn7 K1 K2 HS N1 N2
                cases b with
                | false =>
                  go_wp2_with fail
                  go_roundw
                  case rel => exact ⟨y + 1, ys, by go_num, by omega, hy7, HOW.out.1.new HN7.out, HOW.out.2, HN.out.trans HN7.out⟩
                  case measure => simp [intOf]; omega
                | true =>
                  go_wp2_with (at_builtin; refine wpList_app1 rfl _ _ _ rfl tyInt w7 (HOW.out.1.new HN7.out) rfl _ _ rfl rfl rfl (by rw [List.length_map]; omega) ?_; intro v8 w8 k1 k2 k3; have K8 := Lib.hid (And.intro k1 (And.intro k2 k3)); clear k1 k2 k3)
                  obtain ⟨m1, m2, m3⟩ := grow0 HOW.out.2 (HN.out.trans HN7.out) K8.out.1 K8.out.2.1 K8.out.2.2
                  go_roundw
                  case rel => exact ⟨y + 1, ys ++ [(y : Int)], by go_num, by omega, by rw [List.length_append, List.length_singleton]; omega, m1, m2, m3⟩
                  case measure => simp [intOf]; omega
              · have hi8 := HOW.out.1.isI (by unfold Mid; omega)
                have H8 := Lib.hid (And.intro hi8 (H4.out.2.2.2.new HN.out))
                clear hi8
                have hcx : ¬ (y : Int) < p ∨ ((y : Int) < p ∧ ¬ (ys.length : Int) + n < 7) := by omega
                rcases hcx with hyp | ⟨hyp, hln⟩
                all_goals go_wp2_with fail
                all_goals refine (quotientsOf_some p _ _ xs ys _ H8.out.2 H8.out.1).mono ?_
                all_goals rintro e w5 ⟨a, l, c, vs, out, p', b, rfl, hb, hn5⟩
                all_goals have H5 := Lib.hid (And.intro ((H4.out.1.new HN.out).new hn5) (And.intro (Chg.trans H4.out.2.1 (HN.out.trans hn5) (fun _ _ x => x) (fun _ _ x => x.elim)) ((H4.out.2.2.1.new HN.out).new hn5)))
                all_goals have HB := Lib.hid hb
                all_goals have HWY := Lib.hid (show w.heap.size ≤ wy.heap.size from Nat.le_trans HW4.out HN.out.size)
                all_goals clear hb hn5
                all_goals obtain ⟨s0, s1, s2, s3⟩ := (H5.out.2.2.new (New.alloc w5 (.cells #[.int .i64 p', .slice a l c] 24))).cells
                all_goals cases b
                all_goals go_wp2_with fail
                all_goals first
                  | (go_meet
                     exact ⟨(H5.out.1.new (New.alloc _ _)).mono (by omega), Chg.trans H5.out.2.1 (New.alloc _ _) (fun _ _ x => x) (fun _ _ x => x.elim), H5.out.2.2.new (New.alloc _ _)⟩)
                  | (obtain ⟨x0, x1, hx⟩ := (H5.out.2.2.new (New.alloc w5 (.cells #[.int .i64 p', .slice a l c] 24))).put (.int .i64 p') (.slice a l c)
                     refine bodyPost_ret (v := .agg #[.int .i64 p', .slice a l c]) (by simp [results, go_sem, x0, x1]) rfl ?_
                     obtain ⟨rfl, hq, ho, hf⟩ := HB.out (by first | rfl | trivial)
                     have n6 := New.alloc w5 (.cells #[.int .i64 p', .slice a l c] 24)
                     have r6 := H5.out.2.2.new n6
                     exact ⟨a, l, c, vs, out, p', rfl, (ho.new n6).chg hx (own_ne_blk2 (ho.new n6).outer r6 (by decide)) (fun i hi => own_ne_blk2 ((ho.new n6).inner i hi) r6 (by decide)), ⟨hf.1.mono HWY.out, fun i hi => (hf.2 i hi).mono HWY.out⟩, hq, by omega, ((H5.out.1.new n6).chg hx (fun b hb => by have := HG.out; omega)).mono (by omega), Chg.trans (Chg.trans H5.out.2.1 n6 (fun _ _ x => x) (fun _ _ x => x.elim)) hx (fun _ _ x => x) (fun i hi h => by omega)⟩)
        · by_cases hz2 : z = 2
          · subst hz2
            have hz0' : ((2 : Int) == 0) = false := rfl
            go_wp2_with fail
            refine (pick_any g (N + 3) 2 _ (H3.out.1.new ?nn) (by omega) (by omega)).mono ?_
            case nn => exact ((((New.alloc _ _).trans (New.alloc _ _)).trans (New.alloc _ _)).trans (New.alloc _ _)).trans (New.alloc _ _)
            rintro e w4 ⟨y, rfl, hy, hr4, hc4⟩
            have hgs := Nat.lt_of_lt_of_le HG.out H3.out.2.1.size
            have hO4 := ((ownR_lit3 w3 [1, 0, 0, 1, 1, 0] [0, 1, 0, 1, 0, 1] [0, 0, 1, 0, 1, 1] (by simp) (by simp) (by simp)).new (New.alloc _ _)).chg hc4 (fun b hb e => by have := (fromR_lit3 w3.heap.size w3.heap.size (w3.heap.size + 1) (w3.heap.size + 1 + 1) (w3.heap.size + 1 + 1 + 1) 6 6 6 [1, 0, 0, 1, 1, 0] [0, 1, 0, 1, 0, 1] [0, 0, 1, 0, 1, 1] (by omega) (by omega) (by omega) (by omega)).1 b hb; omega) (fun i hi b hb e => by have := (fromR_lit3 w3.heap.size w3.heap.size (w3.heap.size + 1) (w3.heap.size + 1 + 1) (w3.heap.size + 1 + 1 + 1) 6 6 6 [1, 0, 0, 1, 1, 0] [0, 1, 0, 1, 0, 1] [0, 0, 1, 0, 1, 1] (by omega) (by omega) (by omega) (by omega)).2 i hi b hb; omega)
            have hB4 : Blk2 w4 (w3.heap.size + 1 + 1 + 1 + 1) (.int .i64 2) (.slice (some ⟨w3.heap.size + 1 + 1 + 1, 0, none⟩) 3 3) 24 := by
              have h := Blk2.alloc ((((w3.alloc (.cells #[.int .i64 1, .int .i64 0, .int .i64 0, .int .i64 1, .int .i64 1, .int .i64 0] 3)).alloc (.cells #[.int .i64 0, .int .i64 1, .int .i64 0, .int .i64 1, .int .i64 0, .int .i64 1] 3)).alloc (.cells #[.int .i64 0, .int .i64 0, .int .i64 1, .int .i64 0, .int .i64 1, .int .i64 1] 3)).alloc (.cells #[.slice (some ⟨w3.heap.size, 0, none⟩) 6 6, .slice (some ⟨w3.heap.size + 1, 0, none⟩) 6 6, .slice (some ⟨w3.heap.size + 1 + 1, 0, none⟩) 6 6] 53)) (.int .i64 2) (.slice (some ⟨w3.heap.size + 1 + 1 + 1, 0, none⟩) 3 3) 24
              simp only [World.size_alloc] at h
              exact h.chg hc4 (fun e => by omega)
            have H4 := Lib.hid (And.intro hr4 (And.intro (Chg.trans H3.out.2.1 (Chg.trans (((((New.alloc _ _).trans (New.alloc _ _)).trans (New.alloc _ _)).trans (New.alloc _ _)).trans (New.alloc _ _)) hc4 (fun _ _ x => x.elim) (fun _ _ x => x) (U := (· = g))) (fun _ _ x => x) (fun _ _ x => x)) (And.intro (H3.out.2.2.chg (Chg.trans (((((New.alloc _ _).trans (New.alloc _ _)).trans (New.alloc _ _)).trans (New.alloc _ _)).trans (New.alloc _ _)) hc4 (fun _ _ x => x.elim) (fun _ _ x => x) (U := (· = g))) (fun e => by have := HG.out; omega)) (And.intro hO4 hB4))))
            have hw3 : w.heap.size < w3.heap.size := Blk2.lt H3.out.2.2
            have hw4 : w3.heap.size + 1 + 1 + 1 + 1 < w4.heap.size := Blk2.lt hB4
            clear hr4 hc4 hO4 hB4 hy
            by_cases hy0 : y = 0
            · subst hy0
              have nn : New w4 ((((w4.alloc (.cells #[.int .i64 1, .int .i64 0, .int .i64 1, .int .i64 0, .int .i64 0] 3)).alloc (.cells #[.int .i64 0, .int .i64 1, .int .i64 1, .int .i64 1, .int .i64 1] 3)).alloc (.cells #[.int .i64 0, .int .i64 0, .int .i64 0, .int .i64 1, .int .i64 0] 3)).alloc (.cells #[.slice (some ⟨w4.heap.size, 0, none⟩) 5 5, .slice (some ⟨w4.heap.size + 1, 0, none⟩) 5 5, .slice (some ⟨w4.heap.size + 1 + 1, 0, none⟩) 5 5] 53)) := (((New.alloc _ _).trans (New.alloc _ _)).trans (New.alloc _ _)).trans (New.alloc _ _)
              have hb5 := H4.out.2.2.2.2.new nn
              have hs6 : Chg (· = w3.heap.size + 1 + 1 + 1 + 1) _ _ := Chg.setCell ((((w4.alloc (.cells #[.int .i64 1, .int .i64 0, .int .i64 1, .int .i64 0, .int .i64 0] 3)).alloc (.cells #[.int .i64 0, .int .i64 1, .int .i64 1, .int .i64 1, .int .i64 1] 3)).alloc (.cells #[.int .i64 0, .int .i64 0, .int .i64 0, .int .i64 1, .int .i64 0] 3)).alloc (.cells #[.slice (some ⟨w4.heap.size, 0, none⟩) 5 5, .slice (some ⟨w4.heap.size + 1, 0, none⟩) 5 5, .slice (some ⟨w4.heap.size + 1 + 1, 0, none⟩) 5 5] 53)) ⟨w3.heap.size + 1 + 1 + 1 + 1, 1, none⟩ (.slice (some ⟨w4.heap.size + 1 + 1 + 1, 0, none⟩) 3 3)
              have ha6 := (H4.out.2.2.1.new nn).chg hs6 (fun e => by omega)
              obtain ⟨e0, e1, e2, e3⟩ := hb5.cells
              obtain ⟨s0, s1, s2, s3⟩ := (hb5.set1 (.slice (some ⟨w4.heap.size + 1 + 1 + 1, 0, none⟩) 3 3)).cells
              obtain ⟨q0, q1, q2, q3⟩ := ha6.cells
              have hO6 := (ownR_lit3 w4 [1, 0, 1, 0, 0] [0, 1, 1, 1, 1] [0, 0, 0, 1, 0] (by simp) (by simp) (by simp)).chg hs6 (fun b hb e => by have := (fromR_lit3 w4.heap.size w4.heap.size (w4.heap.size + 1) (w4.heap.size + 1 + 1) (w4.heap.size + 1 + 1 + 1) 5 5 5 [1, 0, 1, 0, 0] [0, 1, 1, 1, 1] [0, 0, 0, 1, 0] (by omega) (by omega) (by omega) (by omega)).1 b hb; omega) (fun i hi b hb e => by have := (fromR_lit3 w4.heap.size w4.heap.size (w4.heap.size + 1) (w4.heap.size + 1 + 1) (w4.heap.size + 1 + 1 + 1) 5 5 5 [1, 0, 1, 0, 0] [0, 1, 1, 1, 1] [0, 0, 0, 1, 0] (by omega) (by omega) (by omega) (by omega)).2 i hi b hb; omega)
              have H6 := Lib.hid (And.intro hO6 (And.intro ha6 (And.intro nn hs6)))
              clear hO6 ha6 nn hb5 hs6
              go_wp2_with fail
              obtain ⟨x0, x1, hx⟩ := H6.out.2.1.put (.int .i64 2) (.slice (some ⟨w4.heap.size + 1 + 1 + 1, 0, none⟩) 3 3)
              refine bodyPost_ret (v := .agg #[.int .i64 2, .slice (some ⟨w4.heap.size + 1 + 1 + 1, 0, none⟩) 3 3]) (by simp [results, go_sem, x0, x1]) rfl ?_
              have hfr := fromR_lit3 w.heap.size w4.heap.size (w4.heap.size + 1) (w4.heap.size + 1 + 1) (w4.heap.size + 1 + 1 + 1) 5 5 5 [1, 0, 1, 0, 0] [0, 1, 1, 1, 1] [0, 0, 0, 1, 0] (by omega) (by omega) (by omega) (by omega)
              exact ⟨_, 3, 3, _, _, 2, rfl, H6.out.1.chg hx (own_ne_blk2 H6.out.1.outer H6.out.2.1 (by decide)) (fun i hi => own_ne_blk2 (H6.out.1.inner i hi) H6.out.2.1 (by decide)), hfr, ⟨by simp, by decide⟩, by omega, (((H4.out.1.new H6.out.2.2.1).chg H6.out.2.2.2 (fun b hb => by omega)).chg hx (fun b hb => by have := HG.out; omega)).mono (by omega), Chg.trans (Chg.trans (Chg.trans H4.out.2.1 H6.out.2.2.1 (fun _ _ x => x) (fun _ _ x => x.elim) (U := (· = g))) H6.out.2.2.2 (fun _ _ x => x) (fun i hi h => by omega) (U := (· = g))) hx (fun _ _ x => x) (fun i hi h => by omega)⟩
            · have hyd : (y == 0) = false := by simp; omega
              obtain ⟨e0, e1, e2, e3⟩ := H4.out.2.2.2.2.cells
              obtain ⟨q0, q1, q2, q3⟩ := H4.out.2.2.1.cells
              go_wp2_with fail
              obtain ⟨x0, x1, hx⟩ := H4.out.2.2.1.put (.int .i64 2) (.slice (some ⟨w3.heap.size + 1 + 1 + 1, 0, none⟩) 3 3)
              refine bodyPost_ret (v := .agg #[.int .i64 2, .slice (some ⟨w3.heap.size + 1 + 1 + 1, 0, none⟩) 3 3]) (by simp [results, go_sem, x0, x1]) rfl ?_
              have hfr := fromR_lit3 w.heap.size w3.heap.size (w3.heap.size + 1) (w3.heap.size + 1 + 1) (w3.heap.size + 1 + 1 + 1) 6 6 6 [1, 0, 0, 1, 1, 0] [0, 1, 0, 1, 0, 1] [0, 0, 1, 0, 1, 1] (by omega) (by omega) (by omega) (by omega)
              exact ⟨_, 3, 3, _, _, 2, rfl, H4.out.2.2.2.1.chg hx (own_ne_blk2 H4.out.2.2.2.1.outer H4.out.2.2.1 (by decide)) (fun i hi => own_ne_blk2 (H4.out.2.2.2.1.inner i hi) H4.out.2.2.1 (by decide)), hfr, ⟨by simp, by decide⟩, by omega, (H4.out.1.chg hx (fun b hb => by have := HG.out; omega)).mono (by omega), Chg.trans H4.out.2.1 hx (fun _ _ x => x) (fun i hi h => by omega)⟩
          · have hzd0 : (z == 0) = false := by simp; omega
            have hzd1 : (z == 1) = false := by simp; omega
            have hzd2 : (z == 2) = false := by simp; omega
            go_wp2_with fail
            go_meet
            exact ⟨H3.out.1.mono (by omega), H3.out.2.1, H3.out.2.2⟩
    case rest =>
      obtain ⟨wd, hwd⟩ : ∃ wd : World, wd = wc := ⟨_, rfl⟩
      have HD := hcut
      clear hcut
      rw [← hwd] at HD
      rw [← hwd]
      clear hwd
      obtain ⟨q, rfl⟩ : ∃ q : Nat, p = q := ⟨p.toNat, by omega⟩
      go_wp2_with fail
      refine (pick_any g (N + 2300) _ _ HD.out.1 (by omega) (by omega)).mono ?_
      rintro e w4 ⟨x, rfl, hx, hr4, hc4⟩
      have hx0 := hx.1
      have hx1 := hx.2.1 (by omega)
      obtain ⟨n, hn⟩ : ∃ n : Nat, (k : Int) + x = n := ⟨((k : Int) + x).toNat, by omega⟩
      obtain rfl : x = (n : Int) - k := by omega
      have hkn : k ≤ n := by omega
      have hn7 : n ≤ 7 := by omega
      have H4 := Lib.hid (And.intro hr4 (And.intro (Chg.trans HD.out.2.1 hc4 (fun _ _ x => x) (fun _ _ x => x)) (HD.out.2.2.chg hc4 (fun e => by have := HG.out; omega))))
      clear hr4 hc4 hx hx0 hx1 hn
      have hkn' : (k : Int) + ((n : Int) - k) = n := by omega
      have HKN := Lib.hid hkn'
      clear hkn'
      go_wp2_with fail
      rw [HKN.out]
      go_loopw [14, 15] (fun t14 t15 wr => ∃ (i : Nat) (vs : List Value) (out : List (List Int)), t15 = .int .i64 i ∧ i ≤ k ∧ Hid (out.length = i ∧ ∀ j, j < out.length → (gr out j).length = n ∧ ∀ l, l < (gr out j).length → 0 ≤ gi (gr out j) l ∧ gi (gr out j) l < q) ∧ Hid (OwnR wr 53 3 t14 vs out ∧ FromR w.heap.size t14 vs out ∧ Rd wr g (N + 2310 + i * 20) ∧ Chg (· = g) w wr ∧ Blk2 wr w.heap.size (.int .i64 0) (.slice none 0 0) 24)) (fun _ t15 _ => k - (intOf t15).toNat)
      case atStart => exact ⟨0, [], [], rfl, Nat.zero_le _, ⟨rfl, fun j hj => by simp at hj⟩, ⟨Own.empty _ _, rfl, fun i hi => by simp at hi, fun i j hi => by simp at hi⟩, ⟨(From.new _ _ _).mono H4.out.2.1.size, fun i hi => by simp at hi⟩, (H4.out.1.new (New.alloc _ _)).mono (by omega), Chg.trans H4.out.2.1 (New.alloc _ _) (fun _ _ x => x) (fun _ _ x => x.elim), H4.out.2.2.new (New.alloc _ _)⟩
      case round =>
        obtain ⟨i, vs, out, rfl, hi, HL, HO⟩ := hrel
        obtain ⟨wz, hwz⟩ : ∃ wz : World, wz = wr := ⟨_, rfl⟩
        rw [← hwz] at HO
        rw [← hwz]
        clear hwz
        obtain ⟨a, l, c, rfl, HA, hl, _⟩ := HO.out.1.outer.opened (by rw [HO.out.1.len, HL.out.1]; unfold Mid; omega)
        obtain rfl : l = i := by rw [HA.out, HO.out.1.len, HL.out.1]
        have HV := Lib.hid (show vs.length = l by rw [HO.out.1.len, HL.out.1])
        have HGZ := Lib.hid (show g < wz.heap.size from Nat.lt_of_lt_of_le HG.out HO.out.2.2.2.1.size)
        by_cases hik : l < k
        · go_wp2_with fail
          go_loopw [16, 17] (fun t16 t17 wr => ∃ (j : Nat) (ys : List Int), t17 = .int .i64 j ∧ j ≤ n ∧ Hid (ys.length = j ∧ ∀ l, l < ys.length → 0 ≤ gi ys l ∧ gi ys l < q) ∧ Hid (Own wr 3 t16 (ys.map (Value.int .i64)) ∧ From wz.heap.size t16 ∧ Rd wr g (N + 2310 + l * 20 + j * 2) ∧ Chg (· = g) wz wr)) (fun _ t17 _ => n - (intOf t17).toNat)
          case atStart => exact ⟨0, [], rfl, Nat.zero_le _, ⟨rfl, fun l hl => by simp at hl⟩, Own.empty _ _, From.new _ _ _, HO.out.2.2.1.new (New.alloc _ _), Chg.trans (New.alloc _ _) (Chg.refl (· = g) _) (fun _ _ x => x.elim) (fun _ _ x => x)⟩
          case round =>
            obtain ⟨j, ys, rfl, hj, HY, HQ⟩ := hrel
            obtain ⟨wy, hwy⟩ : ∃ wy : World, wy = wr := ⟨_, rfl⟩
            rw [← hwy] at HQ
            rw [← hwy]
            clear hwy
            obtain ⟨a1, l1, c1, rfl, HL1, hl1, _⟩ := HQ.out.1.opened (by rw [List.length_map, HY.out.1]; unfold Mid; omega)
            obtain rfl : l1 = j := by rw [HL1.out, List.length_map, HY.out.1]

            have HOW := Lib.hid (And.intro HQ.out.1 HQ.out.2.1)
            have HNG := Lib.hid (show ∀ g', (Value.slice a1 l1 c1).ownBlock = some g' → ¬ g' = g from fun g' h e => by have := HQ.out.2.1 g' h; have := HGZ.out; omega)
            by_cases hjn : l1 < n
            · go_wp2_with fail
              refine (pick_any g (N + 2310 + l * 20 + l1 * 2) q _ HQ.out.2.2.1 (by omega) (by omega)).mono ?_
              rintro e wa ⟨x, rfl, hx, hr1, hc1⟩
              have hx0 := hx.1
              have hx1 := hx.2.1 (by omega)
              have HW1 := Lib.hid (And.intro hr1 (And.intro (Chg.trans HQ.out.2.2.2 hc1 (fun _ _ x => x) (fun _ _ x => x)) (HOW.out.1.chg hc1 (fun g' h e => HNG.out g' h e))))
              have H1a := HW1
              clear hr1 hc1 hx
              by_cases hjk : l1 < k
              · go_wp2_with fail
                refine (pick_any g (N + 2310 + l * 20 + l1 * 2 + 1) 3 _ H1a.out.1 (by omega) (by omega)).mono ?_
                rintro e wb ⟨y, rfl, hy, hr1, hc1⟩
                have hy0 := hy.1
                clear HW1
                have HW1 := Lib.hid (And.intro hr1 (And.intro (Chg.trans H1a.out.2.1 hc1 (fun _ _ x => x) (fun _ _ x => x)) (H1a.out.2.2.chg hc1 (fun g' h e => HNG.out g' h e))))
                clear hr1 hc1 hy
                by_cases hy1 : 0 < y
                · by_cases hij : l = l1
                  · have hb0 : ((l : Int) == (l1 : Int)) = true := by simp; omega
                    clear hij
                    go_wp2_with (at_builtin; refine wpList_app1 rfl _ _ _ rfl tyInt wb HW1.out.2.2 rfl _ _ rfl rfl rfl (by rw [List.length_map, HY.out.1]; omega) ?_; intro v5 w5 k1 k2 k3; have K5 := Lib.hid (And.intro k1 (And.intro k2 k3)); clear k1 k2 k3)
                    obtain ⟨m1, m2, m3, m4⟩ := grow1 HGZ.out HOW.out.2 HW1.out.1 HW1.out.2.1 K5.out.1 K5.out.2.1 K5.out.2.2
                    go_roundw
                    case rel => exact ⟨l1 + 1, ys ++ [1], by go_num, by omega, ⟨by rw [List.length_append, HY.out.1]; rfl, fun q hq => by
                      rw [List.length_append, List.length_singleton, HY.out.1] at hq
                      by_cases e : q < ys.length
                      · rw [gi_snoc, if_pos e]; exact HY.out.2 q e
                      · rw [gi_snoc, if_neg e, if_pos (by rw [HY.out.1] at e ⊢; omega)]; omega⟩, m1, m2, m3.mono (by omega), m4⟩
                    case measure => simp [intOf]; omega
                  · have hb0 : ((l : Int) == (l1 : Int)) = false := by simp; omega
                    go_wp2_with (at_builtin; refine wpList_app1 rfl _ _ _ rfl tyInt wb HW1.out.2.2 rfl _ _ rfl rfl rfl (by rw [List.length_map, HY.out.1]; omega) ?_; intro v5 w5 k1 k2 k3; have K5 := Lib.hid (And.intro k1 (And.intro k2 k3)); clear k1 k2 k3)
                    obtain ⟨m1, m2, m3, m4⟩ := grow1 HGZ.out HOW.out.2 HW1.out.1 HW1.out.2.1 K5.out.1 K5.out.2.1 K5.out.2.2
                    go_roundw
                    case rel => exact ⟨l1 + 1, ys ++ [0], by go_num, by omega, ⟨by rw [List.length_append, HY.out.1]; rfl, fun q hq => by
                      rw [List.length_append, List.length_singleton, HY.out.1] at hq
                      by_cases e : q < ys.length
                      · rw [gi_snoc, if_pos e]; exact HY.out.2 q e
                      · rw [gi_snoc, if_neg e, if_pos (by rw [HY.out.1] at e ⊢; omega)]; omega⟩, m1, m2, m3.mono (by omega), m4⟩
                    case measure => simp [intOf]; omega
                · go_wp2_with (at_builtin; refine wpList_app1 rfl _ _ _ rfl tyInt wb HW1.out.2.2 rfl _ _ rfl rfl rfl (by rw [List.length_map, HY.out.1]; omega) ?_; intro v5 w5 k1 k2 k3; have K5 := Lib.hid (And.intro k1 (And.intro k2 k3)); clear k1 k2 k3)
                  obtain ⟨m1, m2, m3, m4⟩ := grow1 HGZ.out HOW.out.2 HW1.out.1 HW1.out.2.1 K5.out.1 K5.out.2.1 K5.out.2.2
                  go_roundw
                  case rel => exact ⟨l1 + 1, ys ++ [x], by go_num, by omega, ⟨by rw [List.length_append, HY.out.1]; rfl, fun q hq => by
                    rw [List.length_append, List.length_singleton, HY.out.1] at hq
                    by_cases e : q < ys.length
                    · rw [gi_snoc, if_pos e]; exact HY.out.2 q e
                    · rw [gi_snoc, if_neg e, if_pos (by rw [HY.out.1] at e ⊢; omega)]; omega⟩, m1, m2, m3.mono (by omega), m4⟩
                  case measure => simp [intOf]; omega
              · go_wp2_with (at_builtin; refine wpList_app1 rfl _ _ _ rfl tyInt wa HW1.out.2.2 rfl _ _ rfl rfl rfl (by rw [List.length_map, HY.out.1]; omega) ?_; intro v5 w5 k1 k2 k3; have K5 := Lib.hid (And.intro k1 (And.intro k2 k3)); clear k1 k2 k3)
                obtain ⟨m1, m2, m3, m4⟩ := grow1 HGZ.out HOW.out.2 HW1.out.1 HW1.out.2.1 K5.out.1 K5.out.2.1 K5.out.2.2
                go_roundw
                case rel => exact ⟨l1 + 1, ys ++ [x], by go_num, by omega, ⟨by rw [List.length_append, HY.out.1]; rfl, fun q hq => by
                  rw [List.length_append, List.length_singleton, HY.out.1] at hq
                  by_cases e : q < ys.length
                  · rw [gi_snoc, if_pos e]; exact HY.out.2 q e
                  · rw [gi_snoc, if_neg e, if_pos (by rw [HY.out.1] at e ⊢; omega)]; omega⟩, m1, m2, m3.mono (by omega), m4⟩
                case measure => simp [intOf]; omega
            · obtain rfl : l1 = n := by omega
              go_wp2_with (at_builtin; refine wpList_app1 rfl _ _ _ rfl tyRow wy ((HO.out.1.chg HQ.out.2.2.2 (fun g' h e => by have := HO.out.2.1.1 g' h; have := HG.out; omega) (fun i hi g' h e => by have := HO.out.2.1.2 i hi g' h; have := HG.out; omega)).outer) rfl _ _ rfl rfl rfl (by rw [HV.out]; omega) ?_; intro v5 w5 k1 k2 k3; have K5 := Lib.hid (And.intro k1 (And.intro k2 k3)); clear k1 k2 k3)
              obtain ⟨m1, m2, m3, m4⟩ := rows_more HG.out HO.out.1 HO.out.2.1 HO.out.2.2.2.1 HQ.out.2.2.2 HOW.out.1 HOW.out.2 HQ.out.2.2.1 K5.out.1 K5.out.2.1 K5.out.2.2
              have hby := HO.out.2.2.2.2.chg HQ.out.2.2.2 (fun e => by have := HG.out; omega)
              go_roundw
              case rel => exact ⟨l + 1, _, out ++ [ys], by go_num, by omega, ⟨by rw [List.length_append, HL.out.1]; rfl, fun q hq => by
                rw [List.length_append, List.length_singleton, HL.out.1] at hq
                by_cases e : q < out.length
                · rw [gr_snoc_lt e]; exact HL.out.2 q e
                · rw [gr_snoc_eq (by rw [HL.out.1] at e ⊢; omega)]; exact HY.out⟩, m1, m2, m3.mono (by omega), m4, hby.chg K5.out.2.1 (fun e => own_ne_blk2 HO.out.1.outer HO.out.2.2.2.2 (by decide) _ e rfl)⟩
              case measure => simp [intOf]; omega
        · obtain rfl : l = k := by omega
          have hvt : vtB q out = true := vtB_mk (prB_iff.2 (by omega)) (inB_iff.2 (by rw [HL.out.1]; omega)) (inB_iff.2 (by rw [(HL.out.2 0 (by rw [HL.out.1]; omega)).1]; omega)) (fun i hi => rowOk_iff.2 ⟨by rw [(HL.out.2 i hi).1, (HL.out.2 0 (by rw [HL.out.1]; omega)).1], fun j hj => by have := (HL.out.2 i hi).2 j hj; omega⟩)
          have hio : IsR wz (.slice a l c) out := HO.out.1.isR (by rw [HL.out.1]; unfold Mid; omega) (fun i hi => by rw [(HL.out.2 i hi).1]; unfold Mid; omega)
          have nc := New.alloc wz (.cells #[.int .i64 q, .slice a l c] 24)
          have bc := Blk2.alloc wz (.int .i64 q) (.slice a l c) 24
          obtain ⟨p0, p1, p2, p3⟩ := bc.cells
          go_wp2_with fail
          refine (validCode_any _ _ out _ (hio.new nc)).mono ?_
          rintro e w5 ⟨⟨b, rfl, -⟩, hn5⟩
          have H5 := Lib.hid (And.intro ((HO.out.2.2.1.new nc).new hn5) (And.intro (Chg.trans HO.out.2.2.2.1 (nc.trans hn5) (fun _ _ x => x) (fun _ _ x => x.elim)) (And.intro ((HO.out.2.2.2.2.new nc).new hn5) (And.intro (hio.new (nc.trans hn5)) (bc.new hn5)))))
          have HN5 := Lib.hid (nc.trans hn5)
          have HVT := Lib.hid hvt
          clear nc bc hn5 hio hvt p0 p1 p2 p3
          obtain ⟨q0, q1, q2, q3⟩ := H5.out.2.2.1.cells
          obtain ⟨p0, p1, p2, p3⟩ := H5.out.2.2.2.2.cells
          cases b with
          | true =>
            go_wp2_with fail
            obtain ⟨x0, x1, hx⟩ := H5.out.2.2.1.put (.int .i64 q) (.slice a l c)
            refine bodyPost_ret (v := .agg #[.int .i64 q, .slice a l c]) (by simp [results, go_sem, x0, x1]) rfl ?_
            have ho := HO.out.1.new HN5.out
            exact ⟨a, l, c, vs, out, q, rfl, ho.chg hx (own_ne_blk2 ho.outer H5.out.2.2.1 (by decide)) (fun i hi => own_ne_blk2 (ho.inner i hi) H5.out.2.2.1 (by decide)), HO.out.2.1, ⟨by rw [HL.out.1]; omega, fun i hi => by have e1 := (HL.out.2 i hi).1; have e0 := (HL.out.2 0 (by omega)).1; omega⟩, by omega, (H5.out.1.chg hx (fun b hb => by have := HG.out; omega)).mono (by omega), Chg.trans H5.out.2.1 hx (fun _ _ x => x) (fun i hi h => by omega)⟩
          | false =>
            have hpq : Mat.Pr q := by unfold Mat.Pr; omega
            haveI := hpq.nz
            have hg := vtB_good HVT.out
            rw [(HL.out.2 0 (by rw [HL.out.1]; omega)).1] at hg
            have HPQ := Lib.hid (And.intro hpq hg)
            clear hg hpq
            go_wp2_with fail
            refine (reduce_any q HPQ.out.1 n hn7 _ out _ H5.out.2.2.2.1 HPQ.out.2 (by rw [HL.out.1]; omega)).mono ?_
            rintro e w6 ⟨u, vs6, red, rfl, ho6, hf6, hred, hn6⟩
            have hn0 := (HL.out.2 0 (by rw [HL.out.1]; omega)).1
            have hbd := RedOf.bounds ⟨q, this, rfl, HPQ.out.1, (show IsRed q (gr out 0).length out red from by rw [hn0]; exact hred)⟩ HVT.out
            obtain ⟨a6, l6, c6, rfl, HL6, hl6, _⟩ := ho6.outer.opened (by rw [ho6.len]; unfold Mid; omega)
            obtain rfl : l6 = red.length := by rw [HL6.out, ho6.len]
            have HI6 := Lib.hid (ho6.isR (by unfold Mid; omega) (fun i hi => by rw [(hbd.2 i hi).1, hn0]; unfold Mid; omega))
            have HB6 := Lib.hid (show red.length ≤ 7 ∧ ∀ i, i < red.length → (1 ≤ (gr red i).length ∧ (gr red i).length ≤ 7) ∧ (gr red i).length = (gr red 0).length from ⟨hbd.1, fun i hi => by have e1 := (hbd.2 i hi).1; have e0 := (hbd.2 0 (by omega)).1; omega⟩)
            have H6 := Lib.hid (And.intro (H5.out.1.new hn6) (And.intro (Chg.trans H5.out.2.1 hn6 (fun _ _ x => x) (fun _ _ x => x.elim)) (H5.out.2.2.1.new hn6)))
            clear hbd hn0 ho6 hf6 hred hn6 q0 q1 q2 q3 p0 p1 p2 p3
            have hw6 : w.heap.size < w6.heap.size := Blk2.lt H6.out.2.2
            by_cases hr0 : red.length = 0
            · have hb0 : ((red.length : Int) == 0) = true := beq_iff_eq.2 (by omega)
              obtain ⟨q0, q1, q2, q3⟩ := H6.out.2.2.cells
              obtain ⟨s0, s1, s2, s3⟩ := (H6.out.2.2.set0 (.int .i64 q)).cells
              clear hr0
              go_wp2_with fail
              obtain ⟨x0, x1, hx⟩ := H6.out.2.2.put (.int .i64 q) (.slice (some ⟨w6.heap.size + 1, 0, none⟩) 1 1)
              obtain ⟨wv, hwv⟩ : ∃ wv : World, wv = (w6.setCell ⟨w.heap.size, 0, none⟩ (.int .i64 q)).setCell ⟨w.heap.size, 1, none⟩ (.slice (some ⟨w6.heap.size + 1, 0, none⟩) 1 1) := ⟨_, rfl⟩
              have hsv : wv.heap.size = w6.heap.size := by rw [hwv]; simp
              rw [← hwv] at x0 x1 hx
              rw [← hwv]
              have hO := ownR_lit1 wv [1, 1] (by simp)
              rw [hsv] at hO
              have nn : New wv ((wv.alloc (.cells #[.int .i64 1, .int .i64 1] 3)).alloc (.cells #[.slice (some ⟨w6.heap.size, 0, none⟩) 2 2] 53)) := (New.alloc _ _).trans (New.alloc _ _)
              refine bodyPost_ret (v := .agg #[.int .i64 q, .slice (some ⟨w6.heap.size + 1, 0, none⟩) 1 1]) (by simp [results, go_sem, nn.cellNew x0, nn.cellNew x1]) rfl ?_
              exact ⟨_, 1, 1, _, _, q, rfl, hO, fromR_lit1 w.heap.size w6.heap.size (w6.heap.size + 1) 2 [1, 1] (by omega) (by omega), ⟨by simp, by decide⟩, by omega, ((H6.out.1.chg hx (fun b hb => by have := HG.out; omega)).new nn).mono (by omega), Chg.trans (Chg.trans H6.out.2.1 hx (fun _ _ x => x) (fun i hi h => by omega) (U := (· = g))) nn (fun _ _ x => x) (fun _ _ x => x.elim)⟩
            · have hb0 : ((red.length : Int) == 0) = false := beq_eq_false_iff_ne.2 (by omega)
              go_wp2_with fail
              refine (copyRows_any _ red _ HI6.out).mono ?_
              rintro e w7 ⟨u7, vs7, rfl, ho7, hf7, hn7'⟩
              obtain ⟨a7, l7, c7, rfl, HL7, hl7, _⟩ := ho7.outer.opened (by rw [ho7.len]; have := HB6.out.1; unfold Mid; omega)
              have H7 := Lib.hid (And.intro ho7 (And.intro hf7 (And.intro hn7' (H6.out.2.2.new hn7'))))
              obtain ⟨q0, q1, q2, q3⟩ := H7.out.2.2.2.cells
              clear ho7 hf7 hn7'
              go_wp2_with fail
              obtain ⟨x0, x1, hx⟩ := H7.out.2.2.2.put (.int .i64 q) (.slice a7 l7 c7)
              refine bodyPost_ret (v := .agg #[.int .i64 q, .slice a7 l7 c7]) (by simp [results, go_sem, x0, x1]) rfl ?_
              exact ⟨a7, l7, c7, vs7, red, q, rfl, H7.out.1.chg hx (own_ne_blk2 H7.out.1.outer H7.out.2.2.2 (by decide)) (fun i hi => own_ne_blk2 (H7.out.1.inner i hi) H7.out.2.2.2 (by decide)), ⟨H7.out.2.1.1.mono (by omega), fun i hi => (H7.out.2.1.2 i hi).mono (by omega)⟩, ⟨by have := HB6.out.1; omega, HB6.out.2⟩, by omega, ((H6.out.1.new H7.out.2.2.1).chg hx (fun b hb => by have := HG.out; omega)).mono (by omega), Chg.trans (Chg.trans H6.out.2.1 H7.out.2.2.1 (fun _ _ x => x) (fun _ _ x => x.elim) (U := (· = g))) hx (fun _ _ x => x) (fun i hi h => by omega)⟩
end Go.Proofs.YtcdbeepphdfipaaGreatDoor
