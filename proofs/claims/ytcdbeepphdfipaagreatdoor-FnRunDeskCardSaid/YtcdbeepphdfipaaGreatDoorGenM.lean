/- The generators' points. The generators' codes of powers and of quotients. The generators' codes of quotients. -/
import Derived.Test.YtcdbeepphdfipaaGreatDoorGenB
import Derived.Test.YtcdbeepphdfipaaGreatDoorKnow
import Derived.Deep.RegionHeld3
namespace Go.Proofs.YtcdbeepphdfipaaGreatDoor
open Go.RowKit
set_option linter.unusedVariables false

theorem own_take {w : World} {e : TypeId} {g n cap : Nat} {xs : List Value} (h : Own w e (.slice (some ⟨g, 0, none⟩) n cap) xs) (k : Nat) (ad : Addr) (had : some (⟨g, 0, none⟩ : Addr) = some ad) (j : Nat) (u : Value) (hu : (xs.take k)[j]? = some u) : w.cell? (ad.add j) = some u := by
  obtain rfl := Option.some.inj had
  obtain ⟨hj, he⟩ := List.getElem?_eq_some_iff.1 hu
  rw [List.getElem_take] at he
  rw [List.length_take] at hj
  rw [Addr.add_lit, Nat.zero_add, (h.cell (i := j) (by omega)).1, gv_lt (by omega), he]
theorem own_drop {w : World} {e : TypeId} {g n cap : Nat} {xs : List Value} (h : Own w e (.slice (some ⟨g, 0, none⟩) n cap) xs) (k : Nat) (A : Option Addr) (hA : A = if cap = k then some ⟨g, 0, none⟩ else some ⟨g, k, none⟩) (ad : Addr) (had : A = some ad) (j : Nat) (u : Value) (hu : (xs.drop k)[j]? = some u) : w.cell? (ad.add j) = some u := by
  obtain ⟨hj, he⟩ := List.getElem?_eq_some_iff.1 hu
  rw [List.getElem_drop] at he
  rw [List.length_drop] at hj
  have hl := h.len
  have hc : n ≤ cap := by
    rcases h with ⟨h1, h2⟩ | ⟨g', cap', cur, h1, h2, h3, h4⟩
    · simp at h1
    · simp at h1; omega
  rw [hA, if_neg (by omega)] at had
  obtain rfl := Option.some.inj had
  rw [Addr.add_lit, (h.cell (i := k + j) (by omega)).1, gv_lt (by omega), he]
theorem own_cap {w : World} {e : TypeId} {g n cap : Nat} {xs : List Value} (h : Own w e (.slice (some ⟨g, 0, none⟩) n cap) xs) : n ≤ cap := by
  rcases h with ⟨h1, h2⟩ | ⟨g', cap', cur, h1, h2, h3, h4⟩
  · simp at h1
  · simp at h1; have := h1.2.1; have := h1.2.2; omega
theorem one_cells {xs : List Int} : ∀ u ∈ xs.map (Value.int .i64), u.oneCell' = true := fun u hu => by
  obtain ⟨x, _, rfl⟩ := List.mem_map.1 hu
  rfl
/-- The one cell of a block that has been laid for it. -/
theorem cell_one {w : World} {g : Nat} {v : Value} {t : TypeId} (h : w.heap[g]? = some (.cells #[v] t (0, 0))) (ad : Addr) (had : some (⟨g, 0, none⟩ : Addr) = some ad) (j : Nat) (u : Value) (hu : [v][j]? = some u) : w.cell? (ad.add j) = some u := by
  obtain rfl := Option.some.inj had
  match j, hu with
  | 0, hu =>
    simp at hu; subst hu
    rw [Addr.add_lit, Nat.zero_add, cell_of_heap h]; rfl

set_option maxRecDepth 100000 in
set_option maxHeartbeats 4000000 in
theorem pointsOf_any (g N : Nat) (p n : Int) (w : World) (hr : Rd w g N) (hN : N ≤ 800000) (hp : -1000 ≤ p ∧ p ≤ 1000) (hn : -1000 ≤ n ∧ n ≤ 1000) :
    Calls Tryz.prog 74 #[.pointer (some ⟨g, 0, none⟩), .int .i64 p, .int .i64 n] w fun e w' => PicksI g (N + 2100) w e w' (fun xs => (xs.length : Int) ≤ max n 0) := by
  have hg := hr.lt
  have HR := Lib.hid hr
  have HG := Lib.hid hg
  clear hr hg
  go_enter Tryz.func74, Tryz.ntmps74
  go_wp2_with fail
  go_loopw [7, 8] (fun t7 t8 wr => ∃ (x gb l c : Nat) (xs : List Int), t7 = .slice (some ⟨gb, 0, none⟩) l c ∧ t8 = .int .i64 x ∧ (x : Int) ≤ max p 0 ∧ (l : Int) ≤ max n 0 ∧ l ≤ c ∧ Hid (xs.length = l) ∧ Hid (Own wr 3 t7 (xs.map (Value.int .i64)) ∧ From w.heap.size t7 ∧ Rd wr g (N + 2 * x) ∧ Chg (· = g) w wr)) (fun _ t8 _ => (p - intOf t8).toNat)
  case atStart => exact ⟨0, w.heap.size, 0, 0, [], rfl, rfl, by omega, by omega, Nat.le_refl _, rfl, Own.empty _ _, From.new _ _ _, HR.out.new (New.alloc _ _), Chg.trans (New.alloc _ _) (Chg.refl (· = g) _) (fun _ _ x => x.elim) (fun _ _ x => x)⟩
  case round =>
    obtain ⟨x, gb, l, c, xs, rfl, rfl, hx, hl, hlc, HX, HO⟩ := hrel
    obtain ⟨wz, hwz⟩ : ∃ wz : World, wz = wr := ⟨_, rfl⟩
    rw [← hwz] at HO
    rw [← hwz]
    clear hwz
    have HGB := Lib.hid (show w.heap.size ≤ gb from HO.out.2.1 gb rfl)
    by_cases hxp : (x : Int) < p ∧ (l : Int) < n
    · obtain ⟨hxp, hln⟩ := hxp
      go_wp2_with fail
      refine (pick_any g (N + 2 * x) 4 _ HO.out.2.2.1 (by omega) (by omega)).mono ?_
      rintro e w1 ⟨z, rfl, hz, hr1, hc1⟩
      have hz0 := hz.1
      have H1 := Lib.hid (And.intro hr1 (And.intro (Chg.trans HO.out.2.2.2 hc1 (fun _ _ x => x) (fun _ _ x => x)) (HO.out.1.chg hc1 (fun g' h e => by have := HGB.out; have := HG.out; simp [Value.ownBlock] at h; omega))))
      clear hr1 hc1 hz
      by_cases hgo : 0 < z ∨ (¬ 0 < z ∧ p - x ≤ n - l)
      · rcases hgo with hz1 | ⟨hz1, hle⟩
        all_goals go_wp2_with fail
        all_goals refine (pick_any g (N + 2 * x + 1) (l + 1) _ H1.out.1 (by omega) (by omega)).mono ?_
        all_goals rintro e w2 ⟨k, rfl, hk, hr2, hc2⟩
        all_goals have hk0 := hk.1
        all_goals have hk1 := hk.2.1 (by omega)
        all_goals obtain ⟨k, rfl⟩ : ∃ i : Nat, k = i := ⟨k.toNat, by omega⟩
        all_goals have hkl : k ≤ l := by omega
        all_goals have HO2 := Lib.hid (H1.out.2.2.chg hc2 (fun g' h e => by have := HGB.out; have := HG.out; simp [Value.ownBlock] at h; omega))
        all_goals have H2 := Lib.hid (And.intro hr2 (Chg.trans H1.out.2.1 hc2 (fun _ _ x => x) (fun _ _ x => x)))
        all_goals have HGB2 := Lib.hid (show gb < w2.heap.size from HO2.out.lt rfl)
        all_goals clear hr2 hc2 hk
        all_goals have hkc : k ≤ c := by omega
        all_goals have hA : ∃ A, (if c = k then some (⟨gb, 0, none⟩ : Addr) else some ⟨gb, k, none⟩) = A := ⟨_, rfl⟩
        all_goals obtain ⟨A, hA⟩ := hA
        all_goals have HA := Lib.hid hA.symm
        all_goals have HN1 := Lib.hid (show ∀ o, New w2 (w2.alloc o).drew from fun o => (New.alloc _ _).trans (New.drew _))
        all_goals have HN2 := Lib.hid (show ∀ o o', New w2 ((w2.alloc o).alloc o').drew from fun o o' => ((New.alloc _ _).trans (New.alloc _ _)).trans (New.drew _))
        all_goals have HB1 := Lib.hid (show ((w2.alloc (.cells #[] 3)).alloc (.cells #[.int .i64 x] 3)).drew.heap[w2.heap.size + 1]? = some (.cells #[.int .i64 x] 3 (0, 0)) from by have := heap_alloc_new (w2.alloc (.cells #[] 3)) (.cells #[.int .i64 x] 3); rw [World.size_alloc] at this; exact this)
        all_goals have HB2 := Lib.hid (show ((w2.alloc (.cells #[.int .i64 x] 3)).alloc (.cells #[] 3)).drew.heap[w2.heap.size]? = some (.cells #[.int .i64 x] 3 (0, 0)) from (New.alloc _ _).heapAt (heap_alloc_new _ _) (fun h => h))
        all_goals have HE3 := Lib.hid (show Own ((w2.alloc (.cells #[.int .i64 x] 3)).alloc (.cells #[] 3)).drew 3 (.slice (some ⟨w2.heap.size + 1, 0, none⟩) 0 0) [] from by have := (Own.empty (w2.alloc (.cells #[.int .i64 x] 3)) 3).new (New.drew _); rw [World.size_alloc] at this; exact this)
        all_goals go_wp2_with fail
        all_goals go_region_law (first
          | (refine step_app rfl (.tmp 40) (.tmp 43) _ rfl tyInt (xs := []) ?hv rfl (some ⟨gb, 0, none⟩) k c ((xs.map (Value.int .i64)).take k) rfl ?hl ?hnil ?hnews ?h1 ?hb ?_
             case hv => first | exact (Own.empty w2 _).new (New.drew _) | exact ((Own.empty w2 _).new (New.alloc _ _)).new (New.drew _) | exact HE3.out
             case hl => rw [List.length_take, List.length_map, HX.out]; omega
             case hnil => intro h; cases h
             case hnews => exact own_take (by first | exact HO2.out.new (HN1.out _) | exact HO2.out.new (HN2.out _ _)) k
             case h1 => exact fun u hu => one_cells u (List.mem_of_mem_take hu)
             case hb => simp; omega
             intro v4 w4 k1 k2 k3
             obtain ⟨a4, l4, c4, rfl, HL4, hl4, _⟩ := k1.opened (by simp [Mid]; omega)
             have N4 : New w2 w4 := New.then (by first | exact HN1.out _ | exact HN2.out _ _) k2 (fun i hi => by first | exact Nat.le_of_eq (Option.some.inj hi) | exact Nat.le_trans (Nat.le_succ _) (Nat.le_of_eq (Option.some.inj hi)))
             have F4 : From w2.heap.size (.slice a4 l4 c4) := fun b hb => by
               rcases k3 b hb with h | h
               · first | exact Nat.le_of_eq (Option.some.inj h) | exact Nat.le_trans (Nat.le_succ _) (Nat.le_of_eq (Option.some.inj h))
               · simp at h; omega
             have K4 := Lib.hid (And.intro k1 (And.intro N4 (And.intro F4 k2)))
             clear k1 k2 k3 N4 F4)
          | (refine step_app rfl (.tmp 44) (.tmp 46) _ rfl tyInt (xs := (xs.map (Value.int .i64)).take k) ?hv rfl (some ⟨_, 0, none⟩) 1 1 [Value.int .i64 x] rfl rfl ?hnil ?hnews ?h1 ?hb ?_
             case hv => first | exact K4.out.1 | exact K4.out.1.new (New.alloc _ _)
             case hnil => intro h; cases h
             case hnews => first | exact cell_one (heap_alloc_new _ _) | exact cell_one (K4.out.2.2.2.heapAt HB1.out (fun h => Nat.ne_of_lt (Nat.lt_succ_self _) (Option.some.inj h))) | exact cell_one (K4.out.2.2.2.heapAt HB2.out (fun h => Nat.ne_of_gt (Nat.lt_succ_self _) (Option.some.inj h)))
             case h1 => intro u hu; simp at hu; subst hu; rfl
             case hb => simp; omega
             intro v5 w5 k1 k2 k3
             obtain ⟨a5, l5, c5, rfl, HL5, hl5, _⟩ := k1.opened (by simp [Mid]; omega)
             have N5 : New w2 w5 := New.then (by first | exact K4.out.2.1 | exact K4.out.2.1.trans (New.alloc _ _)) k2 (fun i hi => K4.out.2.2.1 i hi)
             have F5 : From w2.heap.size (.slice a5 l5 c5) := fun b hb => by
               rcases k3 b hb with h | h
               · exact K4.out.2.2.1 b h
               · have := K4.out.2.1.size; first | omega | (simp at h; omega)
             have K5 := Lib.hid (And.intro k1 (And.intro N5 F5))
             clear k1 k2 k3 N5 F5)
          | (refine step_app rfl (.tmp 47) (.tmp 50) _ rfl tyInt (xs := (xs.map (Value.int .i64)).take k ++ [Value.int .i64 x]) K5.out.1 rfl A (l - k) (c - k) ((xs.map (Value.int .i64)).drop k) ?hx ?hl ?hnil ?hnews ?h1 ?hb ?_
             case hx => rw [HA.out]; rfl
             case hl => rw [List.length_drop, List.length_map, HX.out]
             case hnil => rw [HA.out]; intro h; split at h <;> cases h
             case hnews => exact own_drop (HO2.out.new K5.out.2.1) k A HA.out
             case h1 => exact fun u hu => one_cells u (List.mem_of_mem_drop hu)
             case hb => simp; omega
             intro v6 w6 k1 k2 k3
             obtain ⟨a6, l6, c6, rfl, HL6, hl6, _⟩ := k1.opened (by have := HX.out; simp [Mid]; omega)
             obtain ⟨g6, rfl⟩ := k1.head (i := 0) (by simp; omega)
             have N6 : New w2 w6 := New.then K5.out.2.1 k2 (fun i hi => K5.out.2.2 i hi)
             have F6 : From w2.heap.size (.slice (some ⟨g6, 0, none⟩) l6 c6) := fun b hb => by
               rcases k3 b hb with h | h
               · exact K5.out.2.2 b h
               · have := K5.out.2.1.size; omega
             have hc6 := own_cap k1
             obtain rfl : l6 = l + 1 := by rw [HL6.out]; have := HX.out; simp; omega
             have HLN := Lib.hid (show (xs.take k ++ [(x : Int)] ++ xs.drop k).length = l + 1 from by have := HX.out; simp; omega)
             have K6 := Lib.hid (show Own w6 3 (.slice (some ⟨g6, 0, none⟩) (l + 1) c6) ((xs.take k ++ [(x : Int)] ++ xs.drop k).map (Value.int .i64)) ∧ From w.heap.size (.slice (some ⟨g6, 0, none⟩) (l + 1) c6) ∧ Rd w6 g (N + 2 * x + 1 + 1) ∧ Chg (· = g) w w6 from ⟨by rw [List.map_append, List.map_append, List.map_take, List.map_drop]; exact k1, F6.mono H2.out.2.size, H2.out.1.new N6, Chg.trans H2.out.2 N6 (fun _ _ x => x) (fun _ _ x => x.elim)⟩)
             clear k1 k2 k3 N6 F6))
        all_goals go_wp2_with fail
        all_goals go_roundw
        all_goals first
          | exact ⟨x + 1, g6, l + 1, c6, xs.take k ++ [(x : Int)] ++ xs.drop k, rfl, by go_num, by omega, by omega, hc6, HLN.out, K6.out.1, K6.out.2.1, K6.out.2.2.1.mono (by omega), K6.out.2.2.2⟩
          | (simp [intOf]; omega)
      · have hz1 : ¬ 0 < z := fun h => hgo (.inl h)
        have hle : ¬ p - x ≤ n - l := fun h => hgo (.inr ⟨hz1, h⟩)
        go_wp2_with fail
        go_roundw
        case rel => exact ⟨x + 1, gb, l, c, xs, rfl, by go_num, by omega, by omega, hlc, HX.out, H1.out.2.2, HO.out.2.1, H1.out.1.mono (by omega), H1.out.2.1⟩
        case measure => simp [intOf]; omega
    · have hl7 : l ≤ 1000 := by omega
      by_cases hxp1 : (x : Int) < p
      · have hln1 : ¬ (l : Int) < n := fun h => hxp ⟨hxp1, h⟩
        by_cases hl0 : 0 < l
        · have hl1 : l - 1 < l := by omega
          have hl1' : 1 ≤ l := by omega
          go_wp2_with fail
          refine (pick_any g (N + 2 * x) 24 _ HO.out.2.2.1 (by omega) (by omega)).mono ?_
          rintro e w1 ⟨z, rfl, hz, hr1, hc1⟩
          have H1 := Lib.hid (And.intro hr1 (And.intro (Chg.trans HO.out.2.2.2 hc1 (fun _ _ x => x) (fun _ _ x => x)) (HO.out.1.chg hc1 (fun g' h e => by have := HGB.out; have := HG.out; simp [Value.ownBlock] at h; omega))))
          clear hr1 hc1 hz
          by_cases hz0 : z = 0
          · subst hz0
            obtain ⟨cl, fl⟩ := H1.out.2.2.cell (i := l - 1) (by rw [List.length_map, HX.out]; exact hl1)
            rw [gv_map_int (by rw [HX.out]; exact hl1)] at cl
            go_wp2_with fail
            refine (one_lit g (N + 2 * x + 1) (fun _ => True) [-1, p, gi xs (l - 1)] _ _ _ _ rfl rfl H1.out.1 (by omega) (by simp) (by simp) (fun _ _ => trivial)).mono ?_
            rintro e w2 ⟨y, rfl, -, hr2, hc2⟩
            have ho2 := H1.out.2.2.chg hc2 (fun g' h e => by have := HGB.out; have := HG.out; simp [Value.ownBlock] at h; omega)
            obtain ⟨cl2, fl2⟩ := ho2.cell (i := 0) (by rw [List.length_map, HX.out]; exact hl0)
            have H2 := Lib.hid (And.intro hr2 (And.intro (Chg.trans H1.out.2.1 hc2 (fun _ _ x => x) (fun _ _ x => x)) ho2))
            clear hr2 hc2 ho2 cl fl
            go_wp2_with fail
            go_ret
            have hst := H2.out.2.2.set 0 (.int .i64 y)
            rw [set_map_int] at hst
            exact ⟨_, xs.set 0 y, rfl, hst, HO.out.2.1, (show ((xs.set 0 y).length : Int) ≤ max n 0 by rw [List.length_set, HX.out]; omega), (H2.out.1.chg (Chg.setCell w2 ⟨gb, 0, none⟩ _) (fun k hk => by have := HGB.out; have := HG.out; simp at hk; omega)).mono (by omega), Chg.trans H2.out.2.1 (Chg.setCell w2 ⟨gb, 0, none⟩ _) (fun _ _ x => x) (fun i hi h => by have := HGB.out; simp at h; omega)⟩
          · have hzd : (z == 0) = false := by simp; omega
            go_wp2_with fail
            go_ret
            exact ⟨_, xs, rfl, H1.out.2.2, HO.out.2.1, (show (xs.length : Int) ≤ max n 0 by rw [HX.out]; omega), H1.out.1.mono (by omega), H1.out.2.1⟩
        · obtain rfl : l = 0 := by omega
          go_wp2_with fail
          go_ret
          exact ⟨_, xs, rfl, HO.out.1, HO.out.2.1, (show (xs.length : Int) ≤ max n 0 by rw [HX.out]; omega), HO.out.2.2.1.mono (by omega), HO.out.2.2.2⟩
      · clear hxp
        by_cases hl0 : 0 < l
        · have hl1 : l - 1 < l := by omega
          have hl1' : 1 ≤ l := by omega
          go_wp2_with fail
          refine (pick_any g (N + 2 * x) 24 _ HO.out.2.2.1 (by omega) (by omega)).mono ?_
          rintro e w1 ⟨z, rfl, hz, hr1, hc1⟩
          have H1 := Lib.hid (And.intro hr1 (And.intro (Chg.trans HO.out.2.2.2 hc1 (fun _ _ x => x) (fun _ _ x => x)) (HO.out.1.chg hc1 (fun g' h e => by have := HGB.out; have := HG.out; simp [Value.ownBlock] at h; omega))))
          clear hr1 hc1 hz
          by_cases hz0 : z = 0
          · subst hz0
            obtain ⟨cl, fl⟩ := H1.out.2.2.cell (i := l - 1) (by rw [List.length_map, HX.out]; exact hl1)
            rw [gv_map_int (by rw [HX.out]; exact hl1)] at cl
            go_wp2_with fail
            refine (one_lit g (N + 2 * x + 1) (fun _ => True) [-1, p, gi xs (l - 1)] _ _ _ _ rfl rfl H1.out.1 (by omega) (by simp) (by simp) (fun _ _ => trivial)).mono ?_
            rintro e w2 ⟨y, rfl, -, hr2, hc2⟩
            have ho2 := H1.out.2.2.chg hc2 (fun g' h e => by have := HGB.out; have := HG.out; simp [Value.ownBlock] at h; omega)
            obtain ⟨cl2, fl2⟩ := ho2.cell (i := 0) (by rw [List.length_map, HX.out]; exact hl0)
            have H2 := Lib.hid (And.intro hr2 (And.intro (Chg.trans H1.out.2.1 hc2 (fun _ _ x => x) (fun _ _ x => x)) ho2))
            clear hr2 hc2 ho2 cl fl
            go_wp2_with fail
            go_ret
            have hst := H2.out.2.2.set 0 (.int .i64 y)
            rw [set_map_int] at hst
            exact ⟨_, xs.set 0 y, rfl, hst, HO.out.2.1, (show ((xs.set 0 y).length : Int) ≤ max n 0 by rw [List.length_set, HX.out]; omega), (H2.out.1.chg (Chg.setCell w2 ⟨gb, 0, none⟩ _) (fun k hk => by have := HGB.out; have := HG.out; simp at hk; omega)).mono (by omega), Chg.trans H2.out.2.1 (Chg.setCell w2 ⟨gb, 0, none⟩ _) (fun _ _ x => x) (fun i hi h => by have := HGB.out; simp at h; omega)⟩
          · have hzd : (z == 0) = false := by simp; omega
            go_wp2_with fail
            go_ret
            exact ⟨_, xs, rfl, H1.out.2.2, HO.out.2.1, (show (xs.length : Int) ≤ max n 0 by rw [HX.out]; omega), H1.out.1.mono (by omega), H1.out.2.1⟩
        · obtain rfl : l = 0 := by omega
          go_wp2_with fail
          go_ret
          exact ⟨_, xs, rfl, HO.out.1, HO.out.2.1, (show (xs.length : Int) ≤ max n 0 by rw [HX.out]; omega), HO.out.2.2.1.mono (by omega), HO.out.2.2.2⟩
end Go.Proofs.YtcdbeepphdfipaaGreatDoor

namespace Go.Proofs.YtcdbeepphdfipaaGreatDoor
open Go.RowKit
set_option linter.unusedVariables false

/-- Some rows, few, with some numbers each. -/
def RowsQ (out : List (List Int)) : Prop := (1 ≤ out.length ∧ out.length ≤ 7) ∧ ∀ i, i < out.length → (1 ≤ (gr out i).length ∧ (gr out i).length ≤ 7) ∧ (gr out i).length = (gr out 0).length
/-- It ends with a code of its own and an answer; if that is yes, it has some rows. -/
def GivesG (p : Int) (w : World) (e : Ending) (w' : World) : Prop :=
  ∃ a l c vs out p' b, e = .returned (.tuple #[.agg #[.int .i64 p', .slice a l c], .bool b]) ∧ (b = true → p' = p ∧ RowsQ out ∧ OwnR w' 53 3 (.slice a l c) vs out ∧ FromR w.heap.size (.slice a l c) vs out) ∧ New w w'

theorem own_ne_blk2 {w : World} {e t : TypeId} {v x y : Value} {xs : List Value} {g : Nat} (h : Own w e v xs) (hb : Blk2 w g x y t) (hne : e ≠ t) : ∀ b, v.ownBlock = some b → ¬ b = g := by
  intro b hv e1
  subst e1
  rcases h with ⟨rfl, _⟩ | ⟨g1, c1, cur1, rfl, hh1, _⟩
  · simp [Value.ownBlock] at hv
  · simp [Value.ownBlock] at hv
    subst hv
    rw [show w.heap[g1]? = some (.cells #[x, y] t (0, 0)) from hb] at hh1
    simp at hh1
    exact hne hh1.2.symm
theorem Blk2.set1 {w : World} {g : Nat} {a b : Value} {t : TypeId} (h : Blk2 w g a b t) (y : Value) : Blk2 (w.setCell ⟨g, 1, none⟩ y) g a y t := by
  have h' : w.heap[g]? = some (.cells #[a, b] t (0, 0)) := h
  simp [Blk2, World.setCell, Array.getElem?_modify, h']
theorem Blk2.set0 {w : World} {g : Nat} {a b : Value} {t : TypeId} (h : Blk2 w g a b t) (y : Value) : Blk2 (w.setCell ⟨g, 0, none⟩ y) g y b t := by
  have h' : w.heap[g]? = some (.cells #[a, b] t (0, 0)) := h
  simp [Blk2, World.setCell, Array.getElem?_modify, h']

/-- A number is laid behind those of a list of one's own, that is new. -/
theorem grow0 {w w1 w2 : World} {v v2 : Value} {xs : List Int} {x : Int} (hf : From w.heap.size v) (hC : New w w1)
    (k1 : Own w2 3 v2 (xs.map (Value.int .i64) ++ [Value.int .i64 x])) (k2 : Chg (fun k => v.ownBlock = some k) w1 w2) (k3 : ∀ g', v2.ownBlock = some g' → v.ownBlock = some g' ∨ w1.heap.size ≤ g') :
    Own w2 3 v2 ((xs ++ [x]).map (Value.int .i64)) ∧ From w.heap.size v2 ∧ New w w2 :=
  ⟨by rw [List.map_append]; exact k1, fun g' h => by
    rcases k3 g' h with c | c
    · exact hf g' c
    · exact Nat.le_trans hC.size c, hC.then k2 (fun i hi => hf i hi)⟩
theorem Blk2.lt {w : World} {g : Nat} {a b : Value} {t : TypeId} (h : Blk2 w g a b t) : g < w.heap.size := (Array.getElem?_eq_some_iff.1 h).1

set_option maxRecDepth 100000 in
set_option maxHeartbeats 4000000 in
theorem powersOf_some (p k : Int) (v : Value) (xs : List Int) (w : World) (hx : IsI w v xs) :
    Calls Tryz.prog 73 #[.int .i64 p, v, .int .i64 k] w fun e w' => GivesG p w e w' := by
  obtain ⟨ao, n, cap, rfl, HN0, hn⟩ := hx.shape
  have HX := Lib.hid hx
  clear hx
  have r0 := Blk2.alloc w (.int .i64 0) (.slice none 0 0) 24
  have n0 := New.alloc w (.cells #[.int .i64 0, .slice none 0 0] 24)
  obtain ⟨w0, hw0⟩ : ∃ w0, w0 = w.alloc (.cells #[.int .i64 0, .slice none 0 0] 24) := ⟨_, rfl⟩
  rw [← hw0] at r0 n0
  have HW0 := Lib.hid hw0
  clear hw0
  have fin : ∀ wq : World, New w wq → Blk2 wq w.heap.size (.int .i64 0) (.slice none 0 0) 24 → GivesG p w (.returned (.tuple #[.agg #[.int .i64 0, .slice none 0 0], .bool false])) ((wq.setCell ⟨w.heap.size, 0, none⟩ (.int .i64 0)).setCell ⟨w.heap.size, 1, none⟩ (.slice none 0 0)) := fun wq h1 h2 =>
    ⟨none, 0, 0, [], [], 0, false, rfl, (fun h => by cases h), h1.then (h2.put _ _).2.2 (fun i hi => by omega)⟩
  have FIN := Lib.hid fin
  clear fin
  obtain ⟨d0, d1, f0, f1⟩ := r0.cells
  go_enter Tryz.func73, Tryz.ntmps73
  cases hp : prB p with
  | false =>
    have HP := Lib.hid hp
    clear hp
    go_wp2_with (first | (go_at_call 105; refine (isPrime_any _ _).mono ?_; rintro e w' ⟨rfl, rfl⟩; rw [HP.out, ← HW0.out]))
    obtain ⟨x0, x1, hx⟩ := r0.put (.int .i64 0) (.slice none 0 0)
    refine bodyPost_ret (v := .tuple #[.agg #[.int .i64 0, .slice none 0 0], .bool false]) (by simp [results, go_sem, x0, x1]) rfl ?_
    exact FIN.out _ n0 r0
  | true =>
    have hpb := prB_bounds hp
    have HP := Lib.hid hp
    clear hp
    cases hi1 : inB k 1 4 with
    | false =>
      have HI1 := Lib.hid hi1
      have HI2 := HI1
      clear hi1
      go_wp2_with (first | (go_at_call 105; refine (isPrime_any _ _).mono ?_; rintro e w' ⟨rfl, rfl⟩; rw [HP.out, ← HW0.out]) | (go_at_call 106; refine (inRange_any _ _ _ _).mono ?_; rintro e w' ⟨rfl, rfl⟩; first | rw [HI1.out] | rw [HI2.out]))
      obtain ⟨x0, x1, hx⟩ := r0.put (.int .i64 0) (.slice none 0 0)
      refine bodyPost_ret (v := .tuple #[.agg #[.int .i64 0, .slice none 0 0], .bool false]) (by simp [results, go_sem, x0, x1]) rfl ?_
      exact FIN.out _ n0 r0
    | true =>
      have hk := inB_iff.1 hi1
      have HI1 := Lib.hid hi1
      clear hi1
      cases hi2 : inB n k 7 with
      | false =>
        have HI2 := Lib.hid hi2
        clear hi2
        go_wp2_with (first | (go_at_call 105; refine (isPrime_any _ _).mono ?_; rintro e w' ⟨rfl, rfl⟩; rw [HP.out, ← HW0.out]) | (go_at_call 106; refine (inRange_any _ _ _ _).mono ?_; rintro e w' ⟨rfl, rfl⟩; first | rw [HI1.out] | rw [HI2.out]))
        obtain ⟨x0, x1, hx⟩ := r0.put (.int .i64 0) (.slice none 0 0)
        refine bodyPost_ret (v := .tuple #[.agg #[.int .i64 0, .slice none 0 0], .bool false]) (by simp [results, go_sem, x0, x1]) rfl ?_
        exact FIN.out _ n0 r0
      | true =>
        have hnk := inB_iff.1 hi2
        have HI2 := Lib.hid hi2
        clear hi2
        go_wp2_with (first | (go_at_call 105; refine (isPrime_any _ _).mono ?_; rintro e w' ⟨rfl, rfl⟩; rw [HP.out, ← HW0.out]) | (go_at_call 106; refine (inRange_any _ _ _ _).mono ?_; rintro e w' ⟨rfl, rfl⟩; first | rw [HI1.out] | rw [HI2.out]))
        refine (different_any p _ xs _ (by omega) (HX.out.new n0)).mono ?_
        rintro e w1 ⟨b, rfl, hb, hn1⟩
        have r1 := r0.new hn1
        have n1 := n0.trans hn1
        obtain ⟨g0, g1, k0, k1⟩ := r1.cells
        clear d0 d1 f0 f1 hn1 HI1 HI2
        cases b with
        | false =>
          go_wp2_with fail
          obtain ⟨x0, x1, hx⟩ := r1.put (.int .i64 0) (.slice none 0 0)
          refine bodyPost_ret (v := .tuple #[.agg #[.int .i64 0, .slice none 0 0], .bool false]) (by simp [results, go_sem, x0, x1]) rfl ?_
          exact FIN.out _ n1 r1
        | true =>
          obtain ⟨k, rfl⟩ : ∃ i : Nat, k = i := ⟨k.toNat, by omega⟩
          have HB := Lib.hid (hb rfl)
          have HR1 := Lib.hid (And.intro r1 n1)
          have hsz := Blk2.lt r1
          clear hb r1 n1 r0 n0 g0 g1 k0 k1
          go_wp2_with fail
          have r2 := HR1.out.1.new (New.alloc w1 (.cells #[.int .i64 p, .slice none 0 0] 24))
          have c2 := Blk2.alloc w1 (.int .i64 p) (.slice none 0 0) 24
          go_loopw [9] (fun t9 wr => ∃ (i : Nat) (a : Option Addr) (l c : Nat) (vs : List Value) (out : List (List Int)), t9 = .int .i64 i ∧ i ≤ k ∧ Hid (out.length = i ∧ ∀ j, j < out.length → (gr out j).length = n) ∧ Hid (OwnR wr 53 3 (.slice a l c) vs out ∧ FromR w.heap.size (.slice a l c) vs out ∧ New w wr) ∧ Hid (Blk2 wr w.heap.size (.int .i64 0) (.slice none 0 0) 24) ∧ Hid (Blk2 wr w1.heap.size (.int .i64 p) (.slice a l c) 24)) (fun t9 _ => k - (intOf t9).toNat)
          case atStart => exact ⟨0, none, 0, 0, [], [], rfl, Nat.zero_le _, ⟨rfl, fun j hj => by simp at hj⟩, ⟨⟨Own.nil _ _, rfl, fun i hi => by simp at hi, fun i j hi => by simp at hi⟩, ⟨fun g hg => by simp [Value.ownBlock] at hg, fun i hi => by simp at hi⟩, HR1.out.2.trans (New.alloc _ _)⟩, r2, c2⟩
          case round =>
            obtain ⟨i, a, l, c, vs, out, rfl, hi, HL, HO, HA, HC⟩ := hrel
            clear r2 c2
            obtain ⟨wz, hwz⟩ : ∃ wz : World, wz = wr := ⟨_, rfl⟩
            rw [← hwz] at HO HA HC
            rw [← hwz]
            clear hwz
            obtain ⟨p0, p1, p2, p3⟩ := HC.out.cells
            obtain ⟨q0, q1, q2, q3⟩ := HA.out.cells
            have HV := Lib.hid (show vs.length = i by rw [HO.out.1.len, HL.out.1])
            by_cases hik : i < k
            · go_wp2_with fail
              go_loopw [10, 11] (fun t10 t11 wr => ∃ (j : Nat) (ys : List Int), t11 = .int .i64 j ∧ j ≤ n ∧ Hid (ys.length = j) ∧ Own wr 3 t10 (ys.map (Value.int .i64)) ∧ From wz.heap.size t10 ∧ Hid (New wz wr)) (fun _ t11 _ => n - (intOf t11).toNat)
              case atStart => exact ⟨0, [], rfl, Nat.zero_le _, rfl, Own.empty _ _, From.new _ _ _, New.alloc _ _⟩
              case round =>
                obtain ⟨j, ys, rfl, hj, HY, hown, hfrom, HN⟩ := hrel
                obtain ⟨wy, hwy⟩ : ∃ wy : World, wy = wr := ⟨_, rfl⟩
                rw [← hwy] at hown HN
                rw [← hwy]
                clear hwy
                obtain ⟨a1, l1, c1, rfl, HL1, hl1, _⟩ := hown.opened (by rw [List.length_map, HY.out]; unfold Mid; omega)
                have hlj : l1 = j := by rw [HL1.out, List.length_map, HY.out]
                subst hlj
                have HOW := Lib.hid (And.intro hown hfrom)
                clear hown hfrom
                by_cases hjn : l1 < n
                · obtain ⟨b, o, rfl, ck⟩ := (HX.out.new (HO.out.2.2.trans HN.out)).at hjn
                  have HBJ := Lib.hid (HB.out l1 (by rw [← HN0.out]; exact hjn))
                  go_wp2_with fail
                  refine (powerBy_any p (gi xs l1) i _ (by omega) HBJ.out (by omega)).mono ?_
                  rintro e w' ⟨y, rfl, hy, rfl⟩
                  clear hy
                  go_wp2_with (at_builtin; refine wpList_app1 rfl _ _ _ rfl tyInt wy HOW.out.1 rfl _ _ rfl rfl rfl (by rw [List.length_map, HY.out]; omega) ?_; intro v4 w4 k1 k2 k3; have K4 := Lib.hid (And.intro k1 (And.intro k2 k3)); clear k1 k2 k3)
                  obtain ⟨m1, m2, m3⟩ := grow0 HOW.out.2 HN.out K4.out.1 K4.out.2.1 K4.out.2.2
                  go_roundw
                  case rel => exact ⟨l1 + 1, ys ++ [y], by go_num, by omega, by rw [List.length_append, HY.out]; rfl, m1, m2, m3⟩
                  case measure => simp [intOf]; omega
                · obtain rfl : l1 = n := by omega
                  have HCY := Lib.hid (HC.out.new HN.out)
                  have HAY := Lib.hid (HA.out.new HN.out)
                  obtain ⟨p0, p1, p2, p3⟩ := HCY.out.cells
                  obtain ⟨q0, q1, q2, q3⟩ := HAY.out.cells
                  go_wp2_with (at_builtin; refine wpList_app1 rfl _ _ _ rfl tyRow wy (HO.out.1.outer.new HN.out) rfl _ _ rfl rfl rfl (by rw [HV.out]; omega) ?_; intro v5 w5 k1 k2 k3; obtain ⟨a5, l5, c5, rfl, HL5, _, _⟩ := k1.opened (by rw [List.length_append, HV.out]; unfold Mid; simp; omega); obtain ⟨u0, u1, u2, u3⟩ := (HCY.out.chg k2 (fun e => own_ne_blk2 HO.out.1.outer HC.out (by decide) _ e rfl)).cells; have K5 := Lib.hid (And.intro k1 (And.intro k2 k3)); clear k1 k2 k3)
                  obtain ⟨m1, m2, m3⟩ := OwnR.push HO.out.1 HO.out.2.1 HO.out.2.2.size HN.out HOW.out.1 HOW.out.2 K5.out.1 K5.out.2.1 K5.out.2.2
                  have hb5 := HCY.out.chg K5.out.2.1 (fun e => own_ne_blk2 HO.out.1.outer HC.out (by decide) _ e rfl)
                  have ha5 := HAY.out.chg K5.out.2.1 (fun e => own_ne_blk2 HO.out.1.outer HA.out (by decide) _ e rfl)
                  have hc5 : Chg (· = w1.heap.size) w5 (w5.setCell ⟨w1.heap.size, 1, none⟩ (.slice a5 l5 c5)) := Chg.setCell w5 ⟨w1.heap.size, 1, none⟩ _
                  go_roundw
                  case rel => exact ⟨i + 1, a5, l5, c5, _, out ++ [ys], by go_num, by omega, ⟨by rw [List.length_append, HL.out.1]; rfl, fun j hj => by
                    rw [List.length_append, List.length_singleton, HL.out.1] at hj
                    by_cases e : j < out.length
                    · rw [gr_snoc_lt e]; exact HL.out.2 j e
                    · rw [gr_snoc_eq (by rw [HL.out.1] at e ⊢; omega)]; exact HY.out⟩,
                    ⟨m1.chg hc5 (own_ne_blk2 m1.outer hb5 (by decide)) (fun i hi => own_ne_blk2 (m1.inner i hi) hb5 (by decide)), m2, HO.out.2.2.then (Chg.trans m3 hc5 (fun i hi x => Or.inl x) (fun i hi x => Or.inr x) (U := fun i => (Value.slice a l c).ownBlock = some i ∨ i = w1.heap.size)) (fun i hi => by
                      rcases hi with h | h
                      · exact HO.out.2.1.1 i h
                      · have := HR1.out.2.size; omega)⟩, ha5.chg hc5 (fun e => by omega), hb5.set1 _⟩
                  case measure => simp [intOf]; omega
            · obtain rfl : i = k := by omega
              go_wp2_with fail
              obtain ⟨x0, x1, hx⟩ := HA.out.put (.int .i64 p) (.slice a l c)
              refine bodyPost_ret (v := .tuple #[.agg #[.int .i64 p, .slice a l c], .bool true]) (by simp [results, go_sem, x0, x1]) rfl ?_
              exact ⟨a, l, c, vs, out, p, true, rfl, fun _ => ⟨rfl, ⟨by rw [HL.out.1]; omega, fun j hj => by have e1 := HL.out.2 j hj; have e0 := HL.out.2 0 (by omega); omega⟩, HO.out.1.chg hx (own_ne_blk2 HO.out.1.outer HA.out (by decide)) (fun i hi => own_ne_blk2 (HO.out.1.inner i hi) HA.out (by decide)), HO.out.2.1⟩, HO.out.2.2.then hx (fun i hi => by omega)⟩
end Go.Proofs.YtcdbeepphdfipaaGreatDoor

namespace Go.Proofs.YtcdbeepphdfipaaGreatDoor
open Go.RowKit
set_option linter.unusedVariables false

/-- append under a guard that is met. -/
theorem wpList_appW {P : Program} {w : World} {ops : Array Oper} {rest : List Oper} {o : Oper} {a : Act} {Q : Exit → Act → World → Prop} (hw : Region.wanted o (yielded ops a.tmps) = true) (s x : Operand) (t : TypeId)
    (ho : o.op = .call { callee := .builtin .append, args := #[s, x], argTypes := #[t, t] })
    {e : TypeId} {z : Value} (T : OneTy P t e z) {v : Value} {xs : List Value} (hv : Own w e v xs) (hs : a.eval s = v)
    (so : Option Addr) (m c : Nat) (news : List Value) (hx : a.eval x = .slice so m c) (hl : news.length = m) (hnil : so = none → m = 0 ∧ c = 0)
    (hnews : ∀ ad, so = some ad → ∀ j u, news[j]? = some u → w.cell? (ad.add j) = some u) (h1 : ∀ u ∈ news, u.oneCell' = true) (hb : xs.length + m ≤ 1099511627776)
    (h : ∀ v' w', Own w' e v' (xs ++ news) → Chg (fun k => v.ownBlock = some k) w w' → (∀ g, v'.ownBlock = some g → v.ownBlock = some g ∨ w.heap.size ≤ g) → wpList P ops Q rest (a.put o.dst v') w') :
    wpList P ops Q (o :: rest) a w := by
  refine wpList_step fun K hK => ?_
  rw [if_pos hw]
  obtain ⟨v', w', hr, h2, h3, h4⟩ := run_app (P := P) w (ty := o.type) T hv so m c news hl hnil hnews h1 hb
  unfold Oper.wp execOp
  simp only [ho, resolve, invoke, builtin, Sem.run_bind, Sem.run_pure, Result.andThen_ok, List.map_toArray, List.map_cons, List.map_nil, hs, hx, hr]
  exact hK _ _ (h v' w' h2 h3 h4)

set_option maxRecDepth 100000 in
set_option maxHeartbeats 4000000 in
theorem quotientsOf_some (p : Int) (v u : Value) (xs ys : List Int) (w : World) (hx : IsI w v xs) (hy : IsI w u ys) :
    Calls Tryz.prog 76 #[.int .i64 p, v, u] w fun e w' => GivesG p w e w' := by
  obtain ⟨ao, n, cap, rfl, HN0, hn⟩ := hx.shape
  obtain ⟨bo, m, cup, rfl, HM0, hm⟩ := hy.shape
  have HX := Lib.hid hx
  have HYY := Lib.hid hy
  clear hx hy
  have r0 := Blk2.alloc w (.int .i64 0) (.slice none 0 0) 24
  have n0 := New.alloc w (.cells #[.int .i64 0, .slice none 0 0] 24)
  obtain ⟨w0, hw0⟩ : ∃ w0, w0 = w.alloc (.cells #[.int .i64 0, .slice none 0 0] 24) := ⟨_, rfl⟩
  rw [← hw0] at r0 n0
  have HW0 := Lib.hid hw0
  clear hw0
  have fin : ∀ wq : World, New w wq → Blk2 wq w.heap.size (.int .i64 0) (.slice none 0 0) 24 → GivesG p w (.returned (.tuple #[.agg #[.int .i64 0, .slice none 0 0], .bool false])) ((wq.setCell ⟨w.heap.size, 0, none⟩ (.int .i64 0)).setCell ⟨w.heap.size, 1, none⟩ (.slice none 0 0)) := fun wq h1 h2 =>
    ⟨none, 0, 0, [], [], 0, false, rfl, (fun h => by cases h), h1.then (h2.put _ _).2.2 (fun i hi => by omega)⟩
  have FIN := Lib.hid fin
  clear fin
  obtain ⟨d0, d1, f0, f1⟩ := r0.cells
  go_enter Tryz.func76, Tryz.ntmps76
  cases hp : prB p with
  | false =>
    have HP := Lib.hid hp
    clear hp
    go_wp2_with (first | (go_at_call 105; refine (isPrime_any _ _).mono ?_; rintro e w' ⟨rfl, rfl⟩; rw [HP.out, ← HW0.out]))
    obtain ⟨x0, x1, hx⟩ := r0.put (.int .i64 0) (.slice none 0 0)
    refine bodyPost_ret (v := .tuple #[.agg #[.int .i64 0, .slice none 0 0], .bool false]) (by simp [results, go_sem, x0, x1]) rfl ?_
    exact FIN.out _ n0 r0
  | true =>
    have hpb := prB_bounds hp
    have HP := Lib.hid hp
    clear hp
    cases hi1 : inB n 1 4 with
    | false =>
      have HI1 := Lib.hid hi1
      have HI2 := HI1
      clear hi1
      go_wp2_with (first | (go_at_call 105; refine (isPrime_any _ _).mono ?_; rintro e w' ⟨rfl, rfl⟩; rw [HP.out, ← HW0.out]) | (go_at_call 106; refine (inRange_any _ _ _ _).mono ?_; rintro e w' ⟨rfl, rfl⟩; first | rw [HI1.out] | rw [HI2.out]))
      obtain ⟨x0, x1, hx⟩ := r0.put (.int .i64 0) (.slice none 0 0)
      refine bodyPost_ret (v := .tuple #[.agg #[.int .i64 0, .slice none 0 0], .bool false]) (by simp [results, go_sem, x0, x1]) rfl ?_
      exact FIN.out _ n0 r0
    | true =>
      have hk := inB_iff.1 hi1
      have HI1 := Lib.hid hi1
      clear hi1
      cases hi2 : inB m 1 (7 - n) with
      | false =>
        have HI2 := Lib.hid hi2
        clear hi2
        go_wp2_with (first | (go_at_call 105; refine (isPrime_any _ _).mono ?_; rintro e w' ⟨rfl, rfl⟩; rw [HP.out, ← HW0.out]) | (go_at_call 106; refine (inRange_any _ _ _ _).mono ?_; rintro e w' ⟨rfl, rfl⟩; first | rw [HI1.out] | rw [HI2.out]))
        obtain ⟨x0, x1, hx⟩ := r0.put (.int .i64 0) (.slice none 0 0)
        refine bodyPost_ret (v := .tuple #[.agg #[.int .i64 0, .slice none 0 0], .bool false]) (by simp [results, go_sem, x0, x1]) rfl ?_
        exact FIN.out _ n0 r0
      | true =>
        have hnk := inB_iff.1 hi2
        have HI2 := Lib.hid hi2
        clear hi2
        have HS1 := Lib.hid (HX.out.new (n0.trans (New.alloc w0 (.cells #[] 3)))).src
        go_wp2_with (first
          | (at_builtin; refine wpList_appW rfl (.tmp 32) (.tmp 33) _ rfl tyInt (Own.empty w0 3) rfl ao n cap (xs.map (Value.int .i64)) rfl HS1.out.1 HS1.out.2.1 HS1.out.2.2.1 HS1.out.2.2.2 (by simp; omega) ?_; intro v1 w1 k1 k2 k3; obtain ⟨a1, l1, c1, rfl, _, _, _⟩ := k1.opened (by rw [List.length_append, HS1.out.1]; unfold Mid; simp; omega); have N1 := Lib.hid (New.then (New.alloc w0 _) k2 (fun i hi => Nat.le_of_eq (Option.some.inj hi))); have K1 := Lib.hid (And.intro k1 (And.intro k2 k3)); have HS2 := Lib.hid (HYY.out.new (n0.trans N1.out)).src; clear k1 k2 k3)
          | (at_builtin; refine wpList_appW rfl (.tmp 34) (.tmp 35) _ rfl tyInt K1.out.1 rfl bo m cup (ys.map (Value.int .i64)) rfl HS2.out.1 HS2.out.2.1 HS2.out.2.2.1 HS2.out.2.2.2 (by rw [List.length_append, HS1.out.1]; simp; omega) ?_; intro v2 w2 k1 k2 k3; obtain ⟨a2, l2, c2, rfl, _, _, _⟩ := k1.opened (by rw [List.length_append, List.length_append, HS1.out.1, HS2.out.1]; unfold Mid; simp; omega); have N2 := Lib.hid (New.then N1.out k2 (fun i hi => by
              rcases K1.out.2.2 i hi with h | h
              · exact Nat.le_of_eq (Option.some.inj h)
              · simp at h; omega)); have K2 := Lib.hid (And.intro k1 (And.intro k2 k3)); clear k1 k2 k3)
          | (first | (go_at_call 105; refine (isPrime_any _ _).mono ?_; rintro e w' ⟨rfl, rfl⟩; rw [HP.out, ← HW0.out]) | (go_at_call 106; refine (inRange_any _ _ _ _).mono ?_; rintro e w' ⟨rfl, rfl⟩; first | rw [HI1.out] | rw [HI2.out])))
        have hi2 : IsI w2 (.slice a2 l2 c2) (xs ++ ys) := Own.isI (e := 3) (by rw [List.map_append]; simpa using K2.out.1) (by have := HN0.out; have := HM0.out; unfold Mid; rw [List.length_append]; omega)
        refine (different_any p _ (xs ++ ys) _ (by omega) hi2).mono ?_
        rintro e w3 ⟨b, rfl, hb, hn1⟩
        have r1 := r0.new (N2.out.trans hn1)
        have n1 := n0.trans (N2.out.trans hn1)
        obtain ⟨g0, g1, k0, k1⟩ := r1.cells
        clear d0 d1 f0 f1 hn1 HI1 HI2 hi2 K1 K2 HS1 HS2
        cases b with
        | false =>
          go_wp2_with fail
          obtain ⟨x0, x1, hx⟩ := r1.put (.int .i64 0) (.slice none 0 0)
          refine bodyPost_ret (v := .tuple #[.agg #[.int .i64 0, .slice none 0 0], .bool false]) (by simp [results, go_sem, x0, x1]) rfl ?_
          exact FIN.out _ n1 r1
        | true =>
          have HB := Lib.hid (show (∀ j, j < n → 0 ≤ gi xs j ∧ gi xs j < p) ∧ ∀ j, j < m → 0 ≤ gi ys j ∧ gi ys j < p from ⟨fun j hj => by
            have := hb rfl j (by rw [List.length_append, ← HN0.out]; omega)
            rwa [gi_lt (by rw [List.length_append, ← HN0.out]; omega), List.getElem_append_left (by rw [← HN0.out]; exact hj), ← gi_lt] at this, fun j hj => by
            have := hb rfl (xs.length + j) (by rw [List.length_append, ← HM0.out]; omega)
            rwa [gi_lt (by rw [List.length_append, ← HM0.out]; omega), List.getElem_append_right (by omega), ← gi_lt, Nat.add_sub_cancel_left] at this⟩)
          have HR1 := Lib.hid (And.intro r1 n1)
          have hsz := Blk2.lt r1
          clear hb r1 n1 r0 n0 g0 g1 k0 k1
          go_wp2_with fail
          have r2 := HR1.out.1.new (New.alloc w3 (.cells #[.int .i64 p, .slice none 0 0] 24))
          have c2 := Blk2.alloc w3 (.int .i64 p) (.slice none 0 0) 24
          go_loopw [9] (fun t9 wr => ∃ (i : Nat) (a : Option Addr) (l c : Nat) (vs : List Value) (out : List (List Int)), t9 = .int .i64 i ∧ i ≤ n ∧ Hid (out.length = i ∧ ∀ j, j < out.length → (gr out j).length = n + m) ∧ Hid (OwnR wr 53 3 (.slice a l c) vs out ∧ FromR w.heap.size (.slice a l c) vs out ∧ New w wr) ∧ Hid (Blk2 wr w.heap.size (.int .i64 0) (.slice none 0 0) 24) ∧ Hid (Blk2 wr w3.heap.size (.int .i64 p) (.slice a l c) 24)) (fun t9 _ => n - (intOf t9).toNat)
          case atStart => exact ⟨0, none, 0, 0, [], [], rfl, Nat.zero_le _, ⟨rfl, fun j hj => by simp at hj⟩, ⟨⟨Own.nil _ _, rfl, fun i hi => by simp at hi, fun i j hi => by simp at hi⟩, ⟨fun g hg => by simp [Value.ownBlock] at hg, fun i hi => by simp at hi⟩, HR1.out.2.trans (New.alloc _ _)⟩, r2, c2⟩
          case round =>
            obtain ⟨i, a, l, c, vs, out, rfl, hi, HL, HO, HA, HC⟩ := hrel
            clear r2 c2
            obtain ⟨wz, hwz⟩ : ∃ wz : World, wz = wr := ⟨_, rfl⟩
            rw [← hwz] at HO HA HC
            rw [← hwz]
            clear hwz
            obtain ⟨p0, p1, p2, p3⟩ := HC.out.cells
            obtain ⟨q0, q1, q2, q3⟩ := HA.out.cells
            have HV := Lib.hid (show vs.length = i by rw [HO.out.1.len, HL.out.1])
            by_cases hik : i < n
            · go_wp2_with (at_make; refine wpList_mk rfl _ _ _ rfl tyInt _ _ _ _ n n rfl rfl rfl rfl (Nat.le_refl _) hn ?_; intro v4 w4 hv4 ho4 hn4 hs4; subst hv4; obtain ⟨u0, u1⟩ := ho4.cell (i := i) (by rw [List.length_replicate]; exact hik); have HO4 := Lib.hid ho4; have HN4 := Lib.hid hn4; clear ho4 hn4 hs4)
              go_loopw [10, 11] (fun t10 t11 wr => ∃ (j : Nat) (zs : List Int), t11 = .int .i64 j ∧ j ≤ m ∧ Hid (zs.length = n + j) ∧ Own wr 3 t10 (zs.map (Value.int .i64)) ∧ From wz.heap.size t10 ∧ Hid (New wz wr)) (fun _ t11 _ => m - (intOf t11).toNat)
              case atStart =>
                have hst := HO4.out.set i (.int .i64 1)
                rw [show List.replicate n (Value.int .i64 0) = (List.replicate n (0 : Int)).map (Value.int .i64) by simp, set_map_int] at hst
                exact ⟨0, (List.replicate n (0 : Int)).set i 1, rfl, Nat.zero_le _, by rw [List.length_set, List.length_replicate]; rfl, hst, fun g hg => by simp [Value.ownBlock] at hg; omega, HN4.out.then (Chg.setCell _ _ _) (fun k hk => Nat.le_of_eq hk.symm)⟩
              case round =>
                obtain ⟨j, zs, rfl, hj, HY, hown, hfrom, HN⟩ := hrel
                clear u0 u1
                obtain ⟨wy, hwy⟩ : ∃ wy : World, wy = wr := ⟨_, rfl⟩
                rw [← hwy] at hown HN
                rw [← hwy]
                clear hwy
                obtain ⟨a1, l1, c1, rfl, HL1, hl1, _⟩ := hown.opened (by rw [List.length_map, HY.out]; unfold Mid; omega)
                have HOW := Lib.hid (And.intro hown hfrom)
                clear hown hfrom
                by_cases hjn : j < m
                · obtain ⟨b, o, rfl, ck⟩ := (HX.out.new HO.out.2.2).at hik
                  obtain ⟨b1, o1, rfl, cj⟩ := (HYY.out.new HO.out.2.2).at hjn
                  have hbx := HB.out.1 i hik
                  have hby := HB.out.2 j hjn
                  obtain ⟨X, hX⟩ : ∃ X, X = gi xs i := ⟨_, rfl⟩
                  obtain ⟨Y, hY⟩ : ∃ Y, Y = gi ys j := ⟨_, rfl⟩
                  rw [← hX] at hbx ck
                  rw [← hY] at hby cj
                  have CZ := Lib.hid (And.intro ck cj)
                  replace ck := HN.out.cellNew ck
                  replace cj := HN.out.cellNew cj
                  clear hX hY
                  have hm1 := Int.emod_nonneg (X + p - Y) (show p ≠ 0 by omega)
                  have hm2 := Int.emod_lt_of_pos (X + p - Y) (show 0 < p by omega)
                  have hpz : p ≠ 0 := by omega
                  have htm : (X + p - Y).tmod p = (X + p - Y) % p := Int.tmod_eq_emod_of_nonneg (by omega)
                  have hw1 : IntKind.i64.wrap (X + p) = X + p := IntWalk.i64_in _ (by omega)
                  have hw2 : IntKind.i64.wrap (X + p - Y) = X + p - Y := IntWalk.i64_in _ (by omega)
                  have hw3 : IntKind.i64.wrap ((X + p - Y) % p) = (X + p - Y) % p := IntWalk.i64_in _ (by omega)
                  go_wp2_with fail
                  go_region_held3 (fun w' => w'.cell? ⟨b, o + i, none⟩ = some (.int .i64 X) ∧ w'.cell? ⟨b1, o1 + j, none⟩ = some (.int .i64 Y)) (first | exact ⟨K5.out.2.2.cellNew CZ.out.1, K5.out.2.2.cellNew CZ.out.2⟩ | go_keep) (first
                    | (go_at_call 107; refine (specInverse_some p _ _ (by omega) ⟨hm1, hm2⟩).mono ?_; rintro e w' ⟨y, rfl, -, rfl⟩)
                    | (refine step_app (by rfl) (.tmp 61) (.tmp 77) _ (by rfl) tyInt (HOW.out.1.new ((New.drew wy).trans (New.alloc wy.drew (.cells #[.int .i64 y] 3)))) (by rfl) (some ⟨wy.heap.size, 0, none⟩) 1 1 [.int .i64 y] (by rfl) (by rfl) (fun h => by cases h) (cell_one (heap_alloc_new wy.drew _)) (fun u hu => by simp at hu; subst hu; rfl) (by rw [List.length_map, HY.out]; omega) ?_; intro v5 w5 k1 k2 k3; have K5 := Lib.hid (grow0 (x := y) HOW.out.2 (HN.out.trans ((New.drew wy).trans (New.alloc wy.drew (.cells #[.int .i64 y] 3)))) k1 k2 k3); clear k1 k2 k3))
                  go_wp2_with fail
                  go_roundw
                  case rel => exact ⟨j + 1, zs ++ [y], by go_num, by omega, by rw [List.length_append, HY.out]; rfl, K5.out.1, K5.out.2.1, K5.out.2.2⟩
                  case measure => simp [intOf]; omega
                · obtain rfl : j = m := by omega
                  have HCY := Lib.hid (HC.out.new HN.out)
                  have HAY := Lib.hid (HA.out.new HN.out)
                  obtain ⟨p0, p1, p2, p3⟩ := HCY.out.cells
                  obtain ⟨q0, q1, q2, q3⟩ := HAY.out.cells
                  go_wp2_with (at_builtin; refine wpList_app1 rfl _ _ _ rfl tyRow wy (HO.out.1.outer.new HN.out) rfl _ _ rfl rfl rfl (by rw [HV.out]; omega) ?_; intro v5 w5 k1 k2 k3; obtain ⟨a5, l5, c5, rfl, HL5, _, _⟩ := k1.opened (by rw [List.length_append, HV.out]; unfold Mid; simp; omega); obtain ⟨u0, u1, u2, u3⟩ := (HCY.out.chg k2 (fun e => own_ne_blk2 HO.out.1.outer HC.out (by decide) _ e rfl)).cells; have K5 := Lib.hid (And.intro k1 (And.intro k2 k3)); clear k1 k2 k3)
                  obtain ⟨m1, m2, m3⟩ := OwnR.push HO.out.1 HO.out.2.1 HO.out.2.2.size HN.out HOW.out.1 HOW.out.2 K5.out.1 K5.out.2.1 K5.out.2.2
                  have hb5 := HCY.out.chg K5.out.2.1 (fun e => own_ne_blk2 HO.out.1.outer HC.out (by decide) _ e rfl)
                  have ha5 := HAY.out.chg K5.out.2.1 (fun e => own_ne_blk2 HO.out.1.outer HA.out (by decide) _ e rfl)
                  have hc5 : Chg (· = w3.heap.size) w5 (w5.setCell ⟨w3.heap.size, 1, none⟩ (.slice a5 l5 c5)) := Chg.setCell w5 ⟨w3.heap.size, 1, none⟩ _
                  go_roundw
                  case rel => exact ⟨i + 1, a5, l5, c5, _, out ++ [zs], by go_num, by omega, ⟨by rw [List.length_append, HL.out.1]; rfl, fun j hj => by
                    rw [List.length_append, List.length_singleton, HL.out.1] at hj
                    by_cases e : j < out.length
                    · rw [gr_snoc_lt e]; exact HL.out.2 j e
                    · rw [gr_snoc_eq (by rw [HL.out.1] at e ⊢; omega)]; exact HY.out⟩,
                    ⟨m1.chg hc5 (own_ne_blk2 m1.outer hb5 (by decide)) (fun i hi => own_ne_blk2 (m1.inner i hi) hb5 (by decide)), m2, HO.out.2.2.then (Chg.trans m3 hc5 (fun i hi x => Or.inl x) (fun i hi x => Or.inr x) (U := fun i => (Value.slice a l c).ownBlock = some i ∨ i = w3.heap.size)) (fun i hi => by
                      rcases hi with h | h
                      · exact HO.out.2.1.1 i h
                      · have := HR1.out.2.size; omega)⟩, ha5.chg hc5 (fun e => by omega), hb5.set1 _⟩
                  case measure => simp [intOf]; omega
            · obtain rfl : i = n := by omega
              go_wp2_with fail
              obtain ⟨x0, x1, hx⟩ := HA.out.put (.int .i64 p) (.slice a l c)
              refine bodyPost_ret (v := .tuple #[.agg #[.int .i64 p, .slice a l c], .bool true]) (by simp [results, go_sem, x0, x1]) rfl ?_
              exact ⟨a, l, c, vs, out, p, true, rfl, fun _ => ⟨rfl, ⟨by rw [HL.out.1]; omega, fun j hj => by have e1 := HL.out.2 j hj; have e0 := HL.out.2 0 (by omega); omega⟩, HO.out.1.chg hx (own_ne_blk2 HO.out.1.outer HA.out (by decide)) (fun i hi => own_ne_blk2 (HO.out.1.inner i hi) HA.out (by decide)), HO.out.2.1⟩, HO.out.2.2.then hx (fun i hi => by omega)⟩
end Go.Proofs.YtcdbeepphdfipaaGreatDoor
