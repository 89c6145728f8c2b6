/- The generators' points. -/
import Derived.Test.YtcdbeepphdfipaaGreatDoorGenB
namespace Go.Proofs.YtcdbeepphdfipaaGreatDoor
open Go.RowKit
set_option linter.unusedVariables false

theorem own_take {w : World} {e : TypeId} {g n cap : Nat} {xs : List Value} (h : Own w e (.slice (some ⟨g, 0, none⟩) n cap) xs) (k : Nat) (ad : Addr) (had : some (⟨g, 0, none⟩ : Addr) = some ad) (j : Nat) (u : Value) (hu : (xs.take k)[j]? = some u) : w.cell? (ad.add j) = some u := by
  obtain rfl := Option.some.inj had
  obtain ⟨hj, he⟩ := List.getElem?_eq_some_iff.1 hu
  rw [List.getElem_take] at he
  rw [List.length_take] at hj
  rw [Addr.add_lit, Nat.zero_add, (h.cell (i := j) (by omega)).1, gv_lt (by omega), he]
theorem own_drop {w : World} {e : TypeId} {g n cap : Nat} {xs : List Value} (h : Own w e (.slice (some ⟨g, 0, none⟩) n cap) xs) (k : Nat) (A : Option Addr) (hA : A = if cap = k then some ⟨g, 0, none⟩ else some ⟨g, k, none⟩) (ad : Addr) (had : A = some ad) (j : Nat) (u : Value) (hu : (xs.drop k)[j]? = some u) : w.cell? (ad.add j) = some u := by
  obtain ⟨hj, he⟩ := List.getElem?_eq_some_iff.1 hu
  rw [List.getElem_drop] at he
  rw [List.length_drop] at hj
  have hl := h.len
  have hc : n ≤ cap := by
    rcases h with ⟨h1, h2⟩ | ⟨g', cap', cur, h1, h2, h3, h4⟩
    · simp at h1
    · simp at h1; omega
  rw [hA, if_neg (by omega)] at had
  obtain rfl := Option.some.inj had
  rw [Addr.add_lit, (h.cell (i := k + j) (by omega)).1, gv_lt (by omega), he]
theorem own_cap {w : World} {e : TypeId} {g n cap : Nat} {xs : List Value} (h : Own w e (.slice (some ⟨g, 0, none⟩) n cap) xs) : n ≤ cap := by
  rcases h with ⟨h1, h2⟩ | ⟨g', cap', cur, h1, h2, h3, h4⟩
  · simp at h1
  · simp at h1; have := h1.2.1; have := h1.2.2; omega
theorem one_cells {xs : List Int} : ∀ u ∈ xs.map (Value.int .i64), u.oneCell' = true := fun u hu => by
  obtain ⟨x, _, rfl⟩ := List.mem_map.1 hu
  rfl
/-- The one cell of a block that has been laid for it. -/
theorem cell_one {w : World} {g : Nat} {v : Value} {t : TypeId} (h : w.heap[g]? = some (.cells #[v] t (0, 0))) (ad : Addr) (had : some (⟨g, 0, none⟩ : Addr) = some ad) (j : Nat) (u : Value) (hu : [v][j]? = some u) : w.cell? (ad.add j) = some u := by
  obtain rfl := Option.some.inj had
  match j, hu with
  | 0, hu =>
    simp at hu; subst hu
    rw [Addr.add_lit, Nat.zero_add, cell_of_heap h]; rfl

set_option maxRecDepth 100000 in
set_option maxHeartbeats 4000000 in
theorem pointsOf_any (g N : Nat) (p n : Int) (w : World) (hr : Rd w g N) (hN : N ≤ 800000) (hp : -1000 ≤ p ∧ p ≤ 1000) (hn : -1000 ≤ n ∧ n ≤ 1000) :
    Calls Tryz.prog 74 #[.pointer (some ⟨g, 0, none⟩), .int .i64 p, .int .i64 n] w fun e w' => PicksI g (N + 2100) w e w' (fun xs => (xs.length : Int) ≤ max n 0) := by
  have hg := hr.lt
  have HR := Lib.hid hr
  have HG := Lib.hid hg
  clear hr hg
  go_enter Tryz.func74, Tryz.ntmps74
  go_wp2_with fail
  go_loopw [7, 8] (fun t7 t8 wr => ∃ (x gb l c : Nat) (xs : List Int), t7 = .slice (some ⟨gb, 0, none⟩) l c ∧ t8 = .int .i64 x ∧ (x : Int) ≤ max p 0 ∧ (l : Int) ≤ max n 0 ∧ l ≤ c ∧ Hid (xs.length = l) ∧ Hid (Own wr 3 t7 (xs.map (Value.int .i64)) ∧ From w.heap.size t7 ∧ Rd wr g (N + 2 * x) ∧ Chg (· = g) w wr)) (fun _ t8 _ => (p - intOf t8).toNat)
  case atStart => exact ⟨0, w.heap.size, 0, 0, [], rfl, rfl, by omega, by omega, Nat.le_refl _, rfl, Own.empty _ _, From.new _ _ _, HR.out.new (New.alloc _ _), Chg.trans (New.alloc _ _) (Chg.refl (· = g) _) (fun _ _ x => x.elim) (fun _ _ x => x)⟩
  case round =>
    obtain ⟨x, gb, l, c, xs, rfl, rfl, hx, hl, hlc, HX, HO⟩ := hrel
    obtain ⟨wz, hwz⟩ : ∃ wz : World, wz = wr := ⟨_, rfl⟩
    rw [← hwz] at HO
    rw [← hwz]
    clear hwz
    have HGB := Lib.hid (show w.heap.size ≤ gb from HO.out.2.1 gb rfl)
    by_cases hxp : (x : Int) < p ∧ (l : Int) < n
    · obtain ⟨hxp, hln⟩ := hxp
      go_wp2_with fail
      refine (pick_any g (N + 2 * x) 4 _ HO.out.2.2.1 (by omega) (by omega)).mono ?_
      rintro e w1 ⟨z, rfl, hz, hr1, hc1⟩
      have hz0 := hz.1
      have H1 := Lib.hid (And.intro hr1 (And.intro (Chg.trans HO.out.2.2.2 hc1 (fun _ _ x => x) (fun _ _ x => x)) (HO.out.1.chg hc1 (fun g' h e => by have := HGB.out; have := HG.out; simp [Value.ownBlock] at h; omega))))
      clear hr1 hc1 hz
      by_cases hgo : 0 < z ∨ (¬ 0 < z ∧ p - x ≤ n - l)
      · rcases hgo with hz1 | ⟨hz1, hle⟩
        all_goals go_wp2_with fail
        all_goals refine (pick_any g (N + 2 * x + 1) (l + 1) _ H1.out.1 (by omega) (by omega)).mono ?_
        all_goals rintro e w2 ⟨k, rfl, hk, hr2, hc2⟩
        all_goals have hk0 := hk.1
        all_goals have hk1 := hk.2.1 (by omega)
        all_goals obtain ⟨k, rfl⟩ : ∃ i : Nat, k = i := ⟨k.toNat, by omega⟩
        all_goals have hkl : k ≤ l := by omega
        all_goals have HO2 := Lib.hid (H1.out.2.2.chg hc2 (fun g' h e => by have := HGB.out; have := HG.out; simp [Value.ownBlock] at h; omega))
        all_goals have H2 := Lib.hid (And.intro hr2 (Chg.trans H1.out.2.1 hc2 (fun _ _ x => x) (fun _ _ x => x)))
        all_goals have HGB2 := Lib.hid (show gb < w2.heap.size from HO2.out.lt rfl)
        all_goals clear hr2 hc2 hk
        all_goals have hkc : k ≤ c := by omega
        all_goals have hA : ∃ A, (if c = k then some (⟨gb, 0, none⟩ : Addr) else some ⟨gb, k, none⟩) = A := ⟨_, rfl⟩
        all_goals obtain ⟨A, hA⟩ := hA
        all_goals have HA := Lib.hid hA.symm
        all_goals have HN1 := Lib.hid (show ∀ o, New w2 (w2.alloc o).drew from fun o => (New.alloc _ _).trans (New.drew _))
        all_goals have HN2 := Lib.hid (show ∀ o o', New w2 ((w2.alloc o).alloc o').drew from fun o o' => ((New.alloc _ _).trans (New.alloc _ _)).trans (New.drew _))
        all_goals have HB1 := Lib.hid (show ((w2.alloc (.cells #[] 3)).alloc (.cells #[.int .i64 x] 3)).drew.heap[w2.heap.size + 1]? = some (.cells #[.int .i64 x] 3 (0, 0)) from by have := heap_alloc_new (w2.alloc (.cells #[] 3)) (.cells #[.int .i64 x] 3); rw [World.size_alloc] at this; exact this)
        all_goals have HB2 := Lib.hid (show ((w2.alloc (.cells #[.int .i64 x] 3)).alloc (.cells #[] 3)).drew.heap[w2.heap.size]? = some (.cells #[.int .i64 x] 3 (0, 0)) from (New.alloc _ _).heapAt (heap_alloc_new _ _) (fun h => h))
        all_goals have HE3 := Lib.hid (show Own ((w2.alloc (.cells #[.int .i64 x] 3)).alloc (.cells #[] 3)).drew 3 (.slice (some ⟨w2.heap.size + 1, 0, none⟩) 0 0) [] from by have := (Own.empty (w2.alloc (.cells #[.int .i64 x] 3)) 3).new (New.drew _); rw [World.size_alloc] at this; exact this)
        all_goals go_wp2_with fail
        all_goals go_region_law (first
          | (refine step_app rfl (.tmp 40) (.tmp 43) _ rfl tyInt (xs := []) ?hv rfl (some ⟨gb, 0, none⟩) k c ((xs.map (Value.int .i64)).take k) rfl ?hl ?hnil ?hnews ?h1 ?hb ?_
             case hv => first | exact (Own.empty w2 _).new (New.drew _) | exact ((Own.empty w2 _).new (New.alloc _ _)).new (New.drew _) | exact HE3.out
             case hl => rw [List.length_take, List.length_map, HX.out]; omega
             case hnil => intro h; cases h
             case hnews => exact own_take (by first | exact HO2.out.new (HN1.out _) | exact HO2.out.new (HN2.out _ _)) k
             case h1 => exact fun u hu => one_cells u (List.mem_of_mem_take hu)
             case hb => simp; omega
             intro v4 w4 k1 k2 k3
             obtain ⟨a4, l4, c4, rfl, HL4, hl4, _⟩ := k1.opened (by simp [Mid]; omega)
             have N4 : New w2 w4 := New.then (by first | exact HN1.out _ | exact HN2.out _ _) k2 (fun i hi => by first | exact Nat.le_of_eq (Option.some.inj hi) | exact Nat.le_trans (Nat.le_succ _) (Nat.le_of_eq (Option.some.inj hi)))
             have F4 : From w2.heap.size (.slice a4 l4 c4) := fun b hb => by
               rcases k3 b hb with h | h
               · first | exact Nat.le_of_eq (Option.some.inj h) | exact Nat.le_trans (Nat.le_succ _) (Nat.le_of_eq (Option.some.inj h))
               · simp at h; omega
             have K4 := Lib.hid (And.intro k1 (And.intro N4 (And.intro F4 k2)))
             clear k1 k2 k3 N4 F4)
          | (refine step_app rfl (.tmp 44) (.tmp 46) _ rfl tyInt (xs := (xs.map (Value.int .i64)).take k) ?hv rfl (some ⟨_, 0, none⟩) 1 1 [Value.int .i64 x] rfl rfl ?hnil ?hnews ?h1 ?hb ?_
             case hv => first | exact K4.out.1 | exact K4.out.1.new (New.alloc _ _)
             case hnil => intro h; cases h
             case hnews => first | exact cell_one (heap_alloc_new _ _) | exact cell_one (K4.out.2.2.2.heapAt HB1.out (fun h => Nat.ne_of_lt (Nat.lt_succ_self _) (Option.some.inj h))) | exact cell_one (K4.out.2.2.2.heapAt HB2.out (fun h => Nat.ne_of_gt (Nat.lt_succ_self _) (Option.some.inj h)))
             case h1 => intro u hu; simp at hu; subst hu; rfl
             case hb => simp; omega
             intro v5 w5 k1 k2 k3
             obtain ⟨a5, l5, c5, rfl, HL5, hl5, _⟩ := k1.opened (by simp [Mid]; omega)
             have N5 : New w2 w5 := New.then (by first | exact K4.out.2.1 | exact K4.out.2.1.trans (New.alloc _ _)) k2 (fun i hi => K4.out.2.2.1 i hi)
             have F5 : From w2.heap.size (.slice a5 l5 c5) := fun b hb => by
               rcases k3 b hb with h | h
               · exact K4.out.2.2.1 b h
               · have := K4.out.2.1.size; first | omega | (simp at h; omega)
             have K5 := Lib.hid (And.intro k1 (And.intro N5 F5))
             clear k1 k2 k3 N5 F5)
          | (refine step_app rfl (.tmp 47) (.tmp 50) _ rfl tyInt (xs := (xs.map (Value.int .i64)).take k ++ [Value.int .i64 x]) K5.out.1 rfl A (l - k) (c - k) ((xs.map (Value.int .i64)).drop k) ?hx ?hl ?hnil ?hnews ?h1 ?hb ?_
             case hx => rw [HA.out]; rfl
             case hl => rw [List.length_drop, List.length_map, HX.out]
             case hnil => rw [HA.out]; intro h; split at h <;> cases h
             case hnews => exact own_drop (HO2.out.new K5.out.2.1) k A HA.out
             case h1 => exact fun u hu => one_cells u (List.mem_of_mem_drop hu)
             case hb => simp; omega
             intro v6 w6 k1 k2 k3
             obtain ⟨a6, l6, c6, rfl, HL6, hl6, _⟩ := k1.opened (by have := HX.out; simp [Mid]; omega)
             obtain ⟨g6, rfl⟩ := k1.head (i := 0) (by simp; omega)
             have N6 : New w2 w6 := New.then K5.out.2.1 k2 (fun i hi => K5.out.2.2 i hi)
             have F6 : From w2.heap.size (.slice (some ⟨g6, 0, none⟩) l6 c6) := fun b hb => by
               rcases k3 b hb with h | h
               · exact K5.out.2.2 b h
               · have := K5.out.2.1.size; omega
             have hc6 := own_cap k1
             obtain rfl : l6 = l + 1 := by rw [HL6.out]; have := HX.out; simp; omega
             have HLN := Lib.hid (show (xs.take k ++ [(x : Int)] ++ xs.drop k).length = l + 1 from by have := HX.out; simp; omega)
             have K6 := Lib.hid (show Own w6 3 (.slice (some ⟨g6, 0, none⟩) (l + 1) c6) ((xs.take k ++ [(x : Int)] ++ xs.drop k).map (Value.int .i64)) ∧ From w.heap.size (.slice (some ⟨g6, 0, none⟩) (l + 1) c6) ∧ Rd w6 g (N + 2 * x + 1 + 1) ∧ Chg (· = g) w w6 from ⟨by rw [List.map_append, List.map_append, List.map_take, List.map_drop]; exact k1, F6.mono H2.out.2.size, H2.out.1.new N6, Chg.trans H2.out.2 N6 (fun _ _ x => x) (fun _ _ x => x.elim)⟩)
             clear k1 k2 k3 N6 F6))
        all_goals go_wp2_with fail
        all_goals go_roundw
        all_goals first
          | exact ⟨x + 1, g6, l + 1, c6, xs.take k ++ [(x : Int)] ++ xs.drop k, rfl, by go_num, by omega, by omega, hc6, HLN.out, K6.out.1, K6.out.2.1, K6.out.2.2.1.mono (by omega), K6.out.2.2.2⟩
          | (simp [intOf]; omega)
      · have hz1 : ¬ 0 < z := fun h => hgo (.inl h)
        have hle : ¬ p - x ≤ n - l := fun h => hgo (.inr ⟨hz1, h⟩)
        go_wp2_with fail
        go_roundw
        case rel => exact ⟨x + 1, gb, l, c, xs, rfl, by go_num, by omega, by omega, hlc, HX.out, H1.out.2.2, HO.out.2.1, H1.out.1.mono (by omega), H1.out.2.1⟩
        case measure => simp [intOf]; omega
    · have hl7 : l ≤ 1000 := by omega
      by_cases hxp1 : (x : Int) < p
      · have hln1 : ¬ (l : Int) < n := fun h => hxp ⟨hxp1, h⟩
        by_cases hl0 : 0 < l
        · have hl1 : l - 1 < l := by omega
          have hl1' : 1 ≤ l := by omega
          go_wp2_with fail
          refine (pick_any g (N + 2 * x) 24 _ HO.out.2.2.1 (by omega) (by omega)).mono ?_
          rintro e w1 ⟨z, rfl, hz, hr1, hc1⟩
          have H1 := Lib.hid (And.intro hr1 (And.intro (Chg.trans HO.out.2.2.2 hc1 (fun _ _ x => x) (fun _ _ x => x)) (HO.out.1.chg hc1 (fun g' h e => by have := HGB.out; have := HG.out; simp [Value.ownBlock] at h; omega))))
          clear hr1 hc1 hz
          by_cases hz0 : z = 0
          · subst hz0
            obtain ⟨cl, fl⟩ := H1.out.2.2.cell (i := l - 1) (by rw [List.length_map, HX.out]; exact hl1)
            rw [gv_map_int (by rw [HX.out]; exact hl1)] at cl
            go_wp2_with fail
            refine (one_lit g (N + 2 * x + 1) (fun _ => True) [-1, p, gi xs (l - 1)] _ _ _ _ rfl rfl H1.out.1 (by omega) (by simp) (by simp) (fun _ _ => trivial)).mono ?_
            rintro e w2 ⟨y, rfl, -, hr2, hc2⟩
            have ho2 := H1.out.2.2.chg hc2 (fun g' h e => by have := HGB.out; have := HG.out; simp [Value.ownBlock] at h; omega)
            obtain ⟨cl2, fl2⟩ := ho2.cell (i := 0) (by rw [List.length_map, HX.out]; exact hl0)
            have H2 := Lib.hid (And.intro hr2 (And.intro (Chg.trans H1.out.2.1 hc2 (fun _ _ x => x) (fun _ _ x => x)) ho2))
            clear hr2 hc2 ho2 cl fl
            go_wp2_with fail
            go_ret
            have hst := H2.out.2.2.set 0 (.int .i64 y)
            rw [set_map_int] at hst
            exact ⟨_, xs.set 0 y, rfl, hst, HO.out.2.1, (show ((xs.set 0 y).length : Int) ≤ max n 0 by rw [List.length_set, HX.out]; omega), (H2.out.1.chg (Chg.setCell w2 ⟨gb, 0, none⟩ _) (fun k hk => by have := HGB.out; have := HG.out; simp at hk; omega)).mono (by omega), Chg.trans H2.out.2.1 (Chg.setCell w2 ⟨gb, 0, none⟩ _) (fun _ _ x => x) (fun i hi h => by have := HGB.out; simp at h; omega)⟩
          · have hzd : (z == 0) = false := by simp; omega
            go_wp2_with fail
            go_ret
            exact ⟨_, xs, rfl, H1.out.2.2, HO.out.2.1, (show (xs.length : Int) ≤ max n 0 by rw [HX.out]; omega), H1.out.1.mono (by omega), H1.out.2.1⟩
        · obtain rfl : l = 0 := by omega
          go_wp2_with fail
          go_ret
          exact ⟨_, xs, rfl, HO.out.1, HO.out.2.1, (show (xs.length : Int) ≤ max n 0 by rw [HX.out]; omega), HO.out.2.2.1.mono (by omega), HO.out.2.2.2⟩
      · clear hxp
        by_cases hl0 : 0 < l
        · have hl1 : l - 1 < l := by omega
          have hl1' : 1 ≤ l := by omega
          go_wp2_with fail
          refine (pick_any g (N + 2 * x) 24 _ HO.out.2.2.1 (by omega) (by omega)).mono ?_
          rintro e w1 ⟨z, rfl, hz, hr1, hc1⟩
          have H1 := Lib.hid (And.intro hr1 (And.intro (Chg.trans HO.out.2.2.2 hc1 (fun _ _ x => x) (fun _ _ x => x)) (HO.out.1.chg hc1 (fun g' h e => by have := HGB.out; have := HG.out; simp [Value.ownBlock] at h; omega))))
          clear hr1 hc1 hz
          by_cases hz0 : z = 0
          · subst hz0
            obtain ⟨cl, fl⟩ := H1.out.2.2.cell (i := l - 1) (by rw [List.length_map, HX.out]; exact hl1)
            rw [gv_map_int (by rw [HX.out]; exact hl1)] at cl
            go_wp2_with fail
            refine (one_lit g (N + 2 * x + 1) (fun _ => True) [-1, p, gi xs (l - 1)] _ _ _ _ rfl rfl H1.out.1 (by omega) (by simp) (by simp) (fun _ _ => trivial)).mono ?_
            rintro e w2 ⟨y, rfl, -, hr2, hc2⟩
            have ho2 := H1.out.2.2.chg hc2 (fun g' h e => by have := HGB.out; have := HG.out; simp [Value.ownBlock] at h; omega)
            obtain ⟨cl2, fl2⟩ := ho2.cell (i := 0) (by rw [List.length_map, HX.out]; exact hl0)
            have H2 := Lib.hid (And.intro hr2 (And.intro (Chg.trans H1.out.2.1 hc2 (fun _ _ x => x) (fun _ _ x => x)) ho2))
            clear hr2 hc2 ho2 cl fl
            go_wp2_with fail
            go_ret
            have hst := H2.out.2.2.set 0 (.int .i64 y)
            rw [set_map_int] at hst
            exact ⟨_, xs.set 0 y, rfl, hst, HO.out.2.1, (show ((xs.set 0 y).length : Int) ≤ max n 0 by rw [List.length_set, HX.out]; omega), (H2.out.1.chg (Chg.setCell w2 ⟨gb, 0, none⟩ _) (fun k hk => by have := HGB.out; have := HG.out; simp at hk; omega)).mono (by omega), Chg.trans H2.out.2.1 (Chg.setCell w2 ⟨gb, 0, none⟩ _) (fun _ _ x => x) (fun i hi h => by have := HGB.out; simp at h; omega)⟩
          · have hzd : (z == 0) = false := by simp; omega
            go_wp2_with fail
            go_ret
            exact ⟨_, xs, rfl, H1.out.2.2, HO.out.2.1, (show (xs.length : Int) ≤ max n 0 by rw [HX.out]; omega), H1.out.1.mono (by omega), H1.out.2.1⟩
        · obtain rfl : l = 0 := by omega
          go_wp2_with fail
          go_ret
          exact ⟨_, xs, rfl, HO.out.1, HO.out.2.1, (show (xs.length : Int) ≤ max n 0 by rw [HX.out]; omega), HO.out.2.2.1.mono (by omega), HO.out.2.2.2⟩
end Go.Proofs.YtcdbeepphdfipaaGreatDoor
