/- The generators' table: some rows of its own. -/
import Derived.Test.YtjnfnhcbplbceaaGenT
namespace Go.Proofs.Ytjnfnhcbplbceaa
open Go.RowKit
set_option linter.unusedVariables false

/-- A row of one's own is laid behind the others, while the reader has gone on. -/
theorem rows_more {w wz w1 w2 : World} {g N : Nat} {v u v2 : Value} {vs : List Value} {rows : List (List Int)} {xs : List Int} (hg : g < w.heap.size) (hO : OwnR wz 31 3 v vs rows) (hF : FromR w.heap.size v vs rows)
    (hC : Chg (· = g) w wz) (hC1 : Chg (· = g) wz w1) (hu : Own w1 3 u (xs.map (Value.int .i64))) (hfu : From wz.heap.size u) (hR : Rd w1 g N)
    (k1 : Own w2 31 v2 (vs ++ [u])) (k2 : Chg (fun k => v.ownBlock = some k) w1 w2) (k3 : ∀ g', v2.ownBlock = some g' → v.ownBlock = some g' ∨ w1.heap.size ≤ g') :
    OwnR w2 31 3 v2 (vs ++ [u]) (rows ++ [xs]) ∧ FromR w.heap.size v2 (vs ++ [u]) (rows ++ [xs]) ∧ Rd w2 g N ∧ Chg (· = g) w w2 := by
  have hO1 := hO.chg hC1 (fun g' h e => by have := hF.1 g' h; omega) (fun i hi g' h e => by have := hF.2 i hi g' h; omega)
  exact ⟨hO1.push' hu (fun i hi => From.apart hfu (hO.inner i hi)) k1 k2, hF.push hO.len (hfu.mono hC.size) k3 (Nat.le_trans hC.size hC1.size), hR.chg k2 (fun k hk => by have := hF.1 k hk; omega),
    Chg.trans (Chg.trans hC hC1 (fun _ _ x => x) (fun _ _ x => x)) k2 (fun _ _ x => x) (fun i hi h => by have := hF.1 i h; omega)⟩

set_option maxRecDepth 100000 in
set_option maxHeartbeats 4000000 in
theorem aTable_any (g N : Nat) (p most : Int) (w : World) (hr : Rd w g N) (hN : N ≤ 900000) (hp : -1000 ≤ p ∧ p ≤ 1000) (hm : 1 ≤ most ∧ most ≤ 100) :
    Calls Try.prog 105 #[.pointer (some ⟨g, 0, none⟩), .int .i64 p, .int .i64 most] w fun e w' => PicksR g (N + 1000) w e w' 100 7 := by
  have hg := hr.lt
  have HR := Lib.hid hr
  have HG := Lib.hid hg
  clear hr hg
  obtain ⟨P, hP⟩ : ∃ P, P = max p 1 := ⟨_, rfl⟩
  have hP1 : 1 ≤ P ∧ P ≤ 1000 := by omega
  have HP := Lib.hid hP
  clear hP
  go_enter Try.func105, Try.ntmps105
  go_wp2_with fail
  refine (pick_any g N most _ (HR.out.new (New.alloc _ _)) (by omega) (by omega)).mono ?_
  rintro e w1 ⟨x, rfl, hp1, hr1, hc1⟩
  have hx0 := hp1.1
  have hx1 := hp1.2.1 (by omega)
  obtain ⟨x, rfl⟩ : ∃ n : Nat, x = n := ⟨x.toNat, by omega⟩
  have H1 := Lib.hid (And.intro hr1 (And.intro (Chg.trans (New.alloc w _) hc1 (fun _ _ x => x.elim) (fun _ _ x => x)) ((Own.empty w 31).chg hc1 (fun g' h e => by have := HG.out; simp [Value.ownBlock] at h; omega))))
  clear hp1 hr1 hc1
  go_wp2_with fail
  refine (pick_any g (N + 1) 6 _ H1.out.1 (by omega) (by omega)).mono ?_
  rintro e w2 ⟨y, rfl, hp1, hr1, hc1⟩
  have hy0 := hp1.1
  have hy1 := hp1.2.1 (by omega)
  obtain ⟨y, rfl⟩ : ∃ n : Nat, y = n := ⟨y.toNat, by omega⟩
  have H2 := Lib.hid (And.intro hr1 (And.intro (Chg.trans H1.out.2.1 hc1 (fun _ _ x => x) (fun _ _ x => x)) (H1.out.2.2.chg hc1 (fun g' h e => by have := HG.out; simp [Value.ownBlock] at h; omega))))
  clear hp1 hr1 hc1 H1
  go_wp2_with fail
  go_loopw [7, 10] (fun t7 t10 wr => ∃ (i : Nat) (vs : List Value) (rows : List (List Int)), t10 = .int .i64 i ∧ i ≤ x + 1 ∧ Hid (rows.length = i) ∧ Hid (OwnR wr 31 3 t7 vs rows ∧ FromR w.heap.size t7 vs rows ∧ (∀ j, j < rows.length → (gr rows j).length = y + 1) ∧ Rd wr g (N + 2 + i * 8) ∧ Chg (· = g) w wr)) (fun _ t10 _ => x + 1 - (intOf t10).toNat)
  case atStart => exact ⟨0, [], [], rfl, Nat.zero_le _, rfl, ⟨H2.out.2.2, rfl, fun i hi => by simp at hi, fun i j hi => by simp at hi⟩, ⟨From.new _ _ _, fun i hi => by simp at hi⟩, fun j hj => by simp at hj, H2.out.1, H2.out.2.1⟩
  case round =>
    obtain ⟨i, vs, rows, rfl, hi, HL, HD⟩ := hrel
    obtain ⟨wz, hwz⟩ : ∃ wz : World, wz = wr := ⟨_, rfl⟩
    rw [← hwz] at HD
    rw [← hwz]
    clear hwz
    obtain ⟨a, l, c, rfl, HA, hl, _⟩ := HD.out.1.outer.opened (by rw [HD.out.1.len, HL.out]; unfold Mid; omega)
    have hli : l = i := by rw [HA.out, HD.out.1.len, HL.out]
    subst hli
    have HV := Lib.hid (show vs.length = l by rw [HD.out.1.len, HL.out])
    by_cases hix : l < x + 1
    · have hdl : decide ((l : Int) < 1 + (x : Int)) = true := by simp; omega
      go_wp2_with fail
      clear hdl
      go_loopw [11, 12] (fun t11 t12 wr => ∃ (k : Nat) (xs : List Int), t12 = .int .i64 k ∧ k ≤ y + 1 ∧ Hid (xs.length = k) ∧ Hid (Own wr 3 t11 (xs.map (Value.int .i64)) ∧ From wz.heap.size t11 ∧ Rd wr g (N + 2 + l * 8 + k) ∧ Chg (· = g) wz wr)) (fun _ t12 _ => y + 1 - (intOf t12).toNat)
      case atStart => exact ⟨0, [], rfl, Nat.zero_le _, rfl, Own.empty _ _, From.new _ _ _, HD.out.2.2.2.1.new (New.alloc _ _), Chg.trans (New.alloc _ _) (Chg.refl (· = g) _) (fun _ _ x => x.elim) (fun _ _ x => x)⟩
      case round =>
        obtain ⟨k, xs, rfl, hk, HX, HO⟩ := hrel
        obtain ⟨wy, hwy⟩ : ∃ wy : World, wy = wr := ⟨_, rfl⟩
        rw [← hwy] at HO
        rw [← hwy]
        clear hwy
        obtain ⟨a', l', c', rfl, HL', hl', _⟩ := HO.out.1.opened (by rw [List.length_map, HX.out]; unfold Mid; omega)
        have hlk : l' = k := by rw [HL'.out, List.length_map, HX.out]
        subst hlk
        have HGZ := Lib.hid (show g < wz.heap.size from Nat.lt_of_lt_of_le HG.out HD.out.2.2.2.2.size)
        have HNG := Lib.hid (show ∀ g', (Value.slice a' l' c').ownBlock = some g' → ¬ g' = g from fun g' h e => by have := HO.out.2.1 g' h; have := HGZ.out; omega)
        by_cases hky : l' < y + 1
        · by_cases hp1 : p < 1
          · obtain rfl : P = 1 := by have := HP.out; omega
            go_wp2_with fail
            refine (pick_any g (N + 2 + l * 8 + l') 1 _ HO.out.2.2.1 (by omega) (by omega)).mono ?_
            rintro e w3 ⟨z, rfl, -, hr1, hc1⟩
            have H3 := Lib.hid (And.intro hr1 (And.intro (Chg.trans HO.out.2.2.2 hc1 (fun _ _ x => x) (fun _ _ x => x)) (HO.out.1.chg hc1 (fun g' h e => HNG.out g' h e))))
            clear hr1 hc1
            go_wp2_with (at_builtin; refine wpList_app1 rfl _ _ _ rfl tyInt w3 H3.out.2.2 rfl _ _ rfl rfl rfl (by rw [List.length_map, HX.out]; omega) ?_; intro v4 w4 k1 k2 k3; have K2 := Lib.hid (And.intro k1 (And.intro k2 k3)); clear k1 k2 k3)
            obtain ⟨m1, m2, m3, m4⟩ := grow1 HGZ.out HO.out.2.1 H3.out.1 H3.out.2.1 K2.out.1 K2.out.2.1 K2.out.2.2
            go_roundw
            case rel => exact ⟨l' + 1, xs ++ [z], by go_num, by omega, by rw [List.length_append, HX.out]; rfl, m1, m2, m3, m4⟩
            case measure => simp [intOf]; omega
          · obtain rfl : P = p := by have := HP.out; omega
            go_wp2_with fail
            refine (pick_any g (N + 2 + l * 8 + l') P _ HO.out.2.2.1 (by omega) (by omega)).mono ?_
            rintro e w3 ⟨z, rfl, -, hr1, hc1⟩
            have H3 := Lib.hid (And.intro hr1 (And.intro (Chg.trans HO.out.2.2.2 hc1 (fun _ _ x => x) (fun _ _ x => x)) (HO.out.1.chg hc1 (fun g' h e => HNG.out g' h e))))
            clear hr1 hc1
            go_wp2_with (at_builtin; refine wpList_app1 rfl _ _ _ rfl tyInt w3 H3.out.2.2 rfl _ _ rfl rfl rfl (by rw [List.length_map, HX.out]; omega) ?_; intro v4 w4 k1 k2 k3; have K2 := Lib.hid (And.intro k1 (And.intro k2 k3)); clear k1 k2 k3)
            obtain ⟨m1, m2, m3, m4⟩ := grow1 HGZ.out HO.out.2.1 H3.out.1 H3.out.2.1 K2.out.1 K2.out.2.1 K2.out.2.2
            go_roundw
            case rel => exact ⟨l' + 1, xs ++ [z], by go_num, by omega, by rw [List.length_append, HX.out]; rfl, m1, m2, m3, m4⟩
            case measure => simp [intOf]; omega
        · obtain rfl : l' = y + 1 := by omega
          have HDO := Lib.hid (fun (w' : World) (hc : Chg (· = g) wz w') => HD.out.1.chg hc (fun g' h e => by have := HD.out.2.1.1 g' h; have := HG.out; omega) (fun i hi g' h e => by have := HD.out.2.1.2 i hi g' h; have := HG.out; omega))
          by_cases hl0 : l = 0
          · subst hl0
            go_wp2_with (at_builtin; refine wpList_app1 rfl (.tmp 53) (.tmp 55) _ rfl tyRow _ ((HDO.out _ HO.out.2.2.2).outer) rfl _ _ rfl rfl rfl (by rw [HV.out]; omega) ?_; intro v5 w5 k1 k2 k3; have K5 := Lib.hid (And.intro k1 (And.intro k2 k3)); clear k1 k2 k3)
            obtain ⟨m1, m2, m3, m4⟩ := rows_more HG.out HD.out.1 HD.out.2.1 HD.out.2.2.2.2 HO.out.2.2.2 HO.out.1 HO.out.2.1 HO.out.2.2.1 K5.out.1 K5.out.2.1 K5.out.2.2
            go_roundw
            case rel => exact ⟨1, _, rows ++ [xs], by first | rfl | go_num, by omega, by rw [List.length_append, HL.out]; rfl, m1, m2, fun j hj => by
                rw [List.length_append, List.length_singleton, HL.out] at hj
                by_cases e : j < rows.length
                · rw [gr_snoc_lt e]; exact HD.out.2.2.1 j e
                · rw [gr_snoc_eq (by rw [HL.out] at e ⊢; omega)]; exact HX.out, m3.mono (by omega), m4⟩
            case measure => first | (simp [intOf]; done) | (simp [intOf]; omega)
          · have hdl0 : decide ((l : Int) > 0) = true := by simp; omega
            go_wp2_with fail
            refine (pick_any g (N + 2 + l * 8 + (y + 1)) 6 _ HO.out.2.2.1 (by omega) (by omega)).mono ?_
            rintro e w3 ⟨z, rfl, -, hr1, hc1⟩
            have H3 := Lib.hid (And.intro hr1 (And.intro (Chg.trans HO.out.2.2.2 hc1 (fun _ _ x => x) (fun _ _ x => x)) (HO.out.1.chg hc1 (fun g' h e => HNG.out g' h e))))
            clear hr1 hc1 hdl0
            by_cases hz0 : z = 0
            · subst hz0
              have hl1 : l - 1 < rows.length := by rw [HL.out]; omega
              obtain ⟨gb, rfl⟩ := HD.out.1.outer.head (i := l - 1) (by rw [HV.out]; omega)
              have HO3 := Lib.hid (HDO.out _ H3.out.2.1)
              have hm6 := HD.out.2.2.1 (l - 1) hl1
              have hin := (HO3.out.inner (l - 1) hl1).isI (by unfold Mid; omega)
              obtain ⟨au, nu, cu, hgv, HNU, hnu⟩ := hin.shape
              have ck := (HO3.out.outer.cell (i := l - 1) (by rw [HV.out]; omega)).1
              rw [hgv] at ck hin
              have ck' := (New.alloc w3 (.cells #[] 3)).cellNew ck
              have HS := Lib.hid (hin.new (New.alloc w3 (.cells #[] 3))).src
              have hnu7 : nu ≤ 6 := by rw [HNU.out, hm6]; omega
              have hl1' : 1 ≤ l := by omega
              clear hm6 hin ck hgv
              go_wp2_with (first
                | (at_builtin; refine wpList_app rfl (.tmp 46) (.tmp 51) _ rfl tyInt (Own.empty w3 3) rfl au nu cu ((gr rows (l - 1)).map (Value.int .i64)) rfl HS.out.1 HS.out.2.1 HS.out.2.2.1 HS.out.2.2.2 (by simp; omega) ?_; intro v4 w4 k1 k2 k3; obtain ⟨a4, l4, c4, rfl, _, _, _⟩ := k1.opened (by rw [List.length_append, HS.out.1]; unfold Mid; simp; omega); have K4 := Lib.hid (And.intro k1 (And.intro k2 k3)); have N4 := Lib.hid (New.then (New.alloc w3 _) k2 (fun i hi => Nat.le_of_eq (Option.some.inj hi))); have C4 := Lib.hid (Chg.trans H3.out.2.1 N4.out (fun _ _ x => x) (fun _ _ x => x.elim)); clear k1 k2 k3)
                | (at_builtin; refine wpList_app1 rfl (.tmp 53) (.tmp 55) _ rfl tyRow _ ((HDO.out _ C4.out).outer) rfl _ _ rfl rfl rfl (by rw [HV.out]; omega) ?_; intro v5 w5 k1 k2 k3; have K5 := Lib.hid (And.intro k1 (And.intro k2 k3)); clear k1 k2 k3))
              have hfu4 : From wz.heap.size (.slice a4 l4 c4) := fun g' hg' => by
                have := H3.out.2.1.size
                rcases K4.out.2.2 g' hg' with h | h
                · simp [Value.ownBlock] at h; omega
                · simp at h; omega
              obtain ⟨m1, m2, m3, m4⟩ := rows_more HG.out HD.out.1 HD.out.2.1 HD.out.2.2.2.2 C4.out (by simpa using K4.out.1) hfu4 (H3.out.1.new N4.out) K5.out.1 K5.out.2.1 K5.out.2.2
              go_roundw
              case rel => exact ⟨l + 1, _, rows ++ [gr rows (l - 1)], by go_num, by omega, by rw [List.length_append, HL.out]; rfl, m1, m2, fun j hj => by
                  rw [List.length_append, List.length_singleton, HL.out] at hj
                  by_cases e : j < rows.length
                  · rw [gr_snoc_lt e]; exact HD.out.2.2.1 j e
                  · rw [gr_snoc_eq (by rw [HL.out] at e ⊢; omega)]; exact HD.out.2.2.1 (l - 1) hl1, m3.mono (by omega), m4⟩
              case measure => simp [intOf]; omega
            · have hzd : (z == 0) = false := by simp; omega
              go_wp2_with (at_builtin; refine wpList_app1 rfl (.tmp 53) (.tmp 55) _ rfl tyRow _ ((HDO.out _ H3.out.2.1).outer) rfl _ _ rfl rfl rfl (by rw [HV.out]; omega) ?_; intro v5 w5 k1 k2 k3; have K5 := Lib.hid (And.intro k1 (And.intro k2 k3)); clear k1 k2 k3)
              obtain ⟨m1, m2, m3, m4⟩ := rows_more HG.out HD.out.1 HD.out.2.1 HD.out.2.2.2.2 H3.out.2.1 H3.out.2.2 HO.out.2.1 H3.out.1 K5.out.1 K5.out.2.1 K5.out.2.2
              go_roundw
              case rel => exact ⟨l + 1, _, rows ++ [xs], by go_num, by omega, by rw [List.length_append, HL.out]; rfl, m1, m2, fun j hj => by
                  rw [List.length_append, List.length_singleton, HL.out] at hj
                  by_cases e : j < rows.length
                  · rw [gr_snoc_lt e]; exact HD.out.2.2.1 j e
                  · rw [gr_snoc_eq (by rw [HL.out] at e ⊢; omega)]; exact HX.out, m3.mono (by omega), m4⟩
              case measure => simp [intOf]; omega
    · obtain rfl : l = x + 1 := by omega
      go_wp2_with fail
      refine (pick_any g (N + 2 + (x + 1) * 8) 40 _ HD.out.2.2.2.1 (by omega) (by omega)).mono ?_
      rintro e w3 ⟨z, rfl, -, hr1, hc1⟩
      have H3 := Lib.hid (And.intro hr1 (And.intro (Chg.trans HD.out.2.2.2.2 hc1 (fun _ _ x => x) (fun _ _ x => x)) (HD.out.1.chg hc1 (fun g' h e => by have := HD.out.2.1.1 g' h; have := HG.out; omega) (fun i hi g' h e => by have := HD.out.2.1.2 i hi g' h; have := HG.out; omega))))
      have HS := Lib.hid (show rows.length ≤ 100 ∧ ∀ i, i < rows.length → (gr rows i).length ≤ 7 from ⟨by rw [HL.out]; omega, fun i hi => by rw [HD.out.2.2.1 i hi]; omega⟩)
      clear hr1 hc1
      by_cases hz0 : z = 0
      · subst hz0
        go_wp2_with fail
        go_ret
        exact ⟨_, [], [], rfl, ⟨Own.empty _ _, rfl, fun i hi => by simp at hi, fun i j hi => by simp at hi⟩, ⟨(From.new _ _ _).mono H3.out.2.1.size, fun i hi => by simp at hi⟩, by simp, fun i hi => by simp at hi, (H3.out.1.new (New.alloc _ _)).mono (by omega), Chg.trans H3.out.2.1 (New.alloc _ _) (fun _ _ x => x) (fun _ _ x => x.elim)⟩
      · have hd0 : (z == 0) = false := by simp; omega
        obtain ⟨gb, rfl⟩ := HD.out.1.outer.head (i := 0) (by rw [HV.out]; omega)
        have h0 : 0 < rows.length := by rw [HL.out]; omega
        have hin := H3.out.2.2.inner 0 h0
        obtain ⟨a0, l0, c0, hgv, HL0, hl0, _⟩ := hin.opened (by rw [List.length_map, HD.out.2.2.1 0 h0]; unfold Mid; omega)
        obtain rfl : l0 = y + 1 := by rw [HL0.out, List.length_map, HD.out.2.2.1 0 h0]
        obtain ⟨ck, fk⟩ := H3.out.2.2.outer.cell (i := 0) (by rw [HV.out]; omega)
        rw [hgv] at ck hin
        have HIN := Lib.hid (And.intro hin hgv)
        have H0 := Lib.hid h0
        clear hin hgv h0
        by_cases hz1 : z = 1
        · subst hz1
          go_wp2_with (at_builtin; refine wpList_app1 rfl _ _ _ rfl tyInt w3 HIN.out.1 rfl _ _ rfl rfl rfl (by rw [List.length_map, HD.out.2.2.1 0 H0.out]; omega) ?_; intro v5 w5 k1 k2 k3; obtain ⟨a5, l5, c5, rfl, _, _, _⟩ := k1.opened (by rw [List.length_append, List.length_map, HD.out.2.2.1 0 H0.out]; unfold Mid; simp; omega); have hcc := (H3.out.2.2.outer.chg k2 (fun g' h e => H3.out.2.2.outer_apart row_ne H0.out g' h (by rw [HIN.out.2]; exact e))).cell (i := 0) (by rw [HV.out]; omega); have hcc1 := hcc.1; have hcc2 := hcc.2; have K5 := Lib.hid (And.intro k1 (And.intro k2 k3)); clear k1 k2 k3 hcc)
          go_ret
          obtain ⟨m1, m2, m3, m4⟩ := rows_put (xs := gr rows 0 ++ [0]) HG.out H3.out.2.2 HD.out.2.1 H0.out H3.out.2.1 (H3.out.1.chg K5.out.2.1 (fun b hb => by have := HD.out.2.1.2 0 H0.out b (by rw [HIN.out.2]; exact hb); have := HG.out; omega)) K5.out.2.1 (fun b hb => .inr (by rw [HIN.out.2]; exact hb)) (by rw [List.map_append]; exact K5.out.1) (fun g' h => by rw [HIN.out.2]; exact K5.out.2.2 g' h)
          exact ⟨_, _, _, rfl, m1, m2, by rw [List.length_set]; exact HS.out.1, fun i hi => by
            rw [List.length_set] at hi
            rw [gr_set hi]
            split
            · rw [List.length_append, HD.out.2.2.1 0 H0.out]; simp; omega
            · exact HS.out.2 i hi, m3.mono (by omega), m4⟩
        · have hd1 : (z == 1) = false := by simp; omega
          by_cases hz2 : z = 2
          · subst hz2
            obtain ⟨g0, rfl⟩ := HIN.out.1.head (i := 0) (by rw [List.length_map, HD.out.2.2.1 0 H0.out]; omega)
            have hne : gb ≠ g0 := fun e => H3.out.2.2.outer_apart row_ne H0.out gb rfl (by rw [HIN.out.2, e]; rfl)
            go_wp2_with fail
            go_region_held3 (fun w' => w'.cell? ⟨gb, 0, none⟩ = some (.slice (some ⟨g0, 0, none⟩) (y + 1) c0)) (first | exact HK.out | exact (World.cell?_setCell_other _ _ _ _ (fun e => hne (by simp at e))).trans HK.out | go_keep) (first | (go_at_call 142; refine (one_any g (N + 2 + (x + 1) * 8 + 1) _ [-1, p] _ (H3.out.1.new ((New.alloc _ _).trans (New.drew _))) (by omega) ((IsI.lit w3 3 [-1, p] (by simp)).new (New.drew _)) (by simp) (by simp) (fun b hb => by have := H3.out.1.lt; simp [Value.ownBlock] at hb; omega)).mono ?_; rintro e w5 ⟨q, rfl, -, hr2, hc2⟩; have hc3 := Chg.trans ((New.alloc w3 (.cells #[.int .i64 (-1), .int .i64 p] 3)).trans (New.drew _)) hc2 (fun _ _ x => x.elim) (fun _ _ x => x); have hi5 := HIN.out.1.chg hc3 (fun g' h e => by have := HD.out.2.1.2 0 H0.out g' (by rw [HIN.out.2]; exact h); have := HG.out; omega); have hcc := hi5.cell (i := 0) (by rw [List.length_map, HD.out.2.2.1 0 H0.out]; omega); have hcc1 := hcc.1; have hcc2 := hcc.2; have HK := Lib.hid (hc3.cell ck (fun e => by have := HD.out.2.1.1 gb rfl; have := HG.out; simp at e; omega)); have K5 := Lib.hid (And.intro hi5 (And.intro hc3 hr2)); clear hcc hi5 hc3 hc2 hr2))
            go_wp2_with fail
            go_ret
            have hcs : Chg (· = g0) w5 (w5.setCell ⟨g0, 0, none⟩ (.int .i64 q)) := Chg.setCell w5 ⟨g0, 0, none⟩ _
            have hg0 : w.heap.size ≤ g0 := HD.out.2.1.2 0 H0.out g0 (by rw [HIN.out.2]; rfl)
            have h5 := H3.out.2.2.chg K5.out.2.1 (fun g' h e => by have := HD.out.2.1.1 g' h; have := HG.out; omega) (fun i hi g' h e => by have := HD.out.2.1.2 i hi g' h; have := HG.out; omega)
            have hset := K5.out.1.set 0 (.int .i64 q)
            rw [set_map_int] at hset
            have ht := h5.turn row_ne H0.out hcs (fun g' e => by rw [HIN.out.2, e]; rfl) (xs := (gr rows 0).set 0 q) (by rw [HIN.out.2]; exact hset)
            exact ⟨_, vs, _, rfl, ht, ⟨HD.out.2.1.1, fun i hi => HD.out.2.1.2 i (by rw [List.length_set] at hi; exact hi)⟩, by rw [List.length_set]; exact HS.out.1, fun i hi => by
              rw [List.length_set] at hi
              rw [gr_set hi]
              split
              · rw [List.length_set]; exact HS.out.2 0 H0.out
              · exact HS.out.2 i hi, (K5.out.2.2.chg hcs (fun b hb => by have := HG.out; omega)).mono (by omega), Chg.trans (Chg.trans H3.out.2.1 K5.out.2.1 (fun _ _ x => x) (fun _ _ x => x)) hcs (fun _ _ x => x) (fun i hi h => by omega)⟩
          · have hd2 : (z == 2) = false := by simp; omega
            go_wp2_with fail
            go_ret
            exact ⟨_, _, _, rfl, H3.out.2.2, HD.out.2.1, HS.out.1, HS.out.2, H3.out.1.mono (by omega), H3.out.2.1⟩
end Go.Proofs.Ytjnfnhcbplbceaa
