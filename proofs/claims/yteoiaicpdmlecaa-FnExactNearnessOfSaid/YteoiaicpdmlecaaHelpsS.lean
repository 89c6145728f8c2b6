/- spec.helps. -/
import Derived.Test.YteoiaicpdmlecaaHelpM
import Derived.Test.YteoiaicpdmlecaaGives
namespace Go.Proofs.Yteoiaicpdmlecaa
open Go.RowKit Mat
set_option linter.unusedVariables false

/-- How many are not 0. -/
def hvTo (xs : List Int) : Nat → Nat
  | 0 => 0
  | k + 1 => if gi xs k = 0 then hvTo xs k else hvTo xs k + 1
theorem hvTo_le (xs : List Int) : ∀ k, hvTo xs k ≤ k
  | 0 => Nat.le_refl _
  | k + 1 => by have := hvTo_le xs k; unfold hvTo; split <;> omega
theorem hvTo_zero (xs : List Int) : ∀ k, hvTo xs k = 0 ↔ ∀ r, r < k → gi xs r = 0
  | 0 => ⟨fun _ r hr => by omega, fun _ => rfl⟩
  | k + 1 => by
    have ih := hvTo_zero xs k
    unfold hvTo
    split
    · rename_i h
      rw [ih]
      exact ⟨fun h2 r hr => (if e : r = k then by rw [e]; exact h else h2 r (by omega)), fun h2 r hr => h2 r (by omega)⟩
    · rename_i h
      exact ⟨fun h2 => by omega, fun h2 => absurd (h2 k (by omega)) h⟩

theorem heavy_any (v : Value) (xs : List Int) (w : World) (hx : IsI w v xs) (hl : xs.length ≤ 1000) :
    Calls Try.prog 96 #[v] w fun e w' => e = .returned (.int .i64 (hvTo xs xs.length)) ∧ w = w' := by
  obtain ⟨ao, n, cap, rfl, HN, hn⟩ := hx.shape
  have hn1 : n ≤ 1000 := by rw [HN.out]; exact hl
  have HX := Lib.hid hx
  clear hx
  go_enter Try.func96, Try.ntmps96
  go_wp2_with fail
  go_loop [3, 4] (fun t i => ∃ k c : Nat, t = .int .i64 c ∧ i = .int .i64 k ∧ k ≤ n ∧ c ≤ k ∧ Hid (c = hvTo xs k)) (fun _ i => n - (intOf i).toNat)
  case atStart => exact ⟨0, 0, rfl, rfl, Nat.zero_le _, Nat.le_refl _, rfl⟩
  case round =>
    obtain ⟨k, c, rfl, rfl, hk, hck, HC⟩ := hrel
    by_cases hkn : k < n
    · obtain ⟨b, o, rfl, ck⟩ := HX.out.at hkn
      obtain ⟨x, hx⟩ : ∃ x, x = gi xs k := ⟨_, rfl⟩
      rw [← hx] at ck
      have HXX := Lib.hid hx
      clear hx
      by_cases h0 : x = 0
      · subst h0
        go_wp2_with fail
        go_round
        case rel => exact ⟨k + 1, c, by go_num, by go_num, by omega, by omega, by show c = _; rw [HC.out, hvTo, if_pos HXX.out.symm]⟩
        case measure => simp [intOf]; omega
      · have hd2 : (x != 0) = true := by simp; exact h0
        have HS : Hid (c + 1 = hvTo xs (k + 1)) := by show c + 1 = _; rw [HC.out, hvTo, if_neg (by rw [← HXX.out]; exact h0)]
        go_wp2_with fail
        go_round
        case rel => exact ⟨k + 1, c + 1, by go_num, by go_num, by omega, by omega, HS⟩
        case measure => simp [intOf]; omega
    · obtain rfl : k = n := by omega
      go_wp2_with fail
      go_ret
      exact ⟨ret_int (by rw [HC.out, HN.out]), rfl⟩

set_option maxRecDepth 100000 in
set_option maxHeartbeats 4000000 in
theorem specHelps_any (q : Nat) [NeZero q] (n i s : Nat) (v : Value) (rows : List (List Int)) (w : World) (hr : IsR w v rows) (ht : TabOk q n rows) (hi : i < n) (hs : s < 2 ^ n) (hbi : bitN s i = 0) :
    Calls Try.prog 102 #[.agg #[.int .i64 q, v], .int .i64 i, .int .i64 s] w fun e w' => TellsB w e w' (HelpC q rows n s i) := by
  obtain ⟨ao, m, cap, rfl, HN, hm⟩ := hr.shape
  have hm6 : m ≤ 6 := by rw [HN.out]; exact ht.r6
  have hm1 : 0 < m := by rw [HN.out]; exact ht.r1
  have hn7 := ht.n7
  have hs128 : s < 128 := by have := pow_lt hn7; omega
  have hw6 := wt_less n (by omega) s hs128 i hi hbi
  have h1 : New w (w.alloc (.cells #[.int .i64 q, .slice ao m cap] 27)) := New.alloc _ _
  have b1 := Blk2.alloc w (.int .i64 q) (.slice ao m cap) 27
  have HR := Lib.hid hr
  have HT := Lib.hid ht
  clear hr ht hs hbi
  go_enter Try.func102, Try.ntmps102
  go_wp2_with fail
  obtain ⟨wA, hwA⟩ : ∃ wA : World, wA = ((w.alloc (.cells #[.int .i64 q, .slice ao m cap] 27)).alloc (.cells #[] 3)).alloc (.cells #[] 31) := ⟨_, rfl⟩
  rw [← hwA]
  have hbA : Blk2 wA w.heap.size (.int .i64 q) (.slice ao m cap) 27 := by rw [hwA]; exact (b1.new (New.alloc _ _)).new (New.alloc _ _)
  have hnA : New w wA := by rw [hwA]; exact (h1.trans (New.alloc _ _)).trans (New.alloc _ _)
  have hgA : Own wA 3 (.slice (some ⟨w.heap.size + 1, 0, none⟩) 0 0) (([] : List Int).map (Value.int .i64)) := by
    rw [hwA]
    have := Own.empty (w.alloc (.cells #[.int .i64 q, .slice ao m cap] 27)) 3
    rw [World.size_alloc] at this
    exact this.new (New.alloc _ _)
  have hcA : Own wA 31 (.slice (some ⟨w.heap.size + 1 + 1, 0, none⟩) 0 0) [] := by
    rw [hwA]
    have := Own.empty ((w.alloc (.cells #[.int .i64 q, .slice ao m cap] 27)).alloc (.cells #[] 3)) 31
    rw [World.size_alloc, World.size_alloc] at this
    exact this
  have hszA : wA.heap.size = w.heap.size + 1 + 1 + 1 := by rw [hwA]; simp
  have HA := Lib.hid (And.intro hbA (And.intro hnA (And.intro hgA (And.intro hcA hszA))))
  clear hwA hbA hnA hgA hcA hszA h1 b1
  go_loopw [7, 9] (fun t x9 wr => ∃ k : Nat, x9 = .int .i64 k ∧ k ≤ m ∧ Hid (Own wr 3 t ((tab k (fun r => gi (gr rows r) i)).map (Value.int .i64)) ∧ Chg (· = w.heap.size + 1) wA wr ∧ ∀ g, t.ownBlock = some g → g = w.heap.size + 1 ∨ wA.heap.size ≤ g)) (fun _ x9 _ => m - (intOf x9).toNat)
  case atStart => exact ⟨0, rfl, Nat.zero_le _, HA.out.2.2.1, Chg.refl _ _, fun g hg => by simp [Value.ownBlock] at hg; omega⟩
  case round =>
    obtain ⟨k, rfl, hk, HL⟩ := hrel
    obtain ⟨wo, hwo⟩ : ∃ wo : World, wo = wr := ⟨_, rfl⟩
    rw [← hwo] at HL
    rw [← hwo]
    clear hwo
    have hnr : New w wo := HA.out.2.1.then HL.out.2.1 (fun g hg => by omega)
    have hbr := HA.out.1.chg HL.out.2.1 (by omega)
    obtain ⟨c0, c1, _, _⟩ := hbr.cells
    have htl : ((tab k (fun r => gi (gr rows r) i)).map (Value.int .i64)).length ≤ 6 := by rw [List.length_map, tab_length]; omega
    have htl' : ((tab k (fun r => gi (gr rows r) i)).map (Value.int .i64)).length + 1 ≤ 1099511627776 := by omega
    obtain ⟨a7, l7, c7, rfl, _, _, _⟩ := HL.out.1.opened (by unfold Mid; omega)
    by_cases hkm : k < m
    · have hkr : k < rows.length := by rw [← HN.out]; exact hkm
      obtain ⟨b, o, u, rfl, ck, hu⟩ := (HR.out.new hnr).at hkm
      obtain ⟨au, nu, cu, rfl, HNU, hnu⟩ := hu.shape
      have hin : i < nu := by rw [HNU.out, (HT.out.good k hkr).1]; exact hi
      obtain ⟨bx, ox, rfl, cx⟩ := hu.at hin
      obtain ⟨x, hx⟩ : ∃ x, x = gi (gr rows k) i := ⟨_, rfl⟩
      rw [← hx] at cx
      have HX := Lib.hid hx
      have HNR := Lib.hid (And.intro hnr hbr)
      clear hx hu hnr hbr
      go_wp2_with (at_builtin; refine wpList_app1 rfl _ _ _ rfl tyInt _ HL.out.1 rfl _ _ rfl rfl rfl htl' ?_; intro v2 w6 k1 k2 k3; have K2 := Lib.hid (And.intro k1 (And.intro k2 k3)); clear k1 k2 k3)
      go_roundw
      case rel =>
        obtain ⟨k1, k2, k3⟩ := K2.out
        refine ⟨k + 1, by go_num, by omega, by rw [tab_succ, List.map_append]; rw [HX.out] at k1; exact k1, ?_, fun g hg => ?_⟩
        · exact Chg.trans HL.out.2.1 k2 (fun _ _ x => x) (fun g hgl hg => by have := HL.out.2.2 g hg; omega)
        · have := HL.out.2.1.size
          rcases k3 g hg with h | h
          · exact HL.out.2.2 g h
          · exact .inr (by omega)
      case measure => simp [intOf]; omega
    · obtain rfl : k = m := by omega
      have hgo : Own wo 3 (.slice a7 l7 c7) ((colN rows i).map (Value.int .i64)) := by have h := HL.out.1; rw [HN.out] at h; exact h
      have hco : Own wo 31 (.slice (some ⟨w.heap.size + 1 + 1, 0, none⟩) 0 0) [] := HA.out.2.2.2.1.chg HL.out.2.1 (fun g hg => by simp [Value.ownBlock] at hg; omega)
      have hgb : ∀ g, (Value.slice a7 l7 c7).ownBlock = some g → g ≠ w.heap.size ∧ g ≠ w.heap.size + 1 + 1 := fun g hg => by have := HL.out.2.2 g hg; have := HA.out.2.2.2.2; omega
      have hsz : w.heap.size + 1 + 1 + 1 ≤ wo.heap.size := by have := HL.out.2.1.size; have := HA.out.2.2.2.2; omega
      have H1 := Lib.hid (And.intro hnr (And.intro hbr (And.intro hgo (And.intro hco (And.intro hgb hsz)))))
      have hcl : (colN rows i).length = k := by rw [HN.out]; exact tab_length _ _
      have HCL := Lib.hid hcl
      clear hnr hbr hgo hco hgb hsz hcl HL htl htl'
      go_wp2_with fail
      go_loopw [8, 10] (fun t x10 wr => ∃ (j : Nat) (vs : List Value), x10 = .int .i64 j ∧ j ≤ n ∧ Hid (OwnR wr 31 3 t vs (colsTo rows s j) ∧ FromR (w.heap.size + 1 + 1) t vs (colsTo rows s j) ∧ Chg (· = w.heap.size + 1 + 1) wo wr ∧ ∀ g, t.ownBlock = some g → g = w.heap.size + 1 + 1 ∨ wo.heap.size ≤ g)) (fun _ x10 _ => n - (intOf x10).toNat)
      case atStart =>
        exact ⟨0, [], rfl, Nat.zero_le _, ⟨H1.out.2.2.2.1, rfl, fun i hi => by simp [colsTo] at hi, fun i j hi => by simp [colsTo] at hi⟩, ⟨fun g hg => by simp [Value.ownBlock] at hg; omega, fun i hi => by simp [colsTo] at hi⟩, Chg.refl _ _, fun g hg => by simp [Value.ownBlock] at hg; omega⟩
      case round =>
        obtain ⟨j, vs, rfl, hj, HL⟩ := hrel
        obtain ⟨wp, hwp⟩ : ∃ wp : World, wp = wr := ⟨_, rfl⟩
        rw [← hwp] at HL
        rw [← hwp]
        clear hwp
        have hnr : New w wp := H1.out.1.then HL.out.2.2.1 (fun g hg => by omega)
        have hbr := H1.out.2.1.chg HL.out.2.2.1 (by omega)
        have hgr := H1.out.2.2.1.chg HL.out.2.2.1 (fun g hg => (H1.out.2.2.2.2.1 g hg).2)
        obtain ⟨c0, c1, _, _⟩ := hbr.cells
        have hb0 : w.heap.size < wp.heap.size := by have := H1.out.2.2.2.2.2; have := HL.out.2.2.1.size; omega
        have hcl7 : (colsTo rows s j).length ≤ 7 := by rw [colsTo_length]; have := wtN_le s j; omega
        have hvl : vs.length ≤ 7 := by rw [HL.out.1.len]; exact hcl7
        have hvl' : vs.length + 1 ≤ 1099511627776 := by omega
        obtain ⟨a8, l8, c8, rfl, HL8, _, _⟩ := HL.out.1.outer.opened (by unfold Mid; omega)
        obtain ⟨b, o, u0, rfl, ck0, hu0⟩ := (HR.out.new hnr).at hm1
        rw [Nat.add_zero] at ck0
        obtain ⟨au0, n0, cu0, rfl, HN0, hnu0⟩ := hu0.shape
        have hn0 : n = n0 := by rw [HN0.out, HT.out.cols]
        subst hn0
        have HP := Lib.hid (And.intro hnr (And.intro hbr hgr))
        clear hnr hbr hgr hu0
        by_cases hjn : j < n
        · rcases (show bitN s j = 0 ∨ bitN s j = 1 by unfold bitN; omega) with hb | hb
          · have HB := Lib.hid hb
            clear hb
            go_wp2_with (go_at_call 101; refine (bit_any _ _ _ (by omega) (by omega)).mono ?_; rintro e w' ⟨rfl, rfl⟩; rw [HB.out])
            go_roundw
            case rel => exact ⟨j + 1, vs, by go_num, by omega, by rw [colsTo, if_neg (by rw [HB.out]; omega)]; exact HL.out⟩
            case measure => simp [intOf]; omega
          · have HB := Lib.hid hb
            clear hb
            go_wp2_with (go_at_call 101; refine (bit_any _ _ _ (by omega) (by omega)).mono ?_; rintro e w' ⟨rfl, rfl⟩; rw [HB.out])
            go_loopw [11, 12] (fun t x12 wr => ∃ r : Nat, x12 = .int .i64 r ∧ r ≤ k ∧ Hid (Own wr 3 t ((tab r (fun z => gi (gr rows z) j)).map (Value.int .i64)) ∧ From wp.heap.size t ∧ New wp wr)) (fun _ x12 _ => k - (intOf x12).toNat)
            case atStart => exact ⟨0, rfl, Nat.zero_le _, Own.empty _ _, From.new _ _ _, New.alloc _ _⟩
            case round =>
              obtain ⟨r, rfl, hr, HQ⟩ := hrel
              obtain ⟨wq, hwq⟩ : ∃ wq : World, wq = wr := ⟨_, rfl⟩
              rw [← hwq] at HQ
              rw [← hwq]
              clear hwq
              have hrl : ((tab r (fun z => gi (gr rows z) j)).map (Value.int .i64)).length ≤ 6 := by rw [List.length_map, tab_length]; omega
              have hrl' : ((tab r (fun z => gi (gr rows z) j)).map (Value.int .i64)).length + 1 ≤ 1099511627776 := by omega
              obtain ⟨a9, l9, c9, rfl, _, _, _⟩ := HQ.out.1.opened (by unfold Mid; omega)
              obtain ⟨d0, d1, _, _⟩ := (HP.out.2.1.new HQ.out.2.2).cells
              have hckq := HQ.out.2.2.cellNew ck0
              by_cases hrk : r < k
              · have hrr : r < rows.length := by rw [← HN.out]; exact hrk
                obtain ⟨b', o', u, hbe, ck, hu⟩ := (HR.out.new (HP.out.1.trans HQ.out.2.2)).at hrk
                obtain ⟨rfl, rfl⟩ : b = b' ∧ o = o' := by simpa using hbe
                obtain ⟨au, nu, cu, rfl, HNU, hnu⟩ := hu.shape
                have hin : j < nu := by rw [HNU.out, (HT.out.good r hrr).1]; exact hjn
                obtain ⟨bx, ox, rfl, cx⟩ := hu.at hin
                obtain ⟨x, hx⟩ : ∃ x, x = gi (gr rows r) j := ⟨_, rfl⟩
                rw [← hx] at cx
                have HX := Lib.hid hx
                clear hx hu hbe c0 c1 ck0
                go_wp2_with (at_builtin; refine wpList_app1 rfl _ _ _ rfl tyInt _ HQ.out.1 rfl _ _ rfl rfl rfl hrl' ?_; intro v2 w6 k1 k2 k3; have K2 := Lib.hid (And.intro k1 (And.intro k2 k3)); clear k1 k2 k3)
                go_roundw
                case rel =>
                  obtain ⟨k1, k2, k3⟩ := K2.out
                  exact ⟨r + 1, by go_num, by omega, by rw [tab_succ, List.map_append]; rw [HX.out] at k1; exact k1, (fun g hg => by
                    rcases k3 g hg with x | x
                    · exact HQ.out.2.1 g x
                    · exact Nat.le_trans HQ.out.2.2.size x), HQ.out.2.2.then k2 (fun i hi => HQ.out.2.1 i hi)⟩
                case measure => simp [intOf]; omega
              · obtain rfl : r = k := by omega
                clear c0 c1 ck0
                go_wp2_with (at_builtin; refine wpList_app1 rfl _ _ _ rfl tyRow _ (HL.out.1.outer.new HQ.out.2.2) rfl _ _ rfl rfl rfl hvl' ?_; intro v2 w6 k1 k2 k3; have K2 := Lib.hid (And.intro k1 (And.intro k2 k3)); clear k1 k2 k3)
                go_roundw
                case rel =>
                  obtain ⟨m1, m2, m3⟩ := K2.out
                  have hk1 : Own wq 3 (.slice a9 l9 c9) ((colN rows j).map (Value.int .i64)) := by have h := HQ.out.1; rw [HN.out] at h; exact h
                  have hsz : w.heap.size + 1 + 1 ≤ wp.heap.size := by have := H1.out.2.2.2.2.2; have := HL.out.2.2.1.size; omega
                  obtain ⟨p1, p2, p3⟩ := OwnR.push HL.out.1 HL.out.2.1 hsz HQ.out.2.2 hk1 HQ.out.2.1 m1 m2 m3
                  refine ⟨j + 1, vs ++ [Value.slice a9 l9 c9], by go_num, by omega, ?_, ?_, ?_, fun g hg => ?_⟩
                  · rw [colsTo, if_pos HB.out]; exact p1
                  · rw [colsTo, if_pos HB.out]; exact p2
                  · exact Chg.trans HL.out.2.2.1 p3 (fun _ _ x => x) (fun g hgl hg => by have := HL.out.2.2.2 g hg; omega)
                  · have h1 := HL.out.2.2.1.size
                    have h2 := HQ.out.2.2.size
                    rcases m3 g hg with h | h
                    · exact HL.out.2.2.2 g h
                    · exact .inr (by omega)
                case measure => simp [intOf]; omega
        · obtain rfl : j = n := by omega
          have hgi := HP.out.2.2.isI (by rw [HCL.out]; unfold Mid; omega)
          have hri := HL.out.1.isR (by unfold Mid; omega) (fun t ht => by rw [(cols_good HT.out.good j (Nat.le_refl _) t ht).1]; rw [← HN.out]; unfold Mid; omega)
          have HI := Lib.hid (And.intro hgi hri)
          have hl8w : l8 = wtN s j := by rw [HL8.out, HL.out.1.len, colsTo_length]
          have HLW := Lib.hid hl8w
          clear hgi hri hl8w
          by_cases hl0 : l8 = 0
          · subst hl0
            have HH := Lib.hid (help_none (i := i) HT.out.good hi HLW.out.symm)
            go_wp2_with fail
            refine (heavy_any _ _ _ HI.out.1 (by rw [HCL.out]; omega)).mono ?_
            rintro e w' ⟨rfl, rfl⟩
            obtain ⟨c, hc⟩ : ∃ c, c = hvTo (colN rows i) (colN rows i).length := ⟨_, rfl⟩
            rw [← hc]
            have HC := Lib.hid hc
            clear hc
            go_wp2_with fail
            go_ret
            refine ⟨_, rfl, ?_, HP.out.1⟩
            rw [HH.out, ← hvTo_zero, ← HC.out]
            simp
          · have hd : ((l8 : Int) == 0) = false := by simp; omega
            go_wp2_with fail
            refine (specSolve_any q HT.out.pr k _ _ (colsTo rows s j) (colN rows i) _ HI.out.2 HI.out.1 (by have h := cols_good (s := s) HT.out.good j (Nat.le_refl _); rw [← HN.out] at h; exact h) (by have h := colN_good HT.out.good hi; rw [← HN.out] at h; exact h) (by rw [colsTo_length]; exact hw6) (by omega) (by omega)).mono ?_
            rintro e w5 ⟨u, out, ok, rfl, ho, hf, hb, hn5⟩
            have HE := Lib.hid (And.intro hb.help hn5)
            clear ho hf hb hn5
            go_wp2_with fail
            go_ret
            exact ⟨ok, rfl, HE.out.1, HP.out.1.trans HE.out.2⟩
end Go.Proofs.Yteoiaicpdmlecaa
