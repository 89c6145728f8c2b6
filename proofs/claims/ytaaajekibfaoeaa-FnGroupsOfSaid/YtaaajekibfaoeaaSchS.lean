/- spec.validScheme, spec.owned, spec.unit, spec.knows. -/
import Derived.Test.YtaaajekibfaoeaaSchA
import Derived.Test.YtaaajekibfaoeaaKnow
import Derived.Test.YtaaajekibfaoeaaLeaf
import Derived.Test.YtaaajekibfaoeaaSolS
import Derived.Deep.RegionHeld3
namespace Go.Proofs.Ytaaajekibfaoeaa
open Go.RowKit Mat
set_option linter.unusedVariables false

theorem validScheme_any (p : Int) (v o : Value) (rows : List (List Int)) (own : List Int) (w : World) (hr : IsR w v rows) (ho : IsI w o own) :
    Calls Try.prog 93 #[.agg #[.int .i64 p, v, o]] w fun e w' => TellsB w e w' (ValidS p rows own) := by
  obtain ⟨ao, n, cap, rfl, HN, hn⟩ := hr.shape
  obtain ⟨ay, m, cay, rfl, HM, hm⟩ := ho.shape
  have h1 : New w (w.alloc (.cells #[.int .i64 p, .slice ao n cap, .slice ay m cay] 43)) := New.alloc _ _
  have b1 := Blk3.alloc w (.int .i64 p) (.slice ao n cap) (.slice ay m cay) 43
  have HR := Lib.hid hr
  have HO := Lib.hid ho
  clear hr ho
  go_enter Try.func93, Try.ntmps93
  go_wp2_with fail
  refine (validTable_any p _ rows _ (HR.out.new h1)).mono ?_
  rintro e w2 ⟨rfl, hn2⟩
  have H2 := Lib.hid (And.intro (h1.trans hn2) (b1.new hn2))
  clear h1 b1 hn2
  obtain ⟨c0, c1, c2, _, _, _⟩ := H2.out.2.cells
  cases hv : vtB p rows with
  | false =>
    have HV := Lib.hid hv
    clear hv
    go_wp2_with fail
    go_ret
    exact ⟨false, rfl, by simp [ValidS, HV.out], H2.out.1⟩
  | true =>
    have HV := Lib.hid hv
    clear hv
    by_cases hl : m = n
    · subst hl
      have hd : ((m : Int) != (m : Int)) = false := by simp
      go_wp2_with fail
      go_loop [3] (fun t3 => ∃ k : Nat, t3 = .int .i64 k ∧ k ≤ m ∧ Hid (∀ j, j < k → 0 ≤ gi own j ∧ gi own j ≤ 4)) (fun t3 => m - (intOf t3).toNat)
      case atStart => exact ⟨0, rfl, Nat.zero_le _, fun j hj => by omega⟩
      case round =>
        obtain ⟨k, rfl, hk, HK⟩ := hrel
        by_cases hkm : k < m
        · obtain ⟨b, z, rfl, ck⟩ := (HO.out.new H2.out.1).at hkm
          obtain ⟨x, hx⟩ : ∃ x, x = gi own k := ⟨_, rfl⟩
          rw [← hx] at ck
          have HX := Lib.hid hx
          clear hx
          cases hs : inB x 0 4 with
          | false =>
            have HS := Lib.hid hs
            clear hs
            go_wp2_with (go_at_call 81; refine (inRange_any _ _ _ _).mono ?_; rintro e w' ⟨rfl, rfl⟩; rw [HS.out])
            go_ret
            exact ⟨false, rfl, ⟨(fun h => by cases h), fun h => by
              have h9 := h.2.2 k (by rw [← HM.out]; exact hkm)
              rw [← HX.out] at h9
              have := inB_iff.2 h9
              rw [HS.out] at this; cases this⟩, H2.out.1⟩
          | true =>
            have HS := Lib.hid hs
            clear hs
            go_wp2_with (go_at_call 81; refine (inRange_any _ _ _ _).mono ?_; rintro e w' ⟨rfl, rfl⟩; rw [HS.out])
            go_round
            case rel => exact ⟨k + 1, by go_num, by omega, fun j hj => by
              by_cases c : j = k
              · rw [c, ← HX.out]; exact inB_iff.1 HS.out
              · exact HK.out j (by omega)⟩
            case measure => simp [intOf]; omega
        · obtain rfl : k = m := by omega
          go_wp2_with fail
          go_ret
          exact ⟨true, rfl, ⟨fun _ => ⟨HV.out, by rw [← HM.out, ← HN.out], fun j hj => HK.out j (by rw [HM.out]; exact hj)⟩, fun _ => rfl⟩, H2.out.1⟩
    · have hd : ((m : Int) != (n : Int)) = true := by simp; omega
      go_wp2_with fail
      go_ret
      exact ⟨false, rfl, ⟨(fun h => by cases h), fun h => by have := h.2.1; rw [← HM.out, ← HN.out] at this; exact absurd this hl⟩, H2.out.1⟩

set_option maxRecDepth 100000 in
set_option maxHeartbeats 1000000 in
theorem specOwned_any (p : Int) (v o : Value) (rows : List (List Int)) (own : List Int) (s : Nat) (w : World) (hr : IsR w v rows) (ho : IsI w o own) (hv : own.length = rows.length ∧ ∀ j, j < own.length → 0 ≤ gi own j ∧ gi own j ≤ 4) (hm6 : rows.length ≤ 6) (hs : s < 32) :
    Calls Try.prog 111 #[.agg #[.int .i64 p, v, o], .int .i64 s] w fun e w' => ∃ u vs, e = .returned u ∧ ShR w' u vs (grpTo rows own s rows.length) ∧ From w.heap.size u ∧ New w w' := by
  obtain ⟨ao, n, cap, rfl, HN, hn⟩ := hr.shape
  obtain ⟨ay, m, cay, rfl, HM, hm⟩ := ho.shape
  have hmn : m = n := by rw [HM.out, HN.out]; exact hv.1
  subst hmn
  have hm6' : m ≤ 6 := by rw [HN.out]; exact hm6
  have h1 : New w (w.alloc (.cells #[.int .i64 p, .slice ao m cap, .slice ay m cay] 43)) := New.alloc _ _
  have b1 := Blk3.alloc w (.int .i64 p) (.slice ao m cap) (.slice ay m cay) 43
  obtain ⟨w1, hw1⟩ : ∃ w1 : World, w1 = w.alloc (.cells #[.int .i64 p, .slice ao m cap, .slice ay m cay] 43) := ⟨_, rfl⟩
  rw [← hw1] at h1 b1
  have HW1 := Lib.hid hw1
  have HSZ := Lib.hid (show w1.heap.size = w.heap.size + 1 by rw [hw1]; simp)
  have HR := Lib.hid hr
  have HO := Lib.hid ho
  have HV := Lib.hid hv
  have H1 := Lib.hid (And.intro h1 b1)
  clear hr ho hv h1 b1 hw1
  go_enter Try.func111, Try.ntmps111
  go_wp2_with fail
  rw [← HW1.out]
  go_loopw [5, 6] (fun t x wr => ∃ (k : Nat) (vs : List Value), x = .int .i64 k ∧ k ≤ m ∧ Hid (Own wr 31 t vs ∧ vs.length = (grpTo rows own s k).length ∧ (∀ i, i < (grpTo rows own s k).length → IsI w (gv vs i) (gr (grpTo rows own s k) i)) ∧ From w1.heap.size t ∧ New w1 wr)) (fun _ x _ => m - (intOf x).toNat)
  case atStart => exact ⟨0, [], rfl, Nat.zero_le _, (by have := Own.empty w1 31; rw [HSZ.out] at this; exact this), rfl, (fun i hi => by simp [grpTo] at hi), (fun g hg => by have := HSZ.out; simp [Value.ownBlock] at hg; omega), New.alloc _ _⟩
  case round =>
    obtain ⟨k, vs, rfl, hk, HK⟩ := hrel
    obtain ⟨wo, hwo⟩ : ∃ wo : World, wo = wr := ⟨_, rfl⟩
    rw [← hwo] at HK
    rw [← hwo]
    clear hwo
    obtain ⟨c0, c1, c2, _, _, _⟩ := (H1.out.2.new HK.out.2.2.2.2).cells
    have hlen : (grpTo rows own s k).length ≤ 6 := by rw [grpTo_length]; have := idxTo_le own s k; omega
    have hvl : vs.length ≤ 6 := by rw [HK.out.2.1]; exact hlen
    have hvl' : vs.length + 1 ≤ 1099511627776 := by omega
    obtain ⟨a5, l5, c5, rfl, _, _, _⟩ := HK.out.1.opened (by unfold Mid; omega)
    by_cases hkm : k < m
    · obtain ⟨by', oy, rfl, cy⟩ := (HO.out.new (H1.out.1.trans HK.out.2.2.2.2)).at hkm
      have hx4 := HV.out.2 k (by rw [← HM.out]; exact hkm)
      obtain ⟨x, hx⟩ : ∃ x : Nat, gi own k = x := ⟨(gi own k).toNat, by omega⟩
      rw [hx] at cy hx4
      have HX := Lib.hid hx
      obtain ⟨b, z, u, rfl, ck', hu⟩ := HR.out.at hkm
      have ck := (H1.out.1.trans HK.out.2.2.2.2).cellNew ck'
      obtain ⟨au, nu, cu, rfl, _, _⟩ := hu.shape
      clear ck'
      have HU := Lib.hid hu
      clear hx hu
      rcases (show bitN s x = 0 ∨ bitN s x = 1 by unfold bitN; omega) with hb | hb
      · have HB := Lib.hid hb
        clear hb
        go_wp2_with (go_at_call 114; refine (bit_any _ _ _ (by omega) (by omega)).mono ?_; rintro e w' ⟨rfl, rfl⟩; rw [HB.out])
        go_roundw
        case rel => exact ⟨k + 1, vs, by go_num, by omega, by rw [grpTo, if_neg (by rw [HX.out, Int.toNat_natCast, HB.out]; omega)]; exact HK.out⟩
        case measure => simp [intOf]; omega
      · have HB := Lib.hid hb
        clear hb
        go_wp2_with (first | (go_at_call 114; refine (bit_any _ _ _ (by omega) (by omega)).mono ?_; rintro e w' ⟨rfl, rfl⟩; rw [HB.out]) | (at_builtin; refine wpList_app1 rfl _ _ _ rfl tyRow _ HK.out.1 rfl _ _ rfl rfl rfl hvl' ?_; intro v2 w6 k1 k2 k3; have K2 := Lib.hid (And.intro k1 (And.intro k2 k3)); clear k1 k2 k3))
        go_roundw
        case rel =>
          obtain ⟨k1, k2, k3⟩ := K2.out
          refine ⟨k + 1, vs ++ [.slice au nu cu], by go_num, by omega, ?_⟩
          rw [grpTo, if_pos (by rw [HX.out, Int.toNat_natCast, HB.out])]
          refine ⟨k1, by rw [List.length_append, List.length_append, HK.out.2.1]; rfl, fun i hi => ?_, fun g hg => ?_, HK.out.2.2.2.2.then k2 (fun i hi => HK.out.2.2.2.1 i hi)⟩
          · by_cases c : i < (grpTo rows own s k).length
            · rw [gv_snoc_lt (by rw [HK.out.2.1]; exact c), gr_snoc_lt c]; exact HK.out.2.2.1 i c
            · have e : i = (grpTo rows own s k).length := by simp at hi; omega
              rw [gv_snoc_eq (by rw [HK.out.2.1]; exact e), gr_snoc_eq e]; exact HU.out
          · rcases k3 g hg with x | x
            · exact HK.out.2.2.2.1 g x
            · exact Nat.le_trans HK.out.2.2.2.2.size x
        case measure => simp [intOf]; omega
    · obtain rfl : k = m := by omega
      go_wp2_with fail
      go_ret
      have hN := H1.out.1.trans HK.out.2.2.2.2
      exact ⟨_, vs, rfl, by rw [← HN.out]; exact ⟨HK.out.1, HK.out.2.1, fun i hi => (HK.out.2.2.1 i hi).new hN⟩, HK.out.2.2.2.1.mono H1.out.1.size, hN⟩

theorem unit_any (n : Nat) (w : World) (hn1 : 1 ≤ n) (hn : n ≤ 1048576) :
    Calls Try.prog 113 #[.int .i64 n] w fun e w' => ∃ u, e = .returned u ∧ Own w' 3 u ((unitG n).map (Value.int .i64)) ∧ From w.heap.size u ∧ New w w' := by
  go_enter Try.func113, Try.ntmps113
  go_wp2_with (at_make; refine wpList_mk rfl _ _ _ rfl tyInt _ _ _ _ n n rfl rfl rfl rfl (Nat.le_refl _) (by omega) ?_; intro v3 w3 hv3 ho3 hn3 hs3; subst hv3; have ho3' : Own w3 3 (.slice (some ⟨w.heap.size, 0, none⟩) n n) ((List.replicate n (0 : Int)).map (Value.int .i64)) := (by rw [List.map_replicate]; exact ho3); obtain ⟨ck, fk⟩ := ho3'.cell (i := 0) (by simp; omega); have HO3 := Lib.hid (And.intro ho3' (And.intro hn3 hs3)); clear ho3 ho3' hn3 hs3)
  go_ret
  refine ⟨_, rfl, ?_, From.new _ _ _, HO3.out.2.1.then (Chg.setCell _ _ _) (fun i hi => by have h9 : i = w.heap.size := hi; omega)⟩
  have := HO3.out.1.set 0 (.int .i64 1)
  rw [set_map_int] at this
  exact this

set_option maxRecDepth 100000 in
set_option maxHeartbeats 1000000 in
theorem specKnows_any (q : Nat) [NeZero q] (n : Nat) (v o : Value) (rows : List (List Int)) (own : List Int) (s : Nat) (w : World) (hr : IsR w v rows) (ho : IsI w o own) (ht : TabOk q n rows) (hv : own.length = rows.length ∧ ∀ j, j < own.length → 0 ≤ gi own j ∧ gi own j ≤ 4) (hs : s < 32) :
    Calls Try.prog 110 #[.agg #[.int .i64 q, v, o], .int .i64 s] w fun e w' => TellsB w e w' (KnowsQ q n rows own s) := by
  obtain ⟨ao, m, cap, rfl, HN, hn⟩ := hr.shape
  obtain ⟨ay, my, cay, rfl, HM, hm⟩ := ho.shape
  have h1 : New w (w.alloc (.cells #[.int .i64 q, .slice ao m cap, .slice ay my cay] 43)) := New.alloc _ _
  have b1 := Blk3.alloc w (.int .i64 q) (.slice ao m cap) (.slice ay my cay) 43
  have hq2 : 2 ≤ q := by have := ht.pr; unfold Pr at this; omega
  have hn1 := ht.n1
  have hn7 := ht.n7
  have HR := Lib.hid hr
  have HO := Lib.hid ho
  have HT := Lib.hid ht
  have HV := Lib.hid hv
  clear hr ho ht hv
  go_enter Try.func110, Try.ntmps110
  go_wp2_with fail
  refine (specOwned_any _ _ _ rows own s _ (HR.out.new h1) (HO.out.new h1) HV.out HT.out.r6 hs).mono ?_
  rintro e w2 ⟨u, vs, rfl, hsh, hf, hn2⟩
  have hl6 : (grpTo rows own s rows.length).length ≤ 6 := by rw [grpTo_length]; have := idxTo_le own s rows.length; have := HT.out.r6; omega
  obtain ⟨a5, l5, c5, rfl, HL5, _, _⟩ := hsh.outer.opened (by rw [hsh.len]; unfold Mid; omega)
  have hl5 : l5 = (grpTo rows own s rows.length).length := by rw [HL5.out, hsh.len]
  have H2 := Lib.hid (And.intro (h1.trans hn2) (And.intro (b1.new hn2) hsh))
  have HL := Lib.hid hl5
  clear h1 b1 hn2 hsh hf HL5 hl5
  by_cases h0 : l5 = 0
  · subst h0
    go_wp2_with fail
    go_ret
    exact ⟨false, rfl, ⟨(fun h => by cases h), fun h => absurd h (knows_none hq2 hn1 (by rw [← grpTo_length rows, ← HL.out]))⟩, H2.out.1⟩
  · have hd : ((l5 : Int) == 0) = false := by simp; omega
    have hi5 := H2.out.2.2.isR (by unfold Mid; omega)
    have hl0 : 0 < l5 := by omega
    obtain ⟨b5, o5, u5, rfl, c5', hu5⟩ := hi5.at (i := 0) hl0
    obtain ⟨au, nu, cu, rfl, HNU, _⟩ := hu5.shape
    have hnu : nu = n := by rw [HNU.out, (grpTo_good HT.out.good (Nat.le_refl _) 0 (by rw [← HL.out]; exact hl0)).1]
    subst hnu
    rw [Nat.add_zero] at c5'
    obtain ⟨c0, c1, c2, _, _, _⟩ := H2.out.2.1.cells
    have HI := Lib.hid hi5
    clear hi5 hu5
    go_wp2_with fail
    go_region_held3 (fun w' => w'.cell? ⟨w.heap.size, 0, none⟩ = some (.int .i64 q) ∧ w'.cell? ⟨b5, o5, none⟩ = some (.slice au nu cu))
      (first | exact ⟨HS.out.2.cellNew c0, HS.out.2.cellNew c5'⟩ | exact ⟨HUN.out.2.cellNew c0, HUN.out.2.cellNew c5'⟩ | go_keep)
      (first | (go_at_call 113; refine (unit_any nu _ hn1 (by omega)).mono ?_; rintro e w3 ⟨uu, rfl, ho3, hf3, hn3⟩; have HUN := Lib.hid (And.intro ho3 ((New.drew w2).trans hn3)); clear ho3 hf3 hn3) | (go_at_call 112; refine (specSolve_any q HT.out.pr nu _ _ (grpTo rows own s rows.length) (unitG nu) _ (HI.out.new HUN.out.2) (HUN.out.1.isI (by rw [unitG_length]; unfold Mid; omega)) (grpTo_good HT.out.good (Nat.le_refl _)) (unitG_good hq2 hn1) hl6 hn1 hn7).mono ?_; rintro e w4 ⟨us, out, ok, rfl, ho4, hf4, hb4, hn4⟩; have HS := Lib.hid (And.intro hb4.knows (HUN.out.2.trans hn4)); clear ho4 hf4 hb4 hn4))
    go_wp2_with fail
    go_ret
    exact ⟨ok, rfl, HS.out.1, H2.out.1.trans HS.out.2⟩
end Go.Proofs.Ytaaajekibfaoeaa
