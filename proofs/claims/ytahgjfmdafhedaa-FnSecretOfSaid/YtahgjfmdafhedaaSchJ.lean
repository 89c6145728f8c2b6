/- (impl.Scheme).known, owned, factors, knows. spec.validScheme, spec.owned, spec.unit, spec.knows. spec.leastGroups and spec.turnedGroups. -/
import Derived.Test.YtahgjfmdafhedaaSchA
import Derived.Test.YtahgjfmdafhedaaKnow
import Derived.Test.YtahgjfmdafhedaaLeaf
import Derived.Test.YtahgjfmdafhedaaSolveI
import Derived.Test.YtahgjfmdafhedaaSolS
import Derived.Deep.RegionHeld3
import Derived.Test.YtahgjfmdafhedaaHelp
namespace Go.Proofs.Ytahgjfmdafhedaa
open Go.RowKit Mat
set_option linter.unusedVariables false

theorem schKnown1_any (w : World) : Tells Try.prog w 98 #[] (fun x => !inB x 0 4) := by
  refine ⟨fun xs w' => by kernel_rfl, fun x w' hn => ?_⟩
  show Calls Try.prog 98 #[.int .i64 x] w' _
  go_enter Try.func98, Try.ntmps98
  go_wp2_with fail
  refine (within_any _ _ _ _).mono ?_
  rintro e w'' ⟨rfl, rfl⟩
  go_wp2_with fail
  go_ret
  exact ⟨rfl, rfl⟩

theorem schKnown_any (p : Int) (v o : Value) (rows : List (List Int)) (own : List Int) (w : World) (hr : IsR w v rows) (ho : IsI w o own) :
    Calls Try.prog 70 #[.agg #[.int .i64 p, v, o]] w fun e w' => (∃ b : Bool, e = .returned (.tuple #[.int .i64 p, .bool b]) ∧ (b = true ↔ ValidS p rows own)) ∧ New w w' := by
  obtain ⟨ao, n, cap, rfl, HN, hn⟩ := hr.shape
  obtain ⟨ay, m, cay, rfl, HM, hm⟩ := ho.shape
  have h1 : New w (w.alloc (.cells #[.int .i64 p, .slice ao n cap, .slice ay m cay] 38)) := New.alloc _ _
  have b1 := Blk3.alloc w (.int .i64 p) (.slice ao n cap) (.slice ay m cay) 38
  have HR := Lib.hid hr
  have HO := Lib.hid ho
  clear hr ho
  go_enter Try.func70, Try.ntmps70
  go_wp2_with fail
  refine (tableOf_any p _ rows _ (HR.out.new h1)).mono ?_
  rintro e w2 ⟨rfl, hn2⟩
  have H2 := Lib.hid (And.intro (h1.trans hn2) (b1.new hn2))
  clear h1 b1 hn2
  obtain ⟨c0, c1, c2, _, _, _⟩ := H2.out.2.cells
  cases hv : vtB p rows with
  | false =>
    have HV := Lib.hid hv
    clear hv
    go_wp2_with fail
    go_ret2
    exact ⟨⟨false, rfl, by simp [ValidS, HV.out]⟩, H2.out.1⟩
  | true =>
    have HV := Lib.hid hv
    clear hv
    by_cases hl : m = n
    · subst hl
      have hd : ((m : Int) != (m : Int)) = false := by simp
      have HIN := Lib.hid (HO.out.new H2.out.1)
      go_wp2_with (go_at_call 97; refine (containsFunc_any _ _ _ _ _ _ HIN.out (schKnown1_any _)).mono ?_; rintro e w' ⟨rfl, rfl⟩)
      go_ret2
      refine ⟨⟨_, rfl, ?_⟩, H2.out.1⟩
      constructor
      · intro h
        refine ⟨HV.out, by rw [← HM.out, ← HN.out], fun j hj => ?_⟩
        refine inB_iff.1 ?_
        cases h9 : inB (gi own j) 0 4 with
        | true => rfl
        | false =>
          have : anyB (fun x => !inB x 0 4) own = true := List.any_eq_true.2 ⟨own[j], List.getElem_mem hj, by rw [← gi_lt hj, h9]; rfl⟩
          rw [this] at h; cases h
      · rintro ⟨_, _, h⟩
        rw [Bool.not_eq_true', Bool.eq_false_iff]
        intro h9
        obtain ⟨x, hx, h8⟩ := List.any_eq_true.1 h9
        obtain ⟨j, hj, rfl⟩ := List.getElem_of_mem hx
        rw [← gi_lt hj, inB_iff.2 (h j hj)] at h8
        cases h8
    · have hd : ((m : Int) != (n : Int)) = true := by simp; omega
      go_wp2_with fail
      go_ret2
      exact ⟨⟨false, rfl, ⟨(fun h => by cases h), fun h => by have := h.2.1; rw [← HM.out, ← HN.out] at this; exact absurd this hl⟩⟩, H2.out.1⟩

set_option maxRecDepth 100000 in
set_option maxHeartbeats 1000000 in
theorem implOwned_any (p : Int) (v o : Value) (rows : List (List Int)) (own : List Int) (s : Nat) (w : World) (hr : IsR w v rows) (ho : IsI w o own) (hv : own.length = rows.length ∧ ∀ j, j < own.length → 0 ≤ gi own j ∧ gi own j ≤ 4) (hm6 : rows.length ≤ 6) (hs : s < 32) :
    Calls Try.prog 59 #[.agg #[.int .i64 p, v, o], .int .i64 s] w fun e w' => ∃ u, e = .returned u ∧ Own w' 3 u ((idxTo own s rows.length).map (Value.int .i64)) ∧ From w.heap.size u ∧ New w w' := by
  obtain ⟨ao, n, cap, rfl, HN, hn⟩ := hr.shape
  obtain ⟨ay, m, cay, rfl, HM, hm⟩ := ho.shape
  have hmn : m = n := by rw [HM.out, HN.out]; exact hv.1
  subst hmn
  have hm6' : m ≤ 6 := by rw [HN.out]; exact hm6
  have h1 : New w (w.alloc (.cells #[.int .i64 p, .slice ao m cap, .slice ay m cay] 38)) := New.alloc _ _
  have b1 := Blk3.alloc w (.int .i64 p) (.slice ao m cap) (.slice ay m cay) 38
  obtain ⟨w1, hw1⟩ : ∃ w1 : World, w1 = w.alloc (.cells #[.int .i64 p, .slice ao m cap, .slice ay m cay] 38) := ⟨_, rfl⟩
  rw [← hw1] at h1 b1
  have HW1 := Lib.hid hw1
  have HSZ := Lib.hid (show w1.heap.size = w.heap.size + 1 by rw [hw1]; simp)
  have HO := Lib.hid ho
  have HV := Lib.hid hv
  have H1 := Lib.hid (And.intro h1 b1)
  clear hr ho hv h1 b1 hw1
  go_enter Try.func59, Try.ntmps59
  obtain ⟨c0, c1, c2, _, _, _⟩ := H1.out.2.cells
  go_wp2_with fail
  rw [← HW1.out]
  clear c0 c1 c2
  go_loopw [5, 12] (fun t x wr => ∃ (k : Nat), x = .int .i64 k ∧ k ≤ m ∧ Hid (Own wr 3 t ((idxTo own s k).map (Value.int .i64)) ∧ From w1.heap.size t ∧ New w1 wr)) (fun _ x _ => m - (intOf x).toNat)
  case atStart => exact ⟨0, rfl, Nat.zero_le _, (by have := Own.empty w1 3; rw [HSZ.out] at this; exact this), (fun g hg => by have := HSZ.out; simp [Value.ownBlock] at hg; omega), New.alloc _ _⟩
  case round =>
    obtain ⟨k, rfl, hk, HK⟩ := hrel
    obtain ⟨wo, hwo⟩ : ∃ wo : World, wo = wr := ⟨_, rfl⟩
    rw [← hwo] at HK
    rw [← hwo]
    clear hwo
    have hlen : ((idxTo own s k).map (Value.int .i64)).length ≤ 6 := by rw [List.length_map]; have := idxTo_le own s k; omega
    have hvl' : ((idxTo own s k).map (Value.int .i64)).length + 1 ≤ 1099511627776 := by omega
    obtain ⟨a5, l5, c5, rfl, _, _, _⟩ := HK.out.1.opened (by unfold Mid; omega)
    by_cases hkm : k < m
    · obtain ⟨b9, oy, rfl, cy⟩ := (HO.out.new (H1.out.1.trans HK.out.2.2)).at hkm
      have hx4 := HV.out.2 k (by rw [← HM.out]; exact hkm)
      obtain ⟨x, hx⟩ : ∃ x : Nat, gi own k = x := ⟨(gi own k).toNat, by omega⟩
      rw [hx] at cy hx4
      have HX := Lib.hid hx
      have hbit := bits_bit s (by omega) x (by omega)
      clear hx
      rcases (show bitN s x = 0 ∨ bitN s x = 1 by unfold bitN; omega) with hb | hb
      · rw [hb] at hbit
        have HB := Lib.hid hb
        clear hb
        go_wp2_with fail
        go_roundw
        case rel => exact ⟨k + 1, by go_num, by omega, by rw [idxTo, if_neg (by rw [HX.out, Int.toNat_natCast, HB.out]; omega)]; exact HK.out⟩
        case measure => simp [intOf]; omega
      · rw [hb] at hbit
        have HB := Lib.hid hb
        clear hb
        go_wp2_with (at_builtin; refine wpList_app1 rfl _ _ _ rfl tyInt _ HK.out.1 rfl _ _ rfl rfl rfl hvl' ?_; intro v2 w6 k1 k2 k3; have K2 := Lib.hid (And.intro k1 (And.intro k2 k3)); clear k1 k2 k3)
        go_roundw
        case rel =>
          obtain ⟨k1, k2, k3⟩ := K2.out
          refine ⟨k + 1, by go_num, by omega, ?_⟩
          rw [idxTo, if_pos (by rw [HX.out, Int.toNat_natCast, HB.out]), List.map_append]
          refine ⟨k1, fun g hg => ?_, HK.out.2.2.then k2 (fun i hi => HK.out.2.1 i hi)⟩
          rcases k3 g hg with x | x
          · exact HK.out.2.1 g x
          · exact Nat.le_trans HK.out.2.2.size x
        case measure => simp [intOf]; omega
    · obtain rfl : k = m := by omega
      go_wp2_with fail
      go_ret
      have hN := H1.out.1.trans HK.out.2.2
      exact ⟨_, rfl, by rw [← HN.out]; exact HK.out.1, HK.out.2.1.mono H1.out.1.size, hN⟩

set_option maxRecDepth 100000 in
set_option maxHeartbeats 1000000 in
theorem factors_any (q : Nat) [NeZero q] (n : Nat) (v o : Value) (rows : List (List Int)) (own : List Int) (s : Nat) (w : World) (hr : IsR w v rows) (ho : IsI w o own) (ht : TabOk q n rows) (hv : own.length = rows.length ∧ ∀ j, j < own.length → 0 ≤ gi own j ∧ gi own j ≤ 4) (hs : s < 32) :
    Calls Try.prog 58 #[.agg #[.int .i64 q, v, o], .int .i64 q, .int .i64 s] w fun e w' => GivesS q (grpTo rows own s rows.length) (unitG n) w e w' := by
  obtain ⟨ao, m, cap, rfl, HN, hn⟩ := hr.shape
  obtain ⟨ay, my, cay, rfl, HM, hm⟩ := ho.shape
  have hm1 : 0 < m := by rw [HN.out]; exact ht.r1
  have hm6 : m ≤ 6 := by rw [HN.out]; exact ht.r6
  have hq2 : 2 ≤ q := by have := ht.pr; unfold Pr at this; omega
  have hn1 := ht.n1
  have hn7 := ht.n7
  have h1 : New w (w.alloc (.cells #[.int .i64 q, .slice ao m cap, .slice ay my cay] 38)) := New.alloc _ _
  have b1 := Blk3.alloc w (.int .i64 q) (.slice ao m cap) (.slice ay my cay) 38
  have h2 := h1.trans (New.alloc _ (.cells #[] 23))
  have g2 := Own.empty (w.alloc (.cells #[.int .i64 q, .slice ao m cap, .slice ay my cay] 38)) 23
  have b2 := b1.new (New.alloc _ (.cells #[] 23))
  have HR := Lib.hid hr
  have HO := Lib.hid ho
  have HT := Lib.hid ht
  have HV := Lib.hid hv
  clear hr ho ht hv
  go_enter Try.func58, Try.ntmps58
  go_wp2_with fail
  obtain ⟨wA, hwA⟩ : ∃ wA : World, wA = (w.alloc (.cells #[.int .i64 q, .slice ao m cap, .slice ay my cay] 38)).alloc (.cells #[] 23) := ⟨_, rfl⟩
  rw [← hwA] at h2 g2 b2
  rw [← hwA]
  rw [World.size_alloc] at g2
  have hszA0 : wA.heap.size = w.heap.size + 1 + 1 := by rw [hwA]; simp
  have HA := Lib.hid (And.intro h2 (And.intro b2 (And.intro g2 hszA0)))
  clear hwA h1 b1 h2 g2 b2 hszA0
  refine (implOwned_any _ _ _ rows own s _ (HR.out.new HA.out.1) (HO.out.new HA.out.1) HV.out HT.out.r6 hs).mono ?_
  rintro e w2 ⟨u, rfl, hi, hf, hn2⟩
  have hlI : (idxTo own s rows.length).length ≤ 6 := by have := idxTo_le own s rows.length; have := HT.out.r6; omega
  obtain ⟨ai, li, ci, rfl, HLI, _, _⟩ := hi.opened (by rw [List.length_map]; unfold Mid; omega)
  have hli : li = (idxTo own s rows.length).length := by rw [HLI.out, List.length_map]
  have hli6 : li ≤ 6 := by omega
  have H2 := Lib.hid (And.intro (HA.out.1.trans hn2) (And.intro (HA.out.2.1.new hn2) (And.intro (HA.out.2.2.1.new hn2) (And.intro hi (fun g hg => by have := hf g hg; have := HA.out.2.2.2; omega : From (w.heap.size + 1 + 1) (.slice ai li ci))))))
  have HL := Lib.hid hli
  have hszA : w.heap.size + 1 + 1 ≤ w2.heap.size := by have := HA.out.2.2.2; have := hn2.size; omega
  clear hi hf hn2 HLI hli
  obtain ⟨wB, hwB⟩ : ∃ wB : World, wB = w2 := ⟨_, rfl⟩
  rw [← hwB] at H2 hszA
  rw [← hwB]
  clear hwB
  go_wp2_with fail
  go_loopw [8, 17] (fun t x wr => ∃ (k : Nat) (vs : List Value), x = .int .i64 k ∧ k ≤ li ∧ Hid (Own wr 23 t vs ∧ vs.length = k ∧ (∀ i, i < k → IsI w (gv vs i) (gr (grpTo rows own s rows.length) i)) ∧ (∀ g, t.ownBlock = some g → g = w.heap.size + 1 ∨ wB.heap.size ≤ g) ∧ Chg (· = w.heap.size + 1) wB wr)) (fun _ x _ => li - (intOf x).toNat)
  case atStart => exact ⟨0, [], rfl, Nat.zero_le _, H2.out.2.2.1, rfl, (fun i hi => by omega), (fun g hg => by simp [Value.ownBlock] at hg; omega), Chg.refl _ _⟩
  case round =>
    obtain ⟨k, vs, rfl, hk, HK⟩ := hrel
    obtain ⟨wo, hwo⟩ : ∃ wo : World, wo = wr := ⟨_, rfl⟩
    rw [← hwo] at HK
    rw [← hwo]
    clear hwo
    have hnr : New w wo := H2.out.1.then HK.out.2.2.2.2 (fun g hg => by omega)
    obtain ⟨c0, c1, c2, _, _, _⟩ := (H2.out.2.1.chg HK.out.2.2.2.2 (fun h => by omega)).cells
    have hvl' : vs.length + 1 ≤ 1099511627776 := by rw [HK.out.2.1]; omega
    obtain ⟨a8, l8, c8, rfl, HL8, _, _⟩ := HK.out.1.opened (by rw [HK.out.2.1]; unfold Mid; omega)
    by_cases hkl : k < li
    · have hkI : k < (idxTo own s rows.length).length := by rw [← HL.out]; exact hkl
      have hbd := idxTo_bound own s rows.length k hkI
      have hii := (H2.out.2.2.2.1.chg HK.out.2.2.2.2 (fun g hg h => by have := H2.out.2.2.2.2 g hg; omega)).isI (by unfold Mid; omega)
      obtain ⟨bx, ox, rfl, cx⟩ := hii.at hkl
      obtain ⟨x, hx⟩ : ∃ x : Nat, gi (idxTo own s rows.length) k = x := ⟨(gi (idxTo own s rows.length) k).toNat, by omega⟩
      rw [hx] at cx hbd
      have hxm : x < m := by rw [HN.out]; omega
      obtain ⟨b, z, u, rfl, ck', hu⟩ := HR.out.at hxm
      have ck := hnr.cellNew ck'
      obtain ⟨au, nu, cu, rfl, _, _⟩ := hu.shape
      have HU := Lib.hid hu
      have HX := Lib.hid (And.intro hx hkI)
      clear hx hu hii ck' hkI
      go_wp2_with (at_builtin; refine wpList_app1 rfl _ _ _ rfl tyRow _ HK.out.1 rfl _ _ rfl rfl rfl hvl' ?_; intro v2 w6 k1 k2 k3; have K2 := Lib.hid (And.intro k1 (And.intro k2 k3)); clear k1 k2 k3)
      go_roundw
      case rel =>
        obtain ⟨k1, k2, k3⟩ := K2.out
        refine ⟨k + 1, vs ++ [.slice au nu cu], by go_num, by omega, k1, by rw [List.length_append, HK.out.2.1]; rfl, fun i hi => ?_, fun g hg => ?_, Chg.trans HK.out.2.2.2.2 k2 (fun _ _ x => x) (fun g hgl hg => by have := HK.out.2.2.2.1 g hg; omega)⟩
        · by_cases c : i < k
          · rw [gv_snoc_lt (by rw [HK.out.2.1]; exact c)]; exact HK.out.2.2.1 i c
          · obtain rfl : i = k := by omega
            rw [gv_snoc_eq (by rw [HK.out.2.1]), grpTo_get _ _ _ _ _ HX.out.2, HX.out.1, Int.toNat_natCast]; exact HU.out
        · have := HK.out.2.2.2.2.size
          rcases k3 g hg with h | h
          · exact HK.out.2.2.2.1 g h
          · exact .inr (by omega)
      case measure => simp [intOf]; omega
    · obtain rfl : k = li := by omega
      obtain ⟨b, z, u, rfl, ck', hu⟩ := HR.out.at hm1
      rw [Nat.add_zero] at ck'
      have ck := hnr.cellNew ck'
      obtain ⟨au, nu, cu, rfl, HNU, _⟩ := hu.shape
      have hnu : nu = n := by rw [HNU.out, HT.out.cols]
      subst hnu
      have HP := Lib.hid hnr
      clear hu ck' hnr
      go_wp2_with (at_make; refine wpList_mk rfl _ _ _ rfl tyInt _ _ _ _ nu nu rfl rfl rfl rfl (Nat.le_refl _) (by omega) ?_; intro v3 w3 hv3 ho3 hn3 hs3; subst hv3; have ho3' : Own w3 3 (.slice (some ⟨wo.heap.size, 0, none⟩) nu nu) ((List.replicate nu (0 : Int)).map (Value.int .i64)) := (by rw [List.map_replicate]; exact ho3); obtain ⟨cm, fm⟩ := ho3'.cell (i := 0) (by simp; omega); have HO3 := Lib.hid (And.intro ho3' (And.intro hn3 hs3)); clear ho3 ho3' hn3 hs3)
      have hc4 : New wo (w3.setCell ⟨wo.heap.size, 0, none⟩ (.int .i64 1)) := HO3.out.2.1.then (Chg.setCell _ _ _) (fun i hi => by have h9 : i = wo.heap.size := hi; omega)
      have ho4 : Own (w3.setCell ⟨wo.heap.size, 0, none⟩ (.int .i64 1)) 3 (.slice (some ⟨wo.heap.size, 0, none⟩) nu nu) ((unitG nu).map (Value.int .i64)) := by
        have := HO3.out.1.set 0 (.int .i64 1)
        rw [set_map_int] at this
        exact this
      obtain ⟨w4, hw4⟩ : ∃ w4 : World, w4 = w3.setCell ⟨wo.heap.size, 0, none⟩ (.int .i64 1) := ⟨_, rfl⟩
      rw [← hw4] at hc4 ho4
      rw [← hw4]
      have hkk : k = (grpTo rows own s rows.length).length := by rw [grpTo_length, ← HL.out]
      have hsh : ShR w4 (.slice a8 l8 c8) vs (grpTo rows own s rows.length) := ⟨HK.out.1.new hc4, by rw [HK.out.2.1, ← hkk], fun i hi => (HK.out.2.2.1 i (by rw [hkk]; exact hi)).new (HP.out.trans hc4)⟩
      have H4 := Lib.hid (And.intro (HP.out.trans hc4) (And.intro hsh ho4))
      clear hc4 ho4 hw4 hsh hkk cm fm ck c0 c1 c2
      have hg6 : (grpTo rows own s rows.length).length ≤ 6 := by rw [grpTo_length]; exact hlI
      refine (implSolve_any q HT.out.pr nu _ _ (grpTo rows own s rows.length) (unitG nu) _ (H4.out.2.1.isR (by unfold Mid; omega)) (H4.out.2.2.isI (by rw [unitG_length]; unfold Mid; omega)) (grpTo_good HT.out.good (Nat.le_refl _)) (unitG_good hq2 hn1) hg6 hn7).mono ?_
      rintro e w5 ⟨us, out, ok, rfl, ho5, hf5, hb5, hn5⟩
      have H5 := Lib.hid (And.intro ho5 (And.intro (hf5.mono H4.out.1.size) (And.intro hb5 (H4.out.1.trans hn5))))
      clear ho5 hf5 hb5 hn5
      go_wp2_with fail
      go_ret2
      exact ⟨us, out, ok, rfl, H5.out.1, H5.out.2.1, H5.out.2.2.1, H5.out.2.2.2⟩

theorem implKnows_any (q : Nat) [NeZero q] (n : Nat) (v o : Value) (rows : List (List Int)) (own : List Int) (s : Nat) (w : World) (hr : IsR w v rows) (ho : IsI w o own) (ht : TabOk q n rows) (hv : own.length = rows.length ∧ ∀ j, j < own.length → 0 ≤ gi own j ∧ gi own j ≤ 4) (hs : s < 32) :
    Calls Try.prog 72 #[.agg #[.int .i64 q, v, o], .int .i64 q, .int .i64 s] w fun e w' => TellsB w e w' (KnowsQ q n rows own s) := by
  obtain ⟨ao, m, cap, rfl, HN, hn⟩ := hr.shape
  obtain ⟨ay, my, cay, rfl, HM, hm⟩ := ho.shape
  have h1 : New w (w.alloc (.cells #[.int .i64 q, .slice ao m cap, .slice ay my cay] 38)) := New.alloc _ _
  have HR := Lib.hid hr
  have HO := Lib.hid ho
  have HT := Lib.hid ht
  have HV := Lib.hid hv
  clear hr ho ht hv
  go_enter Try.func72, Try.ntmps72
  go_wp2_with fail
  refine (factors_any q n _ _ rows own s _ (HR.out.new h1) (HO.out.new h1) HT.out HV.out hs).mono ?_
  rintro e w2 ⟨us, out, ok, rfl, ho5, hf5, hb5, hn5⟩
  have H5 := Lib.hid (And.intro hb5.knows (h1.trans hn5))
  clear ho5 hf5 hb5 hn5
  go_wp2_with fail
  go_ret
  exact ⟨ok, rfl, H5.out.1, H5.out.2⟩
end Go.Proofs.Ytahgjfmdafhedaa

namespace Go.Proofs.Ytahgjfmdafhedaa
open Go.RowKit Mat
set_option linter.unusedVariables false

theorem validScheme_any (p : Int) (v o : Value) (rows : List (List Int)) (own : List Int) (w : World) (hr : IsR w v rows) (ho : IsI w o own) :
    Calls Try.prog 60 #[.agg #[.int .i64 p, v, o]] w fun e w' => TellsB w e w' (ValidS p rows own) := by
  obtain ⟨ao, n, cap, rfl, HN, hn⟩ := hr.shape
  obtain ⟨ay, m, cay, rfl, HM, hm⟩ := ho.shape
  have h1 : New w (w.alloc (.cells #[.int .i64 p, .slice ao n cap, .slice ay m cay] 38)) := New.alloc _ _
  have b1 := Blk3.alloc w (.int .i64 p) (.slice ao n cap) (.slice ay m cay) 38
  have HR := Lib.hid hr
  have HO := Lib.hid ho
  clear hr ho
  go_enter Try.func60, Try.ntmps60
  go_wp2_with fail
  refine (validTable_any p _ rows _ (HR.out.new h1)).mono ?_
  rintro e w2 ⟨rfl, hn2⟩
  have H2 := Lib.hid (And.intro (h1.trans hn2) (b1.new hn2))
  clear h1 b1 hn2
  obtain ⟨c0, c1, c2, _, _, _⟩ := H2.out.2.cells
  cases hv : vtB p rows with
  | false =>
    have HV := Lib.hid hv
    clear hv
    go_wp2_with fail
    go_ret
    exact ⟨false, rfl, by simp [ValidS, HV.out], H2.out.1⟩
  | true =>
    have HV := Lib.hid hv
    clear hv
    by_cases hl : m = n
    · subst hl
      have hd : ((m : Int) != (m : Int)) = false := by simp
      go_wp2_with fail
      go_loop [3] (fun t3 => ∃ k : Nat, t3 = .int .i64 k ∧ k ≤ m ∧ Hid (∀ j, j < k → 0 ≤ gi own j ∧ gi own j ≤ 4)) (fun t3 => m - (intOf t3).toNat)
      case atStart => exact ⟨0, rfl, Nat.zero_le _, fun j hj => by omega⟩
      case round =>
        obtain ⟨k, rfl, hk, HK⟩ := hrel
        by_cases hkm : k < m
        · obtain ⟨b, z, rfl, ck⟩ := (HO.out.new H2.out.1).at hkm
          obtain ⟨x, hx⟩ : ∃ x, x = gi own k := ⟨_, rfl⟩
          rw [← hx] at ck
          have HX := Lib.hid hx
          clear hx
          cases hs : inB x 0 4 with
          | false =>
            have HS := Lib.hid hs
            clear hs
            go_wp2_with (go_at_call 43; refine (inRange_any _ _ _ _).mono ?_; rintro e w' ⟨rfl, rfl⟩; rw [HS.out])
            go_ret
            exact ⟨false, rfl, ⟨(fun h => by cases h), fun h => by
              have h9 := h.2.2 k (by rw [← HM.out]; exact hkm)
              rw [← HX.out] at h9
              have := inB_iff.2 h9
              rw [HS.out] at this; cases this⟩, H2.out.1⟩
          | true =>
            have HS := Lib.hid hs
            clear hs
            go_wp2_with (go_at_call 43; refine (inRange_any _ _ _ _).mono ?_; rintro e w' ⟨rfl, rfl⟩; rw [HS.out])
            go_round
            case rel => exact ⟨k + 1, by go_num, by omega, fun j hj => by
              by_cases c : j = k
              · rw [c, ← HX.out]; exact inB_iff.1 HS.out
              · exact HK.out j (by omega)⟩
            case measure => simp [intOf]; omega
        · obtain rfl : k = m := by omega
          go_wp2_with fail
          go_ret
          exact ⟨true, rfl, ⟨fun _ => ⟨HV.out, by rw [← HM.out, ← HN.out], fun j hj => HK.out j (by rw [HM.out]; exact hj)⟩, fun _ => rfl⟩, H2.out.1⟩
    · have hd : ((m : Int) != (n : Int)) = true := by simp; omega
      go_wp2_with fail
      go_ret
      exact ⟨false, rfl, ⟨(fun h => by cases h), fun h => by have := h.2.1; rw [← HM.out, ← HN.out] at this; exact absurd this hl⟩, H2.out.1⟩

set_option maxRecDepth 100000 in
set_option maxHeartbeats 1000000 in
theorem specOwned_any (p : Int) (v o : Value) (rows : List (List Int)) (own : List Int) (s : Nat) (w : World) (hr : IsR w v rows) (ho : IsI w o own) (hv : own.length = rows.length ∧ ∀ j, j < own.length → 0 ≤ gi own j ∧ gi own j ≤ 4) (hm6 : rows.length ≤ 6) (hs : s < 32) :
    Calls Try.prog 64 #[.agg #[.int .i64 p, v, o], .int .i64 s] w fun e w' => ∃ u vs, e = .returned u ∧ ShR w' u vs (grpTo rows own s rows.length) ∧ From w.heap.size u ∧ New w w' := by
  obtain ⟨ao, n, cap, rfl, HN, hn⟩ := hr.shape
  obtain ⟨ay, m, cay, rfl, HM, hm⟩ := ho.shape
  have hmn : m = n := by rw [HM.out, HN.out]; exact hv.1
  subst hmn
  have hm6' : m ≤ 6 := by rw [HN.out]; exact hm6
  have h1 : New w (w.alloc (.cells #[.int .i64 p, .slice ao m cap, .slice ay m cay] 38)) := New.alloc _ _
  have b1 := Blk3.alloc w (.int .i64 p) (.slice ao m cap) (.slice ay m cay) 38
  obtain ⟨w1, hw1⟩ : ∃ w1 : World, w1 = w.alloc (.cells #[.int .i64 p, .slice ao m cap, .slice ay m cay] 38) := ⟨_, rfl⟩
  rw [← hw1] at h1 b1
  have HW1 := Lib.hid hw1
  have HSZ := Lib.hid (show w1.heap.size = w.heap.size + 1 by rw [hw1]; simp)
  have HR := Lib.hid hr
  have HO := Lib.hid ho
  have HV := Lib.hid hv
  have H1 := Lib.hid (And.intro h1 b1)
  clear hr ho hv h1 b1 hw1
  go_enter Try.func64, Try.ntmps64
  go_wp2_with fail
  rw [← HW1.out]
  go_loopw [5, 6] (fun t x wr => ∃ (k : Nat) (vs : List Value), x = .int .i64 k ∧ k ≤ m ∧ Hid (Own wr 23 t vs ∧ vs.length = (grpTo rows own s k).length ∧ (∀ i, i < (grpTo rows own s k).length → IsI w (gv vs i) (gr (grpTo rows own s k) i)) ∧ From w1.heap.size t ∧ New w1 wr)) (fun _ x _ => m - (intOf x).toNat)
  case atStart => exact ⟨0, [], rfl, Nat.zero_le _, (by have := Own.empty w1 23; rw [HSZ.out] at this; exact this), rfl, (fun i hi => by simp [grpTo] at hi), (fun g hg => by have := HSZ.out; simp [Value.ownBlock] at hg; omega), New.alloc _ _⟩
  case round =>
    obtain ⟨k, vs, rfl, hk, HK⟩ := hrel
    obtain ⟨wo, hwo⟩ : ∃ wo : World, wo = wr := ⟨_, rfl⟩
    rw [← hwo] at HK
    rw [← hwo]
    clear hwo
    obtain ⟨c0, c1, c2, _, _, _⟩ := (H1.out.2.new HK.out.2.2.2.2).cells
    have hlen : (grpTo rows own s k).length ≤ 6 := by rw [grpTo_length]; have := idxTo_le own s k; omega
    have hvl : vs.length ≤ 6 := by rw [HK.out.2.1]; exact hlen
    have hvl' : vs.length + 1 ≤ 1099511627776 := by omega
    obtain ⟨a5, l5, c5, rfl, _, _, _⟩ := HK.out.1.opened (by unfold Mid; omega)
    by_cases hkm : k < m
    · obtain ⟨by', oy, rfl, cy⟩ := (HO.out.new (H1.out.1.trans HK.out.2.2.2.2)).at hkm
      have hx4 := HV.out.2 k (by rw [← HM.out]; exact hkm)
      obtain ⟨x, hx⟩ : ∃ x : Nat, gi own k = x := ⟨(gi own k).toNat, by omega⟩
      rw [hx] at cy hx4
      have HX := Lib.hid hx
      obtain ⟨b, z, u, rfl, ck', hu⟩ := HR.out.at hkm
      have ck := (H1.out.1.trans HK.out.2.2.2.2).cellNew ck'
      obtain ⟨au, nu, cu, rfl, _, _⟩ := hu.shape
      clear ck'
      have HU := Lib.hid hu
      clear hx hu
      rcases (show bitN s x = 0 ∨ bitN s x = 1 by unfold bitN; omega) with hb | hb
      · have HB := Lib.hid hb
        clear hb
        go_wp2_with (go_at_call 67; refine (bit_any _ _ _ (by omega) (by omega)).mono ?_; rintro e w' ⟨rfl, rfl⟩; rw [HB.out])
        go_roundw
        case rel => exact ⟨k + 1, vs, by go_num, by omega, by rw [grpTo, if_neg (by rw [HX.out, Int.toNat_natCast, HB.out]; omega)]; exact HK.out⟩
        case measure => simp [intOf]; omega
      · have HB := Lib.hid hb
        clear hb
        go_wp2_with (first | (go_at_call 67; refine (bit_any _ _ _ (by omega) (by omega)).mono ?_; rintro e w' ⟨rfl, rfl⟩; rw [HB.out]) | (at_builtin; refine wpList_app1 rfl _ _ _ rfl tyRow _ HK.out.1 rfl _ _ rfl rfl rfl hvl' ?_; intro v2 w6 k1 k2 k3; have K2 := Lib.hid (And.intro k1 (And.intro k2 k3)); clear k1 k2 k3))
        go_roundw
        case rel =>
          obtain ⟨k1, k2, k3⟩ := K2.out
          refine ⟨k + 1, vs ++ [.slice au nu cu], by go_num, by omega, ?_⟩
          rw [grpTo, if_pos (by rw [HX.out, Int.toNat_natCast, HB.out])]
          refine ⟨k1, by rw [List.length_append, List.length_append, HK.out.2.1]; rfl, fun i hi => ?_, fun g hg => ?_, HK.out.2.2.2.2.then k2 (fun i hi => HK.out.2.2.2.1 i hi)⟩
          · by_cases c : i < (grpTo rows own s k).length
            · rw [gv_snoc_lt (by rw [HK.out.2.1]; exact c), gr_snoc_lt c]; exact HK.out.2.2.1 i c
            · have e : i = (grpTo rows own s k).length := by simp at hi; omega
              rw [gv_snoc_eq (by rw [HK.out.2.1]; exact e), gr_snoc_eq e]; exact HU.out
          · rcases k3 g hg with x | x
            · exact HK.out.2.2.2.1 g x
            · exact Nat.le_trans HK.out.2.2.2.2.size x
        case measure => simp [intOf]; omega
    · obtain rfl : k = m := by omega
      go_wp2_with fail
      go_ret
      have hN := H1.out.1.trans HK.out.2.2.2.2
      exact ⟨_, vs, rfl, by rw [← HN.out]; exact ⟨HK.out.1, HK.out.2.1, fun i hi => (HK.out.2.2.1 i hi).new hN⟩, HK.out.2.2.2.1.mono H1.out.1.size, hN⟩

theorem unit_any (n : Nat) (w : World) (hn1 : 1 ≤ n) (hn : n ≤ 1048576) :
    Calls Try.prog 66 #[.int .i64 n] w fun e w' => ∃ u, e = .returned u ∧ Own w' 3 u ((unitG n).map (Value.int .i64)) ∧ From w.heap.size u ∧ New w w' := by
  go_enter Try.func66, Try.ntmps66
  go_wp2_with (at_make; refine wpList_mk rfl _ _ _ rfl tyInt _ _ _ _ n n rfl rfl rfl rfl (Nat.le_refl _) (by omega) ?_; intro v3 w3 hv3 ho3 hn3 hs3; subst hv3; have ho3' : Own w3 3 (.slice (some ⟨w.heap.size, 0, none⟩) n n) ((List.replicate n (0 : Int)).map (Value.int .i64)) := (by rw [List.map_replicate]; exact ho3); obtain ⟨ck, fk⟩ := ho3'.cell (i := 0) (by simp; omega); have HO3 := Lib.hid (And.intro ho3' (And.intro hn3 hs3)); clear ho3 ho3' hn3 hs3)
  go_ret
  refine ⟨_, rfl, ?_, From.new _ _ _, HO3.out.2.1.then (Chg.setCell _ _ _) (fun i hi => by have h9 : i = w.heap.size := hi; omega)⟩
  have := HO3.out.1.set 0 (.int .i64 1)
  rw [set_map_int] at this
  exact this

set_option maxRecDepth 100000 in
set_option maxHeartbeats 1000000 in
theorem specKnows_any (q : Nat) [NeZero q] (n : Nat) (v o : Value) (rows : List (List Int)) (own : List Int) (s : Nat) (w : World) (hr : IsR w v rows) (ho : IsI w o own) (ht : TabOk q n rows) (hv : own.length = rows.length ∧ ∀ j, j < own.length → 0 ≤ gi own j ∧ gi own j ≤ 4) (hs : s < 32) :
    Calls Try.prog 63 #[.agg #[.int .i64 q, v, o], .int .i64 s] w fun e w' => TellsB w e w' (KnowsQ q n rows own s) := by
  obtain ⟨ao, m, cap, rfl, HN, hn⟩ := hr.shape
  obtain ⟨ay, my, cay, rfl, HM, hm⟩ := ho.shape
  have h1 : New w (w.alloc (.cells #[.int .i64 q, .slice ao m cap, .slice ay my cay] 38)) := New.alloc _ _
  have b1 := Blk3.alloc w (.int .i64 q) (.slice ao m cap) (.slice ay my cay) 38
  have hq2 : 2 ≤ q := by have := ht.pr; unfold Pr at this; omega
  have hn1 := ht.n1
  have hn7 := ht.n7
  have HR := Lib.hid hr
  have HO := Lib.hid ho
  have HT := Lib.hid ht
  have HV := Lib.hid hv
  clear hr ho ht hv
  go_enter Try.func63, Try.ntmps63
  go_wp2_with fail
  refine (specOwned_any _ _ _ rows own s _ (HR.out.new h1) (HO.out.new h1) HV.out HT.out.r6 hs).mono ?_
  rintro e w2 ⟨u, vs, rfl, hsh, hf, hn2⟩
  have hl6 : (grpTo rows own s rows.length).length ≤ 6 := by rw [grpTo_length]; have := idxTo_le own s rows.length; have := HT.out.r6; omega
  obtain ⟨a5, l5, c5, rfl, HL5, _, _⟩ := hsh.outer.opened (by rw [hsh.len]; unfold Mid; omega)
  have hl5 : l5 = (grpTo rows own s rows.length).length := by rw [HL5.out, hsh.len]
  have H2 := Lib.hid (And.intro (h1.trans hn2) (And.intro (b1.new hn2) hsh))
  have HL := Lib.hid hl5
  clear h1 b1 hn2 hsh hf HL5 hl5
  by_cases h0 : l5 = 0
  · subst h0
    go_wp2_with fail
    go_ret
    exact ⟨false, rfl, ⟨(fun h => by cases h), fun h => absurd h (knows_none hq2 hn1 (by rw [← grpTo_length rows, ← HL.out]))⟩, H2.out.1⟩
  · have hd : ((l5 : Int) == 0) = false := by simp; omega
    have hi5 := H2.out.2.2.isR (by unfold Mid; omega)
    have hl0 : 0 < l5 := by omega
    obtain ⟨b5, o5, u5, rfl, c5', hu5⟩ := hi5.at (i := 0) hl0
    obtain ⟨au, nu, cu, rfl, HNU, _⟩ := hu5.shape
    have hnu : nu = n := by rw [HNU.out, (grpTo_good HT.out.good (Nat.le_refl _) 0 (by rw [← HL.out]; exact hl0)).1]
    subst hnu
    rw [Nat.add_zero] at c5'
    obtain ⟨c0, c1, c2, _, _, _⟩ := H2.out.2.1.cells
    have HI := Lib.hid hi5
    clear hi5 hu5
    go_wp2_with fail
    go_region_held3 (fun w' => w'.cell? ⟨w.heap.size, 0, none⟩ = some (.int .i64 q) ∧ w'.cell? ⟨b5, o5, none⟩ = some (.slice au nu cu))
      (first | exact ⟨HS.out.2.cellNew c0, HS.out.2.cellNew c5'⟩ | exact ⟨HUN.out.2.cellNew c0, HUN.out.2.cellNew c5'⟩ | go_keep)
      (first | (go_at_call 66; refine (unit_any nu _ hn1 (by omega)).mono ?_; rintro e w3 ⟨uu, rfl, ho3, hf3, hn3⟩; have HUN := Lib.hid (And.intro ho3 ((New.drew w2).trans hn3)); clear ho3 hf3 hn3) | (go_at_call 65; refine (specSolve_any q HT.out.pr nu _ _ (grpTo rows own s rows.length) (unitG nu) _ (HI.out.new HUN.out.2) (HUN.out.1.isI (by rw [unitG_length]; unfold Mid; omega)) (grpTo_good HT.out.good (Nat.le_refl _)) (unitG_good hq2 hn1) hl6 hn1 hn7).mono ?_; rintro e w4 ⟨us, out, ok, rfl, ho4, hf4, hb4, hn4⟩; have HS := Lib.hid (And.intro hb4.knows (HUN.out.2.trans hn4)); clear ho4 hf4 hb4 hn4))
    go_wp2_with fail
    go_ret
    exact ⟨ok, rfl, HS.out.1, H2.out.1.trans HS.out.2⟩
end Go.Proofs.Ytahgjfmdafhedaa

namespace Go.Proofs.Ytahgjfmdafhedaa
open Go.RowKit Mat
set_option linter.unusedVariables false

end Go.Proofs.Ytahgjfmdafhedaa
