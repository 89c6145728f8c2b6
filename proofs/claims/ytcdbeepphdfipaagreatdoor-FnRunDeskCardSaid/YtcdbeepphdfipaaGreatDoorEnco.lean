/- encode of both: the word of a message. EncodeWord of both. -/
import Derived.Test.YtcdbeepphdfipaaGreatDoorKnow
import Derived.Test.YtcdbeepphdfipaaGreatDoorLawK
import Derived.BigRegion
namespace Go.Proofs.YtcdbeepphdfipaaGreatDoor
open Go.RowKit Mat
set_option linter.unusedVariables false

/-- Rows of one length, of rests. -/
def RowsOk (p : Int) (n : Nat) (rows : List (List Int)) : Prop := ∀ i, i < rows.length → (gr rows i).length = n ∧ ∀ k, k < n → 0 ≤ gi (gr rows i) k ∧ gi (gr rows i) k ≤ p - 1

/-- The word of the first k numbers of a message. -/
def encZ (p : Int) (n : Nat) (rows : List (List Int)) (m : List Int) : Nat → List Int
  | 0 => List.replicate n 0
  | k + 1 => addZ p (encZ p n rows m k) (gi m k) (gr rows k)

theorem encZ_length (p : Int) (n : Nat) (rows : List (List Int)) (m : List Int) (k : Nat) : (encZ p n rows m k).length = n := by
  induction k with
  | zero => simp [encZ]
  | succ k ih => simp [encZ, addZ_length, ih]

theorem encZ_range {p : Int} (hp : 0 < p) {n : Nat} {rows : List (List Int)} (m : List Int) {k : Nat} (hk : k ≤ rows.length) (hr : RowsOk p n rows) {i : Nat} (hi : i < n) :
    0 ≤ gi (encZ p n rows m k) i ∧ gi (encZ p n rows m k) i < p := by
  cases k with
  | zero => simp [encZ, gi_replicate]; exact hp
  | succ k =>
    have hl := (hr k (by omega)).1
    rw [encZ, addZ, addTo_get _ _ _ _ _ (by rw [encZ_length]; exact hi), if_pos (by omega)]
    exact ⟨Int.emod_nonneg _ (by omega), Int.emod_lt_of_pos _ hp⟩

theorem IsI.old {w : World} {v : Value} {xs : List Int} (h : IsI w v xs) (hx : 0 < xs.length) {g : Nat} (hg : v.ownBlock = some g) : g < w.heap.size := by
  obtain ⟨ao, n, cap, rfl, HN, hn⟩ := h.shape
  obtain ⟨b, o, rfl, hc⟩ := h.at (i := 0) (by rw [HN.out]; exact hx)
  simp [Value.ownBlock] at hg
  subst hg
  exact World.block_lt_of_cell? w _ hc

theorem encode_any (p : Int) (n : Nat) (vr vm : Value) (rows : List (List Int)) (m : List Int) (w : World) (hp : 2 ≤ p ∧ p ≤ 7) (hn : 1 ≤ n ∧ n ≤ 7) (hr : IsR w vr rows) (hm : IsI w vm m)
    (hok : RowsOk p n rows) (h1 : 1 ≤ rows.length) (hl : m.length ≤ rows.length) (hmr : ∀ i, i < m.length → 0 ≤ gi m i ∧ gi m i ≤ p - 1) :
    Calls Tryz.prog 157 #[.int .i64 p, vr, vm] w fun e w' => ∃ u, e = .returned u ∧ Own w' 3 u ((encZ p n rows m m.length).map (Value.int .i64)) ∧ From w.heap.size u ∧ New w w' := by
  obtain ⟨ar, nr, cr, rfl, HNR, hnr⟩ := hr.shape
  obtain ⟨am, nm, cm, rfl, HNM, hnm⟩ := hm.shape
  obtain ⟨b0, o0, u0, rfl, ck0, hu0⟩ := hr.at (i := 0) (by rw [HNR.out]; exact h1)
  rw [Nat.add_zero] at ck0
  obtain ⟨a0, n0, c0, rfl, HN0, hn0⟩ := hu0.shape
  obtain rfl : n0 = n := by rw [HN0.out]; exact (hok 0 (by omega)).1
  have hle : nm ≤ nr := by rw [HNR.out, HNM.out]; exact hl
  have h1' : 0 < nr := by rw [HNR.out]; omega
  have HR := Lib.hid hr
  have HM := Lib.hid hm
  have HOK := Lib.hid hok
  have HMR := Lib.hid hmr
  clear hr hm hok hmr hl h1 hu0
  go_enter Tryz.func157, Tryz.ntmps157
  go_wp2_with (at_make; refine wpList_mk rfl _ _ _ rfl tyInt _ _ _ _ n0 n0 rfl rfl rfl rfl (Nat.le_refl _) hn0 ?_; intro v3 w3 hv3 ho3 hn3 hs3; subst hv3; have HO3 := Lib.hid ho3; have HN3 := Lib.hid hn3; clear ho3 hn3 hs3)
  go_loopw [17] (fun i wr => ∃ k : Nat, i = .int .i64 k ∧ k ≤ nm ∧ Own wr 3 (.slice (some ⟨w.heap.size, 0, none⟩) n0 n0) ((encZ p n0 rows m k).map (Value.int .i64)) ∧ New w wr) (fun i _ => nm - (intOf i).toNat)
  case atStart => exact ⟨0, rfl, Nat.zero_le _, by rw [encZ, List.map_replicate]; exact HO3.out, HN3.out⟩
  case round =>
    obtain ⟨k, rfl, hk, hown, hnew⟩ := hrel
    have HO := Lib.hid hown
    have HW := Lib.hid hnew
    clear hown hnew
    by_cases hkm : k < nm
    · have hkm' : k < m.length := by rw [← HNM.out]; exact hkm
      have hkr : k < nr := by omega
      have hkr' : k < rows.length := by rw [← HNR.out]; exact hkr
      obtain ⟨bm, om, rfl, cm'⟩ := (HM.out.new HW.out).at hkm
      obtain ⟨b', o', u, e, ck, hu⟩ := HR.out.at hkr
      simp at e
      obtain ⟨rfl, rfl⟩ := e
      obtain ⟨au, nu, cu, rfl, HNU, hnu⟩ := hu.shape
      have hrk := HOK.out k hkr'
      have hnun : n0 = nu := by rw [HNU.out]; exact hrk.1.symm
      subst hnun
      have ck' := HW.out.cellNew ck
      have hmk := HMR.out k hkm'
      have hap : Apart (.slice (some ⟨w.heap.size, 0, none⟩) n0 n0) (.slice au n0 cu) := fun g hg hg' => by
        have := hu.old (by rw [hrk.1]; omega) hg'
        simp [Value.ownBlock] at hg
        omega
      have HU := Lib.hid (hu.new HW.out)
      have HRK := Lib.hid hrk
      have HAP := Lib.hid hap
      clear hu hrk hap ck
      have hlen : (gr rows k).length ≤ (encZ p n0 rows m k).length := by rw [encZ_length, HRK.out.1]; omega
      have hsx : Sm (encZ p n0 rows m k) := fun i hi => by have := encZ_range (p := p) (by omega) m (Nat.le_of_lt hkr') HOK.out (by rw [encZ_length] at hi; exact hi); omega
      have hsy : Sm (gr rows k) := fun i hi => by have := HRK.out.2 i (by rw [HRK.out.1] at hi; exact hi); omega
      have hmid : Mid (encZ p n0 rows m k).length := by rw [encZ_length]; unfold Mid; omega
      have HS := Lib.hid (And.intro hlen (And.intro hsx (And.intro hsy hmid)))
      have hp1 : 0 < p ∧ p ≤ 1000 := by omega
      have hby : -1000 ≤ gi m k ∧ gi m k ≤ 1000 := by omega
      clear hlen hsx hsy hmid
      go_wp2_with fail
      refine (add_any p (gi m k) _ _ (encZ p n0 rows m k) (gr rows k) _ hp1 hby HO.out HU.out HAP.out HS.out.1 HS.out.2.1 HS.out.2.2.1 HS.out.2.2.2).mono ?_
      rintro e w4 ⟨rfl, ho4, hc4⟩
      have HO4 := Lib.hid ho4
      have HC4 := Lib.hid hc4
      clear ho4 hc4
      go_wp2_with fail
      go_roundw
      case rel =>
        exact ⟨k + 1, by go_num, by omega, HO4.out, HW.out.then HC4.out (fun i hi => by simp [Value.ownBlock] at hi; omega)⟩
      case measure => simp [intOf]; omega
    · obtain rfl : k = nm := by omega
      go_wp2_with fail
      go_ret
      exact ⟨_, rfl, by rw [← HNM.out]; exact HO.out, From.new _ _ _, HW.out⟩

set_option maxHeartbeats 2000000 in
theorem specEncode_any (p : Int) (n : Nat) (vr vm : Value) (rows : List (List Int)) (m : List Int) (w : World) (hp : 2 ≤ p ∧ p ≤ 7) (hn : 1 ≤ n ∧ n ≤ 7) (hr : IsR w vr rows) (hm : IsI w vm m)
    (hok : RowsOk p n rows) (h1 : 1 ≤ rows.length) (hl : m.length ≤ rows.length) (hmr : ∀ i, i < m.length → 0 ≤ gi m i ∧ gi m i ≤ p - 1) :
    Calls Tryz.prog 55 #[.agg #[.int .i64 p, vr], vm] w fun e w' => ∃ u, e = .returned u ∧ Own w' 3 u ((encZ p n rows m m.length).map (Value.int .i64)) ∧ From w.heap.size u ∧ New w w' := by
  obtain ⟨ar, nr, cr, rfl, HNR, hnr⟩ := hr.shape
  obtain ⟨am, nm, cm, rfl, HNM, hnm⟩ := hm.shape
  obtain ⟨b0, o0, u0, rfl, ck0, hu0⟩ := hr.at (i := 0) (by rw [HNR.out]; exact h1)
  rw [Nat.add_zero] at ck0
  obtain ⟨a0, n0, c0, rfl, HN0, hn0⟩ := hu0.shape
  obtain rfl : n0 = n := by rw [HN0.out]; exact (hok 0 (by omega)).1
  have hle : nm ≤ nr := by rw [HNR.out, HNM.out]; exact hl
  have h1' : 0 < nr := by rw [HNR.out]; omega
  have HR := Lib.hid hr
  have HM := Lib.hid hm
  have HOK := Lib.hid hok
  have HMR := Lib.hid hmr
  clear hr hm hok hmr hl h1 hu0
  have b1 := Blk2.alloc w (.int .i64 p) (.slice (some ⟨b0, o0, none⟩) nr cr) 24
  have hn1 : New w (w.alloc (.cells #[.int .i64 p, .slice (some ⟨b0, o0, none⟩) nr cr] 24)) := New.alloc _ _
  have hs1 : (w.alloc (.cells #[.int .i64 p, .slice (some ⟨b0, o0, none⟩) nr cr] 24)).heap.size = w.heap.size + 1 := by rw [World.size_alloc]
  have ck01 := hn1.cellNew ck0
  go_enter Tryz.func55, Tryz.ntmps55
  go_wp2_with (at_make; refine wpList_mk rfl _ _ _ rfl tyInt _ _ _ _ n0 n0 rfl rfl rfl rfl (Nat.le_refl _) hn0 ?_; intro v3 w3 hv3 ho3 hn3 hs3; rw [hs1] at hv3; subst hv3; have HO3 := Lib.hid ho3; have HN3 := Lib.hid hn3; clear ho3 hn3 hs3)
  have h3 := hn1.trans HN3.out
  have b3 := b1.new HN3.out
  clear b1 hn1 hs1 ck01 HN3
  go_loopw [6] (fun i wr => ∃ k : Nat, i = .int .i64 k ∧ k ≤ nm ∧ Own wr 3 (.slice (some ⟨w.heap.size + 1, 0, none⟩) n0 n0) ((encZ p n0 rows m k).map (Value.int .i64)) ∧ New w wr ∧ Blk2 wr w.heap.size (.int .i64 p) (.slice (some ⟨b0, o0, none⟩) nr cr) 24) (fun i _ => nm - (intOf i).toNat)
  case atStart => exact ⟨0, rfl, Nat.zero_le _, by rw [encZ, List.map_replicate]; exact HO3.out, h3, b3⟩
  case round =>
    obtain ⟨k, rfl, hk, hown, hnew, hblk⟩ := hrel
    obtain ⟨wo, hwo⟩ : ∃ wo : World, wo = wr := ⟨_, rfl⟩
    rw [← hwo] at hown hnew hblk
    rw [← hwo]
    clear hwo
    have HO := Lib.hid hown
    have HW := Lib.hid hnew
    have HB := Lib.hid hblk
    clear hown hnew hblk
    by_cases hkm : k < nm
    · have hkm' : k < m.length := by rw [← HNM.out]; exact hkm
      have hkr : k < nr := by omega
      have hkr' : k < rows.length := by rw [← HNR.out]; exact hkr
      obtain ⟨bm, om, rfl, cm0⟩ := HM.out.at hkm
      have hbm := World.block_lt_of_cell? w _ cm0
      obtain ⟨b', o', u, e, ck, hu⟩ := HR.out.at hkr
      simp at e
      obtain ⟨rfl, rfl⟩ := e
      obtain ⟨au, nu, cu, rfl, HNU, hnu⟩ := hu.shape
      have hrk := HOK.out k hkr'
      have hnun : nu = n0 := by rw [HNU.out]; exact hrk.1
      subst hnun
      have hmk := HMR.out k hkm'
      have HU := Lib.hid hu
      have HRK := Lib.hid hrk
      clear hu hrk
      go_wp2_with fail
      go_loopw [7] (fun i wr => ∃ j : Nat, i = .int .i64 j ∧ j ≤ nu ∧ Own wr 3 (.slice (some ⟨w.heap.size + 1, 0, none⟩) nu nu) ((addTo p (encZ p nu rows m k) (gi m k) (gr rows k) j).map (Value.int .i64)) ∧ Chg (· = w.heap.size + 1) wo wr) (fun i _ => nu - (intOf i).toNat)
      case atStart => exact ⟨0, rfl, Nat.zero_le _, by rw [addTo_zero]; exact HO.out, Chg.refl _ _⟩
      case round =>
        obtain ⟨j, rfl, hj, hown, hchg⟩ := hrel
        have HY := Lib.hid hown
        have HC := Lib.hid hchg
        clear hown hchg
        have hbl := (HB.out.chg HC.out (by omega))
        obtain ⟨d0, d1, _, _⟩ := hbl.cells
        clear hbl
        have ck' := HC.out.cell (HW.out.cellNew ck) (by have := World.block_lt_of_cell? w _ ck; simp only at this ⊢; omega)
        have cm' := HC.out.cell (HW.out.cellNew cm0) (by simp only at hbm ⊢; omega)
        by_cases hjn : j < nu
        · obtain ⟨bx, ox, rfl, cx0⟩ := HU.out.at hjn
          have cx := HC.out.cell (HW.out.cellNew cx0) (by have := World.block_lt_of_cell? w _ cx0; simp only at this ⊢; omega)
          obtain ⟨cy, fy⟩ := HY.out.cell (i := j) (by rw [List.length_map, addTo_length, encZ_length]; exact hjn)
          rw [gv_map_int (by rw [addTo_length, encZ_length]; exact hjn), addTo_get _ _ _ _ _ (by rw [encZ_length]; exact hjn), if_neg (by omega)] at cy
          have hy1 := encZ_range (p := p) (by omega) m (Nat.le_of_lt hkr') HOK.out hjn
          have hx1 := HRK.out.2 j hjn
          have hms := mul_small (x := gi m k) (y := gi (gr rows k) j) (by omega) (by omega) (by omega) (by omega)
          have hb0 := Int.emod_nonneg (gi (encZ p nu rows m k) j + gi m k * gi (gr rows k) j) (show p ≠ 0 by omega)
          have hb1 := Int.emod_lt_of_pos (gi (encZ p nu rows m k) j + gi m k * gi (gr rows k) j) (show 0 < p by omega)
          go_wp2_with fail
          go_region
          all_goals go_wp2_with fail
          all_goals go_roundw
          case rel =>
            have hst := (HY.out.set j (.int .i64 ((gi (encZ p nu rows m k) j + gi m k * gi (gr rows k) j) % p))).new (New.drew _)
            rw [set_map_int, addTo_succ _ _ _ _ _ (by rw [encZ_length]; exact hjn)] at hst
            exact ⟨j + 1, by go_num, by omega, hst, Chg.trans (Chg.trans HC.out (Chg.setCell _ _ _) (U := (· = w.heap.size + 1)) (fun _ _ x => x) (fun _ _ x => x)) (New.drew _) (fun _ _ x => x) (fun _ _ x => x.elim)⟩
          case measure => simp [intOf]; omega
        · obtain rfl : j = nu := by omega
          go_wp2_with fail
          go_roundw
          case rel => exact ⟨k + 1, by go_num, by omega, by have h := HY.out; rw [encZ, addZ, HRK.out.1]; exact h, HW.out.then HC.out (fun i hi => by omega), HB.out.chg HC.out (by omega)⟩
          case measure => simp [intOf]; omega
    · obtain rfl : k = nm := by omega
      go_wp2_with fail
      go_ret
      exact ⟨_, rfl, by rw [← HNM.out]; exact HO.out, (fun g hg => by simp [Value.ownBlock] at hg; omega), HW.out⟩
end Go.Proofs.YtcdbeepphdfipaaGreatDoor

namespace Go.Proofs.YtcdbeepphdfipaaGreatDoor
open Go.RowKit Mat
set_option linter.unusedVariables false

theorem validWord_any (p : Int) (v : Value) (xs : List Int) (k : Nat) (w : World) (hx : IsI w v xs) (hp : -1000 ≤ p ∧ p ≤ 1000) (hk : k ≤ 1000) :
    Calls Tryz.prog 80 #[.int .i64 p, v, .int .i64 k] w fun e w' => e = .returned (.bool (hasB p xs && decide (xs.length = k))) ∧ w = w' := by
  obtain ⟨ao, n, cap, rfl, HN, hn⟩ := hx.shape
  have HX := Lib.hid hx
  clear hx
  go_enter Tryz.func80, Tryz.ntmps80
  go_wp2_with fail
  go_loop [7] (fun i => ∃ j : Nat, i = .int .i64 j ∧ j ≤ n ∧ Hid (∀ l, l < j → inB (gi xs l) 0 (p - 1) = true)) (fun i => n - (intOf i).toNat)
  case atStart => exact ⟨0, rfl, Nat.zero_le _, fun l hl => by omega⟩
  case round =>
    obtain ⟨j, rfl, hj, HD⟩ := hrel
    by_cases hjn : j < n
    · obtain ⟨b, o, rfl, c⟩ := HX.out.at hjn
      cases hb : inB (gi xs j) 0 (p - 1) with
      | false =>
        have HQ := Lib.hid (hasB_no (p := p) (by rw [← HN.out]; exact hjn) hb)
        go_wp2_with (go_at_call 106; refine (inRange_any _ _ _ _).mono ?_; rintro e w' ⟨rfl, rfl⟩)
        go_ret
        exact ⟨by rw [HQ.out]; rfl, rfl⟩
      | true =>
        have HB := Lib.hid hb
        go_wp2_with (go_at_call 106; refine (inRange_any _ _ _ _).mono ?_; rintro e w' ⟨rfl, rfl⟩)
        go_round
        case rel =>
          refine ⟨j + 1, by go_num, by omega, fun l hl => ?_⟩
          by_cases e : l = j
          · rw [e]; exact HB.out
          · exact HD.out l (by omega)
        case measure => simp [intOf]; omega
    · obtain rfl : j = n := by omega
      have hh : hasB p xs = true := hasB_iff.2 (fun i hi => inB_iff.1 (HD.out i (by rw [HN.out]; exact hi)))
      have HH := Lib.hid hh
      clear hh
      go_wp2_with fail
      go_ret
      refine ⟨ret_bool ?_, rfl⟩
      rw [HH.out, ← HN.out, Bool.true_and]
      rw [Bool.eq_iff_iff]
      simp
      omega

/-- A valid code and a message of it. -/
def MsgC (p : Int) (rows : List (List Int)) (m : List Int) : Prop := ValidC p rows ∧ m.length = rows.length ∧ hasB p m = true
/-- What EncodeWord answers. -/
def EncR (p : Int) (rows : List (List Int)) (m : List Int) (out : List Int) : Prop :=
  (MsgC p rows m → out = encZ p (gr rows 0).length rows m m.length) ∧ (¬ MsgC p rows m → out = [])
theorem ValidC.rowsOk {p : Int} {rows : List (List Int)} (h : ValidC p rows) : RowsOk p (gr rows 0).length rows := fun i hi => h.few.2.2.2.2 i hi
theorem EncR.unique {p : Int} {rows : List (List Int)} {m a b : List Int} (h : EncR p rows m a) (h' : EncR p rows m b) : a = b := by
  by_cases c : MsgC p rows m
  · rw [h.1 c, h'.1 c]
  · rw [h.2 c, h'.2 c]

theorem EncR.small {p : Int} {rows : List (List Int)} {m a : List Int} (h : EncR p rows m a) : a.length ≤ 1048576 := by
  by_cases c : MsgC p rows m
  · rw [h.1 c, encZ_length]; have := c.1.few; omega
  · rw [h.2 c]; simp


set_option maxHeartbeats 1000000 in
theorem implEncodeWord_any (p : Int) (v vm : Value) (rows : List (List Int)) (m : List Int) (w : World) (hr : IsR w v rows) (hm : IsI w vm m) :
    Calls Tryz.prog 128 #[.agg #[.int .i64 p, v], vm] w fun e w' => GivesI w e w' (EncR p rows m) := by
  obtain ⟨ao, n, cap, rfl, HN, hn⟩ := hr.shape
  obtain ⟨am, nm, cm, rfl, HNM, hnm⟩ := hm.shape
  have HR := Lib.hid hr
  have HM := Lib.hid hm
  clear hr hm
  have h1 : New w (w.alloc (.cells #[.int .i64 p, .slice ao n cap] 24)) := New.alloc _ _
  have b1 := Blk2.alloc w (.int .i64 p) (.slice ao n cap) 24
  go_enter Tryz.func128, Tryz.ntmps128
  go_wp2_with fail
  refine (known_any _ _ rows _ (HR.out.new h1)).mono ?_
  rintro e w2 ⟨⟨b, rfl, hb⟩, hn2⟩
  have h2 := h1.trans hn2
  have b2 := b1.new hn2
  have HB := Lib.hid hb
  clear hb hn2 b1 h1
  obtain ⟨c0, c1, _, _⟩ := b2.cells
  cases b with
  | false =>
    go_wp2_with fail
    go_ret
    exact givesNil h2 ⟨(fun h => by have := HB.out.2 h.1; cases this), fun _ => rfl⟩
  | true =>
    have hv := HB.out.1 rfl
    have hp := hv.prime
    have hf := hv.few
    have hk : n ≤ 4 := by rw [HN.out]; omega
    have HV := Lib.hid hv
    have HF := Lib.hid hf
    clear hv hf HB
    by_cases hl : nm = n
    · have hlm : m.length = rows.length := by rw [← HN.out, ← HNM.out]; exact hl
      subst hl
      have HLM := Lib.hid hlm
      clear hlm
      go_wp2_with fail
      refine (has_any p _ m _ (HM.out.new h2) (by omega)).mono ?_
      rintro e w3 ⟨rfl, hn3⟩
      have h3 := h2.trans hn3
      obtain ⟨d0, d1, _, _⟩ := (b2.new hn3).cells
      clear c0 c1 b2 hn3 h2
      cases hw : hasB p m with
      | false =>
        have HW := Lib.hid hw
        clear hw
        go_wp2_with fail
        go_ret
        exact givesNil h3 ⟨(fun h => by have := HW.out; rw [h.2.2] at this; cases this), fun _ => rfl⟩
      | true =>
        have HW := Lib.hid hw
        clear hw
        go_wp2_with fail
        refine (encode_any p (gr rows 0).length _ _ rows m _ hp (by have := HF.out; omega) (HR.out.new h3) (HM.out.new h3) HV.out.rowsOk HF.out.1 (Nat.le_of_eq HLM.out) (hasB_iff.1 HW.out)).mono ?_
        rintro e w4 ⟨u, rfl, ho, hfr, hn4⟩
        have HG := Lib.hid (show GivesI w (.returned u) w4 (EncR p rows m) from ⟨u, _, rfl, ho, (fun g hg => Nat.le_trans h3.size (hfr g hg)), ⟨fun _ => rfl, fun h => absurd ⟨HV.out, HLM.out, HW.out⟩ h⟩, h3.trans hn4⟩)
        clear ho hfr hn4
        go_wp2_with fail
        go_ret
        exact HG.out
    · have hd : decide ((nm : Int) = n) = false := by simp; omega
      have hd2 : ((nm : Int) != (n : Int)) = true := by simp; omega
      have hlm : ¬ m.length = rows.length := by rw [← HN.out, ← HNM.out]; exact hl
      have HLM := Lib.hid hlm
      clear hlm
      go_wp2_with fail
      go_ret
      exact givesNil h2 ⟨(fun h => absurd h.2.1 HLM.out), fun _ => rfl⟩
end Go.Proofs.YtcdbeepphdfipaaGreatDoor
