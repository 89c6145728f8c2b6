/- spec.DrawParseCode: a text, that may be no code's. Numbers of a few digits as texts. spec.DrawRunDesk: lines for the desk. -/
import Derived.Test.YtcdbeepphdfipaaGreatDoorDrwG
import Derived.Test.YtcdbeepphdfipaaGreatDoorMut
import Derived.Test.YtcdbeepphdfipaaGreatDoorImpP
import Derived.Test.YtcdbeepphdfipaaGreatDoorTxtG
import Derived.Test.YtcdbeepphdfipaaGreatDoorEnco
import Derived.BigRegion
import Derived.Deep.DeepCutAuto
import Derived.Deep.CutBlock
namespace Go.Proofs.YtcdbeepphdfipaaGreatDoor
open Go.RowKit Mat
set_option linter.unusedVariables false

theorem codeT_len {p : Int} {rows : List (List Int)} (h : ValidC p rows) : (codeT p rows).length ≤ 50 := by
  obtain ⟨hp, hd, r1, r6, h7⟩ := h.digs
  have hle := rowsTo_le h7 rows.length (Nat.le_refl _)
  rw [codeT, List.length_cons, List.length_cons]
  omega
theorem TxtR.short {p : Int} {rows : List (List Int)} {s : ByteArray} (h : TxtR p rows s) : ∃ l, s = bs l ∧ l.length ≤ 50 := by
  by_cases c : ValidC p rows
  · exact ⟨_, h.1 c, codeT_len c⟩
  · exact ⟨[], h.2 c, by simp⟩
theorem RowsQ.mid {out : List (List Int)} (h : RowsQ out) : Mid out.length ∧ ∀ i, i < out.length → Mid (gr out i).length := ⟨by have := h.1; unfold Mid; omega, fun i hi => by have := h.2 i hi; unfold Mid; omega⟩

set_option maxRecDepth 100000 in
set_option maxHeartbeats 4000000 in
theorem drawParseCode_any (v : Value) (n : Nat) (w : World) (hb : RawB w v n) :
    Calls Tryz.prog 18 #[v] w fun e w' => ∃ L : List UInt8, e = .returned (.string (bs L)) ∧ L.length ≤ 60 ∧ New w w' := by
  obtain ⟨ao, cap, rfl, -⟩ := id hb
  have HB := Lib.hid hb
  clear hb
  go_enter Tryz.func18, Tryz.ntmps18
  go_wp2_with fail
  refine (newReader_any _ _ _ HB.out).mono ?_
  rintro e w1 ⟨rfl, hr1, hn1⟩
  have H1 := Lib.hid (And.intro hr1 hn1)
  clear hr1 hn1
  go_wp2_with fail
  refine (goodCode_any w.heap.size 0 _ H1.out.1 (by omega)).mono ?_
  rintro e w2 ⟨a, l, c, vs, rows, p, rfl, ho, hf, hq, hp, hr2, hc2⟩
  have hn2 := H1.out.2.of_chg hc2 (fun k hk => Nat.le_of_eq hk.symm)
  have H2 := Lib.hid (And.intro (ho.isR hq.mid.1 hq.mid.2) (And.intro hr2 hn2))
  clear ho hf hq hr2 hc2 hn2
  go_wp2_with fail
  refine (specCodeText_any p _ rows _ H2.out.1).mono ?_
  rintro e w3 ⟨⟨s, rfl, hs⟩, hn3⟩
  obtain ⟨L, rfl, hL⟩ := hs.short
  have H3 := Lib.hid (And.intro (H2.out.2.1.new hn3) (H2.out.2.2.trans hn3))
  clear hn3 hs
  obtain ⟨S, hS⟩ : ∃ S, S = bs L := ⟨_, rfl⟩
  rw [← hS]
  have KM := Lib.hid (fun g w hr => mutate_any g 3001 L w hr (by omega) (by omega))
  rw [← hS] at KM
  have HS := Lib.hid hS
  clear hS
  go_wp2_with fail
  refine (pick_any w.heap.size 3000 3 _ H3.out.1 (by omega) (by omega)).mono ?_
  rintro e w4 ⟨x, rfl, hp4, hr4, hc4⟩
  have H4 := Lib.hid (And.intro hr4 (H3.out.2.of_chg hc4 (fun k hk => Nat.le_of_eq hk.symm)))
  clear hp4 hr4 hc4
  by_cases hx : x = 0
  · subst hx
    go_wp2_with fail
    refine (KM.out w.heap.size w4 H4.out.1).mono ?_
    rintro e w5 ⟨A, rfl, hA, hr5, hc5⟩
    have hA' : A.length ≤ L.length + 2 := hA
    have H5 := Lib.hid (H4.out.2.of_chg hc5 (fun k hk => Nat.le_of_eq hk.symm))
    clear hr5 hc5 hA
    go_wp2_with fail
    go_ret
    exact ⟨A, rfl, by omega, H5.out⟩
  · have hd : (x == 0) = false := by simp; omega
    go_wp2_with fail
    go_ret
    exact ⟨L, ret_sb HS.out, by omega, H4.out.2⟩
end Go.Proofs.YtcdbeepphdfipaaGreatDoor

namespace Go.Proofs.YtcdbeepphdfipaaGreatDoor
open Go.RowKit Mat
set_option linter.unusedVariables false

theorem bs_self (s : ByteArray) : s = bs s.data.toList := by cases s; simp [bs]
theorem size_list (s : ByteArray) : s.data.toList.length = s.size := by rw [Array.length_toList]; rfl
/-- number gives a text of at most m bytes. -/
def NumS (B m : Int) : Prop := ∀ (x : Int) (w : World), x < B → Calls Tryz.prog 40 #[.int .i64 x] w fun e w' => (∃ s : ByteArray, e = .returned (.string s) ∧ (s.size : Int) ≤ m) ∧ w = w'
theorem num0 : NumS 10 2 := by
  intro x w hx
  by_cases h0 : 0 ≤ x
  · refine (number_any x h0 (by omega) w).mono ?_
    rintro e w' ⟨rfl, rfl⟩
    exact ⟨⟨_, rfl, by rw [bs_size]; simp⟩, rfl⟩
  · have hd : decide (x < 0) = true := by simp; omega
    have hlt : x < 0 := by omega
    go_enter Tryz.func40, Tryz.ntmps40
    go_wp2_with fail
    go_ret
    exact ⟨⟨_, rfl, by show ((2 : Nat) : Int) ≤ 2; decide⟩, rfl⟩
set_option maxHeartbeats 1000000 in
theorem num_step {B m : Int} (h : NumS B m) (hB : 10 ≤ B ∧ B ≤ 100000) (hm : 0 ≤ m ∧ m ≤ 100) : NumS (10 * B) (m + 2) := by
  intro x w hx
  by_cases h10 : x < 10
  · refine (num0 x w h10).mono ?_
    rintro e w' ⟨⟨s, rfl, hs⟩, rfl⟩
    exact ⟨⟨s, rfl, by omega⟩, rfl⟩
  · obtain ⟨n, rfl⟩ : ∃ n : Nat, x = n := ⟨x.toNat, by omega⟩
    have K1 := Lib.hid (fun w => h ((n : Int) / 10) w (by omega))
    have K2 := Lib.hid (fun w => num0 ((n : Int) % 10) w (by omega))
    have hn : n ≤ 1000000 := by omega
    clear h
    go_enter Tryz.func40, Tryz.ntmps40
    go_wp2_with fail
    refine (K1.out _).mono ?_
    rintro e w1 ⟨⟨s, rfl, hs⟩, rfl⟩
    go_wp2_with fail
    refine (K2.out _).mono ?_
    rintro e w1 ⟨⟨t, rfl, ht⟩, rfl⟩
    have hadd := fun w => run_string_add_sum (P := Tryz.prog) w s t (by omega)
    go_wp2_with fail
    go_ret
    exact ⟨⟨_, rfl, by rw [ByteArray.size_append]; omega⟩, rfl⟩
theorem num_any : NumS 10000 8 := by
  have h1 : NumS 100 4 := num_step num0 (by decide) (by decide)
  have h2 : NumS 1000 6 := num_step h1 (by decide) (by decide)
  exact num_step h2 (by decide) (by decide)

set_option maxHeartbeats 2000000 in
theorem rowTextW_any (v : Value) (xs : List Int) (w : World) (hr : IsR w v [xs]) (hd : ∀ i, i < xs.length → gi xs i ≤ 1000) (h7 : xs.length ≤ 20) :
    Calls Tryz.prog 41 #[v] w fun e w' => (∃ s : ByteArray, e = .returned (.string s) ∧ s.size ≤ 200) ∧ New w w' := by
  obtain ⟨ao, n, cap, rfl, HN, hn⟩ := hr.shape
  have hn1 : n = 1 := by rw [HN.out]; rfl
  subst hn1
  have HR := Lib.hid hr
  have HD := Lib.hid hd
  have H7 := Lib.hid h7
  clear hr hd h7
  go_enter Tryz.func41, Tryz.ntmps41
  go_wp2_with fail
  go_loopw [3, 4] (fun t3 t4 wr => ∃ (i : Nat) (s : ByteArray), t3 = .string s ∧ t4 = .int .i64 i ∧ i ≤ 1 ∧ s.size ≤ 200 * i ∧ Hid (New w wr)) (fun _ t4 _ => 1 - (intOf t4).toNat)
  case atStart => exact ⟨0, _, rfl, rfl, Nat.zero_le _, Nat.le_refl _, Chg.refl _ _⟩
  case round =>
    obtain ⟨i, s, rfl, rfl, hi, hsz, HW⟩ := hrel
    obtain ⟨wz, hwz⟩ : ∃ wz : World, wz = wr := ⟨_, rfl⟩
    rw [← hwz] at HW
    rw [← hwz]
    clear hwz
    by_cases hin : i < 1
    · obtain rfl : i = 0 := by omega
      rw [show ((0 : Nat) : Int) = 0 from rfl]
      obtain ⟨b, o, u, rfl, ck, hu⟩ := (HR.out.new HW.out).at (i := 0) (by omega)
      rw [Nat.add_zero] at ck
      obtain ⟨au, m, cu, rfl, HM, hm⟩ := hu.shape
      have hm7 : m ≤ 20 := by rw [HM.out]; exact H7.out
      have HU := Lib.hid hu
      have hs0 : s.size = 0 := by omega
      clear hu hsz
      go_wp2_with fail
      go_loopw [3, 5] (fun t3 t5 wr => ∃ (k : Nat) (z : ByteArray), t3 = .string z ∧ t5 = .int .i64 k ∧ k ≤ m ∧ z.size ≤ 8 * k ∧ Hid (New wz wr)) (fun _ t5 _ => m - (intOf t5).toNat)
      case atStart => exact ⟨0, s, rfl, rfl, Nat.zero_le _, by omega, Chg.refl _ _⟩
      case round =>
        obtain ⟨k, z, rfl, rfl, hk, hzs, HZ⟩ := hrel
        have ck' := HZ.out.cellNew ck
        clear ck
        by_cases hkm : k < m
        · obtain ⟨bb, oo, rfl, cx⟩ := (HU.out.new HZ.out).at (i := k) hkm
          have hkx := HD.out k (by have := HM.out; simp [gr] at this; omega)
          have e0 : gi (gr [xs] 0) k = gi xs k := rfl
          rw [e0] at cx
          obtain ⟨x, hx⟩ : ∃ x, gi xs k = x := ⟨_, rfl⟩
          rw [hx] at cx hkx
          have HZN := Lib.hid HZ.out
          have K := Lib.hid (num_any x wr (by omega))
          clear hx e0
          go_wp2_with fail
          refine K.out.mono ?_
          rintro e w' ⟨⟨y, rfl, hy⟩, rfl⟩
          have hadd := fun w => run_string_add_sum (P := Tryz.prog) w z y (by omega)
          go_wp2_with fail
          go_roundw
          case rel => exact ⟨k + 1, z ++ y, by first | rfl | go_num, by go_num, by omega, by rw [ByteArray.size_append]; omega, HZN.out⟩
          case measure => simp [intOf]; omega
        · obtain rfl : k = m := by omega
          go_wp2_with fail
          go_roundw
          case rel => exact ⟨0 + 1, z, rfl, by go_num, by omega, by omega, HW.out.trans HZ.out⟩
          case measure => simp [intOf]
    · obtain rfl : i = 1 := by omega
      go_wp2_with fail
      go_ret
      exact ⟨⟨s, rfl, by omega⟩, HW.out⟩
set_option maxHeartbeats 4000000 in
/-- The word of the message of zeros. -/
theorem encodeZero_any (p : Int) (n : Nat) (vr vm : Value) (rows : List (List Int)) (m : List Int) (w : World) (hp : 2 ≤ p ∧ p ≤ 7) (hn : 1 ≤ n ∧ n ≤ 7) (hr : IsR w vr rows) (hm : IsI w vm m)
    (hok : ∀ i, i < rows.length → (gr rows i).length = n) (h1 : 1 ≤ rows.length) (hl : m.length ≤ rows.length) (hmr : ∀ i, i < m.length → gi m i = 0) :
    Calls Tryz.prog 55 #[.agg #[.int .i64 p, vr], vm] w fun e w' => GivesI w e w' (fun xs => xs.length = n) := by
  obtain ⟨ar, nr, cr, rfl, HNR, hnr⟩ := hr.shape
  obtain ⟨am, nm, cm, rfl, HNM, hnm⟩ := hm.shape
  obtain ⟨b0, o0, u0, rfl, ck0, hu0⟩ := hr.at (i := 0) (by rw [HNR.out]; exact h1)
  rw [Nat.add_zero] at ck0
  obtain ⟨a0, n0, c0, rfl, HN0, hn0⟩ := hu0.shape
  obtain rfl : n0 = n := by rw [HN0.out]; exact hok 0 (by omega)
  have hle : nm ≤ nr := by rw [HNR.out, HNM.out]; exact hl
  have h1' : 0 < nr := by rw [HNR.out]; omega
  have HR := Lib.hid hr
  have HM := Lib.hid hm
  have HOK := Lib.hid hok
  have HMR := Lib.hid hmr
  clear hr hm hok hmr hl h1 hu0
  have b1 := Blk2.alloc w (.int .i64 p) (.slice (some ⟨b0, o0, none⟩) nr cr) 24
  have hn1 : New w (w.alloc (.cells #[.int .i64 p, .slice (some ⟨b0, o0, none⟩) nr cr] 24)) := New.alloc _ _
  have hs1 : (w.alloc (.cells #[.int .i64 p, .slice (some ⟨b0, o0, none⟩) nr cr] 24)).heap.size = w.heap.size + 1 := by rw [World.size_alloc]
  have ck01 := hn1.cellNew ck0
  go_enter Tryz.func55, Tryz.ntmps55
  go_wp2_with (at_make; refine wpList_mk rfl _ _ _ rfl tyInt _ _ _ _ n0 n0 rfl rfl rfl rfl (Nat.le_refl _) hn0 ?_; intro v3 w3 hv3 ho3 hn3 hs3; rw [hs1] at hv3; subst hv3; have HO3 := Lib.hid ho3; have HN3 := Lib.hid hn3; clear ho3 hn3 hs3)
  have h3 := hn1.trans HN3.out
  have b3 := b1.new HN3.out
  clear b1 hn1 hs1 ck01 HN3
  go_loopw [6] (fun i wr => ∃ (k : Nat) (xs : List Int), i = .int .i64 k ∧ k ≤ nm ∧ xs.length = n0 ∧ Hid (∀ j, j < n0 → gi xs j = 0) ∧ Own wr 3 (.slice (some ⟨w.heap.size + 1, 0, none⟩) n0 n0) (xs.map (Value.int .i64)) ∧ New w wr ∧ Blk2 wr w.heap.size (.int .i64 p) (.slice (some ⟨b0, o0, none⟩) nr cr) 24) (fun i _ => nm - (intOf i).toNat)
  case atStart => exact ⟨0, List.replicate n0 0, rfl, Nat.zero_le _, by simp, fun j hj => by rw [gi_replicate], by rw [List.map_replicate]; exact HO3.out, h3, b3⟩
  case round =>
    obtain ⟨k, xs, rfl, hk, hxl, HS, hown, hnew, hblk⟩ := hrel
    obtain ⟨wo, hwo⟩ : ∃ wo : World, wo = wr := ⟨_, rfl⟩
    rw [← hwo] at hown hnew hblk
    rw [← hwo]
    clear hwo
    have HO := Lib.hid (And.intro hown hxl)
    have HW := Lib.hid hnew
    have HB := Lib.hid hblk
    clear hown hnew hblk hxl
    by_cases hkm : k < nm
    · have hkm' : k < m.length := by rw [← HNM.out]; exact hkm
      have hkr : k < nr := by omega
      have hkr' : k < rows.length := by rw [← HNR.out]; exact hkr
      obtain ⟨bm, om, rfl, cm0⟩ := HM.out.at hkm
      have hbm := World.block_lt_of_cell? w _ cm0
      obtain ⟨b', o', u, e, ck, hu⟩ := HR.out.at hkr
      simp at e
      obtain ⟨rfl, rfl⟩ := e
      obtain ⟨au, nu, cu, rfl, HNU, hnu⟩ := hu.shape
      have hrk := HOK.out k hkr'
      have hnun : nu = n0 := by rw [HNU.out]; exact hrk
      subst hnun
      have hmk := HMR.out k hkm'
      obtain ⟨y, hy⟩ : ∃ y, y = gi m k := ⟨_, rfl⟩
      rw [← hy] at hmk cm0
      have HU := Lib.hid hu
      have HRK := Lib.hid hrk
      clear hu hrk hy
      go_wp2_with fail
      go_loopw [7] (fun i wr => ∃ (j : Nat) (zs : List Int), i = .int .i64 j ∧ j ≤ nu ∧ zs.length = nu ∧ Hid (∀ j, j < nu → gi zs j = 0) ∧ Own wr 3 (.slice (some ⟨w.heap.size + 1, 0, none⟩) nu nu) (zs.map (Value.int .i64)) ∧ Chg (· = w.heap.size + 1) wo wr) (fun i _ => nu - (intOf i).toNat)
      case atStart => exact ⟨0, xs, rfl, Nat.zero_le _, HO.out.2, HS.out, HO.out.1, Chg.refl _ _⟩
      case round =>
        obtain ⟨j, zs, rfl, hj, hzl, HZ, hown, hchg⟩ := hrel
        have HY := Lib.hid (And.intro hown hzl)
        have HC := Lib.hid hchg
        clear hown hchg hzl
        have hbl := (HB.out.chg HC.out (by omega))
        obtain ⟨d0, d1, _, _⟩ := hbl.cells
        clear hbl
        have ck' := HC.out.cell (HW.out.cellNew ck) (by have := World.block_lt_of_cell? w _ ck; simp only at this ⊢; omega)
        have cm' := HC.out.cell (HW.out.cellNew cm0) (by simp only at hbm ⊢; omega)
        by_cases hjn : j < nu
        · obtain ⟨bx, ox, rfl, cx0⟩ := HU.out.at hjn
          have cx := HC.out.cell (HW.out.cellNew cx0) (by have := World.block_lt_of_cell? w _ cx0; simp only at this ⊢; omega)
          obtain ⟨cy, fy⟩ := HY.out.1.cell (i := j) (by rw [List.length_map, HY.out.2]; exact hjn)
          rw [gv_map_int (by rw [HY.out.2]; exact hjn)] at cy
          have hz1 := HZ.out j hjn
          obtain ⟨z, hz⟩ : ∃ z, z = gi zs j := ⟨_, rfl⟩
          obtain ⟨x, hx⟩ : ∃ x, x = gi (gr rows k) j := ⟨_, rfl⟩
          rw [← hz] at hz1 cy
          rw [← hx] at cx
          have hxy : y * x = 0 := by rw [hmk, Int.zero_mul]
          have htb : (z + y * x).tmod p = 0 := by rw [hxy, hz1]; simp
          obtain ⟨r, hr⟩ : ∃ r, (z + y * x).tmod p = r := ⟨_, rfl⟩
          rw [hr] at htb
          have hpz : p ≠ 0 := by omega
          have hw1 : IntKind.i64.wrap (y * x) = y * x := IntWalk.i64_in _ (by omega)
          have hw2 : IntKind.i64.wrap (z + y * x) = z + y * x := IntWalk.i64_in _ (by omega)
          have hw3 : IntKind.i64.wrap r = r := IntWalk.i64_in _ (by omega)
          have HXY := Lib.hid (And.intro hxy (And.intro htb (And.intro hz1 hmk)))
          clear hz hx hxy htb hz1 hmk
          go_wp2_with fail
          go_region
          all_goals go_wp2_with fail
          all_goals go_roundw
          case rel =>
            have hst := (HY.out.1.set j (.int .i64 r)).new (New.drew _)
            rw [set_map_int] at hst
            exact ⟨j + 1, zs.set j r, by go_num, by omega, by rw [List.length_set]; exact HY.out.2, fun i hi => by
              rw [gi_set (by rw [HY.out.2]; exact hi)]
              split
              · exact HXY.out.2.1
              · exact HZ.out i hi, hst, Chg.trans (Chg.trans HC.out (Chg.setCell _ _ _) (U := (· = w.heap.size + 1)) (fun _ _ x => x) (fun _ _ x => x)) (New.drew _) (fun _ _ x => x) (fun _ _ x => x.elim)⟩
          case measure => simp [intOf]; omega
        · obtain rfl : j = nu := by omega
          go_wp2_with fail
          go_roundw
          case rel => exact ⟨k + 1, zs, by go_num, by omega, HY.out.2, HZ.out, HY.out.1, HW.out.then HC.out (fun i hi => by omega), HB.out.chg HC.out (by omega)⟩
          case measure => simp [intOf]; omega
    · obtain rfl : k = nm := by omega
      go_wp2_with fail
      go_ret
      exact ⟨_, xs, rfl, HO.out.1, (fun g hg => by simp [Value.ownBlock] at hg; omega), HO.out.2, HW.out⟩
end Go.Proofs.YtcdbeepphdfipaaGreatDoor

namespace Go.Proofs.YtcdbeepphdfipaaGreatDoor
open Go.RowKit Mat
set_option linter.unusedVariables false

theorem szSp : (⟨#[32]⟩ : ByteArray).size = 1 := rfl
theorem szSend : (⟨#[115, 101, 110, 100, 32]⟩ : ByteArray).size = 5 := rfl
theorem szMend : (⟨#[109, 101, 110, 100, 32]⟩ : ByteArray).size = 5 := rfl

/-- What stands while a line is drawn: the reader at g, the code's block gc, its rows, the lines so far. -/
structure DSt (w : World) (g gc : Nat) (p : Int) (a : Option Addr) (l c : Nat) (vs : List Value) (rows : List (List Int)) (v4 : Value) (ls : List (List UInt8)) (wk : World) (N : Nat) : Prop where
  rd : Rd wk g N
  blk : Blk2 wk gc (.int .i64 p) (.slice a l c) 24
  own : OwnR wk 53 3 (.slice a l c) vs rows
  frm : FromR (g + 1) (.slice a l c) vs rows
  lin : Own wk 9 v4 (strV ls)
  lfr : From (g + 1) v4
  far : g < gc
  old : w.heap.size ≤ g
  nw : New w wk
section
variable {w wk w' : World} {g gc : Nat} {p : Int} {a : Option Addr} {l c : Nat} {vs : List Value} {rows : List (List Int)} {v4 : Value} {ls : List (List UInt8)} {N M : Nat}
theorem DSt.step (h : DSt w g gc p a l c vs rows v4 ls wk N) (hc : Chg (· = g) wk w') (hr : Rd w' g M) : DSt w g gc p a l c vs rows v4 ls w' M :=
  ⟨hr, h.blk.chg hc (fun e => by have := h.far; omega), h.own.chg hc (fun b hb e => by have := h.frm.1 b hb; omega) (fun i hi b hb e => by have := h.frm.2 i hi b hb; omega), h.frm,
    h.lin.chg hc (fun b hb e => by have := h.lfr b hb; omega), h.lfr, h.far, h.old, h.nw.of_chg hc (fun k hk => by have := h.old; omega)⟩
theorem DSt.new (h : DSt w g gc p a l c vs rows v4 ls wk N) (hn : New wk w') : DSt w g gc p a l c vs rows v4 ls w' N :=
  h.step (hn.mono (fun _ _ x => x.elim)) (h.rd.new hn)
theorem DSt.rdm (h : DSt w g gc p a l c vs rows v4 ls wk N) (hm : N ≤ M) : DSt w g gc p a l c vs rows v4 ls wk M :=
  ⟨h.rd.mono hm, h.blk, h.own, h.frm, h.lin, h.lfr, h.far, h.old, h.nw⟩
theorem DSt.blkc (h : DSt w g gc p a l c vs rows v4 ls wk N) (hc : Chg (· = g) wk w') : Blk2 w' gc (.int .i64 p) (.slice a l c) 24 :=
  h.blk.chg hc (fun e => by have := h.far; omega)
theorem DSt.isR (h : DSt w g gc p a l c vs rows v4 ls wk N) (hq : RowsQ rows) : IsR wk (.slice a l c) rows := h.own.isR hq.mid.1 hq.mid.2
end
/-- The first numbers of a slice. -/
theorem IsI.upto {w : World} {ao : Option Addr} {n cap k : Nat} {xs : List Int} (h : IsI w (.slice ao n cap) xs) (hk : k ≤ n) : IsI w (.slice ao k cap) (xs.take k) := by
  have hl := h.len
  obtain ⟨ao', cap', e, h1, h2, hm, h3⟩ := h
  simp at e
  obtain ⟨rfl, rfl, rfl⟩ := e
  have hlen : (xs.take k).length = k := by rw [List.length_take]; omega
  refine ⟨ao, cap, by rw [hlen], ⟨by rw [hlen]; omega, h1.2⟩, h2, by rw [hlen]; unfold Mid at hm ⊢; omega, fun i hi => ?_⟩
  rw [hlen] at hi
  obtain ⟨b, o, e1, e2⟩ := h3 i (by omega)
  refine ⟨b, o, e1, ?_⟩
  rw [gi_lt (by rw [hlen]; exact hi), List.getElem_take, ← gi_lt (by omega)]
  exact e2
theorem growS {w w1 w2 : World} {g N : Nat} {v v2 x : Value} {xs : List Value} (hn : New w w1) (ho : w.heap.size ≤ g) (hR : Rd w1 g N) (hf : From (g + 1) v)
    (k1 : Own w2 9 v2 (xs ++ [x])) (k2 : Chg (fun k => v.ownBlock = some k) w1 w2) (k3 : ∀ g', v2.ownBlock = some g' → v.ownBlock = some g' ∨ w1.heap.size ≤ g') :
    Own w2 9 v2 (xs ++ [x]) ∧ From (g + 1) v2 ∧ Rd w2 g N ∧ New w w2 :=
  ⟨k1, fun g' h => by
    rcases k3 g' h with c | c
    · exact hf g' c
    · exact Nat.le_trans hR.lt c, hR.chg k2 (fun k hk => by have := hf k hk; omega), hn.of_chg k2 (fun k hk => by have := hf k hk; omega)⟩
theorem isR_sole {w : World} {u : Value} {xs : List Int} (hu : IsI w u xs) : IsR (w.alloc (.cells #[u] 53)) (.slice (some ⟨w.heap.size, 0, none⟩) 1 1) [xs] :=
  ⟨_, 1, rfl, ⟨Nat.le_refl _, (fun h => by cases h)⟩, by simp [maxLen], by unfold Mid; simp, fun i hi => by
    have h0 : i = 0 := by simp at hi; omega
    subst h0
    exact ⟨w.heap.size, 0, u, rfl, by rw [cell_of_heap (heap_alloc_new w _)]; rfl, hu.new (New.alloc _ _)⟩⟩

set_option maxRecDepth 100000 in
set_option maxHeartbeats 40000000 in
theorem drawRunDesk_any (v : Value) (n : Nat) (w : World) (hb : RawB w v n) :
    Calls Tryz.prog 24 #[v] w fun e w' => ∃ (u : Value) (ls : List (List UInt8)), e = .returned u ∧ Own w' 9 u (strV ls) ∧ ls.length ≤ 5 ∧ (∀ x ∈ ls, x.length ≤ 1000) ∧ New w w' := by
  obtain ⟨ao, cap, rfl, -⟩ := id hb
  have HB := Lib.hid hb
  clear hb
  go_enter Tryz.func24, Tryz.ntmps24
  go_wp2_with fail
  refine (newReader_any _ _ _ HB.out).mono ?_
  rintro e w1 ⟨rfl, hr1, hn1⟩
  have H1 := Lib.hid (And.intro hr1 hn1)
  clear hr1 hn1 HB
  obtain ⟨g, hg⟩ : ∃ g, g = w.heap.size := ⟨_, rfl⟩
  rw [← hg] at H1 ⊢
  have HG := Lib.hid hg
  clear hg
  go_upto_region 3 with fail
  have hoe := Own.empty w1 9
  have hne := New.alloc w1 (.cells #[] 9)
  have hfe := From.new w1 0 0
  obtain ⟨wa, hwa⟩ : ∃ wa, wa = w1.alloc (.cells #[] 9) := ⟨_, rfl⟩
  obtain ⟨ga, hga⟩ : ∃ ga, ga = w1.heap.size := ⟨_, rfl⟩
  rw [← hwa, ← hga] at hoe
  rw [← hwa] at hne
  rw [← hga] at hfe
  rw [← hwa, ← hga]
  have hlt := H1.out.1.lt
  rw [← hga] at hlt
  have H0 := Lib.hid (And.intro (H1.out.1.new hne) (And.intro (H1.out.2.trans hne) (And.intro hoe (hfe.mono (show g + 1 ≤ ga by omega)))))
  clear hoe hne hfe hwa hga hlt
  go_wp2_with fail
  refine (one_lit g 0 (fun x => x = 0 ∨ x = 2 ∨ x = 4 ∨ x = 5) [4, 5, 2, 0] wa _ _ _ rfl rfl H0.out.1 (by omega) (by simp) (by simp) (by decide)).mono ?_
  rintro e wb ⟨k0, rfl, hk0, hrb, hcb⟩
  have HB := Lib.hid (And.intro hrb (And.intro (H0.out.2.1.of_chg hcb (fun k hk => by have := HG.out; omega)) (And.intro (H0.out.2.2.1.chg hcb (fun b hb e => by have := H0.out.2.2.2 b hb; omega)) H0.out.2.2.2)))
  clear hrb hcb
  obtain ⟨k0, rfl⟩ : ∃ k : Nat, k0 = k := ⟨k0.toNat, by omega⟩
  have hk5 : k0 ≤ 5 := by omega
  clear hk0
  go_wp2_with fail
  go_loopw [4, 5] (fun t4 t5 wr => ∃ (k : Nat) (ls : List (List UInt8)), t5 = .int .i64 k ∧ k + ls.length ≤ 5 ∧ Own wr 9 t4 (strV ls) ∧ From (g + 1) t4 ∧ Hid (Rd wr g (1 + 5000 * ls.length) ∧ New w wr ∧ ∀ x ∈ ls, x.length ≤ 1000)) (fun _ t5 _ => (intOf t5).toNat)
  case atStart => exact ⟨k0, [], rfl, by simp; omega, HB.out.2.2.1, HB.out.2.2.2, HB.out.1, HB.out.2.1, fun x hx => by simp at hx⟩
  case round =>
    obtain ⟨k, ls, rfl, hkl, hown, hfrom, HR⟩ := hrel
    obtain ⟨wz, hwz⟩ : ∃ wz : World, wz = wr := ⟨_, rfl⟩
    rw [← hwz] at hown HR
    rw [← hwz]
    clear hwz
    obtain ⟨a4, l4, c4, rfl, HL4, _, _⟩ := hown.opened (by rw [strV, List.length_map]; unfold Mid; omega)
    have HO := Lib.hid (And.intro hown hfrom)
    clear hown hfrom
    by_cases hk : k = 0
    · subst hk
      go_wp2_with fail
      go_ret
      exact ⟨_, ls, rfl, HO.out.1, by omega, HR.out.2.2, HR.out.2.1⟩
    · obtain ⟨k, rfl⟩ : ∃ m, k = m + 1 := ⟨k - 1, by omega⟩
      clear hk
      obtain ⟨N, hN⟩ : ∃ N, N = 1 + 5000 * ls.length := ⟨_, rfl⟩
      have hN4 : N ≤ 30000 := by omega
      rw [← hN] at HR
      have HN := Lib.hid hN
      clear hN
      go_wp2_with fail
      refine (goodCode_any g N wz HR.out.1 (by omega)).mono ?_
      rintro e w1' ⟨a, l, c, vs, rows, p, rfl, ho, hf, hq, hp, hr2, hc2⟩
      have HQ := Lib.hid hq
      have hlg := HR.out.1.lt
      obtain ⟨v4, hv4⟩ : ∃ v4, v4 = Value.slice a4 l4 c4 := ⟨_, rfl⟩
      have hlr : l = rows.length := by rw [← ho.len]; exact ho.outer.len
      have HLR := Lib.hid hlr
      have hl1 : 0 < l := by have := hq.1; omega
      have hl7 : l ≤ 7 := by have := hq.1; omega
      have b3 := Blk2.alloc w1' (.int .i64 p) (.slice a l c) 24
      have n3 := New.alloc w1' (.cells #[.int .i64 p, .slice a l c] 24)
      obtain ⟨w2, hw3⟩ : ∃ w3, w3 = w1'.alloc (.cells #[.int .i64 p, .slice a l c] 24) := ⟨_, rfl⟩
      obtain ⟨gc, hgc⟩ : ∃ gc, gc = w1'.heap.size := ⟨_, rfl⟩
      rw [← hw3] at b3 n3
      rw [← hgc] at b3
      have hsz := hc2.size
      have H2 : Hid (DSt w g gc p a l c vs rows v4 ls w2 (N + 3000)) := ⟨hr2.new n3, b3, ho.new n3, ⟨hf.1.mono hlg, fun i hi => (hf.2 i hi).mono hlg⟩,
        by rw [hv4]; exact (HO.out.1.chg hc2 (fun b hb e => by have := HO.out.2 b hb; omega)).new n3, by rw [hv4]; exact HO.out.2, by omega, by have := HG.out; omega, (HR.out.2.1.of_chg hc2 (fun k hk => by have := HG.out; omega)).trans n3⟩
      clear ho hf hq hr2 hc2 hlr b3 n3 hsz hlg
      go_upto_region 7 with fail
      rw [← hw3, ← hgc]
      clear hw3 hgc
      go_cut [7] (fun t7 wx => ∃ s : ByteArray, t7 = .string s ∧ s.size ≤ 60 ∧ Hid (DSt w g gc p a l c vs rows v4 ls wx (N + 3001)))
      case first =>
        refine wp_region_held_drew (S := fun w' => Chg (· = g) w2 w') (by kernel_rfl) ((New.drew _).mono (fun _ _ x => x.elim)) (fun hH => ?_)
        obtain ⟨wd, hwd⟩ : ∃ wd : World, wd = w2.drew := ⟨_, rfl⟩
        have HE := Lib.hid (H2.out.new (New.drew w2))
        rw [← hwd] at hH HE ⊢
        clear hwd
        refine held_take 0 (some 23) rfl rfl (by kernel_rfl) (by kernel_rfl) (by kernel_rfl) (fun _ _ _ h => h) rfl hH (v := ?_) (fun w' hS => by skip; go_simp; try with_reducible rfl) ?_
        try simp only [Act.put, List.setIfInBounds_toArray, List.set_cons_zero, List.set_cons_succ]
        refine held_take 4 (some 27) rfl rfl (by kernel_rfl) (by kernel_rfl) (by kernel_rfl) (fun _ _ _ h => h) rfl hH (v := .agg #[.int .i64 p, .slice a l c]) (fun w' hS => by obtain ⟨q0, q1, _, _⟩ := (H2.out.blkc hS).cells; go_simp; try with_reducible rfl) ?_
        try simp only [Act.put, List.setIfInBounds_toArray, List.set_cons_zero, List.set_cons_succ]
        refine held_only 1 (by kernel_rfl) rfl rfl (fun K hK => ?_)
        go_simp
        have n1 : New wd (wd.alloc (.cells #[.string ⟨#[100, 105, 115, 116, 97, 110, 99, 101]⟩, .string ⟨#[98, 101, 115, 116]⟩, .string ⟨#[112, 108, 97, 105, 110]⟩] 9)) := New.alloc _ _
        have o1 : Own (wd.alloc (.cells #[.string ⟨#[100, 105, 115, 116, 97, 110, 99, 101]⟩, .string ⟨#[98, 101, 115, 116]⟩, .string ⟨#[112, 108, 97, 105, 110]⟩] 9)) 9 (.slice (some ⟨wd.heap.size, 0, none⟩) 3 3) (strV [[100, 105, 115, 116, 97, 110, 99, 101], [98, 101, 115, 116], [112, 108, 97, 105, 110]]) := Own.lit wd 9 (strV [[100, 105, 115, 116, 97, 110, 99, 101], [98, 101, 115, 116], [112, 108, 97, 105, 110]]) (by decide)
        have hlt : g < wd.heap.size := HE.out.rd.lt
        obtain ⟨wn1, hW⟩ : ∃ w' : World, w' = wd.alloc (.cells #[.string ⟨#[100, 105, 115, 116, 97, 110, 99, 101]⟩, .string ⟨#[98, 101, 115, 116]⟩, .string ⟨#[112, 108, 97, 105, 110]⟩] 9) := ⟨_, rfl⟩
        obtain ⟨gb, hgb⟩ : ∃ b, b = wd.heap.size := ⟨_, rfl⟩
        rw [← hW, ← hgb] at o1
        rw [← hW] at n1
        rw [← hgb] at hlt
        rw [← hW, ← hgb]
        clear hW hgb
        refine hK.out _ _ (Chg.trans hH n1 (fun _ _ x => x) (fun _ _ x => x.elim)) (fun hH1 => ?_)
        have HE1 := Lib.hid (HE.out.new n1)
        have HB := Lib.hid (And.intro o1 hlt)
        clear o1 n1 hlt
        clear hK K
        try simp only [Act.put, List.setIfInBounds_toArray, List.set_cons_zero, List.set_cons_succ]
        refine held_only 2 (by kernel_rfl) rfl rfl (fun K hK => ?_)
        go_simp
        refine (of_any g (N + 3000) _ [[100, 105, 115, 116, 97, 110, 99, 101], [98, 101, 115, 116], [112, 108, 97, 105, 110]] wn1 HE1.out.rd (by omega) HB.out.1 (by decide) (by decide) (fun b hb => by simp [Value.ownBlock] at hb; have := HB.out.2; omega)).mono ?_
        rintro e wn2 ⟨A, rfl, hA, hr, hc⟩
        have hz : A.length ≤ 8 := (by decide : ∀ l ∈ ([[100, 105, 115, 116, 97, 110, 99, 101], [98, 101, 115, 116], [112, 108, 97, 105, 110]] : List (List UInt8)), l.length ≤ 8) A hA
        obtain ⟨AB, hEq⟩ : ∃ T, T = bs A := ⟨_, rfl⟩
        rw [← hEq]
        have hAB : AB.size ≤ 8 := by rw [hEq, bs_size]; exact hz
        refine hK.out _ _ (Chg.trans hH1 hc (fun _ _ x => x) (fun _ _ x => x)) (fun hH2 => ?_)
        have HE2 := Lib.hid (HE1.out.step hc hr)
        clear hA hr hc hz hEq
        clear hK K
        try simp only [Act.put, List.setIfInBounds_toArray, List.set_cons_zero, List.set_cons_succ]
        have a26 := fun w => run_string_add_sum (P := Tryz.prog) w (AB) (⟨#[32]⟩) (by simp only [szSp]; omega)
        refine held_take 3 (some 26) rfl rfl (by kernel_rfl) (by kernel_rfl) (by kernel_rfl) (fun _ _ _ h => h) rfl hH2 (v := .string (AB ++ ⟨#[32]⟩)) (fun w' hS => by skip; go_simp; try with_reducible rfl) ?_
        try simp only [Act.put, List.setIfInBounds_toArray, List.set_cons_zero, List.set_cons_succ]
        refine held_only 5 (by kernel_rfl) rfl rfl (fun K hK => ?_)
        go_simp
        refine (specCodeText_any p _ rows wn2 (HE2.out.isR HQ.out)).mono ?_
        rintro e wn3 ⟨⟨s, rfl, hs⟩, hn⟩
        obtain ⟨T, rfl, hT⟩ := hs.short
        obtain ⟨TB, hEq⟩ : ∃ X, X = bs T := ⟨_, rfl⟩
        rw [← hEq]
        have hTB : TB.size ≤ 50 := by rw [hEq, bs_size]; exact hT
        refine hK.out _ _ (Chg.trans hH2 hn (fun _ _ x => x) (fun _ _ x => x.elim)) (fun hH3 => ?_)
        have HE3 := Lib.hid (HE2.out.new hn)
        clear hs hn hT hEq
        clear hK K
        try simp only [Act.put, List.setIfInBounds_toArray, List.set_cons_zero, List.set_cons_succ]
        have a29 := fun w => run_string_add_sum (P := Tryz.prog) w (AB ++ ⟨#[32]⟩) (TB) (by simp only [ByteArray.size_append, szSp]; omega)
        refine held_take 6 (some 29) rfl rfl (by kernel_rfl) (by kernel_rfl) (by kernel_rfl) (fun _ _ _ h => h) rfl hH3 (v := .string (AB ++ ⟨#[32]⟩ ++ TB)) (fun w' hS => by skip; go_simp; try with_reducible rfl) ?_
        try simp only [Act.put, List.setIfInBounds_toArray, List.set_cons_zero, List.set_cons_succ]
        refine held_take 7 (some 7) rfl rfl (by kernel_rfl) (by kernel_rfl) (by kernel_rfl) (fun _ _ _ h => h) rfl hH3 (v := ?_) (fun w' hS => by skip; go_simp; try with_reducible rfl) ?_
        try simp only [Act.put, List.setIfInBounds_toArray, List.set_cons_zero, List.set_cons_succ]
        refine wpAnyH_done (by kernel_rfl) ?_ _
        go_wp2_with fail
        go_meet
        exact ⟨_, rfl, by simp only [ByteArray.size_append, szSp]; omega, HE3.out.rdm (by omega)⟩
      case rest =>
        obtain ⟨s7, rfl, hs7, H3⟩ := hcut
        obtain ⟨wq, hwq⟩ : ∃ wq : World, wq = wc := ⟨_, rfl⟩
        rw [← hwq] at H3
        rw [← hwq]
        clear hwq H2
        go_wp2_with fail
        refine (pick_any g (N + 3001) 4 _ H3.out.rd (by omega) (by omega)).mono ?_
        rintro e w5 ⟨x, rfl, hx, hr5, hc5⟩
        have H5 : Hid (DSt w g gc p a l c vs rows v4 ls w5 (N + 3002)) := H3.out.step hc5 hr5
        have hx0 := hx.1
        have hx4 := hx.2.1 (by omega)
        clear hx hr5 hc5 H3
        go_upto_block 2 with fail
        go_cut [7] (fun t7 wx => ∃ s : ByteArray, t7 = .string s ∧ s.size ≤ 300 ∧ Hid (DSt w g gc p a l c vs rows v4 ls wx (N + 4100)))
        case first =>
          by_cases hx0' : x = 0
          · subst hx0'
            clear hx0 hx4
            go_upto_region 10 with fail
            refine wp_region_held_drew (S := fun w' => Chg (· = g) w5 w') (by kernel_rfl) ((New.drew _).mono (fun _ _ x => x.elim)) (fun hH => ?_)
            obtain ⟨wd, hwd⟩ : ∃ wd : World, wd = w5.drew := ⟨_, rfl⟩
            have HE := Lib.hid (H5.out.new (New.drew w5))
            rw [← hwd] at hH HE ⊢
            clear hwd
            refine held_take 0 (some 34) rfl rfl (by kernel_rfl) (by kernel_rfl) (by kernel_rfl) (fun _ _ _ h => h) rfl hH (v := .agg #[.int .i64 p, .slice a l c]) (fun w' hS => by obtain ⟨q0, q1, _, _⟩ := (H5.out.blkc hS).cells; go_simp; try with_reducible rfl) ?_
            try simp only [Act.put, List.setIfInBounds_toArray, List.set_cons_zero, List.set_cons_succ]
            refine held_take 4 (some 38) rfl rfl (by kernel_rfl) (by kernel_rfl) (by kernel_rfl) (fun _ _ _ h => h) rfl hH (v := ?_) (fun w' hS => by skip; go_simp; try with_reducible rfl) ?_
            try simp only [Act.put, List.setIfInBounds_toArray, List.set_cons_zero, List.set_cons_succ]
            refine held_take 5 (some 39) rfl rfl (by kernel_rfl) (by kernel_rfl) (by kernel_rfl) (fun _ _ _ h => h) rfl hH (v := ?_) (fun w' hS => by skip; go_simp; try with_reducible rfl) ?_
            try simp only [Act.put, List.setIfInBounds_toArray, List.set_cons_zero, List.set_cons_succ]
            refine held_take 6 (some 40) rfl rfl (by kernel_rfl) (by kernel_rfl) (by kernel_rfl) (fun _ _ _ h => h) rfl hH (v := .int .i64 p) (fun w' hS => by obtain ⟨q0, q1, _, _⟩ := (H5.out.blkc hS).cells; go_simp; try with_reducible rfl) ?_
            try simp only [Act.put, List.setIfInBounds_toArray, List.set_cons_zero, List.set_cons_succ]
            refine held_take 7 (some 41) rfl rfl (by kernel_rfl) (by kernel_rfl) (by kernel_rfl) (fun _ _ _ h => h) rfl hH (v := ?_) (fun w' hS => by skip; go_simp; try with_reducible rfl) ?_
            try simp only [Act.put, List.setIfInBounds_toArray, List.set_cons_zero, List.set_cons_succ]
            refine held_take 8 (some 42) rfl rfl (by kernel_rfl) (by kernel_rfl) (by kernel_rfl) (fun _ _ _ h => h) rfl hH (v := .slice a l c) (fun w' hS => by obtain ⟨q0, q1, _, _⟩ := (H5.out.blkc hS).cells; go_simp; try with_reducible rfl) ?_
            try simp only [Act.put, List.setIfInBounds_toArray, List.set_cons_zero, List.set_cons_succ]
            refine held_take 9 (some 43) rfl rfl (by kernel_rfl) (by kernel_rfl) (by kernel_rfl) (fun _ _ _ h => h) rfl hH (v := .int .i64 l) (fun w' hS => by skip; go_simp; try with_reducible rfl) ?_
            try simp only [Act.put, List.setIfInBounds_toArray, List.set_cons_zero, List.set_cons_succ]
            refine held_take 11 (some 45) rfl rfl (by kernel_rfl) (by kernel_rfl) (by kernel_rfl) (fun _ _ _ h => h) rfl hH (v := ?_) (fun w' hS => by skip; go_simp; try with_reducible rfl) ?_
            try simp only [Act.put, List.setIfInBounds_toArray, List.set_cons_zero, List.set_cons_succ]
            refine held_take 12 (some 46) rfl rfl (by kernel_rfl) (by kernel_rfl) (by kernel_rfl) (fun _ _ _ h => h) rfl hH (v := .slice a l c) (fun w' hS => by obtain ⟨q0, q1, _, _⟩ := (H5.out.blkc hS).cells; go_simp; try with_reducible rfl) ?_
            try simp only [Act.put, List.setIfInBounds_toArray, List.set_cons_zero, List.set_cons_succ]
            refine held_take 13 (some 47) rfl rfl (by kernel_rfl) (by kernel_rfl) (by kernel_rfl) (fun _ _ _ h => h) rfl hH (v := .int .i64 l) (fun w' hS => by skip; go_simp; try with_reducible rfl) ?_
            try simp only [Act.put, List.setIfInBounds_toArray, List.set_cons_zero, List.set_cons_succ]
            refine held_only 1 (by kernel_rfl) rfl rfl (fun K hK => ?_)
            go_simp
            refine (specCodeText_any p _ rows wd (HE.out.isR HQ.out)).mono ?_
            rintro e wn1 ⟨⟨s, rfl, hs⟩, hn⟩
            obtain ⟨T, rfl, hT⟩ := hs.short
            obtain ⟨TB, hEq⟩ : ∃ X, X = bs T := ⟨_, rfl⟩
            rw [← hEq]
            have hTB : TB.size ≤ 50 := by rw [hEq, bs_size]; exact hT
            refine hK.out _ _ (Chg.trans hH hn (fun _ _ x => x) (fun _ _ x => x.elim)) (fun hH1 => ?_)
            have HE1 := Lib.hid (HE.out.new hn)
            clear hs hn hT hEq
            clear hK K
            try simp only [Act.put, List.setIfInBounds_toArray, List.set_cons_zero, List.set_cons_succ]
            have a36 := fun w => run_string_add_sum (P := Tryz.prog) w (⟨#[115, 101, 110, 100, 32]⟩) (TB) (by simp only [szSend]; omega)
            refine held_take 2 (some 36) rfl rfl (by kernel_rfl) (by kernel_rfl) (by kernel_rfl) (fun _ _ _ h => h) rfl hH1 (v := .string (⟨#[115, 101, 110, 100, 32]⟩ ++ TB)) (fun w' hS => by skip; go_simp; try with_reducible rfl) ?_
            try simp only [Act.put, List.setIfInBounds_toArray, List.set_cons_zero, List.set_cons_succ]
            have a37 := fun w => run_string_add_sum (P := Tryz.prog) w (⟨#[115, 101, 110, 100, 32]⟩ ++ TB) (⟨#[32]⟩) (by simp only [ByteArray.size_append, szSp, szSend]; omega)
            refine held_take 3 (some 37) rfl rfl (by kernel_rfl) (by kernel_rfl) (by kernel_rfl) (fun _ _ _ h => h) rfl hH1 (v := .string (⟨#[115, 101, 110, 100, 32]⟩ ++ TB ++ ⟨#[32]⟩)) (fun w' hS => by skip; go_simp; try with_reducible rfl) ?_
            try simp only [Act.put, List.setIfInBounds_toArray, List.set_cons_zero, List.set_cons_succ]
            refine held_only 10 (by kernel_rfl) rfl rfl (fun K hK => ?_)
            go_simp
            refine (aWordV_any g (N + 3002) p (l : Int) wn1 HE1.out.rd (by omega) (by omega) (by omega)).mono ?_
            rintro e wn2 ⟨u, xs, rfl, ho, hf, ⟨⟨x1, x2, x3⟩, hsm⟩, hr, hc⟩
            obtain ⟨au, lu, cu, rfl, HLU, _, HCU⟩ := ho.opened (by rw [List.length_map]; unfold Mid; omega)
            obtain ⟨gu, rfl⟩ := ho.head (i := 0) (by rw [List.length_map]; omega)
            have hlu : l ≤ lu := by rw [HLU.out, List.length_map]; omega
            have hcu1 : lu ≤ cu := HCU.out.1
            have hcu2 : l ≤ cu := by omega
            have hi := (ho.isI (by unfold Mid; omega)).upto hlu
            have hl20 : (xs.take l).length ≤ 20 := by rw [List.length_take]; omega
            have hb1 : ∀ i, i < (xs.take l).length → gi (xs.take l) i ≤ 1000 := fun i hi => (hsm.take i hi).2
            refine hK.out _ _ (Chg.trans hH1 hc (fun _ _ x => x) (fun _ _ x => x)) (fun hH2 => ?_)
            have HE2 := Lib.hid (HE1.out.step hc hr)
            have HU := Lib.hid (And.intro hi (And.intro hb1 hl20))
            clear ho hf x1 x2 x3 hsm hr hc hi hl20 hb1
            clear hK K
            try simp only [Act.put, List.setIfInBounds_toArray, List.set_cons_zero, List.set_cons_succ]
            refine held_take 14 (some 48) rfl rfl (by kernel_rfl) (by kernel_rfl) (by kernel_rfl) (fun _ _ _ h => h) rfl hH2 (v := .slice (some ⟨gu, 0, none⟩) l cu) (fun w' hS => by skip; go_simp; try with_reducible rfl) ?_
            try simp only [Act.put, List.setIfInBounds_toArray, List.set_cons_zero, List.set_cons_succ]
            refine held_only 15 (by kernel_rfl) rfl rfl (fun K hK => ?_)
            go_simp
            have n1 : New wn2 (wn2.alloc (.cells #[.slice (some ⟨gu, 0, none⟩) l cu] 53)) := New.alloc _ _
            have o1 := isR_sole HU.out.1
            obtain ⟨wn3, hW⟩ : ∃ w' : World, w' = wn2.alloc (.cells #[.slice (some ⟨gu, 0, none⟩) l cu] 53) := ⟨_, rfl⟩
            obtain ⟨gr1, hgb⟩ : ∃ b, b = wn2.heap.size := ⟨_, rfl⟩
            rw [← hW, ← hgb] at o1
            rw [← hW] at n1
            rw [← hW, ← hgb]
            clear hW hgb
            refine hK.out _ _ (Chg.trans hH2 n1 (fun _ _ x => x) (fun _ _ x => x.elim)) (fun hH3 => ?_)
            have HE3 := Lib.hid (HE2.out.new n1)
            have HRR := Lib.hid o1
            clear o1 n1
            clear hK K
            try simp only [Act.put, List.setIfInBounds_toArray, List.set_cons_zero, List.set_cons_succ]
            refine held_only 16 (by kernel_rfl) rfl rfl (fun K hK => ?_)
            go_simp
            refine (rowTextW_any _ (xs.take l) wn3 HRR.out HU.out.2.1 HU.out.2.2).mono ?_
            rintro e wn4 ⟨⟨RB, rfl, hRB⟩, hn⟩
            refine hK.out _ _ (Chg.trans hH3 hn (fun _ _ x => x) (fun _ _ x => x.elim)) (fun hH4 => ?_)
            have HE4 := Lib.hid (HE3.out.new hn)
            clear hn
            clear hK K
            try simp only [Act.put, List.setIfInBounds_toArray, List.set_cons_zero, List.set_cons_succ]
            have a51 := fun w => run_string_add_sum (P := Tryz.prog) w (⟨#[115, 101, 110, 100, 32]⟩ ++ TB ++ ⟨#[32]⟩) (RB) (by simp only [ByteArray.size_append, szSp, szSend]; omega)
            refine held_take 17 (some 51) rfl rfl (by kernel_rfl) (by kernel_rfl) (by kernel_rfl) (fun _ _ _ h => h) rfl hH4 (v := .string (⟨#[115, 101, 110, 100, 32]⟩ ++ TB ++ ⟨#[32]⟩ ++ RB)) (fun w' hS => by skip; go_simp; try with_reducible rfl) ?_
            try simp only [Act.put, List.setIfInBounds_toArray, List.set_cons_zero, List.set_cons_succ]
            refine held_take 18 (some 7) rfl rfl (by kernel_rfl) (by kernel_rfl) (by kernel_rfl) (fun _ _ _ h => h) rfl hH4 (v := ?_) (fun w' hS => by skip; go_simp; try with_reducible rfl) ?_
            try simp only [Act.put, List.setIfInBounds_toArray, List.set_cons_zero, List.set_cons_succ]
            refine wpAnyH_done (by kernel_rfl) ?_ _
            go_wp2_with fail
            go_meet
            exact ⟨_, rfl, by simp only [ByteArray.size_append, szSp, szSend]; omega, HE4.out.rdm (by omega)⟩
          · by_cases hx1 : x = 1
            · subst hx1
              clear hx0 hx4 hx0'
              have hz0 : ((1 : Int) == 0) = false := rfl
              go_upto_region 12 with fail
              obtain ⟨cs, hcs2, hmk⟩ : ∃ cs : Array Value, (cs.size = l ∧ cs.toList.take l = List.replicate l (.int .i64 0)) ∧ ∀ W : World, (Instr.makeSlice 53 (.int .i64 (l : Int)) (.int .i64 (l : Int))).run Tryz.prog W = .ok (.slice (some ⟨W.heap.size, 0, none⟩) l l) (W.alloc (.cells cs 3)) := by
                obtain ⟨i, ht, hi, hz, hs, hby, hzc⟩ := tyInt
                have hbig : i.bytes * l ≤ 281474976710656 := by have := Nat.mul_le_mul hby hl7; omega
                refine ⟨madeCells (Value.int .i64 0).cells (l * i.size), ⟨?_, ?_⟩, fun W => ?_⟩
                · simp only [madeCells, Array.size_map, Array.size_range, hs]; omega
                · rw [hs, Nat.mul_one, made1 _ hzc, List.take_replicate, Nat.min_eq_left (Nat.le_refl _)]
                · have := run_make (P := Tryz.prog) W 53 3 i _ ht hi hz .i64 .i64 (l : Int) (l : Int) (by omega) (by omega) (Int.ofNat_le.2 hbig) (by omega)
                  rw [Int.toNat_natCast] at this
                  exact this
              have HMK := Lib.hid hmk
              have hmko : ∀ W : World, Own (W.alloc (.cells cs 3)) 3 (.slice (some ⟨W.heap.size, 0, none⟩) l l) ((List.replicate l 0).map (Value.int .i64)) := fun W =>
                .inr ⟨W.heap.size, l, cs, by simp, heap_alloc_new W _, by simp, by unfold maxLen; omega, by have := hcs2.1; omega, by rw [List.map_replicate, List.length_replicate]; exact hcs2.2⟩
              have HMKO := Lib.hid hmko
              clear hcs2 hmk hmko
              refine wp_region_held_drew (S := fun w' => Chg (· = g) w5 w') (by kernel_rfl) ((New.drew _).mono (fun _ _ x => x.elim)) (fun hH => ?_)
              obtain ⟨wd, hwd⟩ : ∃ wd : World, wd = w5.drew := ⟨_, rfl⟩
              have HE := Lib.hid (H5.out.new (New.drew w5))
              rw [← hwd] at hH HE ⊢
              clear hwd
              refine held_take 0 (some 54) rfl rfl (by kernel_rfl) (by kernel_rfl) (by kernel_rfl) (fun _ _ _ h => h) rfl hH (v := .agg #[.int .i64 p, .slice a l c]) (fun w' hS => by obtain ⟨q0, q1, _, _⟩ := (H5.out.blkc hS).cells; go_simp; try with_reducible rfl) ?_
              try simp only [Act.put, List.setIfInBounds_toArray, List.set_cons_zero, List.set_cons_succ]
              refine held_take 1 (some 55) rfl rfl (by kernel_rfl) (by kernel_rfl) (by kernel_rfl) (fun _ _ _ h => h) rfl hH (v := ?_) (fun w' hS => by skip; go_simp; try with_reducible rfl) ?_
              try simp only [Act.put, List.setIfInBounds_toArray, List.set_cons_zero, List.set_cons_succ]
              refine held_take 2 (some 56) rfl rfl (by kernel_rfl) (by kernel_rfl) (by kernel_rfl) (fun _ _ _ h => h) rfl hH (v := .slice a l c) (fun w' hS => by obtain ⟨q0, q1, _, _⟩ := (H5.out.blkc hS).cells; go_simp; try with_reducible rfl) ?_
              try simp only [Act.put, List.setIfInBounds_toArray, List.set_cons_zero, List.set_cons_succ]
              refine held_take 3 (some 57) rfl rfl (by kernel_rfl) (by kernel_rfl) (by kernel_rfl) (fun _ _ _ h => h) rfl hH (v := .int .i64 l) (fun w' hS => by skip; go_simp; try with_reducible rfl) ?_
              try simp only [Act.put, List.setIfInBounds_toArray, List.set_cons_zero, List.set_cons_succ]
              refine held_only 4 (by kernel_rfl) rfl rfl (fun K hK => ?_)
              go_simp
              have hmk := HMK.out
              go_simp
              clear hmk
              have n1 : New wd (wd.alloc (.cells cs 3)) := New.alloc _ _
              have o1 := (HMKO.out wd)
              obtain ⟨wn1, hW⟩ : ∃ w' : World, w' = wd.alloc (.cells cs 3) := ⟨_, rfl⟩
              obtain ⟨gm, hgb⟩ : ∃ b, b = wd.heap.size := ⟨_, rfl⟩
              rw [← hW, ← hgb] at o1
              rw [← hW] at n1
              rw [← hW, ← hgb]
              clear hW hgb
              refine hK.out _ _ (Chg.trans hH n1 (fun _ _ x => x) (fun _ _ x => x.elim)) (fun hH1 => ?_)
              have HE1 := Lib.hid (HE.out.new n1)
              have HM := Lib.hid o1
              clear o1 n1
              clear hK K
              try simp only [Act.put, List.setIfInBounds_toArray, List.set_cons_zero, List.set_cons_succ]
              refine held_only 5 (by kernel_rfl) rfl rfl (fun K hK => ?_)
              go_simp
              refine (encodeZero_any p (gr rows 0).length _ _ rows (List.replicate l 0) wn1 hp (HQ.out.2 0 (by rw [← HLR.out]; exact hl1)).1 (HE1.out.isR HQ.out) (HM.out.isI (by rw [List.length_replicate]; unfold Mid; omega)) (fun i hi => (HQ.out.2 i hi).2) (by rw [← HLR.out]; exact hl1) (by rw [List.length_replicate, HLR.out]; exact Nat.le_refl _) (fun i _ => by rw [gi_replicate])).mono ?_
              rintro e wn2 ⟨u, xs, rfl, ho, hf, hx, hn⟩
              have hx7 : xs.length ≤ 7 := by rw [hx]; exact (HQ.out.2 0 (by rw [← HLR.out]; exact hl1)).1.2
              obtain ⟨au, lu, cu, rfl, HLU, _, _⟩ := ho.opened (by rw [List.length_map]; unfold Mid; omega)
              have hlu : lu ≤ 7 := by rw [HLU.out, List.length_map]; exact hx7
              refine hK.out _ _ (Chg.trans hH1 hn (fun _ _ x => x) (fun _ _ x => x.elim)) (fun hH2 => ?_)
              have HE2 := Lib.hid (HE1.out.new hn)
              clear ho hf hx hn hx7
              clear hK K
              try simp only [Act.put, List.setIfInBounds_toArray, List.set_cons_zero, List.set_cons_succ]
              refine held_take 6 (some 8) rfl rfl (by kernel_rfl) (by kernel_rfl) (by kernel_rfl) (fun _ _ _ h => h) rfl hH2 (v := ?_) (fun w' hS => by skip; go_simp; try with_reducible rfl) ?_
              try simp only [Act.put, List.setIfInBounds_toArray, List.set_cons_zero, List.set_cons_succ]
              refine wpAnyH_done (by kernel_rfl) ?_ _
              go_wp2_with fail
              go_loopw [9, 10] (fun t9 t10 wr => ∃ (i : Nat) (s : ByteArray), t9 = .string s ∧ t10 = .int .i64 i ∧ i ≤ lu ∧ s.size ≤ i ∧ Hid (DSt w g gc p a l c vs rows v4 ls wr (N + 3002 + i))) (fun _ t10 _ => lu - (intOf t10).toNat)
              case atStart => exact ⟨0, _, rfl, rfl, Nat.zero_le _, Nat.le_refl _, HE2.out⟩
              case round =>
                obtain ⟨i, s, rfl, rfl, hi, hsz, HX⟩ := hrel
                by_cases hil : i < lu
                · go_wp2_with fail
                  refine (of_lit g (N + 3002 + i) (fun l => l.length ≤ 1) [[48], [46], [48], [49]] wr _ _ rfl rfl HX.out.rd (by omega) (by simp) (by simp) (by decide)).mono ?_
                  rintro e w6 ⟨A, rfl, hA, hr, hc⟩
                  obtain ⟨AB, hAB⟩ : ∃ T, T = bs A := ⟨_, rfl⟩
                  rw [← hAB]
                  have hz : AB.size ≤ 1 := by rw [hAB, bs_size]; exact hA
                  have H6 := Lib.hid (HX.out.step hc hr)
                  clear hr hc hA hAB
                  have a70 := fun w => run_string_add_sum (P := Tryz.prog) w s AB (by omega)
                  go_wp2_with fail
                  go_roundw
                  case rel => exact ⟨i + 1, s ++ AB, by first | rfl | go_num, by go_num, by omega, by rw [ByteArray.size_append]; omega, H6.out.rdm (by omega)⟩
                  case measure => simp [intOf]; omega
                · obtain rfl : i = lu := by omega
                  obtain ⟨q0, q1, _, _⟩ := HX.out.blk.cells
                  go_wp2_with fail
                  refine (specCodeText_any p _ rows wr (HX.out.isR HQ.out)).mono ?_
                  rintro e w6 ⟨⟨T0, rfl, hs⟩, hn⟩
                  obtain ⟨T, rfl, hT⟩ := hs.short
                  obtain ⟨TB, hAB⟩ : ∃ X, X = bs T := ⟨_, rfl⟩
                  rw [← hAB]
                  have hTB : TB.size ≤ 50 := by rw [hAB, bs_size]; exact hT
                  have H6 := Lib.hid (HX.out.new hn)
                  clear hs hn hT hAB
                  have a73 := fun w => run_string_add_sum (P := Tryz.prog) w ⟨#[109, 101, 110, 100, 32]⟩ TB (by show 5 + _ ≤ _; omega)
                  have a74 := fun w => run_string_add_sum (P := Tryz.prog) w (⟨#[109, 101, 110, 100, 32]⟩ ++ TB) ⟨#[32]⟩ (by rw [ByteArray.size_append]; show 5 + _ + 1 ≤ _; omega)
                  have a76 := fun w => run_string_add_sum (P := Tryz.prog) w (⟨#[109, 101, 110, 100, 32]⟩ ++ TB ++ ⟨#[32]⟩) s (by rw [ByteArray.size_append, ByteArray.size_append]; show 5 + _ + 1 + _ ≤ _; omega)
                  go_wp2_with fail
                  go_meet
                  exact ⟨_, rfl, by rw [ByteArray.size_append, ByteArray.size_append, ByteArray.size_append]; show 5 + _ + 1 + _ ≤ _; omega, H6.out.rdm (by omega)⟩
            · have hd0 : (x == 0) = false := beq_eq_false_iff_ne.2 hx0'
              have hd1 : (x == 1) = false := beq_eq_false_iff_ne.2 hx1
              go_wp2_with fail
              go_meet
              exact ⟨s7, rfl, by omega, H5.out.rdm (by omega)⟩
        case rest =>
          obtain ⟨s8, rfl, hs8, H6⟩ := hcut
          obtain ⟨wq, hwq⟩ : ∃ wq : World, wq = wc := ⟨_, rfl⟩
          rw [← hwq] at H6
          rw [← hwq]
          clear hwq H5 hx0 hx4
          go_wp2_with fail
          refine (pick_any g (N + 4100) 10 _ H6.out.rd (by omega) (by omega)).mono ?_
          rintro e w7 ⟨x, rfl, hx, hr7, hc7⟩
          have H7 : Hid (DSt w g gc p a l c vs rows v4 ls w7 (N + 4101)) := H6.out.step hc7 hr7
          have hx0 := hx.1
          have hx4 := hx.2.1 (by omega)
          clear hx hr7 hc7 H6
          go_upto_block 5 with fail
          go_cut [7] (fun t7 wx => ∃ L : List UInt8, t7 = .string (bs L) ∧ L.length ≤ 1000 ∧ Hid (DSt w g gc p a l c vs rows v4 ls wx (N + 4200)))
          case first =>
            obtain ⟨L, hL⟩ : ∃ L, L = s8.data.toList := ⟨_, rfl⟩
            have hL1 : s8 = bs L := by rw [hL]; exact bs_self s8
            have hL2 : L.length ≤ 300 := by rw [hL, size_list]; exact hs8
            have KM := Lib.hid (fun w hr => mutate_any g (N + 4101) L w hr (by omega) (by omega))
            rw [← hL1] at KM
            have HL := Lib.hid hL1
            clear hL hL1
            by_cases hx0' : x = 0
            · subst hx0'
              clear hx0 hx4
              go_wp2_with fail
              refine (of_lit g (N + 4101) (fun l => l.length ≤ 20) [[], [104, 101, 108, 112], [98, 101, 115, 116], [98, 101, 115, 116, 32, 120], [119, 97, 108, 107, 32, 50, 58, 49], [115, 101, 110, 100, 32, 50, 58, 49, 32], [115, 101, 110, 100, 32, 50, 58, 49, 49, 32, 50], [109, 101, 110, 100, 32, 50, 58, 49, 49, 32, 46], [109, 101, 110, 100, 32, 120, 32, 49], [112, 108, 97, 105, 110, 32, 32]] w7 _ _ rfl rfl H7.out.rd (by omega) (by simp) (by simp) (by decide)).mono ?_
              rintro e w8 ⟨A, rfl, hA, hr, hc⟩
              have hA' : A.length ≤ 20 := hA
              have H8 := Lib.hid (H7.out.step hc hr)
              clear hr hc hA
              go_wp2_with fail
              go_meet
              exact ⟨A, rfl, by omega, H8.out.rdm (by omega)⟩
            · by_cases hx1 : x = 1
              · subst hx1
                clear hx0 hx4 hx0'
                have hz0 : ((1 : Int) == 0) = false := rfl
                go_wp2_with fail
                refine (KM.out w7 H7.out.rd).mono ?_
                rintro e w8 ⟨A, rfl, hA, hr, hc⟩
                have hA' : A.length ≤ L.length + 2 := hA
                have H8 := Lib.hid (H7.out.step hc hr)
                clear hr hc hA
                go_wp2_with fail
                go_meet
                exact ⟨A, rfl, by omega, H8.out.rdm (by omega)⟩
              · have hd0 : (x == 0) = false := beq_eq_false_iff_ne.2 hx0'
                have hd1 : (x == 1) = false := beq_eq_false_iff_ne.2 hx1
                go_wp2_with fail
                go_meet
                exact ⟨L, by rw [HL.out], by omega, H7.out.rdm (by omega)⟩
          case rest =>
            obtain ⟨L, rfl, hL, H9⟩ := hcut
            obtain ⟨wq2, hwq⟩ : ∃ wq : World, wq = wc := ⟨_, rfl⟩
            rw [← hwq] at H9
            rw [← hwq]
            clear hwq H7 hx0 hx4
            have hlin : Own wq2 9 (.slice a4 l4 c4) (strV ls) := by rw [← hv4]; exact H9.out.lin
            have HLI := Lib.hid hlin
            clear hlin
            obtain ⟨Z, hZ⟩ : ∃ Z, Z = bs L := ⟨_, rfl⟩
            rw [← hZ]
            have HZ := Lib.hid hZ
            clear hZ
            go_wp2_with (at_builtin; refine wpList_app1 rfl _ _ _ rfl tyStr wq2 HLI.out rfl _ _ rfl rfl rfl (by rw [strV, List.length_map]; omega) ?_; intro v8 w8 k1 k2 k3; have K8 := Lib.hid (And.intro k1 (And.intro k2 k3)); clear k1 k2 k3)
            have hrd := H9.out.rd
            obtain ⟨m1, m2, m3, m4⟩ := growS H9.out.nw H9.out.old hrd HO.out.2 K8.out.1 K8.out.2.1 K8.out.2.2
            go_roundw
            case rel => exact ⟨k, ls ++ [L], by go_num, by rw [List.length_append, List.length_singleton]; omega, by rw [strV, List.map_append]; rw [HZ.out] at m1; exact m1, m2, m3.mono (by rw [List.length_append, List.length_singleton, HN.out]; omega), m4, fun x hx => by
              rcases List.mem_append.1 hx with h | h
              · exact HR.out.2.2 x h
              · simp at h; rw [h]; exact hL⟩
            case measure => simp [intOf]
end Go.Proofs.YtcdbeepphdfipaaGreatDoor
