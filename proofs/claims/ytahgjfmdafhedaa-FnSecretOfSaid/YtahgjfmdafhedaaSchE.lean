/- spec.someScheme. -/
import Derived.Test.YtahgjfmdafhedaaSchT
import Derived.Test.YtahgjfmdafhedaaGenD
import Derived.Deep.CutBlock
namespace Go.Proofs.Ytahgjfmdafhedaa
open Go.RowKit
set_option linter.unusedVariables false

/-- How many rows the block's second cell tells. -/
def lenAt (w : World) (b : Nat) : Nat := match w.cell? ⟨b, 1, none⟩ with
  | some (.slice _ l _) => l
  | _ => 0
theorem lenAt_eq {w : World} {b l c : Nat} {a : Option Addr} (h : w.cell? ⟨b, 1, none⟩ = some (.slice a l c)) : lenAt w b = l := by unfold lenAt; rw [h]

theorem one_drew (g N : Nat) (xs : List Int) (w : World) (t : TypeId) (cs : Array Value) (n : Nat) (hcs : cs = (xs.map (Value.int .i64)).toArray) (hn : n = xs.length) (hr : Rd w g N) (hN : N ≤ 1000000) (h0 : 0 < xs.length) (hl : xs.length ≤ 1000) :
    Calls Try.prog 35 #[.pointer (some ⟨g, 0, none⟩), .slice (some ⟨w.heap.size, 0, none⟩) n n] (w.alloc (.cells cs t)).drew fun e w' => Picks g (N + 1) w e w' (fun _ => True) := by
  subst hcs hn
  have hlt := hr.lt
  refine (one_any g N _ xs _ (hr.new ((New.alloc _ _).trans (New.drew _))) hN ((IsI.lit w t xs hl).new (New.drew _)) h0 hl (fun b hb => by simp [Value.ownBlock] at hb; omega)).mono ?_
  rintro e w' ⟨x, h1, _, h3, h4⟩
  exact ⟨x, h1, trivial, h3, Chg.trans ((New.alloc _ _).trans (New.drew _)) h4 (fun _ _ x => x.elim) (fun _ _ x => x)⟩
theorem rows_snoc {rows : List (List Int)} {ys : List Int} {m : Nat} (h : ∀ i, i < rows.length → (gr rows i).length = m) (hy : ys.length = m) : ∀ i, i < (rows ++ [ys]).length → (gr (rows ++ [ys]) i).length = m := fun i hi => by
  rw [List.length_append, List.length_singleton] at hi
  by_cases e : i < rows.length
  · rw [gr_snoc_lt e]; exact h i e
  · rw [gr_snoc_eq (by omega)]; exact hy

set_option maxRecDepth 100000 in
set_option maxHeartbeats 20000000 in
theorem someScheme_any (g N : Nat) (w : World) (hr : Rd w g N) (hN : N ≤ 600000) :
    Calls Try.prog 54 #[.pointer (some ⟨g, 0, none⟩)] w fun e w' => PicksS g (N + 4000) w e w' := by
  have hg := hr.lt
  have HR := Lib.hid hr
  have HG := Lib.hid hg
  clear hr hg
  have r0 := Blk3.alloc w (.int .i64 0) (.slice none 0 0) (.slice none 0 0) 38
  have n0 := New.alloc w (.cells #[.int .i64 0, .slice none 0 0, .slice none 0 0] 38)
  obtain ⟨w0, hw0⟩ : ∃ w0, w0 = w.alloc (.cells #[.int .i64 0, .slice none 0 0, .slice none 0 0] 38) := ⟨_, rfl⟩
  rw [← hw0] at r0 n0
  have hs0 : w0.heap.size = w.heap.size + 1 := by rw [hw0]; simp
  go_enter Try.func54, Try.ntmps54
  go_upto_region 1 with fail
  rw [← hw0]
  have H0 := Lib.hid (And.intro r0 (And.intro n0 hs0))
  clear r0 n0 hw0 hs0
  go_wp2_with fail
  refine (one_lit g N (fun p => p = 2 ∨ p = 3 ∨ p = 5 ∨ p = 7) [2, 3, 5, 7, 2, 3] _ _ _ _ rfl rfl (HR.out.new H0.out.2.1) (by omega) (by simp) (by simp) (by decide)).mono ?_
  rintro e w1 ⟨p, rfl, hp, hr1, hc1⟩
  have hp27 : 2 ≤ p ∧ p ≤ 7 := by omega
  have HPR := Lib.hid (show prB p = true from prB_iff.2 hp)
  have hs1 : w.heap.size + 1 ≤ w1.heap.size := by have := hc1.size; have := H0.out.2.2; omega
  have b1 := Blk3.alloc w1 (.int .i64 p) (.slice none 0 0) (.slice none 0 0) 38
  have n1 := New.alloc w1 (.cells #[.int .i64 p, .slice none 0 0, .slice none 0 0] 38)
  have hst : ST g (N + 1) w (w1.alloc (.cells #[.int .i64 p, .slice none 0 0, .slice none 0 0] 38)) w1.heap.size p (.slice none 0 0) (.slice none 0 0) [] [] [] :=
    ⟨hr1.new n1, Chg.trans (Chg.trans H0.out.2.1 hc1 (fun _ _ x => x.elim) (fun _ _ x => x) (U := (· = g))) n1 (fun _ _ x => x) (fun _ _ x => x.elim), (H0.out.1.chg hc1 (fun e => by have := HG.out; omega)).new n1, SS.first b1 hs1, HG.out⟩
  have HT1 := Lib.hid hst
  clear hr1 hc1 b1 n1 hst
  obtain ⟨b, hb⟩ : ∃ b, b = w1.heap.size := ⟨_, rfl⟩
  have HB := Lib.hid hb
  rw [← hb] at HT1
  go_upto_region 3 with fail
  rw [← HB.out]
  obtain ⟨w2, hw2⟩ : ∃ w2 : World, w2 = w1.alloc (.cells #[.int .i64 p, .slice none 0 0, .slice none 0 0] 38) := ⟨_, rfl⟩
  rw [← hw2] at HT1
  rw [← hw2]
  clear hw2 hb hs1
  go_wp2_with fail
  refine (pick_any g (N + 1) 3 _ HT1.out.rd (by omega) (by omega)).mono ?_
  rintro e w3 ⟨z, rfl, hz, hr3, hc3⟩
  have hz0 := hz.1
  have HT3 := Lib.hid (HT1.out.call hr3 hc3)
  clear hr3 hc3 hz
  go_upto_if 19 with fail
  go_cut [5] (fun t5 wx => ∃ (p' : Int) (R O : Value) (vs : List Value) (rows : List (List Int)) (own : List Int), Hid (ST g (N + 10) w wx b p' R O vs rows own) ∧ (2 ≤ p' ∧ p' ≤ 7) ∧ Hid (rows.length = own.length ∧ rows.length ≤ 5 ∧ (rows = [] → R = .slice none 0 0 ∧ O = .slice none 0 0 ∧ own = []) ∧ ∀ i, i < rows.length → 1 ≤ (gr rows i).length ∧ (gr rows i).length ≤ 4))
  case first =>
    by_cases hz1 : z = 0
    · subst hz1
      have hcs : p - 1 ≤ 5 ∨ ¬ p - 1 ≤ 5 := by omega
      rcases hcs with h5 | h5
      all_goals go_wp2_with fail
      all_goals refine (pick_any g (N + 2) _ _ HT3.out.rd (by omega) (by omega)).mono ?_
      all_goals rintro e w4 ⟨x, rfl, hx, hr4, hc4⟩
      all_goals have hx0 := hx.1
      all_goals have hx1 := hx.2.1 (by omega)
      all_goals have HT4 := Lib.hid (HT3.out.call hr4 hc4)
      all_goals obtain ⟨n, hn⟩ : ∃ n : Nat, (n : Int) = 1 + x := ⟨(1 + x).toNat, by omega⟩
      all_goals have hxn : 1 + x = (n : Int) := hn.symm
      all_goals have hn5 : 1 ≤ n ∧ n ≤ 5 ∧ (n : Int) ≤ p - 1 := by omega
      all_goals have HN5 := Lib.hid hn5
      all_goals have hn6 : n ≤ 5 := hn5.2.1
      all_goals clear hr4 hc4 hx hn hn5
      all_goals have hck : (n : Int) ≤ 4 ∨ ¬ (n : Int) ≤ 4 := by omega
      all_goals rcases hck with h4 | h4
      all_goals first | (exfalso; omega) | skip
      all_goals go_wp2_with fail
      all_goals refine (pick_any g (N + 3) _ _ HT4.out.rd (by omega) (by omega)).mono ?_
      all_goals rintro e w5 ⟨y, rfl, hy, hr5, hc5⟩
      all_goals have hy0 := hy.1
      all_goals have hy1 := hy.2.1 (by have := HN5.out; omega)
      all_goals have HT5 := Lib.hid (HT4.out.call hr5 hc5)
      all_goals obtain ⟨k, hk⟩ : ∃ k : Nat, (k : Int) = 1 + y := ⟨(1 + y).toNat, by omega⟩
      all_goals have hyk : 1 + y = (k : Int) := hk.symm
      all_goals have HK4 := Lib.hid (show 1 ≤ k ∧ k ≤ n ∧ k ≤ 4 by omega)
      all_goals clear hr5 hc5 hy hk
      all_goals go_wp2_with fail
      all_goals refine (threshold_some p n k _ HPR.out hp27 HN5.out HK4.out).mono ?_
      all_goals rintro e w6 ⟨p', R, O, vs, rows, own, rfl, hp', ⟨b', hss⟩, hlen, hn6'⟩
      all_goals have hvl : vs.length ≤ 5 := by rw [hss.rown.len, hlen.1]; exact HN5.out.2.1
      all_goals have hol : (own.map (Value.int .i64)).length ≤ 5 := by rw [List.length_map, hlen.2.1]; exact HN5.out.2.1
      all_goals obtain ⟨aR, lR, cR, rfl, _, _, _⟩ := hss.rown.outer.opened (by unfold Mid; omega)
      all_goals obtain ⟨aO, lO, cO, rfl, _, _, _⟩ := hss.oown.opened (by unfold Mid; omega)
      all_goals have nA := New.alloc w6 (.cells #[.int .i64 p', .slice aR lR cR, .slice aO lO cO] 38)
      all_goals have hta := (HT5.out.new hn6').new nA
      all_goals have hsa := (hss.new nA).any (c := w.heap.size + 1) HT5.out.ss.size
      all_goals have hmv := hsa.move hta.ss.blk hta.ss.base
      all_goals obtain ⟨c0, c1, c2, f0, f1, f2⟩ := hta.ss.blk.cells
      all_goals have HF := Lib.hid (And.intro hta (And.intro hmv hlen))
      all_goals clear hn6' hss hlen hta hsa hmv nA
      all_goals go_wp2_with fail
      all_goals go_meet
      all_goals refine ⟨p', .slice aR lR cR, .slice aO lO cO, vs, rows, own, ?_, hp', ?_⟩
      all_goals first
        | exact (HF.out.1.step (S := (· = b)) (chg3 _ _ _ _ _) (fun q hq => by have := HF.out.1.ss.base; have h9 : q = b := hq; omega) HF.out.2.1).mono (by omega)
        | exact ⟨by rw [HF.out.2.2.1, HF.out.2.2.2.1], by rw [HF.out.2.2.1]; exact HN5.out.2.1, (fun h => by have := HF.out.2.2.1; rw [h] at this; have := HN5.out.1; simp at *; omega), fun i hi => by rw [HF.out.2.2.2.2 i hi]; have := HK4.out; omega⟩
    · have hzd : (z == 0) = false := beq_eq_false_iff_ne.2 hz1
      go_wp2_with fail
      go_meet
      exact ⟨p, _, _, _, _, _, HT3.out.mono (by omega), hp27, ⟨rfl, by simp, fun _ => ⟨rfl, rfl, rfl⟩, fun i hi => by simp at hi⟩⟩
  case rest =>
    obtain ⟨p', R, O, vs, rows, own, HT, hp', HL⟩ := hcut
    obtain ⟨w4, hw4⟩ : ∃ w4 : World, w4 = wc := ⟨_, rfl⟩
    rw [← hw4] at HT
    rw [← hw4]
    clear hw4
    have hvl : vs.length ≤ 5 := by rw [HT.out.ss.rown.len]; exact HL.out.2.1
    have hol : (own.map (Value.int .i64)).length ≤ 5 := by rw [List.length_map, ← HL.out.1]; exact HL.out.2.1
    obtain ⟨aR, lR, cR, rfl, HLR, _, _⟩ := HT.out.ss.rown.outer.opened (by unfold Mid; omega)
    obtain ⟨aO, lO, cO, rfl, HLO, _, _⟩ := HT.out.ss.oown.opened (by unfold Mid; omega)
    have hlr : lR = rows.length := by rw [HLR.out, HT.out.ss.rown.len]
    have HLQ := Lib.hid hlr
    clear hlr
    obtain ⟨c0, c1, c2, f0, f1, f2⟩ := HT.out.ss.blk.cells
    by_cases hl0 : lR = 0
    · have hr0 : rows = [] := List.eq_nil_of_length_eq_zero (by rw [← HLQ.out]; exact hl0)
      subst hl0
      subst hr0
      go_wp2_with fail
      refine (pick_any g (N + 10) 3 _ HT.out.rd (by omega) (by omega)).mono ?_
      rintro e w5 ⟨x, rfl, hx, hr5, hc5⟩
      have hx0 := hx.1
      have hx1 := hx.2.1 (by omega)
      obtain ⟨m, hm⟩ : ∃ m : Nat, (m : Int) = 1 + x := ⟨(1 + x).toNat, by omega⟩
      have hxm : 1 + x = (m : Int) := hm.symm
      have hm3 : 1 ≤ m ∧ m ≤ 3 := by omega
      have HT5 := Lib.hid (HT.out.call hr5 hc5)
      clear hr5 hc5 hx hm
      go_wp2_with fail
      refine (pick_any g (N + 11) 6 _ HT5.out.rd (by omega) (by omega)).mono ?_
      rintro e w6 ⟨y, rfl, hy, hr6, hc6⟩
      have hy0 := hy.1
      have hy1 := hy.2.1 (by omega)
      obtain ⟨n, hn⟩ : ∃ n : Nat, (n : Int) = 1 + y := ⟨(1 + y).toNat, by omega⟩
      have hyn : 1 + y = (n : Int) := hn.symm
      have hn6 : 1 ≤ n ∧ n ≤ 6 := by omega
      have HT6 := Lib.hid (HT5.out.call hr6 hc6)
      have HL0 := Lib.hid (HL.out.2.2.1 (by first | trivial | rfl))
      clear hr6 hc6 hy hn
      go_wp2_with fail
      go_loopw [53] (fun t53 wr => ∃ (R O : Value) (vs : List Value) (rows : List (List Int)) (own : List Int), Hid (ST g (N + 20 + rows.length * 20) w wr b p' R O vs rows own) ∧ rows.length ≤ n ∧ Hid (rows.length = own.length) ∧ Hid (∀ i, i < rows.length → (gr rows i).length = m)) (fun _ wr => n - lenAt wr b)
      case atStart => exact ⟨_, _, _, _, _, HT6.out.mono (by simp), Nat.zero_le _, (by show _ = own.length; rw [HL0.out.2.2]; rfl), fun i hi => by simp at hi⟩
      case round =>
        clear HL HLQ HLR hvl hol c0 c1 c2 f0 f1 f2 HT HT5 HT6 HL0
        obtain ⟨R, O, vs, rows, own, HT, hrn, HRO, HM⟩ := hrel
        obtain ⟨wz, hwz⟩ : ∃ wz : World, wz = wr := ⟨_, rfl⟩
        rw [← hwz] at HT
        rw [← hwz]
        have HWZ := Lib.hid hwz
        clear hwz
        have hvl : vs.length ≤ 6 := by rw [HT.out.ss.rown.len]; omega
        have hvl' : vs.length + 1 ≤ 1099511627776 := by omega
        have hol : (own.map (Value.int .i64)).length ≤ 6 := by rw [List.length_map, ← HRO.out]; omega
        have hol' : (own.map (Value.int .i64)).length + 1 ≤ 1099511627776 := by omega
        obtain ⟨aR, lR, cR, rfl, HLR, _, _⟩ := HT.out.ss.rown.outer.opened (by unfold Mid; omega)
        obtain ⟨aO, lO, cO, rfl, HLO, _, _⟩ := HT.out.ss.oown.opened (by unfold Mid; omega)
        have hlR : lR = rows.length := by rw [HLR.out, HT.out.ss.rown.len]
        have HLEN := Lib.hid hlR
        have hb6 := HT.out.ss.base
        have hgw := HT.out.lt
        obtain ⟨c0, c1, c2, f0, f1, f2⟩ := HT.out.ss.blk.cells
        have HLA := Lib.hid (lenAt_eq c1)
        have hln : lR ≤ n := by omega
        clear hlR
        by_cases hlt : lR < n
        · go_wp2_with fail
          go_loopw [10, 11] (fun t10 t11 wr => ∃ (j : Nat) (ys : List Int), t11 = .int .i64 j ∧ j ≤ m ∧ Hid (ys.length = j ∧ Own wr 3 t10 (ys.map (Value.int .i64)) ∧ From wz.heap.size t10 ∧ Rd wr g (N + 20 + rows.length * 20 + j) ∧ Chg (· = g) wz wr)) (fun _ t11 _ => m - (intOf t11).toNat)
          case atStart => exact ⟨0, [], rfl, Nat.zero_le _, rfl, Own.empty _ _, From.new _ _ _, (HT.out.rd.new (New.alloc _ _)).mono (by omega), Chg.trans (New.alloc _ _) (Chg.refl (· = g) _) (fun _ _ x => x.elim) (fun _ _ x => x)⟩
          case round =>
            obtain ⟨j, ys, rfl, hj, HY⟩ := hrel
            obtain ⟨wy, hwy⟩ : ∃ wy : World, wy = wr := ⟨_, rfl⟩
            rw [← hwy] at HY
            rw [← hwy]
            clear hwy
            have hyl : (ys.map (Value.int .i64)).length ≤ 3 := by rw [List.length_map, HY.out.1]; omega
            have hyl' : (ys.map (Value.int .i64)).length + 1 ≤ 1099511627776 := by omega
            obtain ⟨aY, lY, cY, rfl, _, _, _⟩ := HY.out.2.1.opened (by unfold Mid; omega)
            have hgz : g < wz.heap.size := by have := HT.out.ss.size; omega
            by_cases hjm : j < m
            · go_wp2_with ((first | (go_at_call 34; refine (pick_any g (N + 20 + rows.length * 20 + j) p _ HY.out.2.2.2.1 (by omega) (by omega)).mono ?_; rintro e w7 ⟨x7, rfl, -, hr7, hc7⟩; have H7 := Lib.hid (And.intro hr7 (And.intro hc7 (HY.out.2.1.chg hc7 (fun b hb e => by have := HY.out.2.2.1 b hb; have h9 : b = g := e; omega)))); clear hr7 hc7) | (at_builtin; refine wpList_app1 rfl _ _ _ rfl tyInt _ H7.out.2.2 rfl _ _ rfl rfl rfl hyl' ?_; intro v2 w8 k1 k2 k3; have K2 := Lib.hid (And.intro k1 (And.intro k2 k3)); clear k1 k2 k3)))
              go_roundw
              case rel =>
                obtain ⟨k1, k2, k3⟩ := K2.out
                exact ⟨j + 1, ys ++ [x7], by go_num, by omega, by rw [List.length_append, HY.out.1]; rfl, by rw [List.map_append]; exact k1, (fun i hi => (k3 i hi).elim (fun h => HY.out.2.2.1 i h) (fun h => by have := HY.out.2.2.2.2.size; have := H7.out.2.1.size; omega)), (H7.out.1.chg k2 (fun i hi => by have := HY.out.2.2.1 i hi; omega)).mono (by omega), Chg.trans (Chg.trans HY.out.2.2.2.2 H7.out.2.1 (fun _ _ x => x) (fun _ _ x => x) (U := (· = g))) k2 (fun _ _ x => x) (fun i hi h => by have := HY.out.2.2.1 i h; omega)⟩
              case measure => simp [intOf]; omega
            · obtain rfl : j = m := by omega
              have HSY := Lib.hid (HT.out.call HY.out.2.2.2.1 HY.out.2.2.2.2)
              have hxo : Apart (.slice aY lY cY) (.slice aO lO cO) := fun i hi hi' => (HY.out.2.2.1).apart HT.out.ss.oown i hi' hi
              have HXA := Lib.hid (And.intro (HY.out.2.2.1.mono HT.out.ss.size : From (w.heap.size + 1) (.slice aY lY cY)) (And.intro (fun i hi => (HY.out.2.2.1).apart (HT.out.ss.rown.inner i hi) : ∀ i, i < rows.length → Apart (gv vs i) (.slice aY lY cY)) hxo))
              clear hxo c0 c1 c2 f0 f1 f2
              obtain ⟨c0, c1, c2, f0, f1, f2⟩ := HSY.out.ss.blk.cells
              go_upto_region 18 with (at_builtin; refine wpList_app1 rfl _ _ _ rfl tyRow _ HSY.out.ss.rown.outer rfl _ _ rfl rfl rfl hvl' ?_; intro v5 w7 m1 m2 m3; obtain ⟨a5, l5, c5, rfl, HL5, _, _⟩ := m1.opened (by rw [List.length_append, List.length_singleton]; unfold Mid; omega); obtain ⟨u0, u1, u2, z0, z1, z2⟩ := (HSY.out.ss.blk1 m2 HSY.out.ss.ne_row).cells; have hss := HSY.out.ss.row HY.out.2.1 HXA.out.1 HXA.out.2.1 HXA.out.2.2 m1 m2 m3; have hst := HSY.out.step (Chg.trans m2 (Chg.setCell w7 ⟨b, 1, none⟩ (.slice a5 l5 c5)) (fun _ _ x => .inl x) (fun _ _ x => .inr x) (U := fun x => (Value.slice aR lR cR).ownBlock = some x ∨ x = b)) (fun x hx => hx.elim (fun h => by have := HSY.out.ss.rfrom.1 x h; omega) (fun h => by omega)) hss; have HS5 := Lib.hid hst; obtain ⟨d0, d1, d2, g0, g1, g2⟩ := hst.ss.blk.cells; clear m1 m2 m3 hss hst)
              have hl5 : l5 = lR + 1 := by rw [HL5.out, List.length_append, List.length_singleton, HT.out.ss.rown.len, HLEN.out]
              obtain ⟨w9, hw9⟩ : ∃ w9 : World, w9 = w7.setCell ⟨b, 1, none⟩ (.slice a5 l5 c5) := ⟨_, rfl⟩
              rw [← hw9] at HS5 d0 d1 d2 g0 g1 g2
              rw [← hw9]
              have HL5 := Lib.hid hl5
              clear hw9 c0 c1 c2 f0 f1 f2 u0 u1 u2 z0 z1 z2 hl5
              go_region_law (first
                | (go_simp; go_at_call 34; refine (pick_any g (N + 20 + rows.length * 20 + j) 5 _ (HS5.out.rd.new (New.drew _)) (by omega) (by omega)).mono ?_; rintro e wA ⟨zz, rfl, -, hrA, hcA⟩; have hA := (HS5.out.new (New.drew _)).call hrA hcA; have hB := hA.new (New.alloc wA (.cells #[.int .i64 zz] 3)); have HA := Lib.hid hA; have HB := Lib.hid hB; obtain ⟨e0, e1, e2, h0, h1, h2⟩ := hA.ss.blk.cells; obtain ⟨i0, i1, i2, j0, j1, j2⟩ := hB.ss.blk.cells; clear hrA hcA hA hB)
                | (refine step_app (by rfl) (.tmp 73) (.tmp 76) _ (by rfl) tyInt HB.out.ss.oown (by rfl) (some ⟨wA.heap.size, 0, none⟩) 1 1 [.int .i64 zz] (by rfl) (by rfl) (fun h => by cases h) (cell_one (heap_alloc_new wA _)) (fun u hu => by simp at hu; subst hu; rfl) hol' ?_; intro v8 w8 k1 k2 k3; obtain ⟨a8, l8, c8, rfl, _, _, _⟩ := k1.opened (by rw [List.length_append, List.length_singleton]; unfold Mid; omega); obtain ⟨y0, y1, y2, q0, q1, q2⟩ := (HB.out.ss.blk1 k2 HB.out.ss.ne_own).cells; have hss := HB.out.ss.owners (own2 := own ++ [zz]) (by rw [List.map_append]; exact k1) k2 k3; have hst := HB.out.step (Chg.trans k2 (Chg.setCell w8 ⟨b, 2, none⟩ (.slice a8 l8 c8)) (fun _ _ x => .inl x) (fun _ _ x => .inr x) (U := fun x => (Value.slice aO lO cO).ownBlock = some x ∨ x = b)) (fun x hx => hx.elim (fun h => by have := HB.out.ss.ofrom x h; omega) (fun h => by omega)) hss; have HS8 := Lib.hid hst; clear k1 k2 k3 hss hst))
              all_goals go_wp2_with fail
              all_goals go_roundw
              all_goals first
                | (have h9 := lenAt_eq HS8.out.ss.blk.cells.2.1; have h8 := HLA.out; have h7 := HL5.out; rw [h9, h8]; omega)
                | exact ⟨_, _, _, rows ++ [ys], own ++ [zz], HS8.out.mono (by rw [List.length_append, List.length_singleton]; omega), by rw [List.length_append, List.length_singleton]; have := HLEN.out; omega, (by show (rows ++ [ys]).length = (own ++ [zz]).length; rw [List.length_append, List.length_append, HRO.out]; rfl), rows_snoc HM.out HY.out.1⟩
        · have hle : rows.length = n := by have := HLEN.out; omega
          have HL := Lib.hid (show rows.length = own.length ∧ (1 ≤ rows.length ∧ rows.length ≤ 6) ∧ ∀ i, i < rows.length → 1 ≤ (gr rows i).length ∧ (gr rows i).length ≤ 4 from ⟨HRO.out, ⟨by omega, by omega⟩, fun i hi => by rw [HM.out i hi]; omega⟩)
          replace HT := Lib.hid (HT.out.mono (show N + 20 + rows.length * 20 ≤ N + 300 by omega))
          clear HM
          have hlR1 : 0 < lR := by have := HLEN.out; omega
          clear hle
          have hrl : 1 ≤ rows.length ∧ rows.length ≤ 6 := HL.out.2.1
          have hown : 1 ≤ own.length ∧ own.length ≤ 6 := by rw [← HL.out.1]; exact hrl
          have hvl2 : vs.length ≤ 6 := by rw [HT.out.ss.rown.len]; exact HL.out.2.1.2
          have hol2 : (own.map (Value.int .i64)).length ≤ 6 := by rw [List.length_map]; exact hown.2
          have hol' : (own.map (Value.int .i64)).length + 1 ≤ 1099511627776 := by omega
          have hlo : lO = own.length := by rw [HLO.out, List.length_map]
          have hlo1 : 0 < lO := by omega
          have hlr1 : 0 < lR := by omega
          obtain ⟨gR, rfl⟩ := HT.out.ss.rown.outer.head (i := 0) (by rw [HT.out.ss.rown.len]; omega)
          obtain ⟨gO, rfl⟩ := HT.out.ss.oown.head (i := 0) (by rw [List.length_map]; omega)
          clear hlo
          go_wp2_with fail
          refine (pick_any g (N + 300) 40 _ HT.out.rd (by omega) (by omega)).mono ?_
          rintro e w6 ⟨z, rfl, hz, hr6, hc6⟩
          have HT6 := Lib.hid (HT.out.call hr6 hc6)
          have hb6 := HT6.out.ss.base
          clear hr6 hc6 hz
          obtain ⟨c0, c1, c2, f0, f1, f2⟩ := HT6.out.ss.blk.cells
          by_cases hz0 : z = 0
          · subst hz0
            go_wp2_with fail
            refine (one_lit g (N + 301) (fun p => 0 ≤ p ∧ p ≤ 7) [4, 0] _ _ _ _ rfl rfl HT6.out.rd (by omega) (by simp) (by simp) (by decide)).mono ?_
            rintro e w7 ⟨q, rfl, hq, hr7, hc7⟩
            have h7 := HT6.out.call hr7 hc7
            have HT8 := Lib.hid (h7.step (Chg.setCell w7 ⟨b, 0, none⟩ (.int .i64 q)) (fun x hx => by have h9 : x = b := hx; omega) (h7.ss.prime q))
            clear c0 c1 c2 f0 f1 f2
            obtain ⟨c0, c1, c2, f0, f1, f2⟩ := h7.ss.blk.cells
            clear h7 hr7 hc7
            obtain ⟨e0, e1, e2, k0, k1, k2⟩ := HT8.out.ss.blk.cells
            obtain ⟨d0, d1, d2, g0, g1, g2⟩ := HT8.out.res.cells
            go_wp2_with fail
            have k8 : Blk3 _ w.heap.size _ _ _ _ := (((HT8.out.res : Blk3 _ w.heap.size _ _ _ _).set0 (.int .i64 q)).set1 (.slice (some ⟨gR, 0, none⟩) lR cR)).set2 (.slice (some ⟨gO, 0, none⟩) lO cO)
            obtain ⟨x0, x1, x2, _, _, _⟩ := k8.cells
            refine bodyPost_ret (v := .agg #[.int .i64 q, .slice (some ⟨gR, 0, none⟩) lR cR, .slice (some ⟨gO, 0, none⟩) lO cO]) (by simp [results, go_sem, x0, x1, x2]) rfl ?_
            exact picksS_done HT8.out (by omega) ⟨by omega, fun i hi => by have := HL.out.2.2 i hi; omega⟩ (by omega) hq
          · have hzd0 : (z == 0) = false := beq_eq_false_iff_ne.2 hz0
            by_cases hz1 : z = 1
            · subst hz1
              have pA := (New.alloc w6 (.cells #[] 3)).cellNew c2
              have HS := Lib.hid (((HT6.out.ss.isI (by omega)).new (New.alloc w6 (.cells #[] 3))).src)
              go_wp2_with ((first
                | (at_builtin; refine wpList_app rfl (.tmp 89) (.tmp 91) _ rfl tyInt (Own.empty w6 3) rfl (some ⟨gO, 0, none⟩) lO cO (own.map (Value.int .i64)) rfl HS.out.1 HS.out.2.1 HS.out.2.2.1 HS.out.2.2.2 (by simp; omega) ?_; intro v7 w7 k1 k2 k3; obtain ⟨a7, l7, c7, rfl, _, _, _⟩ := k1.opened (by rw [List.length_append]; unfold Mid; simp; omega); have N7 := Lib.hid (New.then (New.alloc w6 _) k2 (fun i hi => Nat.le_of_eq (Option.some.inj hi))); have K7 := Lib.hid (And.intro (show Own w7 3 (.slice a7 l7 c7) (own.map (Value.int .i64)) by simpa using k1) (show From w6.heap.size (.slice a7 l7 c7) from fun i hi => (k3 i hi).elim (fun h => Nat.le_of_eq (Option.some.inj h)) (fun h => by simp at h; omega))); clear k1 k2 k3)
                | (at_builtin; refine wpList_app1 rfl (.tmp 92) (.tmp 93) _ rfl tyInt w7 K7.out.1 rfl _ _ rfl rfl rfl hol' ?_; intro v8 w8 k1 k2 k3; obtain ⟨a8, l8, c8, rfl, _, _, _⟩ := k1.opened (by rw [List.length_append, List.length_singleton]; unfold Mid; omega); have N8 := Lib.hid (New.then N7.out k2 (fun i hi => K7.out.2 i hi)); have K8 := Lib.hid (And.intro k1 (show From w6.heap.size (.slice a8 l8 c8) from fun i hi => (k3 i hi).elim (fun h => K7.out.2 i h) (fun h => Nat.le_trans N7.out.size h))); obtain ⟨u0, u1, u2, y0, y1, y2⟩ := (HT6.out.new N8.out).ss.blk.cells; have hss := HT6.out.ss.owners (own2 := own ++ [0]) (by rw [List.map_append]; exact K8.out.1) (N8.out.mono (fun _ _ h => h.elim)) (fun x hx => .inr (K8.out.2 x hx)); have HT8 := Lib.hid ((HT6.out.new N8.out).step (Chg.setCell w8 ⟨b, 2, none⟩ (.slice a8 l8 c8)) (fun x hx => by have h9 : x = b := hx; omega) hss); obtain ⟨e0, e1, e2, k0, k1, k2⟩ := HT8.out.ss.blk.cells; obtain ⟨d0, d1, d2, g0, g1, g2⟩ := HT8.out.res.cells; clear k1 k2 k3 hss)))
              have k8 : Blk3 _ w.heap.size _ _ _ _ := (((HT8.out.res : Blk3 _ w.heap.size _ _ _ _).set0 (.int .i64 p')).set1 (.slice (some ⟨gR, 0, none⟩) lR cR)).set2 (.slice a8 l8 c8)
              obtain ⟨x0, x1, x2, _, _, _⟩ := k8.cells
              refine bodyPost_ret (v := .agg #[.int .i64 p', .slice (some ⟨gR, 0, none⟩) lR cR, .slice a8 l8 c8]) (by simp [results, go_sem, x0, x1, x2]) rfl ?_
              exact picksS_done HT8.out (by omega) ⟨by omega, fun i hi => by have := HL.out.2.2 i hi; omega⟩ (by rw [List.length_append, List.length_singleton]; omega) (by omega)
            · have hzd1 : (z == 1) = false := beq_eq_false_iff_ne.2 hz1
              by_cases hz2 : z = 2
              · subst hz2
                have hbg : ¬ b = gO := fun e => HT6.out.ss.ne_own gO rfl e.symm
                go_wp2_with fail
                go_region_held3 (fun w' => w'.cell? ⟨b, 2, none⟩ = some (.slice (some ⟨gO, 0, none⟩) lO cO) ∧ w'.cell? ⟨b, 1, none⟩ = some (.slice (some ⟨gR, 0, none⟩) lR cR)) (first | exact ⟨KC.out.1, KC.out.2⟩ | exact ⟨(World.cell?_setCell_other _ _ _ _ (fun e => by simp at e)).trans KC.out.1, (World.cell?_setCell_other _ _ _ _ (fun e => by simp at e)).trans KC.out.2⟩ | go_keep) (first
                  | (go_at_call 35
                     refine (one_drew g (N + 301) [5, -1] w6 _ _ _ rfl rfl HT6.out.rd (by omega) (by simp) (by simp)).mono ?_
                     rintro e w7 ⟨q, rfl, -, hr2, hc3⟩
                     have h7 := HT6.out.call hr2 hc3
                     obtain ⟨ck7, fk7⟩ := h7.ss.oown.cell (i := 0) (by rw [List.length_map]; exact hown.1)
                     have KC := Lib.hid (And.intro h7.ss.blk.cells.2.2.1 h7.ss.blk.cells.2.1)
                     have K7 := Lib.hid h7
                     clear hc3 hr2 h7))
                have HT8 := Lib.hid (K7.out.step (Chg.setCell w7 ⟨gO, 0, none⟩ (.int .i64 q)) (fun x hx => by have h9 : x = gO := hx; have := K7.out.ss.ofrom gO rfl; omega) (K7.out.ss.owner0 q))
                obtain ⟨e0, e1, e2, k0, k1, k2⟩ := HT8.out.ss.blk.cells
                obtain ⟨d0, d1, d2, g0, g1, g2⟩ := HT8.out.res.cells
                go_wp2_with fail
                have k8 : Blk3 _ w.heap.size _ _ _ _ := (((HT8.out.res : Blk3 _ w.heap.size _ _ _ _).set0 (.int .i64 p')).set1 (.slice (some ⟨gR, 0, none⟩) lR cR)).set2 (.slice (some ⟨gO, 0, none⟩) lO cO)
                obtain ⟨x0, x1, x2, _, _, _⟩ := k8.cells
                refine bodyPost_ret (v := .agg #[.int .i64 p', .slice (some ⟨gR, 0, none⟩) lR cR, .slice (some ⟨gO, 0, none⟩) lO cO]) (by simp [results, go_sem, x0, x1, x2]) rfl ?_
                exact picksS_done HT8.out (by omega) ⟨by omega, fun i hi => by have := HL.out.2.2 i hi; omega⟩ (by rw [List.length_set]; omega) (by omega)
              · have hzd2 : (z == 2) = false := beq_eq_false_iff_ne.2 hz2
                by_cases hz3 : z = 3
                · subst hz3
                  have h0r : 0 < rows.length := hrl.1
                  have hin := HT6.out.ss.rown.inner 0 h0r
                  have hl0 := HL.out.2.2 0 h0r
                  obtain ⟨au, nu, cu, hgv, HNU, _, _⟩ := hin.opened (by rw [List.length_map]; unfold Mid; omega)
                  obtain ⟨ck, fk⟩ := HT6.out.ss.rown.outer.cell (i := 0) (by rw [HT6.out.ss.rown.len]; exact h0r)
                  rw [hgv] at ck hin
                  obtain ⟨g0, rfl⟩ := hin.head (i := 0) (by rw [List.length_map]; omega)
                  obtain ⟨cx, fx⟩ := hin.cell (i := 0) (by rw [List.length_map]; omega)
                  have hnu1 : 0 < nu := by rw [HNU.out, List.length_map]; omega
                  have HT8 := Lib.hid (HT6.out.step (Chg.setCell w6 ⟨g0, 0, none⟩ (.int .i64 7)) (fun x hx => by have h9 : x = g0 := hx; have := HT6.out.ss.rfrom.2 0 h0r g0 (by rw [hgv]; rfl); omega) (HT6.out.ss.row0 h0r hgv 7))
                  have HGV := Lib.hid hgv
                  clear hin hgv HNU
                  obtain ⟨e0, e1, e2, k0, k1, k2⟩ := HT8.out.ss.blk.cells
                  obtain ⟨d0, d1, d2, g0, g1, g2⟩ := HT8.out.res.cells
                  go_wp2_with fail
                  have k8 : Blk3 _ w.heap.size _ _ _ _ := (((HT8.out.res : Blk3 _ w.heap.size _ _ _ _).set0 (.int .i64 p')).set1 (.slice (some ⟨gR, 0, none⟩) lR cR)).set2 (.slice (some ⟨gO, 0, none⟩) lO cO)
                  obtain ⟨x0, x1, x2, _, _, _⟩ := k8.cells
                  refine bodyPost_ret (v := .agg #[.int .i64 p', .slice (some ⟨gR, 0, none⟩) lR cR, .slice (some ⟨gO, 0, none⟩) lO cO]) (by simp [results, go_sem, x0, x1, x2]) rfl ?_
                  exact picksS_done HT8.out (by omega) ⟨by rw [List.length_set]; omega, fun i hi => by rw [List.length_set] at hi; rw [gr_set hi]; (split <;> first | (rw [List.length_set]; have := HL.out.2.2 0 h0r; omega) | (have := HL.out.2.2 i hi; omega))⟩ (by omega) (by omega)
                · have hzd3 : (z == 3) = false := beq_eq_false_iff_ne.2 hz3
                  obtain ⟨e0, e1, e2, k0, k1, k2⟩ := HT6.out.ss.blk.cells
                  obtain ⟨d0, d1, d2, g0, g1, g2⟩ := HT6.out.res.cells
                  go_wp2_with fail
                  have k8 : Blk3 _ w.heap.size _ _ _ _ := (((HT6.out.res : Blk3 _ w.heap.size _ _ _ _).set0 (.int .i64 p')).set1 (.slice (some ⟨gR, 0, none⟩) lR cR)).set2 (.slice (some ⟨gO, 0, none⟩) lO cO)
                  obtain ⟨x0, x1, x2, _, _, _⟩ := k8.cells
                  refine bodyPost_ret (v := .agg #[.int .i64 p', .slice (some ⟨gR, 0, none⟩) lR cR, .slice (some ⟨gO, 0, none⟩) lO cO]) (by simp [results, go_sem, x0, x1, x2]) rfl ?_
                  exact picksS_done HT6.out (by omega) ⟨by omega, fun i hi => by have := HL.out.2.2 i hi; omega⟩ (by omega) (by omega)
    · have hd : ((lR : Int) == 0) = false := by simp; omega
      replace HL := Lib.hid (show rows.length = own.length ∧ (1 ≤ rows.length ∧ rows.length ≤ 6) ∧ ∀ i, i < rows.length → 1 ≤ (gr rows i).length ∧ (gr rows i).length ≤ 4 from ⟨HL.out.1, by have := HL.out.2.1; have := HLQ.out; omega, HL.out.2.2.2⟩)
      replace HT := Lib.hid (HT.out.mono (show N + 10 ≤ N + 300 by omega))
      have hrl : 1 ≤ rows.length ∧ rows.length ≤ 6 := HL.out.2.1
      have hown : 1 ≤ own.length ∧ own.length ≤ 6 := by rw [← HL.out.1]; exact hrl
      have hvl2 : vs.length ≤ 6 := by rw [HT.out.ss.rown.len]; exact HL.out.2.1.2
      have hol2 : (own.map (Value.int .i64)).length ≤ 6 := by rw [List.length_map]; exact hown.2
      have hol' : (own.map (Value.int .i64)).length + 1 ≤ 1099511627776 := by omega
      have hlo : lO = own.length := by rw [HLO.out, List.length_map]
      have hlo1 : 0 < lO := by omega
      have hlr1 : 0 < lR := by omega
      obtain ⟨gR, rfl⟩ := HT.out.ss.rown.outer.head (i := 0) (by rw [HT.out.ss.rown.len]; omega)
      obtain ⟨gO, rfl⟩ := HT.out.ss.oown.head (i := 0) (by rw [List.length_map]; omega)
      clear hlo
      go_wp2_with fail
      refine (pick_any g (N + 300) 40 _ HT.out.rd (by omega) (by omega)).mono ?_
      rintro e w6 ⟨z, rfl, hz, hr6, hc6⟩
      have HT6 := Lib.hid (HT.out.call hr6 hc6)
      have hb6 := HT6.out.ss.base
      clear hr6 hc6 hz
      obtain ⟨c0, c1, c2, f0, f1, f2⟩ := HT6.out.ss.blk.cells
      by_cases hz0 : z = 0
      · subst hz0
        go_wp2_with fail
        refine (one_lit g (N + 301) (fun p => 0 ≤ p ∧ p ≤ 7) [4, 0] _ _ _ _ rfl rfl HT6.out.rd (by omega) (by simp) (by simp) (by decide)).mono ?_
        rintro e w7 ⟨q, rfl, hq, hr7, hc7⟩
        have h7 := HT6.out.call hr7 hc7
        have HT8 := Lib.hid (h7.step (Chg.setCell w7 ⟨b, 0, none⟩ (.int .i64 q)) (fun x hx => by have h9 : x = b := hx; omega) (h7.ss.prime q))
        clear c0 c1 c2 f0 f1 f2
        obtain ⟨c0, c1, c2, f0, f1, f2⟩ := h7.ss.blk.cells
        clear h7 hr7 hc7
        obtain ⟨e0, e1, e2, k0, k1, k2⟩ := HT8.out.ss.blk.cells
        obtain ⟨d0, d1, d2, g0, g1, g2⟩ := HT8.out.res.cells
        go_wp2_with fail
        have k8 : Blk3 _ w.heap.size _ _ _ _ := (((HT8.out.res : Blk3 _ w.heap.size _ _ _ _).set0 (.int .i64 q)).set1 (.slice (some ⟨gR, 0, none⟩) lR cR)).set2 (.slice (some ⟨gO, 0, none⟩) lO cO)
        obtain ⟨x0, x1, x2, _, _, _⟩ := k8.cells
        refine bodyPost_ret (v := .agg #[.int .i64 q, .slice (some ⟨gR, 0, none⟩) lR cR, .slice (some ⟨gO, 0, none⟩) lO cO]) (by simp [results, go_sem, x0, x1, x2]) rfl ?_
        exact picksS_done HT8.out (by omega) ⟨by omega, fun i hi => by have := HL.out.2.2 i hi; omega⟩ (by omega) hq
      · have hzd0 : (z == 0) = false := beq_eq_false_iff_ne.2 hz0
        by_cases hz1 : z = 1
        · subst hz1
          have pA := (New.alloc w6 (.cells #[] 3)).cellNew c2
          have HS := Lib.hid (((HT6.out.ss.isI (by omega)).new (New.alloc w6 (.cells #[] 3))).src)
          go_wp2_with ((first
            | (at_builtin; refine wpList_app rfl (.tmp 89) (.tmp 91) _ rfl tyInt (Own.empty w6 3) rfl (some ⟨gO, 0, none⟩) lO cO (own.map (Value.int .i64)) rfl HS.out.1 HS.out.2.1 HS.out.2.2.1 HS.out.2.2.2 (by simp; omega) ?_; intro v7 w7 k1 k2 k3; obtain ⟨a7, l7, c7, rfl, _, _, _⟩ := k1.opened (by rw [List.length_append]; unfold Mid; simp; omega); have N7 := Lib.hid (New.then (New.alloc w6 _) k2 (fun i hi => Nat.le_of_eq (Option.some.inj hi))); have K7 := Lib.hid (And.intro (show Own w7 3 (.slice a7 l7 c7) (own.map (Value.int .i64)) by simpa using k1) (show From w6.heap.size (.slice a7 l7 c7) from fun i hi => (k3 i hi).elim (fun h => Nat.le_of_eq (Option.some.inj h)) (fun h => by simp at h; omega))); clear k1 k2 k3)
            | (at_builtin; refine wpList_app1 rfl (.tmp 92) (.tmp 93) _ rfl tyInt w7 K7.out.1 rfl _ _ rfl rfl rfl hol' ?_; intro v8 w8 k1 k2 k3; obtain ⟨a8, l8, c8, rfl, _, _, _⟩ := k1.opened (by rw [List.length_append, List.length_singleton]; unfold Mid; omega); have N8 := Lib.hid (New.then N7.out k2 (fun i hi => K7.out.2 i hi)); have K8 := Lib.hid (And.intro k1 (show From w6.heap.size (.slice a8 l8 c8) from fun i hi => (k3 i hi).elim (fun h => K7.out.2 i h) (fun h => Nat.le_trans N7.out.size h))); obtain ⟨u0, u1, u2, y0, y1, y2⟩ := (HT6.out.new N8.out).ss.blk.cells; have hss := HT6.out.ss.owners (own2 := own ++ [0]) (by rw [List.map_append]; exact K8.out.1) (N8.out.mono (fun _ _ h => h.elim)) (fun x hx => .inr (K8.out.2 x hx)); have HT8 := Lib.hid ((HT6.out.new N8.out).step (Chg.setCell w8 ⟨b, 2, none⟩ (.slice a8 l8 c8)) (fun x hx => by have h9 : x = b := hx; omega) hss); obtain ⟨e0, e1, e2, k0, k1, k2⟩ := HT8.out.ss.blk.cells; obtain ⟨d0, d1, d2, g0, g1, g2⟩ := HT8.out.res.cells; clear k1 k2 k3 hss)))
          have k8 : Blk3 _ w.heap.size _ _ _ _ := (((HT8.out.res : Blk3 _ w.heap.size _ _ _ _).set0 (.int .i64 p')).set1 (.slice (some ⟨gR, 0, none⟩) lR cR)).set2 (.slice a8 l8 c8)
          obtain ⟨x0, x1, x2, _, _, _⟩ := k8.cells
          refine bodyPost_ret (v := .agg #[.int .i64 p', .slice (some ⟨gR, 0, none⟩) lR cR, .slice a8 l8 c8]) (by simp [results, go_sem, x0, x1, x2]) rfl ?_
          exact picksS_done HT8.out (by omega) ⟨by omega, fun i hi => by have := HL.out.2.2 i hi; omega⟩ (by rw [List.length_append, List.length_singleton]; omega) (by omega)
        · have hzd1 : (z == 1) = false := beq_eq_false_iff_ne.2 hz1
          by_cases hz2 : z = 2
          · subst hz2
            have hbg : ¬ b = gO := fun e => HT6.out.ss.ne_own gO rfl e.symm
            go_wp2_with fail
            go_region_held3 (fun w' => w'.cell? ⟨b, 2, none⟩ = some (.slice (some ⟨gO, 0, none⟩) lO cO) ∧ w'.cell? ⟨b, 1, none⟩ = some (.slice (some ⟨gR, 0, none⟩) lR cR)) (first | exact ⟨KC.out.1, KC.out.2⟩ | exact ⟨(World.cell?_setCell_other _ _ _ _ (fun e => by simp at e)).trans KC.out.1, (World.cell?_setCell_other _ _ _ _ (fun e => by simp at e)).trans KC.out.2⟩ | go_keep) (first
              | (go_at_call 35
                 refine (one_drew g (N + 301) [5, -1] w6 _ _ _ rfl rfl HT6.out.rd (by omega) (by simp) (by simp)).mono ?_
                 rintro e w7 ⟨q, rfl, -, hr2, hc3⟩
                 have h7 := HT6.out.call hr2 hc3
                 obtain ⟨ck7, fk7⟩ := h7.ss.oown.cell (i := 0) (by rw [List.length_map]; exact hown.1)
                 have KC := Lib.hid (And.intro h7.ss.blk.cells.2.2.1 h7.ss.blk.cells.2.1)
                 have K7 := Lib.hid h7
                 clear hc3 hr2 h7))
            have HT8 := Lib.hid (K7.out.step (Chg.setCell w7 ⟨gO, 0, none⟩ (.int .i64 q)) (fun x hx => by have h9 : x = gO := hx; have := K7.out.ss.ofrom gO rfl; omega) (K7.out.ss.owner0 q))
            obtain ⟨e0, e1, e2, k0, k1, k2⟩ := HT8.out.ss.blk.cells
            obtain ⟨d0, d1, d2, g0, g1, g2⟩ := HT8.out.res.cells
            go_wp2_with fail
            have k8 : Blk3 _ w.heap.size _ _ _ _ := (((HT8.out.res : Blk3 _ w.heap.size _ _ _ _).set0 (.int .i64 p')).set1 (.slice (some ⟨gR, 0, none⟩) lR cR)).set2 (.slice (some ⟨gO, 0, none⟩) lO cO)
            obtain ⟨x0, x1, x2, _, _, _⟩ := k8.cells
            refine bodyPost_ret (v := .agg #[.int .i64 p', .slice (some ⟨gR, 0, none⟩) lR cR, .slice (some ⟨gO, 0, none⟩) lO cO]) (by simp [results, go_sem, x0, x1, x2]) rfl ?_
            exact picksS_done HT8.out (by omega) ⟨by omega, fun i hi => by have := HL.out.2.2 i hi; omega⟩ (by rw [List.length_set]; omega) (by omega)
          · have hzd2 : (z == 2) = false := beq_eq_false_iff_ne.2 hz2
            by_cases hz3 : z = 3
            · subst hz3
              have h0r : 0 < rows.length := hrl.1
              have hin := HT6.out.ss.rown.inner 0 h0r
              have hl0 := HL.out.2.2 0 h0r
              obtain ⟨au, nu, cu, hgv, HNU, _, _⟩ := hin.opened (by rw [List.length_map]; unfold Mid; omega)
              obtain ⟨ck, fk⟩ := HT6.out.ss.rown.outer.cell (i := 0) (by rw [HT6.out.ss.rown.len]; exact h0r)
              rw [hgv] at ck hin
              obtain ⟨g0, rfl⟩ := hin.head (i := 0) (by rw [List.length_map]; omega)
              obtain ⟨cx, fx⟩ := hin.cell (i := 0) (by rw [List.length_map]; omega)
              have hnu1 : 0 < nu := by rw [HNU.out, List.length_map]; omega
              have HT8 := Lib.hid (HT6.out.step (Chg.setCell w6 ⟨g0, 0, none⟩ (.int .i64 7)) (fun x hx => by have h9 : x = g0 := hx; have := HT6.out.ss.rfrom.2 0 h0r g0 (by rw [hgv]; rfl); omega) (HT6.out.ss.row0 h0r hgv 7))
              have HGV := Lib.hid hgv
              clear hin hgv HNU
              obtain ⟨e0, e1, e2, k0, k1, k2⟩ := HT8.out.ss.blk.cells
              obtain ⟨d0, d1, d2, g0, g1, g2⟩ := HT8.out.res.cells
              go_wp2_with fail
              have k8 : Blk3 _ w.heap.size _ _ _ _ := (((HT8.out.res : Blk3 _ w.heap.size _ _ _ _).set0 (.int .i64 p')).set1 (.slice (some ⟨gR, 0, none⟩) lR cR)).set2 (.slice (some ⟨gO, 0, none⟩) lO cO)
              obtain ⟨x0, x1, x2, _, _, _⟩ := k8.cells
              refine bodyPost_ret (v := .agg #[.int .i64 p', .slice (some ⟨gR, 0, none⟩) lR cR, .slice (some ⟨gO, 0, none⟩) lO cO]) (by simp [results, go_sem, x0, x1, x2]) rfl ?_
              exact picksS_done HT8.out (by omega) ⟨by rw [List.length_set]; omega, fun i hi => by rw [List.length_set] at hi; rw [gr_set hi]; (split <;> first | (rw [List.length_set]; have := HL.out.2.2 0 h0r; omega) | (have := HL.out.2.2 i hi; omega))⟩ (by omega) (by omega)
            · have hzd3 : (z == 3) = false := beq_eq_false_iff_ne.2 hz3
              obtain ⟨e0, e1, e2, k0, k1, k2⟩ := HT6.out.ss.blk.cells
              obtain ⟨d0, d1, d2, g0, g1, g2⟩ := HT6.out.res.cells
              go_wp2_with fail
              have k8 : Blk3 _ w.heap.size _ _ _ _ := (((HT6.out.res : Blk3 _ w.heap.size _ _ _ _).set0 (.int .i64 p')).set1 (.slice (some ⟨gR, 0, none⟩) lR cR)).set2 (.slice (some ⟨gO, 0, none⟩) lO cO)
              obtain ⟨x0, x1, x2, _, _, _⟩ := k8.cells
              refine bodyPost_ret (v := .agg #[.int .i64 p', .slice (some ⟨gR, 0, none⟩) lR cR, .slice (some ⟨gO, 0, none⟩) lO cO]) (by simp [results, go_sem, x0, x1, x2]) rfl ?_
              exact picksS_done HT6.out (by omega) ⟨by omega, fun i hi => by have := HL.out.2.2 i hi; omega⟩ (by omega) (by omega)
end Go.Proofs.Ytahgjfmdafhedaa
