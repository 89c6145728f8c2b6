/- spec.ThresholdOf, for numbers that it takes. -/
import Derived.Test.YtahgjfmdafhedaaSchD
import Derived.Test.YtahgjfmdafhedaaGenB
import Derived.Deep.DeepCutAuto
namespace Go.Proofs.Ytahgjfmdafhedaa
open Go.RowKit
set_option linter.unusedVariables false

/-- It ends with a scheme of n rows of k numbers. -/
def GivesT (n k : Nat) (w : World) (e : Ending) (w' : World) : Prop :=
  ∃ (p : Int) (R O : Value) (vs : List Value) (rows : List (List Int)) (own : List Int), e = .returned (.tuple #[.agg #[.int .i64 p, R, O], .bool true]) ∧ (2 ≤ p ∧ p ≤ 7) ∧ (∃ b, SS w.heap.size b w' p R O vs rows own) ∧ (rows.length = n ∧ own.length = n ∧ ∀ j, j < rows.length → (gr rows j).length = k) ∧ New w w'

/-- The block of the result, while the scheme is built. -/
def TB (w wx : World) : Prop := New w wx ∧ Blk3 wx w.heap.size (.int .i64 0) (.slice none 0 0) (.slice none 0 0) 38
theorem TB.step {S : Nat → Prop} {w wx wx' : World} (h : TB w wx) (hc : Chg S wx wx') (hS : ∀ b, S b → w.heap.size < b) : TB w wx' :=
  ⟨h.1.then hc (fun i hi => Nat.le_of_lt (hS i hi)), h.2.chg hc (fun hs => by have := hS _ hs; omega)⟩
theorem SS.any {w0 b1 c : Nat} {wx : World} {p : Int} {R O : Value} {vs : List Value} {rows : List (List Int)} {own : List Int} (h : SS w0 b1 wx p R O vs rows own) (hc : c ≤ w0) : SS c b1 wx p R O vs rows own :=
  ⟨h.blk, h.rown, ⟨h.rfrom.1.mono hc, fun i hi => (h.rfrom.2 i hi).mono hc⟩, h.oown, h.ofrom.mono hc, h.apart, Nat.le_trans hc h.base⟩

set_option maxRecDepth 100000 in
set_option maxHeartbeats 4000000 in
theorem threshold_some (p : Int) (n k : Nat) (w : World) (hpr : prB p = true) (hp : 2 ≤ p ∧ p ≤ 7) (hn : 1 ≤ n ∧ n ≤ 5 ∧ (n : Int) ≤ p - 1) (hk : 1 ≤ k ∧ k ≤ n ∧ k ≤ 4) :
    Calls Try.prog 89 #[.int .i64 p, .int .i64 n, .int .i64 k] w fun e w' => GivesT n k w e w' := by
  have HP := Lib.hid hpr
  clear hpr
  have r0 := Blk3.alloc w (.int .i64 0) (.slice none 0 0) (.slice none 0 0) 38
  have n0 := New.alloc w (.cells #[.int .i64 0, .slice none 0 0, .slice none 0 0] 38)
  obtain ⟨w0, hw0⟩ : ∃ w0, w0 = w.alloc (.cells #[.int .i64 0, .slice none 0 0, .slice none 0 0] 38) := ⟨_, rfl⟩
  rw [← hw0] at r0 n0
  have hs0 : w0.heap.size = w.heap.size + 1 := by rw [hw0]; simp
  go_enter Try.func89, Try.ntmps89
  go_upto_region 1 with fail
  rw [← hw0]
  have H0 := Lib.hid (And.intro (show TB w w0 from ⟨n0, r0⟩) hs0)
  clear r0 n0 hw0 hs0
  go_cut [29] (fun t29 wx => t29 = .bool false ∧ wx = w0)
  case first =>
    have hcs : p - 1 ≤ 5 ∨ ¬ p - 1 ≤ 5 := by omega
    have hck : (n : Int) ≤ 4 ∨ ¬ (n : Int) ≤ 4 := by omega
    rcases hcs with h5 | h5 <;> rcases hck with h4 | h4
    all_goals go_wp2_with ((first | (go_at_call 42; refine (isPrime_any _ _).mono ?_; rintro e w' ⟨rfl, rfl⟩; rw [HP.out]) | (go_at_call 43; refine (inRange_any _ _ _ _).mono ?_; rintro e w' ⟨rfl, rfl⟩; rw [inB_iff.2 (by omega)])))
    all_goals go_meet
    all_goals exact ⟨rfl, rfl⟩
  case rest =>
    obtain ⟨rfl, rfl⟩ := hcut
    obtain ⟨w1, hw1⟩ : ∃ w1, w1 = wc.alloc (.cells #[.int .i64 p, .slice none 0 0, .slice none 0 0] 38) := ⟨_, rfl⟩
    have hss : SS (w.heap.size + 1) (w.heap.size + 1) w1 p (.slice none 0 0) (.slice none 0 0) [] [] [] := by
      have := SS.first (w0 := w.heap.size + 1) (Blk3.alloc wc (.int .i64 p) (.slice none 0 0) (.slice none 0 0) 38) (by rw [H0.out.2]; exact Nat.le_refl _)
      rw [H0.out.2, ← hw1] at this
      exact this
    have htb : TB w w1 := H0.out.1.step (S := fun _ => False) (by rw [hw1]; exact New.alloc _ _) (fun b hb => hb.elim)
    have H1 := Lib.hid (And.intro htb hss)
    have HSZ := Lib.hid H0.out.2
    have HW1 := Lib.hid hw1
    clear hss htb hw1
    go_wp2_with fail
    rw [← HW1.out, HSZ.out]
    go_loopw [9] (fun t9 wr => ∃ (i : Nat) (R O : Value) (vs : List Value) (rows : List (List Int)) (own : List Int), t9 = .int .i64 i ∧ i ≤ n ∧ Hid (TB w wr ∧ SS (w.heap.size + 1) (w.heap.size + 1) wr p R O vs rows own ∧ rows.length = i ∧ own.length = i ∧ ∀ j, j < rows.length → (gr rows j).length = k)) (fun t9 _ => n - (intOf t9).toNat)
    case atStart => exact ⟨0, _, _, _, _, _, rfl, Nat.zero_le _, H1.out.1, H1.out.2, rfl, rfl, fun j hj => by simp at hj⟩
    case round =>
      obtain ⟨i, R, O, vs, rows, own, rfl, hi, HK⟩ := hrel
      obtain ⟨wz, hwz⟩ : ∃ wz : World, wz = wr := ⟨_, rfl⟩
      rw [← hwz] at HK
      rw [← hwz]
      clear hwz
      have hvl : vs.length ≤ 5 := by rw [HK.out.2.1.rown.len, HK.out.2.2.1]; omega
      have hol : (own.map (Value.int .i64)).length ≤ 5 := by rw [List.length_map, HK.out.2.2.2.1]; omega
      have hvl' : vs.length + 1 ≤ 1099511627776 := by omega
      have hol' : (own.map (Value.int .i64)).length + 1 ≤ 1099511627776 := by omega
      obtain ⟨aR, lR, cR, rfl, _, _, _⟩ := HK.out.2.1.rown.outer.opened (by unfold Mid; omega)
      obtain ⟨aO, lO, cO, rfl, _, _, _⟩ := HK.out.2.1.oown.opened (by unfold Mid; omega)
      by_cases hin : i < n
      · have hip : (i : Int) + 1 < p := by omega
        go_wp2_with fail
        go_loopw [10, 11] (fun t10 t11 wr => ∃ (j : Nat) (ys : List Int), t11 = .int .i64 j ∧ j ≤ k ∧ Hid (ys.length = j ∧ Own wr 3 t10 (ys.map (Value.int .i64)) ∧ From wz.heap.size t10 ∧ New wz wr)) (fun _ t11 _ => k - (intOf t11).toNat)
        case atStart => exact ⟨0, [], rfl, Nat.zero_le _, rfl, Own.empty _ _, From.new _ _ _, New.alloc _ _⟩
        case round =>
          obtain ⟨j, ys, rfl, hj, HY⟩ := hrel
          obtain ⟨wy, hwy⟩ : ∃ wy : World, wy = wr := ⟨_, rfl⟩
          rw [← hwy] at HY
          rw [← hwy]
          clear hwy
          have hyl : (ys.map (Value.int .i64)).length ≤ 4 := by rw [List.length_map, HY.out.1]; omega
          have hyl' : (ys.map (Value.int .i64)).length + 1 ≤ 1099511627776 := by omega
          obtain ⟨aY, lY, cY, rfl, _, _, _⟩ := HY.out.2.1.opened (by unfold Mid; omega)
          by_cases hjk : j < k
          · go_wp2_with ((first | (go_at_call 45; refine (powerBy_any p ((i : Int) + 1) j _ hp (by omega) (by omega)).mono ?_; rintro e w' ⟨x, rfl, hx, rfl⟩) | (at_builtin; refine wpList_app1 rfl _ _ _ rfl tyInt _ HY.out.2.1 rfl _ _ rfl rfl rfl hyl' ?_; intro v2 w6 k1 k2 k3; have K2 := Lib.hid (And.intro k1 (And.intro k2 k3)); clear k1 k2 k3)))
            go_roundw
            case rel =>
              obtain ⟨k1, k2, k3⟩ := K2.out
              refine ⟨j + 1, ys ++ [x], by go_num, by omega, by rw [List.length_append, HY.out.1]; rfl, by rw [List.map_append]; exact k1, fun g hg => ?_, HY.out.2.2.2.then k2 (fun i hi => HY.out.2.2.1 i hi)⟩
              rcases k3 g hg with h | h
              · exact HY.out.2.2.1 g h
              · exact Nat.le_trans HY.out.2.2.2.size h
            case measure => simp [intOf]; omega
          · obtain rfl : j = k := by omega
            have HSY := Lib.hid (HK.out.2.1.new HY.out.2.2.2)
            have HTY := Lib.hid (HK.out.1.step HY.out.2.2.2 (fun b hb => hb.elim))
            obtain ⟨c0, c1, c2, f0, f1, f2⟩ := HSY.out.blk.cells
            have hxo : Apart (.slice aY lY cY) (.slice aO lO cO) := fun g hg hg' => (HY.out.2.2.1).apart HK.out.2.1.oown g hg' hg
            have HXA := Lib.hid (And.intro (HY.out.2.2.1.mono HK.out.2.1.size : From (w.heap.size + 1) (.slice aY lY cY)) (And.intro (fun i hi => (HY.out.2.2.1).apart (HK.out.2.1.rown.inner i hi) : ∀ i, i < rows.length → Apart (gv vs i) (.slice aY lY cY)) hxo))
            clear hxo
            go_upto_region 13 with (at_builtin; refine wpList_app1 rfl _ _ _ rfl tyRow _ HSY.out.rown.outer rfl _ _ rfl rfl rfl hvl' ?_; intro v5 w5 m1 m2 m3; obtain ⟨a5, l5, c5, rfl, _, _, _⟩ := m1.opened (by rw [List.length_append, List.length_singleton]; unfold Mid; omega); obtain ⟨u0, u1, u2, z0, z1, z2⟩ := (HSY.out.blk1 m2 HSY.out.ne_row).cells; have hss := HSY.out.row HY.out.2.1 HXA.out.1 HXA.out.2.1 HXA.out.2.2 m1 m2 m3; have htb := (HTY.out.step m2 (fun b hb => HSY.out.rfrom.1 b hb)).step (Chg.setCell w5 ⟨w.heap.size + 1, 1, none⟩ (.slice a5 l5 c5)) (fun b hb => by have h9 : b = w.heap.size + 1 := hb; omega); have HS5 := Lib.hid (And.intro hss htb); obtain ⟨d0, d1, d2, g0, g1, g2⟩ := hss.blk.cells; clear m1 m2 m3 hss htb)
            obtain ⟨w9, hw9⟩ : ∃ w9 : World, w9 = w5.setCell ⟨w.heap.size + 1, 1, none⟩ (.slice a5 l5 c5) := ⟨_, rfl⟩
            rw [← hw9] at HS5 d0 d1 d2 g0 g1 g2
            rw [← hw9]
            clear hw9 c0 c1 c2 f0 f1 f2 u0 u1 u2 z0 z1 z2
            go_wp2_with (at_builtin; refine wpList_app1 rfl _ _ _ rfl tyInt _ HS5.out.1.oown rfl _ _ rfl rfl rfl hol' ?_; intro v6 w6 m1 m2 m3; obtain ⟨a6, l6, c6, rfl, _, _, _⟩ := m1.opened (by rw [List.length_append, List.length_singleton]; unfold Mid; omega); obtain ⟨y0, y1, y2, x0, x1, x2⟩ := (HS5.out.1.blk1 m2 HS5.out.1.ne_own).cells; have hss := HS5.out.1.owners (own2 := own ++ [(i : Int)]) (by rw [List.map_append]; exact m1) m2 m3; have htb := (HS5.out.2.step m2 (fun b hb => HS5.out.1.ofrom b hb)).step (Chg.setCell w6 ⟨w.heap.size + 1, 2, none⟩ (.slice a6 l6 c6)) (fun b hb => by have h9 : b = w.heap.size + 1 := hb; omega); have HS6 := Lib.hid (And.intro hss htb); clear m1 m2 m3 hss htb)
            go_roundw
            case rel => exact ⟨i + 1, _, _, _, rows ++ [ys], own ++ [(i : Int)], by go_num, by omega, HS6.out.2, HS6.out.1, by rw [List.length_append, HK.out.2.2.1]; rfl, by rw [List.length_append, HK.out.2.2.2.1]; rfl, fun z hz => by
              rw [List.length_append, List.length_singleton] at hz
              by_cases e : z < rows.length
              · rw [gr_snoc_lt e]; exact HK.out.2.2.2.2 z e
              · rw [gr_snoc_eq (by omega)]; exact HY.out.1⟩
            case measure => simp [intOf]; omega
      · obtain rfl : i = n := by omega
        obtain ⟨c0, c1, c2, f0, f1, f2⟩ := HK.out.2.1.blk.cells
        obtain ⟨d0, d1, d2, g0, g1, g2⟩ := HK.out.1.2.cells
        go_wp2_with fail
        have k8 : Blk3 _ w.heap.size _ _ _ _ := (((HK.out.1.2 : Blk3 wz w.heap.size _ _ _ _).set0 (.int .i64 p)).set1 (.slice aR lR cR)).set2 (.slice aO lO cO)
        obtain ⟨x0, x1, x2, _, _, _⟩ := k8.cells
        refine bodyPost_ret (v := .tuple #[.agg #[.int .i64 p, .slice aR lR cR, .slice aO lO cO], .bool true]) (by simp [results, go_sem, x0, x1, x2]) rfl ?_
        have hc : Chg (· = w.heap.size) wz (((wz.setCell ⟨w.heap.size, 0, none⟩ (.int .i64 p)).setCell ⟨w.heap.size, 1, none⟩ (.slice aR lR cR)).setCell ⟨w.heap.size, 2, none⟩ (.slice aO lO cO)) := chg3 _ _ _ _ _
        have hfin := (HK.out.2.1.keep hc (fun b hb => by have h9 : b = w.heap.size := hb; omega)).any (c := w.heap.size) (by omega)
        exact ⟨p, _, _, vs, rows, own, rfl, hp, ⟨_, hfin⟩, ⟨HK.out.2.2.1, HK.out.2.2.2.1, HK.out.2.2.2.2⟩, HK.out.1.1.then hc (fun i hi => Nat.le_of_eq hi.symm)⟩
end Go.Proofs.Ytahgjfmdafhedaa
