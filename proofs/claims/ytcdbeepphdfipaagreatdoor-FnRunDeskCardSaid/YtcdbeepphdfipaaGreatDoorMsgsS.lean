/- The reference's list of all messages. -/
import Derived.Test.YtcdbeepphdfipaaGreatDoorRang
import Derived.Test.YtcdbeepphdfipaaGreatDoorGens
namespace Go.Proofs.YtcdbeepphdfipaaGreatDoor
open Go.RowKit
set_option linter.unusedVariables false

/-- The first N messages. -/
def msgsTo (q k N : Nat) : List (List Int) := (List.range N).map (msg q k)
theorem msgsTo_length (q k N : Nat) : (msgsTo q k N).length = N := by simp [msgsTo]
theorem msgsTo_get {q k N t : Nat} (ht : t < N) : gr (msgsTo q k N) t = msg q k t := by
  rw [gr_lt (by rw [msgsTo_length]; exact ht)]; simp [msgsTo]
theorem msgsTo_succ {q k i x : Nat} (hx : x < q) : msgsTo q (k + 1) (i * q + x) ++ [msg q k i ++ [(x : Int)]] = msgsTo q (k + 1) (i * q + (x + 1)) := by
  rw [← msg_snoc hx, ← Nat.add_assoc]
  simp [msgsTo, List.range_succ]

/-- A row of one's own is laid behind the others, all newer. -/
theorem rows_moreN {B : Nat} {wz wy w1 w2 : World} {v u v2 : Value} {vs : List Value} {rows : List (List Int)} {xs : List Int} (hB : B = wz.heap.size) (hO : OwnR wy 53 3 v vs rows) (hF : FromR B v vs rows)
    (hN : New wz wy) (h1 : New wy w1) (hu : Own w1 3 u (xs.map (Value.int .i64))) (hfu : From wy.heap.size u)
    (k1 : Own w2 53 v2 (vs ++ [u])) (k2 : Chg (fun k => v.ownBlock = some k) w1 w2) (k3 : ∀ g', v2.ownBlock = some g' → v.ownBlock = some g' ∨ w1.heap.size ≤ g') :
    OwnR w2 53 3 v2 (vs ++ [u]) (rows ++ [xs]) ∧ FromR B v2 (vs ++ [u]) (rows ++ [xs]) ∧ New wz w2 :=
  ⟨(hO.new h1).push' hu (fun i hi => From.apart hfu (hO.inner i hi)) k1 k2, hF.push hO.len (hfu.mono (by rw [hB]; exact hN.size)) k3 (by rw [hB]; exact Nat.le_trans hN.size h1.size),
    (hN.trans h1).then k2 (fun i hi => by rw [← hB]; exact hF.1 i hi)⟩

theorem pow_few {q j : Nat} (hq : q ≤ 7) (hj : j ≤ 3) : q ^ j ≤ 343 :=
  Nat.le_trans (Nat.pow_le_pow_left hq j) (Nat.pow_le_pow_right (by omega) hj : 7 ^ j ≤ 7 ^ 3)

set_option maxRecDepth 100000 in
set_option maxHeartbeats 4000000 in
theorem specMessages_any (q k : Nat) (w : World) (hq : 2 ≤ q ∧ q ≤ 7) (hk : k ≤ 4) :
    Calls Tryz.prog 153 #[.int .i64 q, .int .i64 k] w fun e w' => ∃ u vs, e = .returned u ∧ OwnR w' 53 3 u vs (msgsTo q k (q ^ k)) ∧ FromR w.heap.size u vs (msgsTo q k (q ^ k)) ∧ New w w' := by
  go_enter Tryz.func153, Tryz.ntmps153
  go_wp2_with fail
  obtain ⟨w1, hw1⟩ : ∃ w1 : World, w1 = w.alloc (.cells #[] 3) := ⟨_, rfl⟩
  have h1 : New w w1 := by rw [hw1]; exact New.alloc _ _
  have ho1 : Own w1 3 (.slice (some ⟨w.heap.size, 0, none⟩) 0 0) [] := by rw [hw1]; exact Own.empty _ _
  have ho2 := Own.lit w1 53 [.slice (some ⟨w.heap.size, 0, none⟩) 0 0] (by simp)
  have hs1 : w1.heap.size = w.heap.size + 1 := by rw [hw1]; simp
  have hm1 : msgsTo q 0 (q ^ 0) = [[]] := by simp [msgsTo, msg_zero]
  have hal : New w1 (w1.alloc (.cells #[.slice (some ⟨w.heap.size, 0, none⟩) 0 0] 53)) := New.alloc _ _
  have hR : OwnR (w1.alloc (.cells #[.slice (some ⟨w.heap.size, 0, none⟩) 0 0] 53)) 53 3 (.slice (some ⟨w.heap.size + 1, 0, none⟩) 1 1) [.slice (some ⟨w.heap.size, 0, none⟩) 0 0] (msgsTo q 0 (q ^ 0)) := by
    rw [hm1]
    refine ⟨by rw [← hs1]; exact ho2, rfl, fun i hi => ?_, fun i j hi hj hne => by simp at hi hj; omega⟩
    obtain rfl : i = 0 := by simp at hi; omega
    exact ho1.new hal
  have hF : FromR w.heap.size (.slice (some ⟨w.heap.size + 1, 0, none⟩) 1 1) [.slice (some ⟨w.heap.size, 0, none⟩) 0 0] (msgsTo q 0 (q ^ 0)) := by
    rw [hm1]
    refine ⟨fun g hg => by simp [Value.ownBlock] at hg; omega, fun i hi => ?_⟩
    obtain rfl : i = 0 := by simp at hi; omega
    exact From.new _ _ _
  have HS := Lib.hid (And.intro hR (And.intro hF (h1.trans hal)))
  rw [← hw1]
  clear hw1 h1 ho1 ho2 hs1 hR hF hal hm1
  go_loopw [1, 5] (fun t1 t5 wr => ∃ (j c : Nat) (vz : List Value), t1 = .int .i64 c ∧ c + j = k ∧ Hid (OwnR wr 53 3 t5 vz (msgsTo q j (q ^ j)) ∧ FromR w.heap.size t5 vz (msgsTo q j (q ^ j)) ∧ New w wr)) (fun t1 _ _ => (intOf t1).toNat)
  case atStart => exact ⟨0, k, _, rfl, rfl, HS.out⟩
  case round =>
    obtain ⟨j, c, vz, rfl, hc, HD⟩ := hrel
    obtain ⟨wz, hwz⟩ : ∃ wz : World, wz = wr := ⟨_, rfl⟩
    rw [← hwz] at HD
    rw [← hwz]
    clear hwz
    have hqjj := Nat.le_trans (Nat.pow_le_pow_left hq.2 j) (Nat.pow_le_pow_right (by omega) (show j ≤ 4 by omega) : 7 ^ j ≤ 7 ^ 4)
    have hRz : IsR wz u5 (msgsTo q j (q ^ j)) := HD.out.1.isR (by rw [msgsTo_length]; unfold Mid; omega) (fun a ha => by
      rw [msgsTo_length] at ha
      rw [msgsTo_get ha, msg_length]; unfold Mid; omega)
    obtain ⟨ao, m, cap, rfl, HM, hm⟩ := hRz.shape
    have HRZ := Lib.hid hRz
    clear hRz hqjj
    by_cases hc0 : 0 < c
    · have hqj := pow_few hq.2 (show j ≤ 3 by omega)
      have HMq := Lib.hid (show m = q ^ j by rw [HM.out, msgsTo_length])
      have hm343 : m ≤ 343 := by rw [HMq.out]; exact hqj
      clear hqj
      go_wp2_with fail
      go_loopw [6, 7] (fun t6 t7 wr => ∃ (i : Nat) (vs : List Value), t7 = .int .i64 i ∧ i ≤ m ∧ Hid (OwnR wr 53 3 t6 vs (msgsTo q (j + 1) (i * q)) ∧ FromR wz.heap.size t6 vs (msgsTo q (j + 1) (i * q)) ∧ New wz wr)) (fun _ t7 _ => m - (intOf t7).toNat)
      case atStart => exact ⟨0, [], rfl, Nat.zero_le _, by rw [Nat.zero_mul]; exact ⟨Own.empty _ _, rfl, fun i hi => by simp [msgsTo] at hi, fun i j hi => by simp [msgsTo] at hi⟩, ⟨From.new _ _ _, fun i hi => by simp [msgsTo] at hi⟩, New.alloc _ _⟩
      case round =>
        obtain ⟨i, vs, rfl, hi, HE⟩ := hrel
        obtain ⟨wy, hwy⟩ : ∃ wy : World, wy = wr := ⟨_, rfl⟩
        rw [← hwy] at HE
        rw [← hwy]
        clear hwy
        by_cases him : i < m
        · go_wp2_with fail
          go_loopw [6, 8] (fun t6 t8 wr => ∃ (x : Nat) (vs : List Value), t8 = .int .i64 x ∧ x ≤ q ∧ Hid (OwnR wr 53 3 t6 vs (msgsTo q (j + 1) (i * q + x)) ∧ FromR wz.heap.size t6 vs (msgsTo q (j + 1) (i * q + x)) ∧ New wz wr)) (fun _ t8 _ => q - (intOf t8).toNat)
          case atStart => exact ⟨0, vs, rfl, Nat.zero_le _, HE.out⟩
          case round =>
            clear HE
            clear vs
            obtain ⟨x, vs, rfl, hx, HE⟩ := hrel
            obtain ⟨wx, hwx⟩ : ∃ wx : World, wx = wr := ⟨_, rfl⟩
            rw [← hwx] at HE
            rw [← hwx]
            clear hwx
            have HV := Lib.hid (show vs.length = i * q + x by rw [HE.out.1.len, msgsTo_length])
            have HVb := Lib.hid (show vs.length ≤ 3000 by rw [HV.out]; have := Nat.mul_le_mul (show i ≤ 343 by omega) hq.2; omega)
            obtain ⟨a6, l6, c6, rfl, _, _, _⟩ := HE.out.1.outer.opened (by unfold Mid; have := HVb.out; omega)
            by_cases hxq : x < q
            · obtain ⟨b, o, u, rfl, ck, hu⟩ := (HRZ.out.new HE.out.2.2).at him
              rw [msgsTo_get (by rw [← HMq.out]; exact him)] at hu
              obtain ⟨au, nu, cu, rfl, HNU, hnu⟩ := hu.shape
              have HNj := Lib.hid (show (msg q j i).length ≤ 4 by rw [msg_length]; omega)
              have ck' := (New.alloc wx (.cells #[] 3)).cellNew ck
              have HU := Lib.hid (hu.new (New.alloc wx (.cells #[] 3))).src
              clear hu ck
              go_wp2_with (first
                | (at_builtin; refine wpList_app rfl (.tmp 28) (.tmp 32) _ rfl tyInt (Own.empty wx 3) rfl au nu cu ((msg q j i).map (Value.int .i64)) rfl HU.out.1 HU.out.2.1 HU.out.2.2.1 HU.out.2.2.2 (by have h1 := HU.out.1; rw [List.length_map] at h1; have := HNj.out; simp; omega) ?_; intro v4 w4 k1 k2 k3; have N4 := Lib.hid (New.then (New.alloc wx _) k2 (fun i hi => Nat.le_of_eq (Option.some.inj hi))); have K4 := Lib.hid (And.intro k1 k3); obtain ⟨a4, l4, c4, rfl, _, _, _⟩ := k1.opened (by rw [List.length_append, List.length_map]; have := HNj.out; unfold Mid; simp; omega); clear k1 k2 k3)
                | (at_builtin; refine wpList_app1 rfl (.tmp 33) (.tmp 35) _ rfl tyInt w4 K4.out.1 rfl _ _ rfl rfl rfl (by rw [List.length_append, List.length_map]; have := HNj.out; simp; omega) ?_; intro v5 w5 k1 k2 k3; have N5 := Lib.hid (N4.out.then k2 (fun i hi => by
                    rcases K4.out.2 i hi with h | h
                    · simp [Value.ownBlock] at h; omega
                    · simp at h; omega)); have K5 := Lib.hid (And.intro k1 (And.intro k2 k3)); obtain ⟨a5, l5, c5, rfl, _, _, _⟩ := k1.opened (by rw [List.length_append, List.length_append, List.length_map]; have := HNj.out; unfold Mid; simp; omega); clear k1 k2 k3)
                | (at_builtin; refine wpList_app1 rfl (.tmp 27) (.tmp 37) _ rfl tyRow w5 ((HE.out.1.outer).new N5.out) rfl _ _ rfl rfl rfl (by have := HVb.out; omega) ?_; intro v6 w6 k1 k2 k3; have K6 := Lib.hid (And.intro k1 (And.intro k2 k3)); clear k1 k2 k3))
              have hfu : From wx.heap.size (.slice a5 l5 c5) := fun g hg => by
                rcases K5.out.2.2 g hg with h | h
                · rcases K4.out.2 g h with h | h
                  · simp [Value.ownBlock] at h; omega
                  · simp at h; omega
                · exact Nat.le_trans N4.out.size h
              obtain ⟨m1, m2, m3⟩ := rows_moreN (xs := msg q j i ++ [(x : Int)]) rfl HE.out.1 HE.out.2.1 HE.out.2.2 N5.out (by have := K5.out.1; rw [List.nil_append] at this; rw [List.map_append]; exact this) hfu K6.out.1 K6.out.2.1 K6.out.2.2
              rw [msgsTo_succ hxq] at m1 m2
              go_roundw
              case rel => exact ⟨x + 1, _, by go_num, by omega, m1, m2, m3⟩
              case measure => simp [intOf]; omega
            · obtain rfl : x = q := by omega
              have he : i * x + x = (i + 1) * x := by rw [Nat.add_mul, Nat.one_mul]
              rw [he] at HE
              go_wp2_with fail
              go_roundw
              case rel => exact ⟨i + 1, vs, by go_num, by omega, HE.out⟩
              case measure => simp [intOf]; omega
        · obtain rfl : i = m := by omega
          have hR := And.intro HE.out.1 HE.out.2.1
          rw [HMq.out, ← Nat.pow_succ] at hR
          have HRR := Lib.hid (And.intro hR.1 (And.intro (show FromR w.heap.size u6 vs (msgsTo q (j + 1) (q ^ (j + 1))) from ⟨hR.2.1.mono HD.out.2.2.size, fun i hi => (hR.2.2 i hi).mono HD.out.2.2.size⟩) (HD.out.2.2.trans HE.out.2.2)))
          clear hR
          obtain ⟨a6, l6, c6, rfl, _, _, _⟩ := HRR.out.1.outer.opened (by rw [HRR.out.1.len, msgsTo_length, Nat.pow_succ, ← HMq.out]; have := Nat.mul_le_mul hm343 hq.2; unfold Mid; omega)
          go_wp2_with fail
          go_roundw
          case rel => exact ⟨j + 1, c - 1, vs, by go_num, by omega, HRR.out⟩
          case measure => simp [intOf]; omega
    · obtain rfl : c = 0 := by omega
      obtain rfl : j = k := by omega
      go_wp2_with fail
      go_ret
      exact ⟨_, vz, rfl, HD.out.1, HD.out.2.1, HD.out.2.2⟩
end Go.Proofs.YtcdbeepphdfipaaGreatDoor
