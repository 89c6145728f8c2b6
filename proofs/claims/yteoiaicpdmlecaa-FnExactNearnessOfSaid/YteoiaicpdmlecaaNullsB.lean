/- spec.nulls. -/
import Derived.Test.YteoiaicpdmlecaaNullsA
import Derived.Test.YteoiaicpdmlecaaRk
namespace Go.Proofs.Yteoiaicpdmlecaa
open Go.RowKit Mat
set_option linter.unusedVariables false

/-- The row of checks for column c, of which the first k places are told. -/
def nrTo (q : Int) (a : List (List Int)) (c k j : Nat) : Int := if j < k then (if 0 ≤ ldIx a j a.length then (-gi (gr a (ldIx a j a.length).toNat) c) % q else if j = c then 1 else 0) else if j = c then 1 else 0

theorem From.at0 (g n c : Nat) : From g (.slice (some ⟨g, 0, none⟩) n c) := fun g' h => by simp [Value.ownBlock] at h; omega

set_option maxRecDepth 100000 in
set_option maxHeartbeats 4000000 in
theorem specNulls_any (q : Nat) [NeZero q] (n : Nat) (v : Value) (rows : List (List Int)) (w : World) (hr : IsR w v rows) (ht : TabOk q n rows) :
    Calls Try.prog 74 #[.int .i64 q, v] w fun e w' => ∃ u vs a, e = .returned u ∧ IsRed q n rows a ∧ OwnR w' 31 3 u vs (nlTo q n a n) ∧ FromR w.heap.size u vs (nlTo q n a n) ∧ New w w' := by
  obtain ⟨ao, m, cap, rfl, HN, hm⟩ := hr.shape
  have hn7 := ht.n7
  have hn1 := ht.n1
  have hqp := ht.pr.pos
  have hm0 : 0 < m := by rw [HN.out]; exact ht.r1
  obtain ⟨b0, o0, u0, rfl, ck0, hu0⟩ := hr.at (i := 0) hm0
  rw [Nat.add_zero] at ck0
  obtain ⟨a0, n', cc0, rfl, HM, hmx⟩ := hu0.shape
  have hnn : n = n' := by rw [HM.out, ht.cols]
  subst hnn
  have HR := Lib.hid hr
  have HT := Lib.hid ht
  clear hr ht hu0
  go_enter Try.func74, Try.ntmps74
  go_wp2_with fail
  refine (reduce_any q HT.out.pr n hn7 _ rows _ HR.out HT.out.good (by have := HT.out.r6; have := HT.out.r1; omega)).mono ?_
  rintro e w1 ⟨ua, vsa, a, rfl, hoa, hfa, hred, hn1w⟩
  have hale := hred.le_cols
  obtain ⟨aa, na, ca, rfl, HA, hna, _⟩ := hoa.outer.opened (by rw [hoa.len]; unfold Mid; omega)
  have hna7 : na ≤ 7 := by rw [HA.out, hoa.len]; omega
  have hnae : na = a.length := by rw [HA.out, hoa.len]
  have hia : IsR w1 (.slice aa na ca) a := hoa.isR (by unfold Mid; omega) (fun i hi => by rw [(hred.inv.good i hi).1]; unfold Mid; omega)
  have HIA := Lib.hid hia
  have HRED := Lib.hid hred
  have HNA := Lib.hid hnae
  have HN1 := Lib.hid hn1w
  clear hoa hfa hred hn1w hia hnae
  go_wp2_with (at_make; refine wpList_mk rfl _ _ _ rfl tyInt _ _ _ _ n n rfl rfl rfl rfl (Nat.le_refl _) hmx ?_; intro v3 w3 hv3 ho3 hn3 hs3; subst hv3; have HO3 := Lib.hid ho3; have HN3 := Lib.hid hn3; have HS3 := Lib.hid hs3; clear ho3 hn3 hs3)
  -- no column has a lead yet
  go_loopw [8] (fun i wr => ∃ k : Nat, i = .int .i64 k ∧ k ≤ n ∧ Own wr 3 (.slice (some ⟨w1.heap.size, 0, none⟩) n n) ((tab n (fun c => if c < k then -1 else 0)).map (Value.int .i64)) ∧ New w1 wr ∧ w1.heap.size < wr.heap.size) (fun i _ => n - (intOf i).toNat)
  case atStart =>
    refine ⟨0, rfl, Nat.zero_le _, ?_, HN3.out, HS3.out⟩
    rw [tab_congr (g := fun _ => 0) (fun i _ => by simp), tab_zero, List.map_replicate]
    exact HO3.out
  case round =>
    obtain ⟨k, rfl, hk, hown, hnew, hsz⟩ := hrel
    have HO := Lib.hid hown
    have HW := Lib.hid hnew
    clear hown hnew
    by_cases hkn : k < n
    · obtain ⟨c1, f1⟩ := HO.out.cell (i := k) (by rw [List.length_map, tab_length]; exact hkn)
      go_wp2_with fail
      go_roundw
      case rel =>
        have hst := HO.out.set k (.int .i64 (-1))
        rw [set_map_int, tab_set (g := fun c => if c < k + 1 then -1 else 0) (fun _ => by simp) (fun i hi hne => by
          by_cases c : i < k
          · rw [if_pos c, if_pos (by omega)]
          · rw [if_neg c, if_neg (by omega)])] at hst
        exact ⟨k + 1, by go_num, by omega, hst, HW.out.then (Chg.setCell _ _ _) (fun i hi => Nat.le_of_eq hi.symm), by rw [World.size_setCell]; exact hsz⟩
      case measure => simp [intOf]; omega
    · have hkn' : n = k := by omega
      subst hkn'
      have hl0 : Own wr 3 (.slice (some ⟨w1.heap.size, 0, none⟩) n n) ((tab n (fun c => ldIx a c 0)).map (Value.int .i64)) := by
        have h := HO.out
        rw [tab_congr (g := fun c => ldIx a c 0) (fun i hi => by rw [if_pos hi]; rfl)] at h
        exact h
      have HL0 := Lib.hid hl0
      clear hl0 HO
      obtain ⟨wp, hwp⟩ : ∃ wp : World, wp = wr := ⟨_, rfl⟩
      rw [← hwp] at HL0 HW hsz
      rw [← hwp]
      clear hwp
      go_wp2_with fail
      -- the leads are laid in
      go_loopw [9] (fun i wr => ∃ r : Nat, i = .int .i64 r ∧ r ≤ na ∧ Own wr 3 (.slice (some ⟨w1.heap.size, 0, none⟩) n n) ((tab n (fun c => ldIx a c r)).map (Value.int .i64)) ∧ New w1 wr ∧ w1.heap.size < wr.heap.size) (fun i _ => na - (intOf i).toNat)
      case atStart => exact ⟨0, rfl, Nat.zero_le _, HL0.out, HW.out, hsz⟩
      case round =>
        obtain ⟨r, rfl, hr, hown, hnew, hsz⟩ := hrel
        have HO := Lib.hid hown
        have HWR := Lib.hid hnew
        clear hown hnew
        obtain ⟨wq, hwq⟩ : ∃ wq : World, wq = wr := ⟨_, rfl⟩
        rw [← hwq] at HO HWR hsz
        rw [← hwq]
        clear hwq
        by_cases hrn : r < na
        · have hra : r < a.length := by rw [← HNA.out]; exact hrn
          obtain ⟨br, or', ur, rfl, cr, hur⟩ := HIA.out.at hrn
          obtain ⟨ar, nr, cpr, rfl, HNR, hnr⟩ := hur.shape
          have hg := HRED.out.inv.good r hra
          have hnre : n = nr := by rw [HNR.out, hg.1]
          subst hnre
          have HU := Lib.hid hur
          have HG := Lib.hid hg
          clear hur hg
          go_wp2_with fail
          go_loopw [10] (fun t wr => ((∃ j : Nat, t = .int .i64 j ∧ j < n ∧ Own wr 3 (.slice (some ⟨w1.heap.size, 0, none⟩) n n) ((tab n (fun c => if j + 1 ≤ c ∧ ldN (gr a r) = c then (r : Int) else ldIx a c r)).map (Value.int .i64))) ∨
            (t = .int .i64 (-1) ∧ Own wr 3 (.slice (some ⟨w1.heap.size, 0, none⟩) n n) ((tab n (fun c => ldIx a c (r + 1))).map (Value.int .i64)))) ∧ New w1 wr ∧ w1.heap.size < wr.heap.size) (fun t _ => (intOf t + 1).toNat)
          case atStart =>
            refine ⟨.inl ⟨n - 1, by apply val_int; omega, by omega, ?_⟩, HWR.out, hsz⟩
            rw [tab_congr (g := fun c => ldIx a c r) (fun i hi => by rw [if_neg (by omega)])]
            exact HO.out
          case round =>
            obtain ⟨hcase, hnew, hsz2⟩ := hrel
            have HWS := Lib.hid hnew
            clear hnew
            rcases hcase with ⟨j, rfl, hj, hown⟩ | ⟨rfl, hown⟩
            · have HJ := Lib.hid hown
              clear hown
              have cr' := HWS.out.cellNew cr
              obtain ⟨bx, ox, rfl, cx⟩ := (HU.out.new HWS.out).at hj
              obtain ⟨x, hx⟩ : ∃ x, x = gi (gr a r) j := ⟨_, rfl⟩
              rw [← hx] at cx
              have HX := Lib.hid hx
              clear hx
              have hld := ldN_iff HG.out (HRED.out.inv.lead r hra) hj
              have HLD := Lib.hid hld
              clear hld
              -- what follows behind the round
              have hnext : ∀ (wz : World), Own wz 3 (.slice (some ⟨w1.heap.size, 0, none⟩) n n) ((tab n (fun c => if j ≤ c ∧ ldN (gr a r) = c then (r : Int) else ldIx a c r)).map (Value.int .i64)) →
                  ((∃ j' : Nat, Value.int .i64 ((j : Int) - 1) = .int .i64 j' ∧ j' < n ∧ Own wz 3 (.slice (some ⟨w1.heap.size, 0, none⟩) n n) ((tab n (fun c => if j' + 1 ≤ c ∧ ldN (gr a r) = c then (r : Int) else ldIx a c r)).map (Value.int .i64))) ∨
                  (Value.int .i64 ((j : Int) - 1) = .int .i64 (-1) ∧ Own wz 3 (.slice (some ⟨w1.heap.size, 0, none⟩) n n) ((tab n (fun c => ldIx a c (r + 1))).map (Value.int .i64)))) := by
                intro wz hz
                cases j with
                | zero =>
                  refine .inr ⟨by apply val_int; omega, ?_⟩
                  rw [tab_congr (g := fun c => ldIx a c (r + 1)) (fun i hi => by
                    show (if 0 ≤ i ∧ ldN (gr a r) = i then (r : Int) else ldIx a i r) = if ldN (gr a r) = i then (r : Int) else ldIx a i r
                    by_cases e : ldN (gr a r) = i
                    · rw [if_pos ⟨Nat.zero_le _, e⟩, if_pos e]
                    · rw [if_neg (fun h => e h.2), if_neg e])] at hz
                  exact hz
                | succ j' => exact .inl ⟨j', by apply val_int; omega, by omega, hz⟩
              have HNX := Lib.hid hnext
              clear hnext
              by_cases h0 : x = 0
              · have hno : ldN (gr a r) ≠ j := fun e => (HLD.out.1 e).1 (by rw [← HX.out]; exact h0)
                have HNO := Lib.hid hno
                clear hno
                subst h0
                go_wp2_with fail
                go_roundw
                case rel =>
                  refine ⟨HNX.out _ ?_, HWS.out, hsz2⟩
                  have h := HJ.out
                  rw [tab_congr (g := fun c => if j ≤ c ∧ ldN (gr a r) = c then (r : Int) else ldIx a c r) (fun i hi => by
                    by_cases e : i = j
                    · subst e; rw [if_neg (by omega), if_neg (fun h => HNO.out h.2)]
                    · by_cases c : j + 1 ≤ i ∧ ldN (gr a r) = i
                      · rw [if_pos c, if_pos ⟨by omega, c.2⟩]
                      · rw [if_neg c, if_neg (fun h => c ⟨by omega, h.2⟩)])] at h
                  exact h
                case measure => simp [intOf]
              · have hd : decide (x = 0) = false := by simp; exact h0
                have hd2 : (x != 0) = true := by simp; exact h0
                have hjl : j ≤ (gr a r).length := by rw [HG.out.1]; omega
                cases hb : ahB (gr a r) j with
                | false =>
                  have hno : ldN (gr a r) ≠ j := fun e => by have := (HLD.out.1 e).2; rw [ahB_iff.2 this] at hb; cases hb
                  have HNO := Lib.hid hno
                  have HB := Lib.hid hb
                  clear hno hb
                  go_wp2_with (go_at_call 107; refine (ahead_any _ (gr a r) j _ (HU.out.new HWS.out) hjl).mono ?_; rintro e w' ⟨rfl, rfl⟩; rw [HB.out])
                  go_roundw
                  case rel =>
                    refine ⟨HNX.out _ ?_, HWS.out, hsz2⟩
                    have h := HJ.out
                    rw [tab_congr (g := fun c => if j ≤ c ∧ ldN (gr a r) = c then (r : Int) else ldIx a c r) (fun i hi => by
                      by_cases e : i = j
                      · subst e; rw [if_neg (by omega), if_neg (fun h => HNO.out h.2)]
                      · by_cases c : j + 1 ≤ i ∧ ldN (gr a r) = i
                        · rw [if_pos c, if_pos ⟨by omega, c.2⟩]
                        · rw [if_neg c, if_neg (fun h => c ⟨by omega, h.2⟩)])] at h
                    exact h
                  case measure => simp [intOf]
                | true =>
                  have hyes : ldN (gr a r) = j := HLD.out.2 ⟨by rw [← HX.out]; exact h0, ahB_iff.1 hb⟩
                  have HYES := Lib.hid hyes
                  have HB := Lib.hid hb
                  obtain ⟨cl, fl⟩ := HJ.out.cell (i := j) (by rw [List.length_map, tab_length]; exact hj)
                  clear hyes hb
                  go_wp2_with (go_at_call 107; refine (ahead_any _ (gr a r) j _ (HU.out.new HWS.out) hjl).mono ?_; rintro e w' ⟨rfl, rfl⟩; rw [HB.out])
                  go_roundw
                  case rel =>
                    have hst := HJ.out.set j (.int .i64 (r : Int))
                    rw [set_map_int, tab_set (g := fun c => if j ≤ c ∧ ldN (gr a r) = c then (r : Int) else ldIx a c r) (fun _ => if_pos ⟨Nat.le_refl _, HYES.out⟩) (fun i hi hne => by
                      by_cases c : j + 1 ≤ i ∧ ldN (gr a r) = i
                      · rw [if_pos c, if_pos ⟨by omega, c.2⟩]
                      · rw [if_neg c, if_neg (fun h => c ⟨by omega, h.2⟩)])] at hst
                    exact ⟨HNX.out _ hst, HWS.out.then (Chg.setCell _ _ _) (fun i hi => Nat.le_of_eq hi.symm), by rw [World.size_setCell]; exact hsz2⟩
                  case measure => simp [intOf]
            · have HJ := Lib.hid hown
              clear hown
              go_wp2_with fail
              go_roundw
              case rel => exact ⟨r + 1, by go_num, by omega, HJ.out, HWS.out, hsz2⟩
              case measure => simp [intOf]; omega
        · have hre : na = r := by omega
          subst hre
          have hlead : Own wq 3 (.slice (some ⟨w1.heap.size, 0, none⟩) n n) ((tab n (fun c => ldIx a c a.length)).map (Value.int .i64)) := by
            have h := HO.out
            rw [HNA.out] at h
            exact h
          have HL := Lib.hid hlead
          clear hlead HO
          go_wp2_with fail
          go_loopw [11, 12] (fun t i wz => ∃ (c : Nat) (vs : List Value), i = .int .i64 c ∧ c ≤ n ∧ OwnR wz 31 3 t vs (nlTo q n a c) ∧ FromR wq.heap.size t vs (nlTo q n a c) ∧ New wq wz) (fun _ i _ => n - (intOf i).toNat)
          case atStart => exact ⟨0, [], rfl, Nat.zero_le _, ⟨Own.empty _ _, rfl, fun i hi => by simp [nlTo] at hi, fun i j hi => by simp [nlTo] at hi⟩, ⟨From.new _ _ _, fun i hi => by simp [nlTo] at hi⟩, New.alloc _ _⟩
          case round =>
            obtain ⟨c, vs, rfl, hc, hown, hfrom, hnew⟩ := hrel
            have HO := Lib.hid hown
            have HF := Lib.hid hfrom
            have HZ := Lib.hid hnew
            clear hown hfrom hnew
            obtain ⟨wz, hwz⟩ : ∃ wz : World, wz = wr := ⟨_, rfl⟩
            rw [← hwz] at HO HZ
            rw [← hwz]
            clear hwz
            have hll := nlTo_length q n a c
            have hlr := nlTo_rows (q := q) (n := n) (a := a) (c := c)
            have HLR := Lib.hid hlr
            obtain ⟨ax, lx, cx, rfl, HLX, hlx, _⟩ := HO.out.outer.opened (by rw [HO.out.len]; unfold Mid; omega)
            clear hlr
            by_cases hcn : c < n
            · obtain ⟨cl, _⟩ := (HL.out.new HZ.out).cell (i := c) (by rw [List.length_map, tab_length]; exact hcn)
              rw [gv_map_int (by rw [tab_length]; exact hcn), tab_get hcn] at cl
              have hbd := ldIx_bounds a c a.length
              obtain ⟨L, hL⟩ : ∃ L, L = ldIx a c a.length := ⟨_, rfl⟩
              rw [← hL] at cl
              have hLb : -1 ≤ L := by rw [hL]; exact hbd.1
              have HLL := Lib.hid hL
              clear hbd hL
              by_cases hge : 0 ≤ L
              · go_wp2_with fail
                go_roundw
                case rel =>
                  have e : nlTo q n a (c + 1) = nlTo q n a c := by rw [nlTo, if_pos (by rw [← HLL.out]; exact hge)]
                  refine ⟨c + 1, vs, by go_num, by omega, ?_, ?_, HZ.out⟩
                  · rw [e]; exact HO.out
                  · rw [e]; exact HF.out
                case measure => simp [intOf]; omega
              · have hL1 : L = -1 := by omega
                subst hL1
                go_wp2_with (at_make; refine wpList_mk rfl _ _ _ rfl tyInt _ _ _ _ n n rfl rfl rfl rfl (Nat.le_refl _) hmx ?_; intro v5 w5 hv5 ho5 hn5 hs5; subst hv5; have HO5 := Lib.hid ho5; have HN5 := Lib.hid hn5; have HS5 := Lib.hid hs5; obtain ⟨c5, f5⟩ := ho5.cell (i := c) (by simpa using hcn); clear ho5 hn5 hs5)
                have hst := HO5.out.set c (.int .i64 1)
                rw [← List.map_replicate, set_map_int, ← tab_zero, tab_set (g := nrTo q a c 0) (fun _ => by rw [nrTo, if_neg (by omega), if_pos rfl]) (fun i hi hne => by rw [nrTo, if_neg (by omega), if_neg hne])] at hst
                have HST := Lib.hid hst
                clear hst
                go_wp2_with fail
                go_loopw [14] (fun i wy => ∃ k : Nat, i = .int .i64 k ∧ k ≤ n ∧ Own wy 3 (.slice (some ⟨wz.heap.size, 0, none⟩) n n) ((tab n (nrTo q a c k)).map (Value.int .i64)) ∧ New wz wy) (fun i _ => n - (intOf i).toNat)
                case atStart => exact ⟨0, rfl, Nat.zero_le _, HST.out, HN5.out.then (Chg.setCell _ _ _) (fun i hi => Nat.le_of_eq hi.symm)⟩
                case round =>
                  obtain ⟨k, rfl, hk, hown, hnew⟩ := hrel
                  have HY := Lib.hid (And.intro hown hnew)
                  clear hown hnew
                  by_cases hkn : k < n
                  · obtain ⟨cl, _⟩ := (HL.out.new (HZ.out.trans HY.out.2)).cell (i := k) (by rw [List.length_map, tab_length]; exact hkn)
                    rw [gv_map_int (by rw [tab_length]; exact hkn), tab_get hkn] at cl
                    have hbd := ldIx_bounds a k a.length
                    obtain ⟨M, hM⟩ : ∃ M, M = ldIx a k a.length := ⟨_, rfl⟩
                    rw [← hM] at cl hbd
                    have hMb : -1 ≤ M := hbd.1
                    have hMb2 := hbd.2.1
                    have HMM := Lib.hid hM
                    clear hbd hM
                    by_cases hge2 : 0 ≤ M
                    · obtain ⟨r, rfl⟩ : ∃ r : Nat, M = r := ⟨M.toNat, by omega⟩
                      have hra : r < a.length := by omega
                      have hrn : r < na := by rw [HNA.out]; exact hra
                      clear hMb2
                      obtain ⟨br, or', ur, rfl, cr, hur⟩ := (HIA.out.new (HWR.out.trans (HZ.out.trans HY.out.2))).at hrn
                      obtain ⟨ar, nr, cpr, rfl, HNR, hnr⟩ := hur.shape
                      have hg := HRED.out.inv.good r hra
                      have hnre : n = nr := by rw [HNR.out, hg.1]
                      subst hnre
                      obtain ⟨bx, ox, rfl, cx⟩ := hur.at (i := c) hcn
                      have hbx := hg.2 c hcn
                      obtain ⟨x, hx⟩ : ∃ x, x = gi (gr a r) c := ⟨_, rfl⟩
                      rw [← hx] at cx hbx
                      have hrem : ((q : Int) - x).tmod q = (-x) % q := by rw [Int.tmod_eq_emod_of_nonneg (by omega), show (q : Int) - x = -x + q by omega, Int.add_emod_right]
                      have hb0 := Int.emod_nonneg (-x) (show (q : Int) ≠ 0 by omega)
                      have hb1 := Int.emod_lt_of_pos (-x) (show (0 : Int) < q by omega)
                      obtain ⟨ck1, fk1⟩ := HY.out.1.cell (i := k) (by rw [List.length_map, tab_length]; exact hkn)
                      have HXC := Lib.hid hx
                      clear hx hur hg
                      go_wp2_with fail
                      go_roundw
                      case rel =>
                        have hst := HY.out.1.set k (.int .i64 ((-x) % (q : Int)))
                        rw [set_map_int, tab_set (g := nrTo q a c (k + 1)) (fun _ => by rw [nrTo, if_pos (by omega), ← HMM.out, if_pos (by omega), Int.toNat_natCast, ← HXC.out]) (fun i hi hne => by
                          unfold nrTo
                          by_cases e : i < k
                          · rw [if_pos e, if_pos (show i < k + 1 by omega)]
                          · rw [if_neg e, if_neg (by omega)])] at hst
                        exact ⟨k + 1, by go_num, by omega, hst, HY.out.2.then (Chg.setCell _ _ _) (fun i hi => Nat.le_of_eq hi.symm)⟩
                      case measure => simp [intOf]; omega
                    · have hM1 : M = -1 := by omega
                      subst hM1
                      go_wp2_with fail
                      go_roundw
                      case rel =>
                        refine ⟨k + 1, by go_num, by omega, ?_, HY.out.2⟩
                        have h := HY.out.1
                        rw [tab_congr (g := nrTo q a c (k + 1)) (fun i hi => by
                          unfold nrTo
                          by_cases e : i < k
                          · rw [if_pos e, if_pos (show i < k + 1 by omega)]
                          · rw [if_neg e]
                            by_cases e2 : i = k
                            · rw [if_pos (show i < k + 1 by omega), if_neg (show ¬ 0 ≤ ldIx a i a.length by rw [e2, ← HMM.out]; omega)]
                            · rw [if_neg (show ¬ i < k + 1 by omega)])] at h
                        exact h
                      case measure => simp [intOf]; omega
                  · obtain rfl : k = n := by omega
                    have hrow : Own wr 3 (.slice (some ⟨wz.heap.size, 0, none⟩) k k) ((nullRow q k a c).map (Value.int .i64)) := by
                      have h := HY.out.1
                      rw [tab_congr (g := fun j => if 0 ≤ ldIx a j a.length then (-gi (gr a (ldIx a j a.length).toNat) c) % q else if j = c then 1 else 0) (fun i hi => by unfold nrTo; rw [if_pos hi])] at h
                      exact h
                    have HROW := Lib.hid hrow
                    clear hrow
                    have hlv : vs.length + 1 ≤ 1099511627776 := by rw [HO.out.len]; omega
                    go_wp2_with (at_builtin; refine wpList_app1 rfl _ _ _ rfl tyRow wr (HO.out.outer.new HY.out.2) rfl _ _ rfl rfl rfl hlv ?_; intro v2 w2 k1 k2 k3; have K2 := Lib.hid (And.intro k1 (And.intro k2 k3)); clear k1 k2 k3)
                    go_roundw
                    case rel =>
                      obtain ⟨m1, m2, m3⟩ := K2.out
                      obtain ⟨p1, p2, p3⟩ := OwnR.push HO.out HF.out HZ.out.size HY.out.2 HROW.out (From.at0 _ _ _) m1 m2 m3
                      have e : nlTo q k a (c + 1) = nlTo q k a c ++ [nullRow q k a c] := by rw [nlTo, if_neg (by rw [← HLL.out]; omega)]
                      refine ⟨c + 1, vs ++ [Value.slice (some ⟨wz.heap.size, 0, none⟩) k k], by go_num, by omega, ?_, ?_, New.then HZ.out p3 (fun i hi => HF.out.1 i hi)⟩
                      · rw [e]; exact p1
                      · rw [e]; exact p2
                    case measure => simp [intOf]; omega
            · have hce : n = c := by omega
              subst hce
              go_wp2_with fail
              go_ret
              have hsz := HWR.out.size
              refine ⟨_, vs, a, rfl, HRED.out, HO.out, ⟨fun g hg => ?_, fun i hi g hg => ?_⟩, HN1.out.trans (HWR.out.trans HZ.out)⟩
              · have := HF.out.1 g hg; have := HN1.out.size; omega
              · have := HF.out.2 i hi g hg; have := HN1.out.size; omega
end Go.Proofs.Yteoiaicpdmlecaa
