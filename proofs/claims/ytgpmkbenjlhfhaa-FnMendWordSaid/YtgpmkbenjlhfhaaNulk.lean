/- spec.ahead, spec.nulls. spec.nulls. (field).nulls. NullsOf of both. -/
import Derived.Test.YtgpmkbenjlhfhaaPlaM
import Derived.Test.YtgpmkbenjlhfhaaRedu
import Derived.Test.YtgpmkbenjlhfhaaLeaf
import Derived.Test.YtgpmkbenjlhfhaaKnow
import Derived.Test.YtgpmkbenjlhfhaaBase
namespace Go.Proofs.Ytgpmkbenjlhfhaa
open Go.RowKit Mat
set_option linter.unusedVariables false

/-- All numbers ahead of a place are 0. -/
def ahB (x : List Int) (k : Nat) : Bool := decide (∀ j, j < k → gi x j = 0)
theorem ahB_iff {x : List Int} {k : Nat} : ahB x k = true ↔ ∀ j, j < k → gi x j = 0 := by simp [ahB]

theorem ahead_any (v : Value) (xs : List Int) (k : Nat) (w : World) (hx : IsI w v xs) (hk : k ≤ xs.length) :
    Calls Try.prog 123 #[v, .int .i64 k] w fun e w' => e = .returned (.bool (ahB xs k)) ∧ w = w' := by
  obtain ⟨ao, n, cap, rfl, HN, hn⟩ := hx.shape
  have hkn : k ≤ n := by rw [HN.out]; exact hk
  have HX := Lib.hid hx
  clear hx hk
  go_enter Try.func123, Try.ntmps123
  go_wp2_with fail
  go_loop [5] (fun i => ∃ j : Nat, i = .int .i64 j ∧ j ≤ k ∧ Hid (∀ l, l < j → gi xs l = 0)) (fun i => k - (intOf i).toNat)
  case atStart => exact ⟨0, rfl, Nat.zero_le _, fun l hl => by omega⟩
  case round =>
    obtain ⟨j, rfl, hj, HD⟩ := hrel
    by_cases hjk : j < k
    · obtain ⟨b, o, rfl, c⟩ := HX.out.at (i := j) (by omega)
      have hjn : j < n := by omega
      obtain ⟨x, hx⟩ : ∃ x, x = gi xs j := ⟨_, rfl⟩
      rw [← hx] at c
      have HXX := Lib.hid hx
      clear hx
      by_cases h0 : x = 0
      · subst h0
        go_wp2_with fail
        go_round
        case rel =>
          refine ⟨j + 1, by go_num, by omega, fun l hl => ?_⟩
          by_cases e : l = j
          · rw [e]; exact HXX.out.symm
          · exact HD.out l (by omega)
        case measure => simp [intOf]; omega
      · have hd : decide (x = 0) = false := by simp; exact h0
        have hd2 : (x != 0) = true := by simp; exact h0
        have hf : ahB xs k = false := by
          rw [Bool.eq_false_iff]
          intro h
          exact h0 (HXX.out.trans (ahB_iff.1 h j hjk))
        have HF := Lib.hid hf
        clear hf
        go_wp2_with fail
        go_ret
        exact ⟨ret_bool HF.out.symm, rfl⟩
    · obtain rfl : j = k := by omega
      have hf : ahB xs j = true := ahB_iff.2 HD.out
      have HF := Lib.hid hf
      clear hf
      go_wp2_with fail
      go_ret
      exact ⟨ret_bool HF.out.symm, rfl⟩
end Go.Proofs.Ytgpmkbenjlhfhaa

namespace Go.Proofs.Ytgpmkbenjlhfhaa
open Go.RowKit Mat
set_option linter.unusedVariables false

/-- The row of checks for column c, of which the first k places are told. -/
def nrTo (q : Int) (a : List (List Int)) (c k j : Nat) : Int := if j < k then (if 0 ≤ ldIx a j a.length then (-gi (gr a (ldIx a j a.length).toNat) c) % q else if j = c then 1 else 0) else if j = c then 1 else 0

theorem From.at0 (g n c : Nat) : From g (.slice (some ⟨g, 0, none⟩) n c) := fun g' h => by simp [Value.ownBlock] at h; omega

set_option maxRecDepth 100000 in
set_option maxHeartbeats 4000000 in
theorem specNulls_any (q : Nat) [NeZero q] (n : Nat) (v : Value) (rows : List (List Int)) (w : World) (hr : IsR w v rows) (ht : TabOk q n rows) :
    Calls Try.prog 83 #[.int .i64 q, v] w fun e w' => ∃ u vs a, e = .returned u ∧ IsRed q n rows a ∧ OwnR w' 28 3 u vs (nlTo q n a n) ∧ FromR w.heap.size u vs (nlTo q n a n) ∧ New w w' := by
  obtain ⟨ao, m, cap, rfl, HN, hm⟩ := hr.shape
  have hn7 := ht.n7
  have hn1 := ht.n1
  have hqp := ht.pr.pos
  have hm0 : 0 < m := by rw [HN.out]; exact ht.r1
  obtain ⟨b0, o0, u0, rfl, ck0, hu0⟩ := hr.at (i := 0) hm0
  rw [Nat.add_zero] at ck0
  obtain ⟨a0, n', cc0, rfl, HM, hmx⟩ := hu0.shape
  have hnn : n = n' := by rw [HM.out, ht.cols]
  subst hnn
  have HR := Lib.hid hr
  have HT := Lib.hid ht
  clear hr ht hu0
  go_enter Try.func83, Try.ntmps83
  go_wp2_with fail
  refine (reduce_any q HT.out.pr n hn7 _ rows _ HR.out HT.out.good (by have := HT.out.r6; have := HT.out.r1; omega)).mono ?_
  rintro e w1 ⟨ua, vsa, a, rfl, hoa, hfa, hred, hn1w⟩
  have hale := hred.le_cols
  obtain ⟨aa, na, ca, rfl, HA, hna, _⟩ := hoa.outer.opened (by rw [hoa.len]; unfold Mid; omega)
  have hna7 : na ≤ 7 := by rw [HA.out, hoa.len]; omega
  have hnae : na = a.length := by rw [HA.out, hoa.len]
  have hia : IsR w1 (.slice aa na ca) a := hoa.isR (by unfold Mid; omega) (fun i hi => by rw [(hred.inv.good i hi).1]; unfold Mid; omega)
  have HIA := Lib.hid hia
  have HRED := Lib.hid hred
  have HNA := Lib.hid hnae
  have HN1 := Lib.hid hn1w
  clear hoa hfa hred hn1w hia hnae
  go_wp2_with (at_make; refine wpList_mk rfl _ _ _ rfl tyInt _ _ _ _ n n rfl rfl rfl rfl (Nat.le_refl _) hmx ?_; intro v3 w3 hv3 ho3 hn3 hs3; subst hv3; have HO3 := Lib.hid ho3; have HN3 := Lib.hid hn3; have HS3 := Lib.hid hs3; clear ho3 hn3 hs3)
  -- no column has a lead yet
  go_loopw [8] (fun i wr => ∃ k : Nat, i = .int .i64 k ∧ k ≤ n ∧ Own wr 3 (.slice (some ⟨w1.heap.size, 0, none⟩) n n) ((tab n (fun c => if c < k then -1 else 0)).map (Value.int .i64)) ∧ New w1 wr ∧ w1.heap.size < wr.heap.size) (fun i _ => n - (intOf i).toNat)
  case atStart =>
    refine ⟨0, rfl, Nat.zero_le _, ?_, HN3.out, HS3.out⟩
    rw [tab_congr (g := fun _ => 0) (fun i _ => by simp), tab_zero, List.map_replicate]
    exact HO3.out
  case round =>
    obtain ⟨k, rfl, hk, hown, hnew, hsz⟩ := hrel
    have HO := Lib.hid hown
    have HW := Lib.hid hnew
    clear hown hnew
    by_cases hkn : k < n
    · obtain ⟨c1, f1⟩ := HO.out.cell (i := k) (by rw [List.length_map, tab_length]; exact hkn)
      go_wp2_with fail
      go_roundw
      case rel =>
        have hst := HO.out.set k (.int .i64 (-1))
        rw [set_map_int, tab_set (g := fun c => if c < k + 1 then -1 else 0) (fun _ => by simp) (fun i hi hne => by
          by_cases c : i < k
          · rw [if_pos c, if_pos (by omega)]
          · rw [if_neg c, if_neg (by omega)])] at hst
        exact ⟨k + 1, by go_num, by omega, hst, HW.out.then (Chg.setCell _ _ _) (fun i hi => Nat.le_of_eq hi.symm), by rw [World.size_setCell]; exact hsz⟩
      case measure => simp [intOf]; omega
    · have hkn' : n = k := by omega
      subst hkn'
      have hl0 : Own wr 3 (.slice (some ⟨w1.heap.size, 0, none⟩) n n) ((tab n (fun c => ldIx a c 0)).map (Value.int .i64)) := by
        have h := HO.out
        rw [tab_congr (g := fun c => ldIx a c 0) (fun i hi => by rw [if_pos hi]; rfl)] at h
        exact h
      have HL0 := Lib.hid hl0
      clear hl0 HO
      obtain ⟨wp, hwp⟩ : ∃ wp : World, wp = wr := ⟨_, rfl⟩
      rw [← hwp] at HL0 HW hsz
      rw [← hwp]
      clear hwp
      go_wp2_with fail
      -- the leads are laid in
      go_loopw [9] (fun i wr => ∃ r : Nat, i = .int .i64 r ∧ r ≤ na ∧ Own wr 3 (.slice (some ⟨w1.heap.size, 0, none⟩) n n) ((tab n (fun c => ldIx a c r)).map (Value.int .i64)) ∧ New w1 wr ∧ w1.heap.size < wr.heap.size) (fun i _ => na - (intOf i).toNat)
      case atStart => exact ⟨0, rfl, Nat.zero_le _, HL0.out, HW.out, hsz⟩
      case round =>
        obtain ⟨r, rfl, hr, hown, hnew, hsz⟩ := hrel
        have HO := Lib.hid hown
        have HWR := Lib.hid hnew
        clear hown hnew
        obtain ⟨wq, hwq⟩ : ∃ wq : World, wq = wr := ⟨_, rfl⟩
        rw [← hwq] at HO HWR hsz
        rw [← hwq]
        clear hwq
        by_cases hrn : r < na
        · have hra : r < a.length := by rw [← HNA.out]; exact hrn
          obtain ⟨br, or', ur, rfl, cr, hur⟩ := HIA.out.at hrn
          obtain ⟨ar, nr, cpr, rfl, HNR, hnr⟩ := hur.shape
          have hg := HRED.out.inv.good r hra
          have hnre : n = nr := by rw [HNR.out, hg.1]
          subst hnre
          have HU := Lib.hid hur
          have HG := Lib.hid hg
          clear hur hg
          go_wp2_with fail
          go_loopw [10] (fun t wr => ((∃ j : Nat, t = .int .i64 j ∧ j < n ∧ Own wr 3 (.slice (some ⟨w1.heap.size, 0, none⟩) n n) ((tab n (fun c => if j + 1 ≤ c ∧ ldN (gr a r) = c then (r : Int) else ldIx a c r)).map (Value.int .i64))) ∨
            (t = .int .i64 (-1) ∧ Own wr 3 (.slice (some ⟨w1.heap.size, 0, none⟩) n n) ((tab n (fun c => ldIx a c (r + 1))).map (Value.int .i64)))) ∧ New w1 wr ∧ w1.heap.size < wr.heap.size) (fun t _ => (intOf t + 1).toNat)
          case atStart =>
            refine ⟨.inl ⟨n - 1, by apply val_int; omega, by omega, ?_⟩, HWR.out, hsz⟩
            rw [tab_congr (g := fun c => ldIx a c r) (fun i hi => by rw [if_neg (by omega)])]
            exact HO.out
          case round =>
            obtain ⟨hcase, hnew, hsz2⟩ := hrel
            have HWS := Lib.hid hnew
            clear hnew
            rcases hcase with ⟨j, rfl, hj, hown⟩ | ⟨rfl, hown⟩
            · have HJ := Lib.hid hown
              clear hown
              have cr' := HWS.out.cellNew cr
              obtain ⟨bx, ox, rfl, cx⟩ := (HU.out.new HWS.out).at hj
              obtain ⟨x, hx⟩ : ∃ x, x = gi (gr a r) j := ⟨_, rfl⟩
              rw [← hx] at cx
              have HX := Lib.hid hx
              clear hx
              have hld := ldN_iff HG.out (HRED.out.inv.lead r hra) hj
              have HLD := Lib.hid hld
              clear hld
              -- what follows behind the round
              have hnext : ∀ (wz : World), Own wz 3 (.slice (some ⟨w1.heap.size, 0, none⟩) n n) ((tab n (fun c => if j ≤ c ∧ ldN (gr a r) = c then (r : Int) else ldIx a c r)).map (Value.int .i64)) →
                  ((∃ j' : Nat, Value.int .i64 ((j : Int) - 1) = .int .i64 j' ∧ j' < n ∧ Own wz 3 (.slice (some ⟨w1.heap.size, 0, none⟩) n n) ((tab n (fun c => if j' + 1 ≤ c ∧ ldN (gr a r) = c then (r : Int) else ldIx a c r)).map (Value.int .i64))) ∨
                  (Value.int .i64 ((j : Int) - 1) = .int .i64 (-1) ∧ Own wz 3 (.slice (some ⟨w1.heap.size, 0, none⟩) n n) ((tab n (fun c => ldIx a c (r + 1))).map (Value.int .i64)))) := by
                intro wz hz
                cases j with
                | zero =>
                  refine .inr ⟨by apply val_int; omega, ?_⟩
                  rw [tab_congr (g := fun c => ldIx a c (r + 1)) (fun i hi => by
                    show (if 0 ≤ i ∧ ldN (gr a r) = i then (r : Int) else ldIx a i r) = if ldN (gr a r) = i then (r : Int) else ldIx a i r
                    by_cases e : ldN (gr a r) = i
                    · rw [if_pos ⟨Nat.zero_le _, e⟩, if_pos e]
                    · rw [if_neg (fun h => e h.2), if_neg e])] at hz
                  exact hz
                | succ j' => exact .inl ⟨j', by apply val_int; omega, by omega, hz⟩
              have HNX := Lib.hid hnext
              clear hnext
              by_cases h0 : x = 0
              · have hno : ldN (gr a r) ≠ j := fun e => (HLD.out.1 e).1 (by rw [← HX.out]; exact h0)
                have HNO := Lib.hid hno
                clear hno
                subst h0
                go_wp2_with fail
                go_roundw
                case rel =>
                  refine ⟨HNX.out _ ?_, HWS.out, hsz2⟩
                  have h := HJ.out
                  rw [tab_congr (g := fun c => if j ≤ c ∧ ldN (gr a r) = c then (r : Int) else ldIx a c r) (fun i hi => by
                    by_cases e : i = j
                    · subst e; rw [if_neg (by omega), if_neg (fun h => HNO.out h.2)]
                    · by_cases c : j + 1 ≤ i ∧ ldN (gr a r) = i
                      · rw [if_pos c, if_pos ⟨by omega, c.2⟩]
                      · rw [if_neg c, if_neg (fun h => c ⟨by omega, h.2⟩)])] at h
                  exact h
                case measure => simp [intOf]
              · have hd : decide (x = 0) = false := by simp; exact h0
                have hd2 : (x != 0) = true := by simp; exact h0
                have hjl : j ≤ (gr a r).length := by rw [HG.out.1]; omega
                cases hb : ahB (gr a r) j with
                | false =>
                  have hno : ldN (gr a r) ≠ j := fun e => by have := (HLD.out.1 e).2; rw [ahB_iff.2 this] at hb; cases hb
                  have HNO := Lib.hid hno
                  have HB := Lib.hid hb
                  clear hno hb
                  go_wp2_with (go_at_call 123; refine (ahead_any _ (gr a r) j _ (HU.out.new HWS.out) hjl).mono ?_; rintro e w' ⟨rfl, rfl⟩; rw [HB.out])
                  go_roundw
                  case rel =>
                    refine ⟨HNX.out _ ?_, HWS.out, hsz2⟩
                    have h := HJ.out
                    rw [tab_congr (g := fun c => if j ≤ c ∧ ldN (gr a r) = c then (r : Int) else ldIx a c r) (fun i hi => by
                      by_cases e : i = j
                      · subst e; rw [if_neg (by omega), if_neg (fun h => HNO.out h.2)]
                      · by_cases c : j + 1 ≤ i ∧ ldN (gr a r) = i
                        · rw [if_pos c, if_pos ⟨by omega, c.2⟩]
                        · rw [if_neg c, if_neg (fun h => c ⟨by omega, h.2⟩)])] at h
                    exact h
                  case measure => simp [intOf]
                | true =>
                  have hyes : ldN (gr a r) = j := HLD.out.2 ⟨by rw [← HX.out]; exact h0, ahB_iff.1 hb⟩
                  have HYES := Lib.hid hyes
                  have HB := Lib.hid hb
                  obtain ⟨cl, fl⟩ := HJ.out.cell (i := j) (by rw [List.length_map, tab_length]; exact hj)
                  clear hyes hb
                  go_wp2_with (go_at_call 123; refine (ahead_any _ (gr a r) j _ (HU.out.new HWS.out) hjl).mono ?_; rintro e w' ⟨rfl, rfl⟩; rw [HB.out])
                  go_roundw
                  case rel =>
                    have hst := HJ.out.set j (.int .i64 (r : Int))
                    rw [set_map_int, tab_set (g := fun c => if j ≤ c ∧ ldN (gr a r) = c then (r : Int) else ldIx a c r) (fun _ => if_pos ⟨Nat.le_refl _, HYES.out⟩) (fun i hi hne => by
                      by_cases c : j + 1 ≤ i ∧ ldN (gr a r) = i
                      · rw [if_pos c, if_pos ⟨by omega, c.2⟩]
                      · rw [if_neg c, if_neg (fun h => c ⟨by omega, h.2⟩)])] at hst
                    exact ⟨HNX.out _ hst, HWS.out.then (Chg.setCell _ _ _) (fun i hi => Nat.le_of_eq hi.symm), by rw [World.size_setCell]; exact hsz2⟩
                  case measure => simp [intOf]
            · have HJ := Lib.hid hown
              clear hown
              go_wp2_with fail
              go_roundw
              case rel => exact ⟨r + 1, by go_num, by omega, HJ.out, HWS.out, hsz2⟩
              case measure => simp [intOf]; omega
        · have hre : na = r := by omega
          subst hre
          have hlead : Own wq 3 (.slice (some ⟨w1.heap.size, 0, none⟩) n n) ((tab n (fun c => ldIx a c a.length)).map (Value.int .i64)) := by
            have h := HO.out
            rw [HNA.out] at h
            exact h
          have HL := Lib.hid hlead
          clear hlead HO
          go_wp2_with fail
          go_loopw [11, 12] (fun t i wz => ∃ (c : Nat) (vs : List Value), i = .int .i64 c ∧ c ≤ n ∧ OwnR wz 28 3 t vs (nlTo q n a c) ∧ FromR wq.heap.size t vs (nlTo q n a c) ∧ New wq wz) (fun _ i _ => n - (intOf i).toNat)
          case atStart => exact ⟨0, [], rfl, Nat.zero_le _, ⟨Own.empty _ _, rfl, fun i hi => by simp [nlTo] at hi, fun i j hi => by simp [nlTo] at hi⟩, ⟨From.new _ _ _, fun i hi => by simp [nlTo] at hi⟩, New.alloc _ _⟩
          case round =>
            obtain ⟨c, vs, rfl, hc, hown, hfrom, hnew⟩ := hrel
            have HO := Lib.hid hown
            have HF := Lib.hid hfrom
            have HZ := Lib.hid hnew
            clear hown hfrom hnew
            obtain ⟨wz, hwz⟩ : ∃ wz : World, wz = wr := ⟨_, rfl⟩
            rw [← hwz] at HO HZ
            rw [← hwz]
            clear hwz
            have hll := nlTo_length q n a c
            have hlr := nlTo_rows (q := q) (n := n) (a := a) (c := c)
            have HLR := Lib.hid hlr
            obtain ⟨ax, lx, cx, rfl, HLX, hlx, _⟩ := HO.out.outer.opened (by rw [HO.out.len]; unfold Mid; omega)
            clear hlr
            by_cases hcn : c < n
            · obtain ⟨cl, _⟩ := (HL.out.new HZ.out).cell (i := c) (by rw [List.length_map, tab_length]; exact hcn)
              rw [gv_map_int (by rw [tab_length]; exact hcn), tab_get hcn] at cl
              have hbd := ldIx_bounds a c a.length
              obtain ⟨L, hL⟩ : ∃ L, L = ldIx a c a.length := ⟨_, rfl⟩
              rw [← hL] at cl
              have hLb : -1 ≤ L := by rw [hL]; exact hbd.1
              have HLL := Lib.hid hL
              clear hbd hL
              by_cases hge : 0 ≤ L
              · go_wp2_with fail
                go_roundw
                case rel =>
                  have e : nlTo q n a (c + 1) = nlTo q n a c := by rw [nlTo, if_pos (by rw [← HLL.out]; exact hge)]
                  refine ⟨c + 1, vs, by go_num, by omega, ?_, ?_, HZ.out⟩
                  · rw [e]; exact HO.out
                  · rw [e]; exact HF.out
                case measure => simp [intOf]; omega
              · have hL1 : L = -1 := by omega
                subst hL1
                go_wp2_with (at_make; refine wpList_mk rfl _ _ _ rfl tyInt _ _ _ _ n n rfl rfl rfl rfl (Nat.le_refl _) hmx ?_; intro v5 w5 hv5 ho5 hn5 hs5; subst hv5; have HO5 := Lib.hid ho5; have HN5 := Lib.hid hn5; have HS5 := Lib.hid hs5; obtain ⟨c5, f5⟩ := ho5.cell (i := c) (by simpa using hcn); clear ho5 hn5 hs5)
                have hst := HO5.out.set c (.int .i64 1)
                rw [← List.map_replicate, set_map_int, ← tab_zero, tab_set (g := nrTo q a c 0) (fun _ => by rw [nrTo, if_neg (by omega), if_pos rfl]) (fun i hi hne => by rw [nrTo, if_neg (by omega), if_neg hne])] at hst
                have HST := Lib.hid hst
                clear hst
                go_wp2_with fail
                go_loopw [14] (fun i wy => ∃ k : Nat, i = .int .i64 k ∧ k ≤ n ∧ Own wy 3 (.slice (some ⟨wz.heap.size, 0, none⟩) n n) ((tab n (nrTo q a c k)).map (Value.int .i64)) ∧ New wz wy) (fun i _ => n - (intOf i).toNat)
                case atStart => exact ⟨0, rfl, Nat.zero_le _, HST.out, HN5.out.then (Chg.setCell _ _ _) (fun i hi => Nat.le_of_eq hi.symm)⟩
                case round =>
                  obtain ⟨k, rfl, hk, hown, hnew⟩ := hrel
                  have HY := Lib.hid (And.intro hown hnew)
                  clear hown hnew
                  by_cases hkn : k < n
                  · obtain ⟨cl, _⟩ := (HL.out.new (HZ.out.trans HY.out.2)).cell (i := k) (by rw [List.length_map, tab_length]; exact hkn)
                    rw [gv_map_int (by rw [tab_length]; exact hkn), tab_get hkn] at cl
                    have hbd := ldIx_bounds a k a.length
                    obtain ⟨M, hM⟩ : ∃ M, M = ldIx a k a.length := ⟨_, rfl⟩
                    rw [← hM] at cl hbd
                    have hMb : -1 ≤ M := hbd.1
                    have hMb2 := hbd.2.1
                    have HMM := Lib.hid hM
                    clear hbd hM
                    by_cases hge2 : 0 ≤ M
                    · obtain ⟨r, rfl⟩ : ∃ r : Nat, M = r := ⟨M.toNat, by omega⟩
                      have hra : r < a.length := by omega
                      have hrn : r < na := by rw [HNA.out]; exact hra
                      clear hMb2
                      obtain ⟨br, or', ur, rfl, cr, hur⟩ := (HIA.out.new (HWR.out.trans (HZ.out.trans HY.out.2))).at hrn
                      obtain ⟨ar, nr, cpr, rfl, HNR, hnr⟩ := hur.shape
                      have hg := HRED.out.inv.good r hra
                      have hnre : n = nr := by rw [HNR.out, hg.1]
                      subst hnre
                      obtain ⟨bx, ox, rfl, cx⟩ := hur.at (i := c) hcn
                      have hbx := hg.2 c hcn
                      obtain ⟨x, hx⟩ : ∃ x, x = gi (gr a r) c := ⟨_, rfl⟩
                      rw [← hx] at cx hbx
                      have hrem : ((q : Int) - x).tmod q = (-x) % q := by rw [Int.tmod_eq_emod_of_nonneg (by omega), show (q : Int) - x = -x + q by omega, Int.add_emod_right]
                      have hb0 := Int.emod_nonneg (-x) (show (q : Int) ≠ 0 by omega)
                      have hb1 := Int.emod_lt_of_pos (-x) (show (0 : Int) < q by omega)
                      obtain ⟨ck1, fk1⟩ := HY.out.1.cell (i := k) (by rw [List.length_map, tab_length]; exact hkn)
                      have HXC := Lib.hid hx
                      clear hx hur hg
                      go_wp2_with fail
                      go_roundw
                      case rel =>
                        have hst := HY.out.1.set k (.int .i64 ((-x) % (q : Int)))
                        rw [set_map_int, tab_set (g := nrTo q a c (k + 1)) (fun _ => by rw [nrTo, if_pos (by omega), ← HMM.out, if_pos (by omega), Int.toNat_natCast, ← HXC.out]) (fun i hi hne => by
                          unfold nrTo
                          by_cases e : i < k
                          · rw [if_pos e, if_pos (show i < k + 1 by omega)]
                          · rw [if_neg e, if_neg (by omega)])] at hst
                        exact ⟨k + 1, by go_num, by omega, hst, HY.out.2.then (Chg.setCell _ _ _) (fun i hi => Nat.le_of_eq hi.symm)⟩
                      case measure => simp [intOf]; omega
                    · have hM1 : M = -1 := by omega
                      subst hM1
                      go_wp2_with fail
                      go_roundw
                      case rel =>
                        refine ⟨k + 1, by go_num, by omega, ?_, HY.out.2⟩
                        have h := HY.out.1
                        rw [tab_congr (g := nrTo q a c (k + 1)) (fun i hi => by
                          unfold nrTo
                          by_cases e : i < k
                          · rw [if_pos e, if_pos (show i < k + 1 by omega)]
                          · rw [if_neg e]
                            by_cases e2 : i = k
                            · rw [if_pos (show i < k + 1 by omega), if_neg (show ¬ 0 ≤ ldIx a i a.length by rw [e2, ← HMM.out]; omega)]
                            · rw [if_neg (show ¬ i < k + 1 by omega)])] at h
                        exact h
                      case measure => simp [intOf]; omega
                  · obtain rfl : k = n := by omega
                    have hrow : Own wr 3 (.slice (some ⟨wz.heap.size, 0, none⟩) k k) ((nullRow q k a c).map (Value.int .i64)) := by
                      have h := HY.out.1
                      rw [tab_congr (g := fun j => if 0 ≤ ldIx a j a.length then (-gi (gr a (ldIx a j a.length).toNat) c) % q else if j = c then 1 else 0) (fun i hi => by unfold nrTo; rw [if_pos hi])] at h
                      exact h
                    have HROW := Lib.hid hrow
                    clear hrow
                    have hlv : vs.length + 1 ≤ 1099511627776 := by rw [HO.out.len]; omega
                    go_wp2_with (at_builtin; refine wpList_app1 rfl _ _ _ rfl tyRow wr (HO.out.outer.new HY.out.2) rfl _ _ rfl rfl rfl hlv ?_; intro v2 w2 k1 k2 k3; have K2 := Lib.hid (And.intro k1 (And.intro k2 k3)); clear k1 k2 k3)
                    go_roundw
                    case rel =>
                      obtain ⟨m1, m2, m3⟩ := K2.out
                      obtain ⟨p1, p2, p3⟩ := OwnR.push HO.out HF.out HZ.out.size HY.out.2 HROW.out (From.at0 _ _ _) m1 m2 m3
                      have e : nlTo q k a (c + 1) = nlTo q k a c ++ [nullRow q k a c] := by rw [nlTo, if_neg (by rw [← HLL.out]; omega)]
                      refine ⟨c + 1, vs ++ [Value.slice (some ⟨wz.heap.size, 0, none⟩) k k], by go_num, by omega, ?_, ?_, New.then HZ.out p3 (fun i hi => HF.out.1 i hi)⟩
                      · rw [e]; exact p1
                      · rw [e]; exact p2
                    case measure => simp [intOf]; omega
            · have hce : n = c := by omega
              subst hce
              go_wp2_with fail
              go_ret
              have hsz := HWR.out.size
              refine ⟨_, vs, a, rfl, HRED.out, HO.out, ⟨fun g hg => ?_, fun i hi g hg => ?_⟩, HN1.out.trans (HWR.out.trans HZ.out)⟩
              · have := HF.out.1 g hg; have := HN1.out.size; omega
              · have := HF.out.2 i hi g hg; have := HN1.out.size; omega
end Go.Proofs.Ytgpmkbenjlhfhaa

namespace Go.Proofs.Ytgpmkbenjlhfhaa
open Go.RowKit Mat
set_option linter.unusedVariables false

theorem zeroSl (w : World) : (zeroValue 28).run Try.prog w = .ok (.slice none 0 0) w := by kernel_rfl

/-- The leads of the first k rows. -/
def ldKeys (a : List (List Int)) (k : Nat) : List Int := (List.range k).map (fun i => ((ldN (gr a i) : Nat) : Int))
theorem ldKeys_length (a : List (List Int)) (k : Nat) : (ldKeys a k).length = k := by simp [ldKeys]
theorem ldKeys_get (a : List (List Int)) {k i : Nat} (hi : i < k) : gi (ldKeys a k) i = (ldN (gr a i) : Int) := by
  rw [gi_lt (by rw [ldKeys_length]; exact hi)]; simp [ldKeys]
theorem ldKeys_succ (a : List (List Int)) (k : Nat) : ldKeys a (k + 1) = ldKeys a k ++ [((ldN (gr a k) : Nat) : Int)] := by simp [ldKeys, List.range_succ]
theorem ldKeys_mem {a : List (List Int)} {k : Nat} {x : Int} : x ∈ ldKeys a k ↔ ∃ i, i < k ∧ (ldN (gr a i) : Int) = x := by simp [ldKeys]

theorem IsRed.inj {q : Nat} [NeZero q] {n : Nat} {R a : List (List Int)} (h : IsRed q n R a) {i j : Nat} (hi : i < a.length) (hj : j < a.length) (e : ldN (gr a i) = ldN (gr a j)) : i = j := by
  rcases Nat.lt_trichotomy i j with c | c | c
  · have := h.asc i j c hj; omega
  · exact c
  · have := h.asc j i c hi; omega

/-- The lead of row r stands in column c just if the index told is r. -/
theorem IsRed.ldIx {q : Nat} [NeZero q] {n : Nat} {R a : List (List Int)} (h : IsRed q n R a) {r : Nat} (hr : r < a.length) : ldIx a (ldN (gr a r)) a.length = r := by
  have hb := ldIx_bounds a (ldN (gr a r)) a.length
  by_cases c : 0 ≤ Go.Proofs.Ytgpmkbenjlhfhaa.ldIx a (ldN (gr a r)) a.length
  · have := h.inj (i := (Go.Proofs.Ytgpmkbenjlhfhaa.ldIx a (ldN (gr a r)) a.length).toNat) (j := r) (by omega) hr (hb.2.2 c)
    omega
  · exact absurd rfl (ldIx_neg (show Go.Proofs.Ytgpmkbenjlhfhaa.ldIx a (ldN (gr a r)) a.length < 0 by omega) r hr)
theorem ldIx_mem {a : List (List Int)} {c : Nat} : (c : Int) ∈ ldKeys a a.length ↔ 0 ≤ ldIx a c a.length := by
  have hb := ldIx_bounds a c a.length
  rw [ldKeys_mem]
  constructor
  · rintro ⟨i, hi, e⟩
    apply Classical.byContradiction
    intro h
    exact ldIx_neg (show ldIx a c a.length < 0 by omega) i hi (by omega)
  · intro h
    exact ⟨(ldIx a c a.length).toNat, by omega, by rw [hb.2.2 h]⟩

/-- The row of checks for column c, where the leads in rem are still to come. -/
def mrTo (q : Int) (a : List (List Int)) (c : Nat) (rem : Int → Bool) (j : Nat) : Int := if 0 ≤ ldIx a j a.length ∧ rem j = false then (-gi (gr a (ldIx a j a.length).toNat) c) % q else if j = c then 1 else 0

theorem take_snoc_gv {vs : List Value} {k : Nat} (h : k < vs.length) : vs.take (k + 1) = vs.take k ++ [gv vs k] := by
  rw [List.take_succ_eq_append_getElem h, gv_lt h]

set_option maxRecDepth 100000 in
set_option maxHeartbeats 4000000 in
theorem implNulls_any (q : Nat) [NeZero q] (n : Nat) (v : Value) (rows : List (List Int)) (w : World) (hr : IsR w v rows) (ht : TabOk q n rows) :
    Calls Try.prog 81 #[.int .i64 q, v] w fun e w' => ∃ u vs a, e = .returned u ∧ IsRed q n rows a ∧ OwnR w' 28 3 u vs (nlTo q n a n) ∧ FromR w.heap.size u vs (nlTo q n a n) ∧ New w w' := by
  obtain ⟨ao, m, cap, rfl, HN, hm⟩ := hr.shape
  have hn7 := ht.n7
  have hn1 := ht.n1
  have hqp := ht.pr.pos
  have hm0 : 0 < m := by rw [HN.out]; exact ht.r1
  obtain ⟨b0, o0, u0, rfl, ck0, hu0⟩ := hr.at (i := 0) hm0
  rw [Nat.add_zero] at ck0
  obtain ⟨a0, n', cc0, rfl, HM, hmx⟩ := hu0.shape
  have hnn : n = n' := by rw [HM.out, ht.cols]
  subst hnn
  have HR := Lib.hid hr
  have HT := Lib.hid ht
  clear hr ht hu0
  have hmm := @run_makeMap Try.prog
  go_enter Try.func81, Try.ntmps81
  go_wp2_with fail
  have hA : New w (w.alloc (.map #[] 0)) := New.alloc _ _
  have hmade := MapIs.made Try.prog 3 w
  have hszA : (w.alloc (.map #[] 0)).heap.size = w.heap.size + 1 := by simp
  clear hmm
  refine (reduced_any q HT.out.pr n hn7 _ rows _ (HR.out.new hA) HT.out.good (by have := HT.out.r6; have := HT.out.r1; omega)).mono ?_
  rintro e w1 ⟨ua, vsa, a, rfl, hoa, hfa, hred, hn1w⟩
  have hale := hred.le_cols
  obtain ⟨aa, na, ca, rfl, HA, hna, _⟩ := hoa.outer.opened (by rw [hoa.len]; unfold Mid; omega)
  have hna7 : na ≤ 7 := by rw [HA.out, hoa.len]; omega
  have hnae : na = a.length := by rw [HA.out, hoa.len]
  have HM1 := Lib.hid (hmade.new hn1w)
  have HN1 := Lib.hid (hA.trans hn1w)
  have HFA : Hid (FromR (w.heap.size + 1) (.slice aa na ca) vsa a) := by rw [← hszA]; exact hfa
  have HOA := Lib.hid hoa
  have HRED := Lib.hid hred
  have HNA := Lib.hid hnae
  have HVA := Lib.hid hoa.len
  clear hoa hfa hred hn1w hnae hA hmade hszA
  go_wp2_with fail
  go_loopw [20] (fun i wr => ∃ k : Nat, i = .int .i64 k ∧ k ≤ na ∧ Hid (MapIs Try.prog 3 wr w.heap.size k (ldKeys a k) (vsa.take k) ∧ Chg (· = w.heap.size) w1 wr)) (fun i _ => na - (intOf i).toNat)
  case atStart => exact ⟨0, rfl, Nat.zero_le _, by rw [List.take_zero]; exact HM1.out, Chg.refl _ _⟩
  case round =>
    obtain ⟨k, rfl, hk, HK⟩ := hrel
    by_cases hkn : k < na
    · have hka : k < a.length := by rw [← HNA.out]; exact hkn
      have hkv : k < vsa.length := by rw [HVA.out]; exact hka
      have hoa : OwnR wr 28 3 (.slice aa na ca) vsa a := HOA.out.chg HK.out.2 (fun g hg hs => by have := HFA.out.1 g hg; omega) (fun i hi g hg hs => by have := HFA.out.2 i hi g hg; omega)
      obtain ⟨g, rfl⟩ := hoa.outer.head hkv
      have ck := (hoa.outer.cell hkv).1
      have hg := HRED.out.inv.good k hka
      have hin := hoa.inner k hka
      obtain ⟨ar, nr, cr, hgv, HNR, hnr, _⟩ := hin.opened (by rw [List.length_map, hg.1]; unfold Mid; omega)
      rw [hgv] at ck hin
      have hii := hin.isI (by rw [hg.1]; unfold Mid; omega)
      have hlz := lead_nat (HRED.out.inv.lead k hka)
      have hln := (lead_some hg (HRED.out.inv.lead k hka)).1
      obtain ⟨L, hL⟩ : ∃ L, L = ldN (gr a k) := ⟨_, rfl⟩
      rw [← hL] at hlz hln
      have hnot : (L : Int) ∉ ldKeys a k := fun hmem => by
        obtain ⟨i, hi, e⟩ := ldKeys_mem.1 hmem
        have := HRED.out.inj (i := i) (j := k) (by omega) hka (by rw [← hL]; omega)
        omega
      have HII := Lib.hid hii
      have HLZ := Lib.hid hlz
      have HLL := Lib.hid hL
      have HGV := Lib.hid hgv
      have hll : (ldKeys a k).length = (vsa.take k).length := by rw [ldKeys_length, List.length_take]; omega
      have HNOT := Lib.hid (And.intro hnot hll)
      have hwf : (Lit.int .i64 (L : Int)).wf = true := WalkArith.wf_i64 (by omega)
      have HWF := Lib.hid hwf
      clear hoa hii hin hlz hg hgv hL hnot hll hwf
      go_wp2_with (first | (go_at_call 114; refine (lead_any _ _ _ HII.out).mono ?_; rintro e w' ⟨rfl, rfl⟩; rw [HLZ.out]) | (at_mapUpdate; refine wpList_mapPut rfl _ _ _ _ rfl 3 28 Try.underlying3 Try.underlying95 _ k _ _ rfl HK.out.1 (by unfold maxLen; omega) _ _ _ _ rfl rfl HWF.out HNOT.out.1 HNOT.out.2 ?_; intro w2 k1 k2; have K2 := Lib.hid (And.intro k1 k2); clear k1 k2))
      go_roundw
      case rel =>
        refine ⟨k + 1, by go_num, by omega, ?_, Chg.trans HK.out.2 K2.out.2 (fun _ _ x => x) (fun _ _ x => x)⟩
        rw [ldKeys_succ, take_snoc_gv hkv, HGV.out, ← HLL.out]
        exact K2.out.1
      case measure => simp [intOf]; omega
    · obtain rfl : k = na := by omega
      have hnw : New w wr := HN1.out.then HK.out.2 (fun i hi => by rw [hi]; exact Nat.le_refl _)
      have hmap : MapIs Try.prog 3 wr w.heap.size k (ldKeys a a.length) vsa := by
        have h := HK.out.1
        rw [List.take_of_length_le (by rw [HVA.out, HNA.out]; exact Nat.le_refl _)] at h
        rw [← HNA.out]
        exact h
      have hoa : OwnR wr 28 3 (.slice aa k ca) vsa a := HOA.out.chg HK.out.2 (fun g hg hs => by have := HFA.out.1 g hg; omega) (fun i hi g hg hs => by have := HFA.out.2 i hi g hg; omega)
      obtain ⟨wm, hwm⟩ : ∃ wm : World, wm = wr := ⟨_, rfl⟩
      rw [← hwm] at hnw hmap hoa
      rw [← hwm]
      clear hwm
      have HNW := Lib.hid hnw
      have HMAP := Lib.hid hmap
      have HOM := Lib.hid hoa
      have ckm := hnw.cellNew ck0
      have hltm : b0 < wm.heap.size := World.block_lt_of_cell? _ _ ckm
      clear hnw hmap hoa HK HM1 HN1 HOA
      go_wp2_with fail
      go_loopw [8, 34] (fun t i wz => ∃ (c : Nat) (vs : List Value), i = .int .i64 c ∧ c ≤ n ∧ OwnR wz 28 3 t vs (nlTo q n a c) ∧ FromR wm.heap.size t vs (nlTo q n a c) ∧ New wm wz) (fun _ i _ => n - (intOf i).toNat)
      case atStart => exact ⟨0, [], rfl, Nat.zero_le _, ⟨Own.empty _ _, rfl, fun i hi => by simp [nlTo] at hi, fun i j hi => by simp [nlTo] at hi⟩, ⟨From.new _ _ _, fun i hi => by simp [nlTo] at hi⟩, New.alloc _ _⟩
      case round =>
        obtain ⟨c, vs, rfl, hc, hown, hfrom, hnew⟩ := hrel
        have HO := Lib.hid hown
        have HF := Lib.hid hfrom
        have HZ := Lib.hid hnew
        clear hown hfrom hnew
        obtain ⟨wz, hwz⟩ : ∃ wz : World, wz = wr := ⟨_, rfl⟩
        rw [← hwz] at HO HZ
        rw [← hwz]
        clear hwz
        have hll := nlTo_length q n a c
        obtain ⟨ax, lx, cx, rfl, HLX, hlx, _⟩ := HO.out.outer.opened (by rw [HO.out.len]; unfold Mid; omega)
        have hbx := HF.out.1
        by_cases hcn : c < n
        · have hmz := HMAP.out.new HZ.out
          have hwf : (Lit.int .i64 (c : Int)).wf = true := WalkArith.wf_i64 (by omega)
          have HWF := Lib.hid hwf
          have HMZ := Lib.hid hmz
          have ckz := HZ.out.cellNew ckm
          clear hmz hwf
          by_cases hge : 0 ≤ ldIx a c a.length
          · have hdm : decide ((c : Int) ∈ ldKeys a a.length) = true := by simpa using ldIx_mem.2 hge
            have HDM := Lib.hid hdm
            have HGE := Lib.hid hge
            clear hdm hge
            go_wp2_with (at_lookup; refine wpList_mapHas rfl _ _ _ rfl 3 28 Try.underlying3 Try.underlying95 (zeroSl _) _ _ _ _ rfl HMZ.out _ rfl HWF.out ?_; intro vx; rw [HDM.out])
            go_roundw
            case rel =>
              have e : nlTo q n a (c + 1) = nlTo q n a c := by rw [nlTo, if_pos HGE.out]
              refine ⟨c + 1, vs, by go_num, by omega, ?_, ?_, HZ.out⟩
              · rw [e]; exact HO.out
              · rw [e]; exact HF.out
            case measure => simp [intOf]; omega
          · have hdm : decide ((c : Int) ∈ ldKeys a a.length) = false := by
              rw [decide_eq_false_iff_not, ldIx_mem]; exact hge
            have HDM := Lib.hid hdm
            have HGE := Lib.hid hge
            clear hdm hge
            go_wp2_with (first | (at_lookup; refine wpList_mapHas rfl _ _ _ rfl 3 28 Try.underlying3 Try.underlying95 (zeroSl _) _ _ _ _ rfl HMZ.out _ rfl HWF.out ?_; intro vx; rw [HDM.out]) | (at_make; refine wpList_mk rfl _ _ _ rfl tyInt _ _ _ _ n n rfl rfl rfl rfl (Nat.le_refl _) hmx ?_; intro v5 w5 hv5 ho5 hn5 hs5; subst hv5; have HO5 := Lib.hid ho5; have HN5 := Lib.hid hn5; have HS5 := Lib.hid hs5; obtain ⟨c5, f5⟩ := ho5.cell (i := c) (by simpa using hcn); clear ho5 hn5 hs5))
            have hst := HO5.out.set c (.int .i64 1)
            rw [← List.map_replicate, set_map_int, ← tab_zero, tab_set (g := mrTo q a c (fun x => decide (x ∈ ldKeys a a.length))) (fun _ => by rw [mrTo, if_neg (fun h => by have := HGE.out; have := h.1; omega), if_pos rfl]) (fun i hi hne => by
              rw [mrTo, if_neg (fun h => by
                have h2 := h.2
                simp only [decide_eq_false_iff_not] at h2
                exact h2 (ldIx_mem.2 h.1)), if_neg hne])] at hst
            have hblt : w.heap.size < wz.heap.size := HMZ.out.lt
            have hm5 := (HMZ.out.new HN5.out).chg (Chg.setCell w5 ⟨wz.heap.size, c, none⟩ (.int .i64 1)) (fun e => by simp at e; omega)
            have hn5' : New wz (w5.setCell ⟨wz.heap.size, c, none⟩ (.int .i64 1)) := HN5.out.then (Chg.setCell _ _ _) (fun i hi => Nat.le_of_eq hi.symm)
            have hs5' : wz.heap.size < (w5.setCell ⟨wz.heap.size, c, none⟩ (.int .i64 1)).heap.size := by rw [World.size_setCell]; exact HS5.out
            have HST := Lib.hid hst
            have HM5 := Lib.hid hm5
            have HN5' := Lib.hid hn5'
            clear hst hm5 hn5'
            obtain ⟨w6, cnt, hrun, hr6, hn6, hs6⟩ := HM5.out.range (e := 28) (t := 95) Try.underlying3 Try.underlying95
            have HR6 := Lib.hid hr6
            have HN6 := Lib.hid hn6
            clear hr6 hn6
            obtain ⟨r, hre⟩ : ∃ r, r = (w5.setCell ⟨wz.heap.size, c, none⟩ (.int .i64 1)).heap.size := ⟨_, rfl⟩
            rw [← hre] at HR6 hs6 hs5' hrun
            clear hre
            have HRUN := Lib.hid hrun
            clear hrun
            go_wp2_with fail
            rw [HRUN.out]
            clear HRUN
            go_wp2_with fail
            go_loopw [13] (fun _ wy => ∃ (rem : Int → Bool) (cnt : Nat), Hid (RangeIs Try.prog 3 wy w.heap.size r k (ldKeys a a.length) vsa rem cnt ∧ Own wy 3 (.slice (some ⟨wz.heap.size, 0, none⟩) n n) ((tab n (mrTo q a c rem)).map (Value.int .i64)) ∧ New wz wy)) (fun _ wy => wy.rangeLeft w.heap.size r)
            case atStart => exact ⟨_, _, HR6.out, HST.out.new HN6.out, HN5'.out.trans HN6.out⟩
            case round =>
              obtain ⟨rem, cnt, HRG⟩ := hrel
              obtain ⟨wy, hwy⟩ : ∃ wy : World, wy = wr := ⟨_, rfl⟩
              rw [← hwy] at HRG
              rw [← hwy]
              clear hwy
              go_wp2_with (at_next; refine wpList_mapNext rfl _ rfl 3 Try.underlying3 _ _ _ _ _ _ _ rfl HRG.out.1 ?_ ?_)
              · intro hd
                have hrow : Own wy 3 (.slice (some ⟨wz.heap.size, 0, none⟩) n n) ((nullRow q n a c).map (Value.int .i64)) := by
                  have h := HRG.out.2.1
                  rw [tab_congr (g := fun j => if 0 ≤ ldIx a j a.length then (-gi (gr a (ldIx a j a.length).toNat) c) % q else if j = c then 1 else 0) (fun i hi => by simp [mrTo, hd])] at h
                  exact h
                have HROW := Lib.hid hrow
                have hlv : vs.length + 1 ≤ 1099511627776 := by rw [HO.out.len]; omega
                clear hrow hd
                go_wp2_with (at_builtin; refine wpList_app1 rfl _ _ _ rfl tyRow wy (HO.out.outer.new HRG.out.2.2) rfl _ _ rfl rfl rfl hlv ?_; intro v2 w2 k1 k2 k3; have K2 := Lib.hid (And.intro k1 (And.intro k2 k3)); clear k1 k2 k3)
                go_roundw
                case rel =>
                  obtain ⟨m1, m2, m3⟩ := K2.out
                  obtain ⟨p1, p2, p3⟩ := OwnR.push HO.out HF.out HZ.out.size HRG.out.2.2 HROW.out (From.at0 _ _ _) m1 m2 m3
                  have e : nlTo q n a (c + 1) = nlTo q n a c ++ [nullRow q n a c] := by rw [nlTo, if_neg (by have := HGE.out; omega)]
                  refine ⟨c + 1, vs ++ [Value.slice (some ⟨wz.heap.size, 0, none⟩) n n], by go_num, by omega, ?_, ?_, New.then HZ.out p3 (fun i hi => HF.out.1 i hi)⟩
                  · rw [e]; exact p1
                  · rw [e]; exact p2
                case measure => simp [intOf]; omega
              · intro i sa sn sc w7 cnt7 hi hgv hrem hr7 hlt7 hc7 hs7 hen
                rw [ldKeys_length] at hi
                have hkey := ldKeys_get a hi
                rw [hkey] at hrem hr7 hen
                rw [hkey]
                have hg := HRED.out.inv.good i hi
                have hln := (lead_some hg (HRED.out.inv.lead i hi)).1
                have hldx := HRED.out.ldIx hi
                obtain ⟨L, hL⟩ : ∃ L, L = ldN (gr a i) := ⟨_, rfl⟩
                rw [← hL] at hrem hr7 hen hln hldx
                rw [← hL]
                obtain ⟨rem', hre'⟩ : ∃ rem' : Int → Bool, rem' = remWo rem L := ⟨_, rfl⟩
                rw [← hre'] at hr7
                have hrem1 : rem' L = false := by rw [hre']; exact remWo_same _ _
                have hrem2 : ∀ j : Nat, j ≠ L → rem' j = rem j := fun j hj => by rw [hre']; exact remWo_other _ (by omega)
                have HREM := Lib.hid (And.intro hrem1 hrem2)
                clear hre' hrem1 hrem2
                have hn7w : New wz w7 := HRG.out.2.2.then hc7 (fun j hj => by have : j = r := hj; omega)
                have hin := (HOM.out.inner i hi).new (HZ.out.trans hn7w)
                rw [hgv] at hin
                obtain ⟨gx, rfl⟩ := hin.head (i := c) (by rw [List.length_map, hg.1]; exact hcn)
                have hcs : c < sn := by rw [hin.len, List.length_map, hg.1]; exact hcn
                have cx := hin.num (i := c) (by rw [hg.1]; exact hcn)
                have hbx2 := hg.2 c hcn
                obtain ⟨x, hx⟩ : ∃ x, x = gi (gr a i) c := ⟨_, rfl⟩
                rw [← hx] at cx hbx2
                have ho7 := HRG.out.2.1.chg hc7 (fun g hg hs => by simp [Value.ownBlock] at hg; omega)
                obtain ⟨cl, fl⟩ := ho7.cell (i := L) (by rw [List.length_map, tab_length]; exact hln)
                have HO7 := Lib.hid ho7
                have HX := Lib.hid hx
                have HR7 := Lib.hid hr7
                have HLDX := Lib.hid hldx
                have HN7 := Lib.hid hn7w
                have HI := Lib.hid (And.intro hlt7 hs7)
                clear hkey hg hldx hL hn7w hin hx ho7 hr7 hrem hgv hc7 hs7 hlt7
                go_wp2_with (go_at_call 122; refine (rest_any _ _ _ (by omega) (by omega)).mono ?_; rintro e w' ⟨rfl, rfl⟩)
                go_roundw
                case rel =>
                  have hst := HO7.out.set L (.int .i64 ((-x) % (q : Int)))
                  rw [set_map_int, tab_set (g := mrTo q a c rem') (fun _ => by rw [mrTo, if_pos ⟨by rw [HLDX.out]; omega, HREM.out.1⟩, HLDX.out, Int.toNat_natCast, ← HX.out]) (fun j hj hne => by
                    rw [mrTo, mrTo, HREM.out.2 j hne])] at hst
                  exact ⟨_, cnt7, HR7.out.chg (Chg.setCell _ _ _) (by simp only; omega) (by simp only; omega), hst, HN7.out.then (Chg.setCell _ _ _) (fun i hi => Nat.le_of_eq hi.symm)⟩
                case measure =>
                  have h1 := (HR7.out.chg (Chg.setCell w7 ⟨wz.heap.size, L, none⟩ (.int .i64 ((-x) % (q : Int)))) (by simp only; omega) (by simp only; omega)).left
                  have h2 := HRG.out.1.left
                  have h3 := HI.out.1
                  rw [h1, h2]
                  exact h3
        · obtain rfl : c = n := by omega
          have hlm : Mid vs.length := by rw [HO.out.len]; unfold Mid; omega
          go_wp2_with fail
          refine (clipR_any _ vs _ HO.out.outer hlm).mono ?_
          rintro e w' ⟨u, rfl, ho, hub, rfl⟩
          have HU := Lib.hid (And.intro ho hub)
          clear ho hub
          go_wp2_with fail
          go_ret
          refine ⟨u, vs, a, rfl, HRED.out, ⟨HU.out.1, HO.out.len, HO.out.inner, HO.out.apart⟩, ⟨fun g hg => ?_, fun i hi g hg => ?_⟩, HNW.out.trans HZ.out⟩
          · have := HF.out.1 g (by rw [← HU.out.2]; exact hg)
            have := HNW.out.size
            omega
          · have := HF.out.2 i hi g hg
            have := HNW.out.size
            omega
end Go.Proofs.Ytgpmkbenjlhfhaa

namespace Go.Proofs.Ytgpmkbenjlhfhaa
open Go.RowKit Mat
set_option linter.unusedVariables false

/-- The checks of a table. -/
def NulC (p : Int) (rows out : List (List Int)) : Prop :=
  ∃ (q : Nat) (_ : NeZero q), p = q ∧ Pr q ∧ ∃ a, IsRed q (gr rows 0).length rows a ∧ out = nlTo q (gr rows 0).length a (gr rows 0).length
theorem NulC.unique {p : Int} {rows a b : List (List Int)} (h : NulC p rows a) (h' : NulC p rows b) : a = b := by
  obtain ⟨q, i1, e1, hq, o1, r1, rfl⟩ := h
  obtain ⟨q', i2, e2, hq', o2, r2, rfl⟩ := h'
  obtain rfl : q = q' := by omega
  rw [IsRed.unique hq r1 r2]
theorem NulC.bounds {p : Int} {rows a : List (List Int)} (h : NulC p rows a) : a.length ≤ (gr rows 0).length ∧ ∀ i, i < a.length → (gr a i).length = (gr rows 0).length := by
  obtain ⟨q, i1, e1, hq, o1, r1, rfl⟩ := h
  exact ⟨nlTo_length _ _ _ _, nlTo_rows⟩

theorem specNulls_c (q : Nat) [NeZero q] (n : Nat) (v : Value) (rows : List (List Int)) (w : World) (hr : IsR w v rows) (ht : TabOk q n rows) :
    Calls Try.prog 83 #[.int .i64 q, v] w fun e w' => ∃ u vs out, e = .returned u ∧ NulC q rows out ∧ OwnR w' 28 3 u vs out ∧ FromR w.heap.size u vs out ∧ New w w' :=
  (specNulls_any q n v rows w hr ht).mono fun e w' ⟨u, vs, a, h1, h2, h3, h4, h5⟩ => ⟨u, vs, _, h1, ⟨q, inferInstance, rfl, ht.pr, a, by rw [ht.cols]; exact h2, by rw [ht.cols]⟩, h3, h4, h5⟩
theorem implNulls_c (q : Nat) [NeZero q] (n : Nat) (v : Value) (rows : List (List Int)) (w : World) (hr : IsR w v rows) (ht : TabOk q n rows) :
    Calls Try.prog 81 #[.int .i64 q, v] w fun e w' => ∃ u vs out, e = .returned u ∧ NulC q rows out ∧ OwnR w' 28 3 u vs out ∧ FromR w.heap.size u vs out ∧ New w w' :=
  (implNulls_any q n v rows w hr ht).mono fun e w' ⟨u, vs, a, h1, h2, h3, h4, h5⟩ => ⟨u, vs, _, h1, ⟨q, inferInstance, rfl, ht.pr, a, by rw [ht.cols]; exact h2, by rw [ht.cols]⟩, h3, h4, h5⟩
end Go.Proofs.Ytgpmkbenjlhfhaa
