/- IsBest of both. -/
import Derived.Test.YtcdbeepphdfipaaGreatDoorMend
namespace Go.Proofs.YtcdbeepphdfipaaGreatDoor
open Go.RowKit Mat
set_option linter.unusedVariables false

theorem wt_more7 : ∀ n : Nat, n < 8 → ∀ s : Nat, s < 2 ^ n → wtN s 7 = wtN s n := by decide +kernel

/-- All sets of as many columns as rows have all ranks, of the sets below k. -/
def BestTo (p : Int) (rows : List (List Int)) (k : Nat) : Prop := ∀ s, s < k → wtN s 7 = rows.length → RkOf p rows s rows.length
def IsBestC (p : Int) (rows : List (List Int)) : Prop := ValidC p rows ∧ BestTo p rows (2 ^ (gr rows 0).length)

set_option maxRecDepth 100000 in
set_option maxHeartbeats 2000000 in
theorem isBest_any (q : Nat) [NeZero q] (n : Nat) (v : Value) (rows : List (List Int)) (w : World) (hr : IsR w v rows) (ht : TabOk q n rows) :
    Calls Tryz.prog 79 #[.agg #[.int .i64 q, v]] w fun e w' => TellsB w e w' (BestTo q rows (2 ^ n)) := by
  obtain ⟨ao, m, cap, rfl, HN, hn⟩ := hr.shape
  have hc := ht.cols
  have hn7 := ht.n7
  have h1r : 0 < m := by rw [HN.out]; exact ht.r1
  have hm6 : m ≤ 6 := by rw [HN.out]; exact ht.r6
  have hnal : New w (w.alloc (.cells #[.int .i64 q, .slice ao m cap] 24)) := New.alloc _ _
  obtain ⟨b0, o0, u0, rfl, ck0, hu0⟩ := hr.at (i := 0) h1r
  rw [Nat.add_zero] at ck0
  obtain ⟨a0, mc, cc0, rfl, HM, hm⟩ := hu0.shape
  have hmc : n = mc := by rw [HM.out, hc]
  subst hmc
  have hp := pow_lt hn7
  have hp0 : 0 < 2 ^ n := Nat.two_pow_pos _
  obtain ⟨N, hNN⟩ : ∃ N, N = 2 ^ n := ⟨_, rfl⟩
  rw [← hNN] at hp hp0 ⊢
  have hb := Blk2.alloc w (.int .i64 q) (.slice (some ⟨b0, o0, none⟩) m cap) 24
  have HR := Lib.hid hr
  have HT := Lib.hid ht
  have HNN := Lib.hid hNN
  clear hr ht hu0 hNN
  go_enter Tryz.func79, Tryz.ntmps79
  go_wp2_with fail
  go_loopw [4] (fun i wr => ∃ s : Nat, i = .int .i64 s ∧ s ≤ N ∧ New w wr ∧ Blk2 wr w.heap.size (.int .i64 q) (.slice (some ⟨b0, o0, none⟩) m cap) 24 ∧ Hid (BestTo q rows s)) (fun i _ => N - (intOf i).toNat)
  case atStart => exact ⟨0, rfl, Nat.zero_le _, hnal, hb, fun s hs => by omega⟩
  case round =>
    obtain ⟨s, rfl, hs, hnew, hbr, HD⟩ := hrel
    obtain ⟨d0, d1, _, _⟩ := hbr.cells
    have ck := hnew.cellNew ck0
    by_cases hsN : s < N
    · have hs128 : s < 128 := by omega
      by_cases hwk : wtN s 7 = m
      · have hwkI : ((wtN s 7 : Nat) : Int) = (m : Int) := by rw [hwk]
        have HWK := Lib.hid hwk
        clear hwk
        go_wp2_with (go_at_call 119; refine (power_any n _ (by omega)).mono ?_; rintro e w' ⟨rfl, rfl⟩; rw [← HNN.out])
        refine wp_region_held_drew (S := fun w' => New wr w') (by kernel_rfl) (New.drew _) (fun hHeld => ?_)
        refine held_take 0 (some 18) rfl rfl (by kernel_rfl) (by kernel_rfl) (by kernel_rfl) (fun _ _ _ h => h) rfl hHeld (v := ?_) (fun w' hS => by skip; go_simp; try with_reducible rfl) ?_
        simp only [Act.put, List.setIfInBounds_toArray, List.set_cons_zero, List.set_cons_succ]
        refine held_take 2 (some 20) rfl rfl (by kernel_rfl) (by kernel_rfl) (by kernel_rfl) (fun _ _ _ h => h) rfl hHeld (v := ?_) (fun w' hS => by skip; go_simp; try with_reducible rfl) ?_
        simp only [Act.put, List.setIfInBounds_toArray, List.set_cons_zero, List.set_cons_succ]
        refine held_only 1 (by kernel_rfl) rfl rfl (fun K hK => ?_)
        go_simp
        refine (weight_any s _ hs128).mono ?_
        rintro e w2 ⟨rfl, rfl⟩
        refine hK.out _ _ hHeld (fun hHeld2 => ?_)
        clear hK K
        refine held_take 3 (some 21) rfl rfl (by kernel_rfl) (by kernel_rfl) (by kernel_rfl) (fun _ _ _ h => h) rfl hHeld2 (v := .bool true) (fun w' hS => by skip; go_simp; try omega) ?_
        simp only [Act.put, List.setIfInBounds_toArray, List.set_cons_zero, List.set_cons_succ]
        refine held_take 4 (some 22) rfl rfl (by kernel_rfl) (by kernel_rfl) (by kernel_rfl) (fun _ _ _ h => h) rfl hHeld2 (v := ?_) (fun w' hS => by skip; go_simp; try with_reducible rfl) ?_
        simp only [Act.put, List.setIfInBounds_toArray, List.set_cons_zero, List.set_cons_succ]
        refine held_take 5 (some 23) rfl rfl (by kernel_rfl) (by kernel_rfl) (by kernel_rfl) (fun _ _ _ h => h) rfl hHeld2 (v := ?_) (fun w' hS => by skip; go_simp; try with_reducible rfl) ?_
        simp only [Act.put, List.setIfInBounds_toArray, List.set_cons_zero, List.set_cons_succ]
        refine held_take 6 (some 24) rfl rfl (by kernel_rfl) (by kernel_rfl) (by kernel_rfl) (fun _ _ _ h => h) rfl hHeld2 (v := .int .i64 q) (fun w' hS => by obtain ⟨c0, c1, _, _⟩ := (hbr.new hS).cells; go_simp; try with_reducible rfl) ?_
        simp only [Act.put, List.setIfInBounds_toArray, List.set_cons_zero, List.set_cons_succ]
        refine held_take 7 (some 25) rfl rfl (by kernel_rfl) (by kernel_rfl) (by kernel_rfl) (fun _ _ _ h => h) rfl hHeld2 (v := ?_) (fun w' hS => by skip; go_simp; try with_reducible rfl) ?_
        simp only [Act.put, List.setIfInBounds_toArray, List.set_cons_zero, List.set_cons_succ]
        refine held_take 8 (some 26) rfl rfl (by kernel_rfl) (by kernel_rfl) (by kernel_rfl) (fun _ _ _ h => h) rfl hHeld2 (v := .slice (some ⟨b0, o0, none⟩) m cap) (fun w' hS => by obtain ⟨c0, c1, _, _⟩ := (hbr.new hS).cells; go_simp; try with_reducible rfl) ?_
        simp only [Act.put, List.setIfInBounds_toArray, List.set_cons_zero, List.set_cons_succ]
        refine held_take 9 (some 27) rfl rfl (by kernel_rfl) (by kernel_rfl) (by kernel_rfl) (fun _ _ _ h => h) rfl hHeld2 (v := ?_) (fun w' hS => by skip; go_simp; try with_reducible rfl) ?_
        simp only [Act.put, List.setIfInBounds_toArray, List.set_cons_zero, List.set_cons_succ]
        refine held_take 13 (some 31) rfl rfl (by kernel_rfl) (by kernel_rfl) (by kernel_rfl) (fun _ _ _ h => h) rfl hHeld2 (v := ?_) (fun w' hS => by skip; go_simp; try with_reducible rfl) ?_
        simp only [Act.put, List.setIfInBounds_toArray, List.set_cons_zero, List.set_cons_succ]
        refine held_only 10 (by kernel_rfl) rfl rfl (fun K hK => ?_)
        go_simp
        refine (columns_any s hs128 _ rows _ (HR.out.new (hnew.trans hHeld2)) (by have := HT.out.r6; omega) (fun i hi => by rw [(HT.out.good i hi).1]; exact hn7)).mono ?_
        rintro e w3 ⟨u2, vs2, rfl, ho2, hf2, hn2⟩
        have hwt : wtN s n ≤ 7 := by have := wtN_le s n; omega
        have hg := selRows_good s HT.out.good
        have HI := Lib.hid (show IsR w3 u2 (rows.map (sel s)) from ho2.isR (by rw [List.length_map]; have := HT.out.r6; unfold Mid; omega) (fun i hi => by have := (hg i hi).1; unfold Mid; omega))
        have HG := Lib.hid hg
        refine hK.out _ _ (hHeld2.trans hn2) (fun hHeld3 => ?_)
        clear hK K hn2 hHeld2 ho2 hf2 hg
        refine held_only 11 (by kernel_rfl) rfl rfl (fun K hK => ?_)
        go_simp
        refine (reduce_any q HT.out.pr _ hwt _ _ _ HI.out HG.out (by rw [List.length_map]; have := HT.out.r6; have := HT.out.r1; omega)).mono ?_
        rintro e w4 ⟨u3, vs3, out, rfl, ho3, hf3, hred, hn3⟩
        have hrk : RkOf q rows s out.length := ⟨q, _, rfl, HT.out.pr, out, by rw [HT.out.cols]; exact hred, rfl⟩
        have hle := hrk.le
        rw [HT.out.cols] at hle
        obtain ⟨a3, l, c3, rfl, HL, hl3, _⟩ := ho3.outer.opened (by rw [ho3.len]; unfold Mid; omega)
        have el : out.length = l := by rw [HL.out, ho3.len]
        rw [el] at hrk hle
        refine hK.out _ _ (hHeld3.trans hn3) (fun hHeld4 => ?_)
        have HK := Lib.hid hrk
        have hlm : l ≤ m := by rw [← HWK.out, wt_more7 n (by omega) s (by rw [← HNN.out]; exact hsN)]; exact hle
        clear hK K hn3 hHeld3 hrk ho3 hf3 hred HL el
        refine held_take 12 (some 30) rfl rfl (by kernel_rfl) (by kernel_rfl) (by kernel_rfl) (fun _ _ _ h => h) rfl hHeld4 (v := .int .i64 l) (fun w' hS => by skip; go_simp; try with_reducible rfl) ?_
        simp only [Act.put, List.setIfInBounds_toArray, List.set_cons_zero, List.set_cons_succ]
        refine held_take 14 (some 32) rfl rfl (by kernel_rfl) (by kernel_rfl) (by kernel_rfl) (fun _ _ _ h => h) rfl hHeld4 (v := ?_) (fun w' hS => by skip; go_simp; try with_reducible rfl) ?_
        simp only [Act.put, List.setIfInBounds_toArray, List.set_cons_zero, List.set_cons_succ]
        refine held_take 15 (some 33) rfl rfl (by kernel_rfl) (by kernel_rfl) (by kernel_rfl) (fun _ _ _ h => h) rfl hHeld4 (v := ?_) (fun w' hS => by skip; go_simp; try with_reducible rfl) ?_
        simp only [Act.put, List.setIfInBounds_toArray, List.set_cons_zero, List.set_cons_succ]
        refine wpAnyH_done (by kernel_rfl) ?_ _
        by_cases hlt : l < m
        · go_wp2_with fail
          go_ret
          refine ⟨false, rfl, ⟨(fun h => by cases h), fun h => ?_⟩, hnew.trans hHeld4⟩
          have := (h s hsN (by rw [HWK.out]; exact HN.out)).unique HK.out
          rw [← HN.out] at this
          omega
        · have e : l = m := by omega
          subst e
          go_wp2_with fail
          go_roundw
          case rel =>
            refine ⟨s + 1, by go_num, by omega, hnew.trans hHeld4, hbr.new hHeld4, fun s' hs' hw' => ?_⟩
            by_cases e : s' = s
            · rw [e, ← HN.out]; exact HK.out
            · exact HD.out s' (by omega) hw'
          case measure => simp [intOf]; omega
      · have hd : decide (((wtN s 7 : Nat) : Int) = (m : Int)) = false := by simp; omega
        have hd2 : ((((wtN s 7 : Nat) : Int)) == (m : Int)) = false := by simp; omega
        have HWK := Lib.hid hwk
        clear hwk
        go_wp2_with (go_at_call 119; refine (power_any n _ (by omega)).mono ?_; rintro e w' ⟨rfl, rfl⟩; rw [← HNN.out])
        refine wp_region_held_drew (S := fun w' => New wr w') (by kernel_rfl) (New.drew _) (fun hHeld => ?_)
        refine held_take 0 (some 18) rfl rfl (by kernel_rfl) (by kernel_rfl) (by kernel_rfl) (fun _ _ _ h => h) rfl hHeld (v := ?_) (fun w' hS => by skip; go_simp; try with_reducible rfl) ?_
        simp only [Act.put, List.setIfInBounds_toArray, List.set_cons_zero, List.set_cons_succ]
        refine held_take 2 (some 20) rfl rfl (by kernel_rfl) (by kernel_rfl) (by kernel_rfl) (fun _ _ _ h => h) rfl hHeld (v := ?_) (fun w' hS => by skip; go_simp; try with_reducible rfl) ?_
        simp only [Act.put, List.setIfInBounds_toArray, List.set_cons_zero, List.set_cons_succ]
        refine held_only 1 (by kernel_rfl) rfl rfl (fun K hK => ?_)
        go_simp
        refine (weight_any s _ hs128).mono ?_
        rintro e w2 ⟨rfl, rfl⟩
        refine hK.out _ _ hHeld (fun hHeld2 => ?_)
        clear hK K
        refine held_take 3 (some 21) rfl rfl (by kernel_rfl) (by kernel_rfl) (by kernel_rfl) (fun _ _ _ h => h) rfl hHeld2 (v := .bool false) (fun w' hS => by skip; go_simp; try omega) ?_
        simp only [Act.put, List.setIfInBounds_toArray, List.set_cons_zero, List.set_cons_succ]
        refine held_take 4 (some 22) rfl rfl (by kernel_rfl) (by kernel_rfl) (by kernel_rfl) (fun _ _ _ h => h) rfl hHeld2 (v := ?_) (fun w' hS => by skip; go_simp; try with_reducible rfl) ?_
        simp only [Act.put, List.setIfInBounds_toArray, List.set_cons_zero, List.set_cons_succ]
        refine held_skip 5 (some 23) rfl rfl (by kernel_rfl) (by kernel_rfl) (by kernel_rfl) (fun _ _ _ h => h) rfl hHeld2 ?_
        simp only [Act.put, List.setIfInBounds_toArray, List.set_cons_zero, List.set_cons_succ]
        refine held_skip 6 (some 24) rfl rfl (by kernel_rfl) (by kernel_rfl) (by kernel_rfl) (fun _ _ _ h => h) rfl hHeld2 ?_
        simp only [Act.put, List.setIfInBounds_toArray, List.set_cons_zero, List.set_cons_succ]
        refine held_skip 7 (some 25) rfl rfl (by kernel_rfl) (by kernel_rfl) (by kernel_rfl) (fun _ _ _ h => h) rfl hHeld2 ?_
        simp only [Act.put, List.setIfInBounds_toArray, List.set_cons_zero, List.set_cons_succ]
        refine held_skip 8 (some 26) rfl rfl (by kernel_rfl) (by kernel_rfl) (by kernel_rfl) (fun _ _ _ h => h) rfl hHeld2 ?_
        simp only [Act.put, List.setIfInBounds_toArray, List.set_cons_zero, List.set_cons_succ]
        refine held_skip 9 (some 27) rfl rfl (by kernel_rfl) (by kernel_rfl) (by kernel_rfl) (fun _ _ _ h => h) rfl hHeld2 ?_
        simp only [Act.put, List.setIfInBounds_toArray, List.set_cons_zero, List.set_cons_succ]
        refine held_skip 10 (some 28) rfl rfl (by kernel_rfl) (by kernel_rfl) (by kernel_rfl) (fun _ _ _ h => h) rfl hHeld2 ?_
        simp only [Act.put, List.setIfInBounds_toArray, List.set_cons_zero, List.set_cons_succ]
        refine held_skip 11 (some 29) rfl rfl (by kernel_rfl) (by kernel_rfl) (by kernel_rfl) (fun _ _ _ h => h) rfl hHeld2 ?_
        simp only [Act.put, List.setIfInBounds_toArray, List.set_cons_zero, List.set_cons_succ]
        refine held_skip 12 (some 30) rfl rfl (by kernel_rfl) (by kernel_rfl) (by kernel_rfl) (fun _ _ _ h => h) rfl hHeld2 ?_
        simp only [Act.put, List.setIfInBounds_toArray, List.set_cons_zero, List.set_cons_succ]
        refine held_skip 13 (some 31) rfl rfl (by kernel_rfl) (by kernel_rfl) (by kernel_rfl) (fun _ _ _ h => h) rfl hHeld2 ?_
        simp only [Act.put, List.setIfInBounds_toArray, List.set_cons_zero, List.set_cons_succ]
        refine held_skip 14 (some 32) rfl rfl (by kernel_rfl) (by kernel_rfl) (by kernel_rfl) (fun _ _ _ h => h) rfl hHeld2 ?_
        simp only [Act.put, List.setIfInBounds_toArray, List.set_cons_zero, List.set_cons_succ]
        refine held_take 15 (some 33) rfl rfl (by kernel_rfl) (by kernel_rfl) (by kernel_rfl) (fun _ _ _ h => h) rfl hHeld2 (v := ?_) (fun w' hS => by skip; go_simp; try with_reducible rfl) ?_
        simp only [Act.put, List.setIfInBounds_toArray, List.set_cons_zero, List.set_cons_succ]
        refine wpAnyH_done (by kernel_rfl) ?_ _
        go_wp2_with fail
        go_roundw
        case rel =>
          refine ⟨s + 1, by go_num, by omega, hnew.trans hHeld2, hbr.new hHeld2, fun s' hs' hw' => ?_⟩
          by_cases e : s' = s
          · exact absurd (by rw [← e, hw']; exact HN.out.symm) HWK.out
          · exact HD.out s' (by omega) hw'
        case measure => simp [intOf]; omega
    · obtain rfl : s = N := by omega
      go_wp2_with (go_at_call 119; refine (power_any n _ (by omega)).mono ?_; rintro e w' ⟨rfl, rfl⟩; rw [← HNN.out])
      go_ret
      exact ⟨true, rfl, ⟨(fun _ => HD.out), fun _ => rfl⟩, hnew⟩

set_option maxRecDepth 100000 in
set_option maxHeartbeats 2000000 in
theorem implIsBest_any (p : Int) (v : Value) (rows : List (List Int)) (w : World) (hr : IsR w v rows) :
    Calls Tryz.prog 88 #[.agg #[.int .i64 p, v]] w fun e w' => TellsB w e w' (IsBestC p rows) := by
  obtain ⟨ao, m, cap, rfl, HN, hn⟩ := hr.shape
  have HR := Lib.hid hr
  clear hr
  have h1 : New w (w.alloc (.cells #[.int .i64 p, .slice ao m cap] 24)) := New.alloc _ _
  have b1 := Blk2.alloc w (.int .i64 p) (.slice ao m cap) 24
  go_enter Tryz.func88, Tryz.ntmps88
  go_wp2_with fail
  refine (known_any _ _ rows _ (HR.out.new h1)).mono ?_
  rintro e w2 ⟨⟨b, rfl, hb⟩, hn2⟩
  have h2 := h1.trans hn2
  have b2 := b1.new hn2
  have HB := Lib.hid hb
  clear hb hn2 b1 h1
  obtain ⟨c0, c1, _, _⟩ := b2.cells
  cases b with
  | false =>
    go_wp2_with fail
    go_ret
    exact ⟨false, rfl, ⟨(fun h => by cases h), fun h => HB.out.2 h.1⟩, h2⟩
  | true =>
    have hv := HB.out.1 rfl
    have hf := hv.few
    obtain ⟨q, rfl, hq⟩ := prime_nat (vtB_pr hv.1)
    haveI := hq.nz
    obtain ⟨n, hne⟩ : ∃ n, n = (gr rows 0).length := ⟨_, rfl⟩
    have ht : TabOk q n rows := by rw [hne]; exact vtB_ok hv.1
    have hn7 := ht.n7
    have hm1 : 1 ≤ rows.length := hf.1
    have hm6 : m ≤ 6 := by rw [HN.out]; exact ht.r6
    have hp := pow_lt hn7
    have hp0 : 0 < 2 ^ n := Nat.two_pow_pos _
    have hw12 := wrap_pow n (by omega)
    obtain ⟨N, hNN⟩ : ∃ N, N = 2 ^ n := ⟨_, rfl⟩
    rw [← hNN] at hp hp0 hw12
    have HV := Lib.hid hv
    have HT := Lib.hid ht
    have HNE := Lib.hid hne
    have HNN := Lib.hid hNN
    clear hv hf hq HB ht hNN hne
    go_wp2_with fail
    refine (columnsOf_any _ _ rows _ (HR.out.new h2) hm1).mono ?_
    rintro e w3 ⟨rfl, hn3⟩
    rw [← HNE.out]
    have h3 := h2.trans hn3
    have b3 := b2.new hn3
    clear c0 c1 b2 hn3 h2
    go_wp2_with fail
    go_loopw [16] (fun i wr => ∃ s : Nat, i = .int .i64 s ∧ s ≤ N ∧ New w wr ∧ Blk2 wr w.heap.size (.int .i64 q) (.slice ao m cap) 24 ∧ Hid (BestTo q rows s)) (fun i _ => N - (intOf i).toNat)
    case atStart => exact ⟨0, rfl, Nat.zero_le _, h3, b3, fun s hs => by omega⟩
    case round =>
      obtain ⟨s, rfl, hs, hnew, hbr, HD⟩ := hrel
      obtain ⟨d0, d1, _, _⟩ := hbr.cells
      by_cases hsN : s < N
      · have hs128 : s < 128 := by omega
        by_cases hwk : wtN s 7 = m
        · have hwkI : ((wtN s 7 : Nat) : Int) = (m : Int) := by rw [hwk]
          have HWK := Lib.hid hwk
          clear hwk
          go_wp2_with fail
          refine wp_region_held_drew (S := fun w' => New wr w') (by kernel_rfl) (New.drew _) (fun hHeld => ?_)
          refine held_take 0 (some 19) rfl rfl (by kernel_rfl) (by kernel_rfl) (by kernel_rfl) (fun _ _ _ h => h) rfl hHeld (v := ?_) (fun w' hS => by skip; go_simp; try with_reducible rfl) ?_
          simp only [Act.put, List.setIfInBounds_toArray, List.set_cons_zero, List.set_cons_succ]
          refine held_take 2 (some 21) rfl rfl (by kernel_rfl) (by kernel_rfl) (by kernel_rfl) (fun _ _ _ h => h) rfl hHeld (v := ?_) (fun w' hS => by skip; go_simp; try with_reducible rfl) ?_
          simp only [Act.put, List.setIfInBounds_toArray, List.set_cons_zero, List.set_cons_succ]
          refine held_take 3 (some 22) rfl rfl (by kernel_rfl) (by kernel_rfl) (by kernel_rfl) (fun _ _ _ h => h) rfl hHeld (v := .slice ao m cap) (fun w' hS => by obtain ⟨c0, c1, _, _⟩ := (hbr.new hS).cells; go_simp; try with_reducible rfl) ?_
          simp only [Act.put, List.setIfInBounds_toArray, List.set_cons_zero, List.set_cons_succ]
          refine held_take 4 (some 23) rfl rfl (by kernel_rfl) (by kernel_rfl) (by kernel_rfl) (fun _ _ _ h => h) rfl hHeld (v := .int .i64 m) (fun w' hS => by skip; go_simp; try with_reducible rfl) ?_
          simp only [Act.put, List.setIfInBounds_toArray, List.set_cons_zero, List.set_cons_succ]
          refine held_only 1 (by kernel_rfl) rfl rfl (fun K hK => ?_)
          go_simp
          refine (size_any s _ hs128).mono ?_
          rintro e w4 ⟨rfl, rfl⟩
          refine hK.out _ _ hHeld (fun hHeld2 => ?_)
          clear hK K
          refine held_take 5 (some 24) rfl rfl (by kernel_rfl) (by kernel_rfl) (by kernel_rfl) (fun _ _ _ h => h) rfl hHeld2 (v := .bool true) (fun w' hS => by skip; go_simp; try omega) ?_
          simp only [Act.put, List.setIfInBounds_toArray, List.set_cons_zero, List.set_cons_succ]
          refine held_take 6 (some 25) rfl rfl (by kernel_rfl) (by kernel_rfl) (by kernel_rfl) (fun _ _ _ h => h) rfl hHeld2 (v := ?_) (fun w' hS => by skip; go_simp; try with_reducible rfl) ?_
          simp only [Act.put, List.setIfInBounds_toArray, List.set_cons_zero, List.set_cons_succ]
          refine held_take 7 (some 26) rfl rfl (by kernel_rfl) (by kernel_rfl) (by kernel_rfl) (fun _ _ _ h => h) rfl hHeld2 (v := ?_) (fun w' hS => by skip; go_simp; try with_reducible rfl) ?_
          simp only [Act.put, List.setIfInBounds_toArray, List.set_cons_zero, List.set_cons_succ]
          refine held_take 8 (some 27) rfl rfl (by kernel_rfl) (by kernel_rfl) (by kernel_rfl) (fun _ _ _ h => h) rfl hHeld2 (v := ?_) (fun w' hS => by skip; go_simp; try with_reducible rfl) ?_
          simp only [Act.put, List.setIfInBounds_toArray, List.set_cons_zero, List.set_cons_succ]
          refine held_take 9 (some 28) rfl rfl (by kernel_rfl) (by kernel_rfl) (by kernel_rfl) (fun _ _ _ h => h) rfl hHeld2 (v := .slice ao m cap) (fun w' hS => by obtain ⟨c0, c1, _, _⟩ := (hbr.new hS).cells; go_simp; try with_reducible rfl) ?_
          simp only [Act.put, List.setIfInBounds_toArray, List.set_cons_zero, List.set_cons_succ]
          refine held_take 10 (some 29) rfl rfl (by kernel_rfl) (by kernel_rfl) (by kernel_rfl) (fun _ _ _ h => h) rfl hHeld2 (v := ?_) (fun w' hS => by skip; go_simp; try with_reducible rfl) ?_
          simp only [Act.put, List.setIfInBounds_toArray, List.set_cons_zero, List.set_cons_succ]
          refine held_take 12 (some 31) rfl rfl (by kernel_rfl) (by kernel_rfl) (by kernel_rfl) (fun _ _ _ h => h) rfl hHeld2 (v := ?_) (fun w' hS => by skip; go_simp; try with_reducible rfl) ?_
          simp only [Act.put, List.setIfInBounds_toArray, List.set_cons_zero, List.set_cons_succ]
          refine held_take 13 (some 32) rfl rfl (by kernel_rfl) (by kernel_rfl) (by kernel_rfl) (fun _ _ _ h => h) rfl hHeld2 (v := .slice ao m cap) (fun w' hS => by obtain ⟨c0, c1, _, _⟩ := (hbr.new hS).cells; go_simp; try with_reducible rfl) ?_
          simp only [Act.put, List.setIfInBounds_toArray, List.set_cons_zero, List.set_cons_succ]
          refine held_take 14 (some 33) rfl rfl (by kernel_rfl) (by kernel_rfl) (by kernel_rfl) (fun _ _ _ h => h) rfl hHeld2 (v := .int .i64 m) (fun w' hS => by skip; go_simp; try with_reducible rfl) ?_
          simp only [Act.put, List.setIfInBounds_toArray, List.set_cons_zero, List.set_cons_succ]
          refine held_only 11 (by kernel_rfl) rfl rfl (fun K hK => ?_)
          go_simp
          refine (rank_any q n _ rows s _ hs128 (HR.out.new (hnew.trans hHeld2)) HT.out).mono ?_
          rintro e w5 ⟨r, rfl, hrk, hr7, hn5⟩
          refine hK.out _ _ (hHeld2.trans hn5) (fun hHeld3 => ?_)
          have HK := Lib.hid hrk
          clear hK K hn5 hHeld2 hrk
          by_cases hrm : r = m
          · subst hrm
            refine held_take 15 (some 34) rfl rfl (by kernel_rfl) (by kernel_rfl) (by kernel_rfl) (fun _ _ _ h => h) rfl hHeld3 (v := .bool false) (fun w' hS => by skip; go_simp; try simp) ?_
            simp only [Act.put, List.setIfInBounds_toArray, List.set_cons_zero, List.set_cons_succ]
            refine held_take 16 (some 35) rfl rfl (by kernel_rfl) (by kernel_rfl) (by kernel_rfl) (fun _ _ _ h => h) rfl hHeld3 (v := ?_) (fun w' hS => by skip; go_simp; try with_reducible rfl) ?_
            simp only [Act.put, List.setIfInBounds_toArray, List.set_cons_zero, List.set_cons_succ]
            refine wpAnyH_done (by kernel_rfl) ?_ _
            go_wp2_with fail
            go_roundw
            case rel =>
              refine ⟨s + 1, by go_num, by omega, hnew.trans hHeld3, hbr.new hHeld3, fun s' hs' hw' => ?_⟩
              by_cases e : s' = s
              · rw [e, ← HN.out]; exact HK.out
              · exact HD.out s' (by omega) hw'
            case measure => simp [intOf]; omega
          · have hne1 : ((r : Int) != (m : Int)) = true := by simp; omega
            refine held_take 15 (some 34) rfl rfl (by kernel_rfl) (by kernel_rfl) (by kernel_rfl) (fun _ _ _ h => h) rfl hHeld3 (v := .bool true) (fun w' hS => by skip; go_simp; try simp; try omega) ?_
            simp only [Act.put, List.setIfInBounds_toArray, List.set_cons_zero, List.set_cons_succ]
            refine held_take 16 (some 35) rfl rfl (by kernel_rfl) (by kernel_rfl) (by kernel_rfl) (fun _ _ _ h => h) rfl hHeld3 (v := ?_) (fun w' hS => by skip; go_simp; try with_reducible rfl) ?_
            simp only [Act.put, List.setIfInBounds_toArray, List.set_cons_zero, List.set_cons_succ]
            refine wpAnyH_done (by kernel_rfl) ?_ _
            go_wp2_with fail
            go_ret
            refine ⟨false, rfl, ⟨(fun h => by cases h), fun h => ?_⟩, hnew.trans hHeld3⟩
            have := (h.2 s (by rw [← HNE.out, ← HNN.out]; exact hsN) (by rw [HWK.out]; exact HN.out)).unique HK.out
            rw [← HN.out] at this
            omega
        · have hd : decide (((wtN s 7 : Nat) : Int) = (m : Int)) = false := by simp; omega
          have hd2 : ((((wtN s 7 : Nat) : Int)) == (m : Int)) = false := by simp; omega
          have HWK := Lib.hid hwk
          clear hwk
          go_wp2_with fail
          refine wp_region_held_drew (S := fun w' => New wr w') (by kernel_rfl) (New.drew _) (fun hHeld => ?_)
          refine held_take 0 (some 19) rfl rfl (by kernel_rfl) (by kernel_rfl) (by kernel_rfl) (fun _ _ _ h => h) rfl hHeld (v := ?_) (fun w' hS => by skip; go_simp; try with_reducible rfl) ?_
          simp only [Act.put, List.setIfInBounds_toArray, List.set_cons_zero, List.set_cons_succ]
          refine held_take 2 (some 21) rfl rfl (by kernel_rfl) (by kernel_rfl) (by kernel_rfl) (fun _ _ _ h => h) rfl hHeld (v := ?_) (fun w' hS => by skip; go_simp; try with_reducible rfl) ?_
          simp only [Act.put, List.setIfInBounds_toArray, List.set_cons_zero, List.set_cons_succ]
          refine held_take 3 (some 22) rfl rfl (by kernel_rfl) (by kernel_rfl) (by kernel_rfl) (fun _ _ _ h => h) rfl hHeld (v := .slice ao m cap) (fun w' hS => by obtain ⟨c0, c1, _, _⟩ := (hbr.new hS).cells; go_simp; try with_reducible rfl) ?_
          simp only [Act.put, List.setIfInBounds_toArray, List.set_cons_zero, List.set_cons_succ]
          refine held_take 4 (some 23) rfl rfl (by kernel_rfl) (by kernel_rfl) (by kernel_rfl) (fun _ _ _ h => h) rfl hHeld (v := .int .i64 m) (fun w' hS => by skip; go_simp; try with_reducible rfl) ?_
          simp only [Act.put, List.setIfInBounds_toArray, List.set_cons_zero, List.set_cons_succ]
          refine held_only 1 (by kernel_rfl) rfl rfl (fun K hK => ?_)
          go_simp
          refine (size_any s _ hs128).mono ?_
          rintro e w4 ⟨rfl, rfl⟩
          refine hK.out _ _ hHeld (fun hHeld2 => ?_)
          clear hK K
          refine held_take 5 (some 24) rfl rfl (by kernel_rfl) (by kernel_rfl) (by kernel_rfl) (fun _ _ _ h => h) rfl hHeld2 (v := .bool false) (fun w' hS => by skip; go_simp; try omega) ?_
          simp only [Act.put, List.setIfInBounds_toArray, List.set_cons_zero, List.set_cons_succ]
          refine held_take 6 (some 25) rfl rfl (by kernel_rfl) (by kernel_rfl) (by kernel_rfl) (fun _ _ _ h => h) rfl hHeld2 (v := ?_) (fun w' hS => by skip; go_simp; try with_reducible rfl) ?_
          simp only [Act.put, List.setIfInBounds_toArray, List.set_cons_zero, List.set_cons_succ]
          refine held_skip 7 (some 26) rfl rfl (by kernel_rfl) (by kernel_rfl) (by kernel_rfl) (fun _ _ _ h => h) rfl hHeld2 ?_
          simp only [Act.put, List.setIfInBounds_toArray, List.set_cons_zero, List.set_cons_succ]
          refine held_skip 8 (some 27) rfl rfl (by kernel_rfl) (by kernel_rfl) (by kernel_rfl) (fun _ _ _ h => h) rfl hHeld2 ?_
          simp only [Act.put, List.setIfInBounds_toArray, List.set_cons_zero, List.set_cons_succ]
          refine held_skip 9 (some 28) rfl rfl (by kernel_rfl) (by kernel_rfl) (by kernel_rfl) (fun _ _ _ h => h) rfl hHeld2 ?_
          simp only [Act.put, List.setIfInBounds_toArray, List.set_cons_zero, List.set_cons_succ]
          refine held_skip 10 (some 29) rfl rfl (by kernel_rfl) (by kernel_rfl) (by kernel_rfl) (fun _ _ _ h => h) rfl hHeld2 ?_
          simp only [Act.put, List.setIfInBounds_toArray, List.set_cons_zero, List.set_cons_succ]
          refine held_skip 11 (some 30) rfl rfl (by kernel_rfl) (by kernel_rfl) (by kernel_rfl) (fun _ _ _ h => h) rfl hHeld2 ?_
          simp only [Act.put, List.setIfInBounds_toArray, List.set_cons_zero, List.set_cons_succ]
          refine held_skip 12 (some 31) rfl rfl (by kernel_rfl) (by kernel_rfl) (by kernel_rfl) (fun _ _ _ h => h) rfl hHeld2 ?_
          simp only [Act.put, List.setIfInBounds_toArray, List.set_cons_zero, List.set_cons_succ]
          refine held_skip 13 (some 32) rfl rfl (by kernel_rfl) (by kernel_rfl) (by kernel_rfl) (fun _ _ _ h => h) rfl hHeld2 ?_
          simp only [Act.put, List.setIfInBounds_toArray, List.set_cons_zero, List.set_cons_succ]
          refine held_skip 14 (some 33) rfl rfl (by kernel_rfl) (by kernel_rfl) (by kernel_rfl) (fun _ _ _ h => h) rfl hHeld2 ?_
          simp only [Act.put, List.setIfInBounds_toArray, List.set_cons_zero, List.set_cons_succ]
          refine held_skip 15 (some 34) rfl rfl (by kernel_rfl) (by kernel_rfl) (by kernel_rfl) (fun _ _ _ h => h) rfl hHeld2 ?_
          simp only [Act.put, List.setIfInBounds_toArray, List.set_cons_zero, List.set_cons_succ]
          refine held_take 16 (some 35) rfl rfl (by kernel_rfl) (by kernel_rfl) (by kernel_rfl) (fun _ _ _ h => h) rfl hHeld2 (v := ?_) (fun w' hS => by skip; go_simp; try with_reducible rfl) ?_
          simp only [Act.put, List.setIfInBounds_toArray, List.set_cons_zero, List.set_cons_succ]
          refine wpAnyH_done (by kernel_rfl) ?_ _
          go_wp2_with fail
          go_roundw
          case rel =>
            refine ⟨s + 1, by go_num, by omega, hnew.trans hHeld2, hbr.new hHeld2, fun s' hs' hw' => ?_⟩
            by_cases e : s' = s
            · exact absurd (by rw [← e, hw']; exact HN.out.symm) HWK.out
            · exact HD.out s' (by omega) hw'
          case measure => simp [intOf]; omega
      · obtain rfl : s = N := by omega
        go_wp2_with fail
        go_ret
        exact ⟨true, rfl, ⟨(fun _ => ⟨HV.out, by rw [← HNE.out, ← HNN.out]; exact HD.out⟩), fun _ => rfl⟩, hnew⟩
end Go.Proofs.YtcdbeepphdfipaaGreatDoor
