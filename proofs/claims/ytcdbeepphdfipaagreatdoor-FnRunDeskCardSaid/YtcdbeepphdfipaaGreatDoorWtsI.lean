/- The program's weights: a range over the iterator of messages. -/
import Derived.Test.YtcdbeepphdfipaaGreatDoorWtsN
import Derived.Test.YtcdbeepphdfipaaGreatDoorRang
import Derived.Test.YtcdbeepphdfipaaGreatDoorBase
namespace Go.Proofs.YtcdbeepphdfipaaGreatDoor
open Go.RowKit Mat
set_option linter.unusedVariables false
attribute [local go_sem] Oper.semAt_some

theorem messages_any (q k : Nat) (w : World) :
    Calls Tryz.prog 156 #[.int .i64 q, .int .i64 k] w fun e w' => e = .returned (.func (.func 183) #[] #[.pointer (some ⟨w.heap.size + 1, 0, none⟩), .pointer (some ⟨w.heap.size, 0, none⟩)]) ∧
      Blk1 w' (w.heap.size + 1) (.int .i64 k) 3 ∧ Blk1 w' w.heap.size (.int .i64 q) 64 ∧ w'.heap.size = w.heap.size + 2 ∧ New w w' := by
  have h1 := Blk1.alloc w (.int .i64 q) 64
  have h2 := Blk1.alloc (w.alloc (.cells #[.int .i64 q] 64)) (.int .i64 k) 3
  rw [World.size_alloc] at h2
  have H := Lib.hid (And.intro (h1.new (New.alloc _ (.cells #[.int .i64 k] 3))) h2)
  clear h1 h2
  go_enter Tryz.func156, Tryz.ntmps156
  go_wp2_with fail
  go_ret
  exact ⟨rfl, H.out.2, H.out.1, by simp, (New.alloc _ _).trans (New.alloc _ _)⟩

set_option maxRecDepth 100000 in
set_option maxHeartbeats 4000000 in
theorem implWeightsOf_any (p : Int) (v : Value) (rows : List (List Int)) (w : World) (hr : IsR w v rows) :
    Calls Tryz.prog 124 #[.agg #[.int .i64 p, v]] w fun e w' => GivesI w e w' (WtsR p rows) := by
  obtain ⟨ao, m, cap, rfl, HN, hm⟩ := hr.shape
  have HR := Lib.hid hr
  clear hr
  have h1 : New w (w.alloc (.cells #[.int .i64 p, .slice ao m cap] 24)) := New.alloc _ _
  have b1 := Blk2.alloc w (.int .i64 p) (.slice ao m cap) 24
  refine (callsIn_wide (n := 9)).1 ?_
  refine callsIn_of_wp_marks Tryz.func124 rfl trivial ?_ rfl
  simp only [Tryz.ntmps124, List.size_toArray, List.length_cons, List.length_nil, Nat.reduceAdd, Nat.reduceSub, Array.replicate_succ, Array.replicate_zero, List.push_toArray, List.append_toArray, List.nil_append, List.cons_append]
  refine wpIn_wide.2 ?_
  go_wp2_with fail
  refine (known_any _ _ rows _ (HR.out.new h1)).mono ?_
  rintro e w2 ⟨⟨b, rfl, hb⟩, hn2⟩
  have H2 := Lib.hid (And.intro (h1.trans hn2) (And.intro (b1.new hn2) (And.intro hb hn2.size)))
  clear hb hn2 b1 h1
  cases b with
  | false =>
    go_wp2_with fail
    have hG : GivesI w (.returned (.slice none 0 0)) (w2.alloc (.cells #[.int .i64 p] 64)) (WtsR p rows) := givesNil (H2.out.1.trans (New.alloc _ _)) ⟨fun h => by (have h2 := H2.out.2.2.1.2 h; cases h2), fun _ => rfl⟩
    refine ⟨_, results_tmp rfl _ _ _, ?_⟩
    exact hG
  | true =>
    have hv := H2.out.2.2.1.1 rfl
    have hp := hv.prime
    have hf := hv.few
    obtain ⟨q, rfl, hq⟩ := prime_nat (vtB_pr hv.1)
    haveI := hq.nz
    obtain ⟨n, hnn⟩ : ∃ n, n = (gr rows 0).length := ⟨_, rfl⟩
    have ht := vtB_ok hv.1
    rw [← hnn] at ht hf
    have hm4 : m ≤ 4 := by rw [HN.out]; omega
    have hm1 : 0 < m := by rw [HN.out]; omega
    have hq2 : 2 ≤ q ∧ q ≤ 7 := by omega
    have hn7 := ht.n7
    have hn1 := ht.n1
    have HV := Lib.hid (And.intro hv (And.intro ht hnn))
    clear hv hp hf hq ht hnn
    have HL0 := Lib.hid (show w.heap.size < w2.heap.size from Nat.lt_of_lt_of_le (Nat.lt_succ_self _) (Nat.le_trans (Nat.le_of_eq (World.size_alloc w _).symm) H2.out.2.2.2))
    have hnf : New w2 (w2.alloc (.cells #[.int .i64 q] 64)) := New.alloc _ _
    have hbf := Blk1.alloc w2 (.int .i64 q) 64
    have b3 := H2.out.2.1.new hnf
    obtain ⟨e0, e1, _, _⟩ := b3.cells
    have hs3 : (w2.alloc (.cells #[.int .i64 q] 64)).heap.size = w2.heap.size + 1 := World.size_alloc _ _
    have H3 := Lib.hid (And.intro (H2.out.1.trans hnf) (And.intro b3 (And.intro hbf hs3)))
    clear hbf hnf b3 hs3
    go_wp2_with fail
    refine (columnsOf_any _ _ rows _ (HR.out.new H3.out.1) (by rw [← HN.out]; exact hm1)).mono ?_
    rintro e w4 ⟨rfl, hn4⟩
    rw [← HV.out.2.2]
    have H4 := Lib.hid (And.intro (H3.out.1.trans hn4) (And.intro (H3.out.2.1.new hn4) (And.intro (H3.out.2.2.1.new hn4) (Nat.le_trans (Nat.le_of_eq H3.out.2.2.2.symm) hn4.size))))
    clear hn4 H3 e0 e1
    go_wp2_with (at_make; refine wpList_mk rfl _ _ _ rfl tyInt _ _ _ _ (n + 1) (n + 1) rfl rfl (by push_cast; rfl) (by push_cast; rfl) (Nat.le_refl _) (by omega) ?_; intro v5 w5 hv5 ho5 hn5 hs5; subst hv5; have H5 := Lib.hid (And.intro ho5 (And.intro hn5 hs5)); obtain ⟨e0, e1, _, _⟩ := (H4.out.2.1.new hn5).cells; obtain ⟨e2, _⟩ := (H4.out.2.2.1.new hn5).cells; have hl1 := (H4.out.2.2.1.new hn5).lt; have hl2 : w.heap.size < w5.heap.size := Nat.lt_of_le_of_lt (H4.out.1.size) hs5; clear ho5 hn5 hs5)
    have hbo := Blk1.alloc w5 (.slice (some ⟨w4.heap.size, 0, none⟩) (n + 1) (n + 1)) 53
    have hno : New w5 (w5.alloc (.cells #[.slice (some ⟨w4.heap.size, 0, none⟩) (n + 1) (n + 1)] 53)) := New.alloc _ _
    refine (messages_any q m _).mono ?_
    rintro e w6 ⟨rfl, hbm, hbp, hs6, hn6⟩
    rw [World.size_alloc] at hbm hbp hs6 ⊢
    have n56 := hno.trans hn6
    have H6 := Lib.hid (And.intro (And.intro hbm hbp) (And.intro (hbo.new hn6) (And.intro ((H4.out.2.1.new H5.out.2.1).new n56) (And.intro ((H4.out.2.2.1.new H5.out.2.1).new n56) (And.intro (H5.out.1.new n56) ((H4.out.1.trans H5.out.2.1).trans n56))))))
    have HS := Lib.hid (And.intro H4.out.2.2.2 (And.intro H5.out.2.2 hs6))
    clear hbo hno hbm hbp hs6 hn6 n56 e0 e1 e2 hl1 hl2 H2 H4 H5
    go_wp2_with fail
    have hlt : w.heap.size < w2.heap.size := by have := HL0.out; omega
    refine (wpIn_wide (n := 9)).1 ?_
    refine wpIn_rangeM (F := Fence.wide) (n := 9) rfl (by omega) (gf := 183) (lb := #[.pointer (some ⟨w5.heap.size + 1 + 1, 0, none⟩), .pointer (some ⟨w5.heap.size + 1, 0, none⟩)]) rfl trivial (enters_of Tryz.func183 (by kernel_rfl) rfl)
      (msgs_seq q m (w5.heap.size + 1 + 1) (w5.heap.size + 1) 8 w6 hq2 ⟨hm1, by omega⟩ H6.out.1.1 H6.out.1.2 (by omega)) (Chg.refl _ _) rfl
      (fun b hb => by have := HS.out; omega) (fun t X Y h he => h.same (fun g hg => by simp [Value.ownBlock] at hg; subst hg; exact he))
      (fun t W => Blk1 W w5.heap.size (.slice (some ⟨w4.heap.size, 0, none⟩) (n + 1) (n + 1)) 53 ∧ Blk2 W w.heap.size (.int .i64 q) (.slice ao m cap) 24 ∧ Blk1 W w2.heap.size (.int .i64 q) 64 ∧ Own W 3 (.slice (some ⟨w4.heap.size, 0, none⟩) (n + 1) (n + 1)) ((wtsTo q n rows t).map (Value.int .i64)) ∧ New w W)
      (fun t X Y h hc => ⟨h.1.chg hc (by have := HS.out; omega), h.2.1.chg hc (by have := HS.out; omega), h.2.2.1.chg hc (by have := HS.out; omega), h.2.2.2.1.chg hc (fun g hg => by simp [Value.ownBlock] at hg; have := HS.out; omega), h.2.2.2.2.then hc (fun i hi => by have := HS.out; omega)⟩)
      ⟨H6.out.2.1, H6.out.2.2.1, H6.out.2.2.2.1, by rw [wtsTo, List.map_replicate]; exact H6.out.2.2.2.2.1, H6.out.2.2.2.2.2⟩
      { tmps := #[.agg #[.int .i64 q, .slice ao m cap], .pointer (some ⟨w.heap.size, 0, none⟩), .slice none 0 0, .pointer (some ⟨w2.heap.size, 0, none⟩), .bool true, .pointer (some ⟨w5.heap.size, 0, none⟩), (.slice (some ⟨w6.heap.size + 2, 0, none⟩) m m), undef, undef, undef, .tuple #[.int .i64 q, .bool true], .agg #[.int .i64 q, .slice ao m cap], .tuple #[.int .i64 q, .bool true], .int .i64 q, .bool true, .bool true, .bool false, .agg #[.int .i64 q, .slice ao m cap], .int .i64 n, .int .i64 (n + 1), .slice (some ⟨w4.heap.size, 0, none⟩) (n + 1) (n + 1), .int .i64 q, .pointer (some ⟨w.heap.size, 1, none⟩), .slice ao m cap, .int .i64 m, .func (.func 183) #[] #[.pointer (some ⟨w5.heap.size + 1 + 1, 0, none⟩), .pointer (some ⟨w5.heap.size + 1, 0, none⟩)], (.slice (some ⟨w6.heap.size + 2, 0, none⟩) m m), undef, undef, undef, undef, undef, undef, undef, undef, undef, undef, undef, undef, undef, undef, undef, undef, undef, undef, undef, undef, undef, undef], defers := [] } ?assign ?body ?done
    case assign =>
      intro l W C hC
      gi_wp2
      exact hC
    case body =>
      intro l t W ht hI hsz hR
      have HI := Lib.hid hI
      have HRR := Lib.hid hR
      obtain ⟨e0, e1, _, _⟩ := hI.2.1.cells
      obtain ⟨e2, _⟩ := hI.2.2.1.cells
      clear hI hR
      have hmg := msg_good (q := q) (k := m) (t := t) (by omega)
      have HMG := Lib.hid hmg
      clear hmg
      gi_wp2
      refine ⟨trivial, (CallsIn.inRound l (callsIn_wide.2 (encode_any q n _ _ rows (msg q m t) W (by omega) (by omega) (HR.out.new HI.out.2.2.2.2) (HRR.out.isI (by rw [msg_length]; unfold Mid; omega)) (fun i hi => ⟨(HV.out.2.1.good i hi).1, fun j hj => by have := (HV.out.2.1.good i hi).2 j hj; omega⟩) (by rw [← HN.out]; exact hm1) (by rw [HMG.out.1, HN.out]; exact Nat.le_refl _) (fun i hi => by rw [HMG.out.1] at hi; have := HMG.out.2 i hi; omega)))).mono ?_⟩
      rintro e W2 ⟨u, rfl, ho, hf, hn2⟩
      rw [HMG.out.1] at ho
      have hwt : (wordT q n rows t) = encZ q n rows (msg q m t) m := by unfold wordT; rw [← HN.out]
      rw [← hwt] at ho
      have hie := ho.isI (by rw [wordT_length]; unfold Mid; omega)
      obtain ⟨au, lu, cu, rfl, HLU, _⟩ := hie.shape
      obtain rfl : lu = n := by rw [HLU.out, wordT_length]
      have HIE := Lib.hid (And.intro hie hn2)
      clear ho hf hn2 hie hwt
      gi_wp2
      gi_loopw [7, 33] (fun t7 t33 wr => ∃ k c : Nat, t7 = .int .i64 c ∧ t33 = .int .i64 k ∧ k ≤ lu ∧ c ≤ k ∧ Hid (c = hvTo (wordT q lu rows t) k) ∧ Hid (wr = W2)) (fun _ t33 _ => lu - (intOf t33).toNat)
      case atStart => exact ⟨0, 0, rfl, rfl, Nat.zero_le _, Nat.le_refl _, rfl, rfl⟩
      case round =>
        obtain ⟨k, c, rfl, rfl, hk, hck, HC, HWR⟩ := hrel
        obtain rfl := HWR.out
        by_cases hkn : k < lu
        · obtain ⟨b, o, rfl, ck⟩ := HIE.out.1.at hkn
          obtain ⟨x, hx⟩ : ∃ x, x = gi (wordT q lu rows t) k := ⟨_, rfl⟩
          rw [← hx] at ck
          have HXX := Lib.hid hx
          clear hx
          by_cases hx0 : x = 0
          · subst hx0
            gi_wp2
            go_roundw
            case rel => exact ⟨k + 1, c, rfl, by go_num, by omega, by omega, by show c = _; rw [HC.out, hvTo, if_pos HXX.out.symm], (by first | exact True.intro | rfl)⟩
            case measure => simp [intOf]; omega
          · have hd2 : (x != 0) = true := by simp; exact hx0
            have HSc : Hid (c + 1 = hvTo (wordT q lu rows t) (k + 1)) := by show c + 1 = _; rw [HC.out, hvTo, if_neg (by rw [← HXX.out]; exact hx0)]
            gi_wp2
            go_roundw
            case rel => exact ⟨k + 1, c + 1, by go_num, by go_num, by omega, by omega, HSc, (by first | exact True.intro | rfl)⟩
            case measure => simp [intOf]; omega
        · obtain rfl : k = lu := by omega
          have hcw : c = wtT q k rows t := HC.out
          have HCW := Lib.hid hcw
          have hcl : c < (wtsTo q k rows t).length := by rw [wtsTo_length]; omega
          have hxr := wtsTo_range q k rows t c (by omega)
          have htT : t ≤ 2401 := by have := pow_all (q := q) (k := m) hq2.2 hm4; omega
          obtain ⟨x, hx⟩ : ∃ x, x = gi (wtsTo q k rows t) c := ⟨_, rfl⟩
          rw [← hx] at hxr
          have ho6 := HI.out.2.2.2.1.new HIE.out.2
          obtain ⟨cl, fl⟩ := ho6.cell (i := c) (by rw [List.length_map]; exact hcl)
          rw [gv_map_int hcl, ← hx] at cl
          have hst := ho6.set c (.int .i64 (x + 1))
          rw [set_map_int] at hst
          obtain ⟨f0, _⟩ := (HI.out.1.new HIE.out.2).cells
          have HST := Lib.hid (show Own (wr.setCell ⟨w4.heap.size, c, none⟩ (.int .i64 (x + 1))) 3 (.slice (some ⟨w4.heap.size, 0, none⟩) (k + 1) (k + 1)) ((wtsTo q k rows (t + 1)).map (Value.int .i64)) by rw [wtsTo, bump, ← hcw, ← hx]; exact hst)
          have hcn1 : c < k + 1 := by omega
          clear hst ho6 hcl hcw hx
          gi_wp2
          have hch : Chg (· = w4.heap.size) W (wr.setCell ⟨w4.heap.size, c, none⟩ (.int .i64 (x + 1))) := Chg.trans HIE.out.2 (Chg.setCell _ _ _) (fun _ _ x => x.elim) (fun _ _ x => x)
          have hS := HS.out
          have hD := HRR.out.lt (g := w6.heap.size + 2) rfl
          have hW4 : w.heap.size < w4.heap.size := by omega
          exact ⟨⟨HI.out.1.chg hch (by omega), HI.out.2.1.chg hch (by omega), HI.out.2.2.1.chg hch (by omega), HST.out, HI.out.2.2.2.2.then hch (fun i hi => by omega)⟩, hch.size, fun b hb => hch.block b (by omega) (by omega)⟩
    case done =>
      intro W hI hK
      have HI := Lib.hid hI
      obtain ⟨e0, _⟩ := hI.1.cells
      clear hI
      dsimp only
      go_wp2_with fail
      have hS := HS.out
      have hG : GivesI w (.returned (.slice (some ⟨w4.heap.size, 0, none⟩) (n + 1) (n + 1))) (W.putObj w6.heap.size (.deferred none)) (WtsR q rows) :=
        ⟨_, _, rfl, HI.out.2.2.2.1.chg (chg_putObj W _ _) (fun g hg => by simp [Value.ownBlock] at hg; omega), fun g hg => by simp [Value.ownBlock] at hg; omega,
          ⟨fun _ => by rw [← HV.out.2.2, ← HN.out, Int.toNat_natCast], fun h => absurd HV.out.1 h⟩, HI.out.2.2.2.2.then (chg_putObj W _ _) (fun i hi => by omega)⟩
      refine ⟨by simp, .inl ⟨_, _, rfl, run_takeDeferred hK, ?_⟩⟩
      refine ⟨_, results_tmp rfl _ _ _, ?_⟩
      exact hG
end Go.Proofs.YtcdbeepphdfipaaGreatDoor
