/- The program's wordOk, fits and mends. -/
import Derived.Test.YtcdbeepphdfipaaGreatDoorMendS
import Derived.Test.YtcdbeepphdfipaaGreatDoorWtsI
import Derived.Test.YtcdbeepphdfipaaGreatDoorRang
namespace Go.Proofs.YtcdbeepphdfipaaGreatDoor
open Go.RowKit Mat
set_option linter.unusedVariables false
attribute [local go_sem] Oper.semAt_some

theorem wordOk1_any (p : Int) (hp : -1000 ≤ p ∧ p ≤ 1000) (w : World) (a : Addr) (h : w.cell? a = some (.int .i64 p)) : Tells Tryz.prog w 186 #[.pointer (some a)] (fun x => !inB x (-1) (p - 1)) := by
  refine ⟨fun xs w' => by kernel_rfl, fun x w' hn => ?_⟩
  have hc := hn.cellNew h
  show Calls Tryz.prog 186 #[.int .i64 x, .pointer (some a)] w' _
  go_enter Tryz.func186, Tryz.ntmps186
  go_wp2_with (go_at_call 109; refine (within_any _ _ _ _).mono ?_; rintro e w' ⟨rfl, rfl⟩)
  go_ret
  exact ⟨rfl, rfl⟩

set_option maxHeartbeats 1000000 in
theorem wordOk_any (p : Int) (v vk : Value) (rows : List (List Int)) (kn : List Int) (w : World) (hr : IsR w v rows) (h1 : 1 ≤ rows.length) (hk : IsI w vk kn) (hp : -1000 ≤ p ∧ p ≤ 1000) :
    Calls Tryz.prog 160 #[.agg #[.int .i64 p, v], .int .i64 p, vk] w fun e w' => e = .returned (.bool (lostB p kn (gr rows 0).length)) ∧ New w w' := by
  obtain ⟨ao, m, cap, rfl, HN, hm⟩ := hr.shape
  obtain ⟨ak, l, ck, rfl, HL, hl⟩ := hk.shape
  have hb := Blk2.alloc w (.int .i64 p) (.slice ao m cap) 24
  have hal : New w (w.alloc (.cells #[.int .i64 p, .slice ao m cap] 24)) := New.alloc _ _
  have hs : (w.alloc (.cells #[.int .i64 p, .slice ao m cap] 24)).heap.size = w.heap.size + 1 := World.size_alloc _ _
  have hf := Blk1.alloc (w.alloc (.cells #[.int .i64 p, .slice ao m cap] 24)) (.int .i64 p) 64
  rw [hs] at hf
  have hn2 := hal.trans (New.alloc _ (.cells #[.int .i64 p] 64))
  have hb2 := hb.new (New.alloc _ (.cells #[.int .i64 p] 64))
  obtain ⟨e0, e1, _, _⟩ := hb2.cells
  have H := Lib.hid (And.intro hr (And.intro hk (And.intro hf hn2)))
  clear hr hk hf hn2 hb hb2 hal
  obtain ⟨n, hn⟩ : ∃ n, n = (gr rows 0).length := ⟨_, rfl⟩
  have HNN := Lib.hid hn
  clear hn
  go_enter Tryz.func160, Tryz.ntmps160
  go_wp2_with fail
  refine (columnsOf_any _ _ rows _ (H.out.1.new H.out.2.2.2) h1).mono ?_
  rintro e w2 ⟨rfl, hn2⟩
  rw [← HNN.out]
  have H2 := Lib.hid (And.intro (H.out.2.2.2.trans hn2) (H.out.2.2.1.new hn2))
  clear hn2 e0 e1
  by_cases hln : l = n
  · subst hln
    go_wp2_with fail
    refine (containsFunc_any _ kn _ _ _ _ (H.out.2.1.new H2.out.1) (wordOk1_any p hp _ _ H2.out.2.cells.1)).mono ?_
    rintro e w3 ⟨rfl, rfl⟩
    go_wp2_with fail
    go_ret
    refine ⟨ret_bool ?_, H2.out.1⟩
    unfold lostB anyB
    rw [not_any_not, ← HNN.out, ← HL.out]
    simp
  · have hd : ((l : Int) == (n : Int)) = false := by simp; omega
    go_wp2_with fail
    go_ret
    refine ⟨ret_bool ?_, H2.out.1⟩
    cases e : lostB p kn (gr rows 0).length with
    | false => rfl
    | true => have := (lostB_iff.1 e).2; rw [← HL.out, ← HNN.out] at this; exact absurd this hln

theorem fitB_no {x kn : List Int} {k n : Nat} (hk : k < n) (h1 : ¬ gi kn k < 0) (h2 : gi kn k ≠ gi x k) : fitB x kn n = false := by
  cases e : fitB x kn n with
  | false => rfl
  | true => rcases fitB_iff.1 e k hk with h | h
            · exact absurd h h1
            · exact absurd h h2

set_option maxHeartbeats 1000000 in
theorem fits_any (vx vk : Value) (xs kn : List Int) (w : World) (hx : IsI w vx xs) (hk : IsI w vk kn) (hl : kn.length = xs.length) (hlo : ∀ i, i < kn.length → -1 ≤ gi kn i) :
    Calls Tryz.prog 161 #[vx, vk] w fun e w' => e = .returned (.bool (fitB xs kn kn.length)) ∧ w = w' := by
  obtain ⟨ax, n, cx, rfl, HN, hn⟩ := hx.shape
  obtain ⟨ak, l, ck, rfl, HL, _⟩ := hk.shape
  obtain rfl : l = n := by rw [HL.out, HN.out]; exact hl
  have HX := Lib.hid hx
  have HK := Lib.hid hk
  have HLO := Lib.hid hlo
  clear hx hk hl hlo
  go_enter Tryz.func161, Tryz.ntmps161
  go_wp2_with fail
  go_loop [9] (fun i => ∃ k : Nat, i = .int .i64 k ∧ k ≤ l ∧ Hid (fitB xs kn k = true)) (fun i => l - (intOf i).toNat)
  case atStart => exact ⟨0, rfl, Nat.zero_le _, rfl⟩
  case round =>
    obtain ⟨k, rfl, hk, HF⟩ := hrel
    by_cases hkl : k < l
    · obtain ⟨bk, ok, rfl, c1⟩ := HK.out.at hkl
      obtain ⟨bx, ox, rfl, c2⟩ := HX.out.at hkl
      have hlow := HLO.out k (by rw [← HL.out]; exact hkl)
      obtain ⟨x, hx⟩ : ∃ x, x = gi kn k := ⟨_, rfl⟩
      obtain ⟨y, hy⟩ : ∃ y, y = gi xs k := ⟨_, rfl⟩
      rw [← hx] at c1 hlow
      rw [← hy] at c2
      have HXY := Lib.hid (And.intro hx hy)
      have hst : fitB xs kn (k + 1) = (fitB xs kn k && (decide (x < 0) || decide (x = y))) := by rw [fitB, ← hx, ← hy]
      have HST := Lib.hid hst
      clear hx hy hst
      by_cases hx1 : x = -1
      · have hb : (x != -1) = false := by simp; exact hx1
        have HS2 := Lib.hid (show fitB xs kn (k + 1) = true by rw [HST.out, HF.out, hx1]; rfl)
        clear HST hx1
        go_wp2_with fail
        go_round
        case rel => exact ⟨k + 1, by go_num, by omega, HS2⟩
        case measure => simp [intOf]; omega
      · have hb : (x != -1) = true := by simp; exact hx1
        by_cases hxy : x = y
        · subst hxy
          have HS2 := Lib.hid (show fitB xs kn (k + 1) = true by rw [HST.out, HF.out]; simp)
          clear HST
          go_wp2_with fail
          go_round
          case rel => exact ⟨k + 1, by go_num, by omega, HS2⟩
          case measure => simp [intOf]; omega
        · have hb2 : (x != y) = true := by simp; exact hxy
          have HS2 := Lib.hid (show fitB xs kn kn.length = false from fitB_no (k := k) (by rw [← HL.out]; exact hkl) (by rw [← HXY.out.1]; omega) (by rw [← HXY.out.1, ← HXY.out.2]; exact hxy))
          clear HST
          go_wp2_with fail
          go_ret
          exact ⟨ret_bool HS2.out.symm, rfl⟩
    · obtain rfl : k = l := by omega
      go_wp2_with fail
      go_ret
      exact ⟨ret_bool (by rw [← HL.out]; exact HF.out.symm), rfl⟩

set_option maxRecDepth 100000 in
set_option maxHeartbeats 8000000 in
theorem implMends_any (p : Int) (v vk : Value) (rows : List (List Int)) (kn : List Int) (w : World) (hr : IsR w v rows) (hk : IsI w vk kn) :
    Calls Tryz.prog 130 #[.agg #[.int .i64 p, v], vk] w fun e w' =>
      (LostC p rows kn → MendsQ p.toNat (gr rows 0).length rows kn w e w') ∧ (¬ LostC p rows kn → e = .returned (.tuple #[.int .i64 (-1), .slice none 0 0]) ∧ New w w') := by
  obtain ⟨ao, m, cap, rfl, HN, hm⟩ := hr.shape
  obtain ⟨ak, l, ck, rfl, HL, hl⟩ := hk.shape
  have HR := Lib.hid hr
  have HK := Lib.hid hk
  clear hr hk
  have h0 : New w (w.alloc (.cells #[.int .i64 p, .slice ao m cap] 24)) := New.alloc _ _
  have b0 := Blk2.alloc w (.int .i64 p) (.slice ao m cap) 24
  have hs0 : (w.alloc (.cells #[.int .i64 p, .slice ao m cap] 24)).heap.size = w.heap.size + 1 := World.size_alloc _ _
  have k1 := Blk1.alloc (w.alloc (.cells #[.int .i64 p, .slice ao m cap] 24)) (.slice ak l ck) 53
  rw [hs0] at k1
  have h1 := h0.trans (New.alloc _ (.cells #[.slice ak l ck] 53))
  have b1 := b0.new (New.alloc _ (.cells #[.slice ak l ck] 53))
  refine (callsIn_wide (n := 9)).1 ?_
  refine callsIn_of_wp_marks Tryz.func130 rfl trivial ?_ rfl
  simp only [Tryz.ntmps130, List.size_toArray, List.length_cons, List.length_nil, Nat.reduceAdd, Nat.reduceSub, Array.replicate_succ, Array.replicate_zero, List.push_toArray, List.append_toArray, List.nil_append, List.cons_append]
  refine wpIn_wide.2 ?_
  go_wp2_with fail
  refine (known_any _ _ rows _ (HR.out.new h1)).mono ?_
  rintro e w2 ⟨⟨b, rfl, hb⟩, hn2⟩
  have HZ := Lib.hid (show w.heap.size + 2 ≤ w2.heap.size from Nat.le_trans (by simp) hn2.size)
  have H2 := Lib.hid (And.intro (h1.trans hn2) (And.intro (b1.new hn2) (And.intro (k1.new hn2) hb)))
  clear hb hn2 h0 b0 hs0 k1 h1 b1
  have hnf : New w2 (w2.alloc (.cells #[.int .i64 p] 64)) := New.alloc _ _
  have hbf := Blk1.alloc w2 (.int .i64 p) 64
  have b3 := H2.out.2.1.new hnf
  have k3 := H2.out.2.2.1.new hnf
  obtain ⟨e0, e1, _, _⟩ := b3.cells
  obtain ⟨e2, _⟩ := k3.cells
  have H3 := Lib.hid (And.intro (H2.out.1.trans hnf) (And.intro b3 (And.intro k3 hbf)))
  clear hbf hnf b3 k3
  cases b with
  | false =>
    have hno : ¬ LostC p rows kn := fun h => by have := H2.out.2.2.2.2 h.1; cases this
    have HNO := Lib.hid hno
    clear hno
    go_wp2_with fail
    refine ⟨_, results_tmp2 rfl _ _ _, ?_⟩
    exact ⟨fun h => absurd h HNO.out, fun _ => ⟨rfl, H3.out.1⟩⟩
  | true =>
    have hv := H2.out.2.2.2.1 rfl
    have hp := hv.prime
    have hf := hv.few
    obtain ⟨q, rfl, hq⟩ := prime_nat (vtB_pr hv.1)
    haveI := hq.nz
    obtain ⟨n, hnn⟩ : ∃ n, n = (gr rows 0).length := ⟨_, rfl⟩
    have ht := vtB_ok hv.1
    rw [← hnn] at ht hf
    have hm4 : m ≤ 4 := by rw [HN.out]; omega
    have hm1 : 0 < m := by rw [HN.out]; omega
    have hq2 : 2 ≤ q ∧ q ≤ 7 := by omega
    have hn7 := ht.n7
    have hn1 := ht.n1
    have HV := Lib.hid (And.intro hv (And.intro ht hnn))
    clear hv hp hf hq ht hnn
    go_wp2_with fail
    refine (wordOk_any q _ _ rows kn _ (HR.out.new H3.out.1) (by rw [← HN.out]; exact hm1) (HK.out.new H3.out.1) (by omega)).mono ?_
    rintro e w4 ⟨rfl, hn4⟩
    rw [← HV.out.2.2]
    have H4 := Lib.hid (And.intro (H3.out.1.trans hn4) (And.intro (H3.out.2.1.new hn4) (And.intro (H3.out.2.2.1.new hn4) (H3.out.2.2.2.new hn4))))
    have HZ4 := Lib.hid (show w2.heap.size + 1 ≤ w4.heap.size from Nat.le_trans (by simp) hn4.size)
    clear hn4 H3 e0 e1 e2
    cases hlb : lostB q kn n with
    | false =>
      have hno : ¬ LostC q rows kn := fun h => by
        have := lostB_iff.2 ⟨h.2.2, h.2.1⟩
        rw [← HV.out.2.2, hlb] at this; cases this
      have HNO := Lib.hid hno
      clear hno hlb
      go_wp2_with fail
      refine ⟨_, results_tmp2 rfl _ _ _, ?_⟩
      exact ⟨fun h => absurd h HNO.out, fun _ => ⟨rfl, H4.out.1⟩⟩
    | true =>
      have hlk := lostB_iff.1 hlb
      have hln : l = n := by rw [HL.out]; exact hlk.2
      subst hln
      have HLC := Lib.hid (show LostC q rows kn from ⟨HV.out.1, by rw [hlk.2]; exact HV.out.2.2, hlk.1⟩)
      have HLO := Lib.hid hlk.1
      have HKL := Lib.hid hlk.2
      clear hlb hlk
      have hal := New.alloc w4 (.cells #[.int .i64 0] 3)
      have hmn := Blk1.alloc w4 (.int .i64 0) 3
      have hs5 : (w4.alloc (.cells #[.int .i64 0] 3)).heap.size = w4.heap.size + 1 := World.size_alloc _ _
      have hls := Blk1.alloc (w4.alloc (.cells #[.int .i64 0] 3)) (.slice none 0 0) 53
      rw [hs5] at hls
      have hal2 := hal.trans (New.alloc _ (.cells #[.slice none 0 0] 53))
      have hmn2 := hmn.new (New.alloc _ (.cells #[.slice none 0 0] 53))
      have hs6 : ((w4.alloc (.cells #[.int .i64 0] 3)).alloc (.cells #[.slice none 0 0] 53)).heap.size = w4.heap.size + 2 := by rw [World.size_alloc, hs5]
      have b5 := H4.out.2.1.new hal2
      have k5 := H4.out.2.2.1.new hal2
      have f5 := H4.out.2.2.2.new hal2
      obtain ⟨e0, e1, _, _⟩ := b5.cells
      obtain ⟨e2, _⟩ := f5.cells
      have H5 := Lib.hid (And.intro (H4.out.1.trans hal2) (And.intro b5 (And.intro k5 (And.intro f5 (And.intro hmn2 hls)))))
      clear hal hmn hls hal2 hmn2 b5 k5 f5 hs5
      go_wp2_with fail
      refine (messages_any q m _).mono ?_
      rintro e w6 ⟨rfl, hbm, hbp, hs7, hn6⟩
      rw [hs6] at hbm hbp hs7 ⊢
      have H6 := Lib.hid (And.intro (And.intro hbm hbp) (And.intro (H5.out.1.trans hn6) (And.intro (H5.out.2.1.new hn6) (And.intro (H5.out.2.2.1.new hn6) (And.intro (H5.out.2.2.2.1.new hn6) (And.intro (H5.out.2.2.2.2.1.new hn6) (H5.out.2.2.2.2.2.new hn6)))))))
      have HS := Lib.hid (And.intro HZ.out (And.intro HZ4.out hs7))
      clear hbm hbp hs7 hn6 e0 e1 e2 H2 H4 H5 hs6
      go_wp2_with fail
      refine (wpIn_wide (n := 9)).1 ?_
      refine wpIn_rangeM (F := Fence.wide) (n := 9) rfl (by omega) (gf := 183) (lb := #[.pointer (some ⟨w4.heap.size + 2 + 1, 0, none⟩), .pointer (some ⟨w4.heap.size + 2, 0, none⟩)]) rfl trivial (enters_of Tryz.func183 (by kernel_rfl) rfl)
        (msgs_seq q m (w4.heap.size + 2 + 1) (w4.heap.size + 2) 8 w6 hq2 ⟨hm1, by omega⟩ H6.out.1.1 H6.out.1.2 (by omega)) (Chg.refl _ _) rfl
        (fun b hb => by have := HS.out; omega) (fun t X Y h he => h.same (fun g hg => by simp [Value.ownBlock] at hg; subst hg; exact he))
        (fun t W => Blk2 W w.heap.size (.int .i64 q) (.slice ao m cap) 24 ∧ Blk1 W (w.heap.size + 1) (.slice ak l ck) 53 ∧ Blk1 W w2.heap.size (.int .i64 q) 64 ∧ Blk1 W w4.heap.size (.int .i64 (cntF q l rows kn t)) 3 ∧
          (∃ u, Blk1 W (w4.heap.size + 1) u 53 ∧ (1 ≤ cntF q l rows kn t → ∃ s, s < q ^ m ∧ fitB (wordT q l rows s) kn l = true ∧ Own W 3 u ((msg q m s).map (Value.int .i64))) ∧ (∀ g, u.ownBlock = some g → w6.heap.size + 2 < g)) ∧ New w W)
        (fun t X Y h hc => ⟨h.1.chg hc (by have := HS.out; omega), h.2.1.chg hc (by have := HS.out; omega), h.2.2.1.chg hc (by have := HS.out; omega), h.2.2.2.1.chg hc (by have := HS.out; omega), (by
          obtain ⟨u, u1, u2, u3⟩ := h.2.2.2.2.1
          refine ⟨u, u1.chg hc (by have := HS.out; omega), fun hh => ?_, u3⟩
          obtain ⟨s, s1, s2, s3⟩ := u2 hh
          exact ⟨s, s1, s2, s3.chg hc (fun g hg => by have := u3 g hg; omega)⟩), h.2.2.2.2.2.then hc (fun i hi => by have := HS.out; omega)⟩)
        ⟨H6.out.2.2.1, H6.out.2.2.2.1, H6.out.2.2.2.2.1, H6.out.2.2.2.2.2.1, ⟨_, H6.out.2.2.2.2.2.2, fun hh => by simp [cntF] at hh, fun g hg => by simp [Value.ownBlock] at hg⟩, H6.out.2.1⟩
        { tmps := #[.agg #[.int .i64 q, .slice ao m cap], .slice ak l ck, .pointer (some ⟨w.heap.size, 0, none⟩), .pointer (some ⟨w.heap.size + 1, 0, none⟩), .int .i64 0, .slice none 0 0, .pointer (some ⟨w2.heap.size, 0, none⟩), .bool true, .pointer (some ⟨w4.heap.size, 0, none⟩), .pointer (some ⟨w4.heap.size + 1, 0, none⟩), (.slice (some ⟨w6.heap.size + 2, 0, none⟩) m m), .tuple #[.int .i64 q, .bool true], .agg #[.int .i64 q, .slice ao m cap], .tuple #[.int .i64 q, .bool true], .int .i64 q, .bool true, .bool true, .bool false, .bool false, .agg #[.int .i64 q, .slice ao m cap], .int .i64 q, .slice ak l ck, .bool true, .bool false, .bool false, .int .i64 q, .pointer (some ⟨w.heap.size, 1, none⟩), .slice ao m cap, .int .i64 m, .func (.func 183) #[] #[.pointer (some ⟨w4.heap.size + 2 + 1, 0, none⟩), .pointer (some ⟨w4.heap.size + 2, 0, none⟩)], (.slice (some ⟨w6.heap.size + 2, 0, none⟩) m m), undef, undef, undef, undef, undef, undef, undef, undef, undef, undef, undef, undef, undef], defers := [] } ?assign ?body ?done
      case assign =>
        intro l W C hC
        gi_wp2
        exact hC
      case body =>
        intro lp t W ht hI hsz hR
        have HI := Lib.hid hI
        have HRR := Lib.hid hR
        obtain ⟨e0, e1, _, _⟩ := hI.1.cells
        obtain ⟨e3, _⟩ := hI.2.1.cells
        obtain ⟨e2, _⟩ := hI.2.2.1.cells
        clear hI hR
        have hmg := msg_good (q := q) (k := m) (t := t) (by omega)
        have HMG := Lib.hid hmg
        have hct := cntF_le q l rows kn t
        have htT : t ≤ 2401 := by have := pow_all (q := q) (k := m) hq2.2 hm4; omega
        obtain ⟨c, hc⟩ : ∃ c, c = cntF q l rows kn t := ⟨_, rfl⟩
        have hc2401 : c ≤ 2401 := by omega
        have HC := Lib.hid hc
        clear hmg hct hc
        gi_wp2
        refine wpIn_region_held_round (S := fun w'' => New W w'') (by kernel_rfl) (by kernel_rfl) (by rintro ⟨a, w, h⟩; exact h) (New.drew _) (fun hHeld => ?_)
        refine held_take 0 (some 31) rfl rfl (by kernel_rfl) (by kernel_rfl) (by kernel_rfl) (fun _ _ _ h => h) rfl hHeld (v := .int .i64 q) (fun w' hS => by have cS := hS.cellNew e2; go_simp; try with_reducible rfl) ?_
        simp only [Act.put, List.setIfInBounds_toArray, List.set_cons_zero, List.set_cons_succ]
        refine held_take 1 (some 32) rfl rfl (by kernel_rfl) (by kernel_rfl) (by kernel_rfl) (fun _ _ _ h => h) rfl hHeld (v := ?_) (fun w' hS => by skip; go_simp; try with_reducible rfl) ?_
        simp only [Act.put, List.setIfInBounds_toArray, List.set_cons_zero, List.set_cons_succ]
        refine held_take 2 (some 33) rfl rfl (by kernel_rfl) (by kernel_rfl) (by kernel_rfl) (fun _ _ _ h => h) rfl hHeld (v := .slice ao m cap) (fun w' hS => by have cS := hS.cellNew e1; go_simp; try with_reducible rfl) ?_
        simp only [Act.put, List.setIfInBounds_toArray, List.set_cons_zero, List.set_cons_succ]
        refine held_take 3 (some 34) rfl rfl (by kernel_rfl) (by kernel_rfl) (by kernel_rfl) (fun _ _ _ h => h) rfl hHeld (v := ?_) (fun w' hS => by skip; go_simp; try with_reducible rfl) ?_
        simp only [Act.put, List.setIfInBounds_toArray, List.set_cons_zero, List.set_cons_succ]
        refine held_take 5 (some 36) rfl rfl (by kernel_rfl) (by kernel_rfl) (by kernel_rfl) (fun _ _ _ h => h) rfl hHeld (v := .slice ak l ck) (fun w' hS => by have cS := hS.cellNew e3; go_simp; try with_reducible rfl) ?_
        simp only [Act.put, List.setIfInBounds_toArray, List.set_cons_zero, List.set_cons_succ]
        refine held_only 4 (by kernel_rfl) rfl rfl (fun K hK => ?_)
        go_simp
        refine (encode_any q l _ _ rows (msg q m t) _ (by omega) (by omega) (HR.out.new (HI.out.2.2.2.2.2.trans (New.drew _))) ((HRR.out.isI (by rw [msg_length]; unfold Mid; omega)).new (New.drew _)) (fun i hi => ⟨(HV.out.2.1.good i hi).1, fun j hj => by have := (HV.out.2.1.good i hi).2 j hj; omega⟩) (by rw [← HN.out]; exact hm1) (by rw [HMG.out.1, HN.out]; exact Nat.le_refl _) (fun i hi => by rw [HMG.out.1] at hi; have := HMG.out.2 i hi; omega)).mono ?_
        rintro e W2 ⟨u, rfl, ho, hf, hn2⟩
        rw [HMG.out.1] at ho
        have hwt : (wordT q l rows t) = encZ q l rows (msg q m t) m := by unfold wordT; rw [← HN.out]
        rw [← hwt] at ho
        have hie := ho.isI (by rw [wordT_length]; unfold Mid; omega)
        have HIE := Lib.hid hie
        refine hK.out _ _ (hHeld.trans hn2) (fun hHeld2 => ?_)
        clear hK K hn2 hHeld ho hf hie hwt
        refine held_only 6 (by kernel_rfl) rfl rfl (fun K hK => ?_)
        go_simp
        refine (fits_any _ _ (wordT q l rows t) kn _ HIE.out (HK.out.new (HI.out.2.2.2.2.2.trans hHeld2)) (by rw [wordT_length]; exact HKL.out) (fun i hi => (HLO.out i hi).1)).mono ?_
        rintro e W3 ⟨rfl, rfl⟩
        rw [HKL.out]
        refine hK.out _ _ hHeld2 (fun hHeld3 => ?_)
        clear hK K hHeld3
        refine wpAnyH_done (by kernel_rfl) ?_ _
        have HH := Lib.hid hHeld2
        have hsz2 := hHeld2.size
        obtain ⟨d8, g8⟩ := (HI.out.2.2.2.1.new hHeld2).cells
        rw [← HC.out] at d8
        have hstep : cntF q l rows kn (t + 1) = if fitB (wordT q l rows t) kn l = true then c + 1 else c := by rw [cntF, ← HC.out]
        have HST := Lib.hid hstep
        clear hstep hHeld2 e0 e1 e2 e3
        cases hfit : fitB (wordT q l rows t) kn l with
        | false =>
          rw [hfit] at HST
          have HE := Lib.hid (show cntF q l rows kn (t + 1) = c by rw [HST.out]; rfl)
          clear hfit HST
          gi_wp2
          have hD := HRR.out.lt (g := w6.heap.size + 2) rfl
          have hS := HS.out
          obtain ⟨u', u1, u2, u3⟩ := HI.out.2.2.2.2.1
          refine ⟨⟨HI.out.1.new HH.out, HI.out.2.1.new HH.out, HI.out.2.2.1.new HH.out, by rw [HE.out, HC.out]; exact HI.out.2.2.2.1.new HH.out, ⟨u', u1.new HH.out, fun hh => ?_, u3⟩, HI.out.2.2.2.2.2.trans HH.out⟩, hsz2, fun b hb => HH.out.block b (by omega) (fun x => x)⟩
          obtain ⟨s, s1, s2, s3⟩ := u2 (by rw [← HC.out, ← HE.out]; exact hh)
          exact ⟨s, s1, s2, s3.new HH.out⟩
        | true =>
          have HFIT := Lib.hid hfit
          rw [hfit] at HST
          have HE := Lib.hid (show cntF q l rows kn (t + 1) = c + 1 by rw [HST.out]; rfl)
          clear hfit HST
          gi_wp2
          have hS := HS.out
          have hch : Chg (· = w4.heap.size) W (W2.setCell ⟨w4.heap.size, 0, none⟩ (.int .i64 ((c : Int) + 1))) := Chg.trans HH.out (Chg.setCell _ _ _) (fun _ _ x => x.elim) (fun _ _ x => x)
          have hmsg := (HRR.out.isI (by rw [msg_length]; unfold Mid; omega)).chg hch (fun g hg => by simp [Value.ownBlock] at hg; omega)
          refine ⟨trivial, (CallsIn.inRound lp (callsIn_wide.2 (clone_any _ (msg q m t) _ hmsg))).mono ?_⟩
          rintro e W4 ⟨u, rfl, ho, hf, hn4⟩
          obtain ⟨au, lu, cu, rfl, _, _, _⟩ := ho.opened (by rw [List.length_map, msg_length]; unfold Mid; omega)
          obtain ⟨u', u1, -, -⟩ := HI.out.2.2.2.2.1
          obtain ⟨d9, g9⟩ := ((u1.chg hch (by omega)).new hn4).cells
          have H4 := Lib.hid (And.intro ho (And.intro hf hn4))
          have HCH := Lib.hid hch
          have HU1 := Lib.hid u1
          clear ho hf hn4 hch hmsg u1 hS
          gi_wp2
          have hD := HRR.out.lt (g := w6.heap.size + 2) rfl
          have hS := HS.out
          have hsW := HCH.out.size
          have hst := Chg.setCell W4 ⟨w4.heap.size + 1, 0, none⟩ (.slice au lu cu)
          have hall : Chg (fun k => k = w4.heap.size ∨ k = w4.heap.size + 1) W (W4.setCell ⟨w4.heap.size + 1, 0, none⟩ (.slice au lu cu)) :=
            Chg.trans (Chg.trans HCH.out H4.out.2.2 (fun _ _ x => x) (fun _ _ x => x.elim)) hst (fun _ _ x => .inl x) (fun _ _ x => .inr x)
          refine ⟨⟨HI.out.1.chg hall (by omega), HI.out.2.1.chg hall (by omega), HI.out.2.2.1.chg hall (by omega), ?_, ⟨.slice au lu cu, ((HU1.out.chg HCH.out (by omega)).new H4.out.2.2).put _, fun _ => ⟨t, ht, HFIT.out, H4.out.1.chg hst (fun g hg => by have := H4.out.2.1 g hg; simp only; omega)⟩, fun g hg => by have := H4.out.2.1 g hg; omega⟩, HI.out.2.2.2.2.2.then hall (fun i hi => by omega)⟩, hall.size, fun b hb => hall.block b (by omega) (by omega)⟩
          rw [HE.out]
          exact ((((HI.out.2.2.2.1.new HH.out).put (.int .i64 ((c : Int) + 1))).new H4.out.2.2).chg hst (by simp only; omega))
      case done =>
        intro W hI hK
        obtain ⟨u, u1, u2, u3⟩ := hI.2.2.2.2.1
        obtain ⟨c, hc⟩ : ∃ c, c = cntF q l rows kn (q ^ m) := ⟨_, rfl⟩
        have h4 := hI.2.2.2.1
        rw [← hc] at h4 u2
        have HI := Lib.hid (And.intro hI.2.2.2.2.2 (And.intro u2 (And.intro u3 hc)))
        obtain ⟨e0, _⟩ := h4.cells
        obtain ⟨e1, _⟩ := u1.cells
        clear hI u1 u2 u3 hc h4
        dsimp only
        go_wp2_with fail
        go_quiet (fail)
        go_wp2_with fail
        have hS := HS.out
        have hfin : New w ((W.drewN nq).putObj w6.heap.size (.deferred none)) := (HI.out.1.trans (New.drewN _ _)).then (chg_putObj _ _ _) (fun i hi => by omega)
        have hG : MendsQ q (gr rows 0).length rows kn w (.returned (.tuple #[.int .i64 c, u])) ((W.drewN nq).putObj w6.heap.size (.deferred none)) := by
          have hcc : cntF q (gr rows 0).length rows kn (q ^ rows.length) = c := by rw [← HV.out.2.2, ← HN.out]; exact HI.out.2.2.2.symm
          refine ⟨u, by rw [hcc], fun h => ?_, hfin⟩
          rw [hcc] at h
          obtain ⟨s, s1, s2, s3⟩ := HI.out.2.1 h
          exact ⟨s, by rw [← HN.out]; exact s1, by rw [← HV.out.2.2]; exact s2, by rw [← HN.out]; exact (s3.new (New.drewN _ _)).chg (chg_putObj _ _ _) (fun g hg => by have := HI.out.2.2.1 g hg; omega), fun g hg => by have := HI.out.2.2.1 g hg; omega⟩
        refine ⟨by simp, .inl ⟨_, _, rfl, run_takeDeferred hK, ?_⟩⟩
        refine ⟨_, results_tmp2 rfl _ _ _, ?_⟩
        exact ⟨fun _ => by rw [Int.toNat_natCast]; exact hG, fun h => absurd HLC.out h⟩
end Go.Proofs.YtcdbeepphdfipaaGreatDoor
