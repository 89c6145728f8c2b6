/- QuotientsOf of the program. -/
import Derived.Lib.AppendZerosOnto
import Derived.Test.YtahgjfmdafhedaaQuoS
import Derived.Test.YtahgjfmdafhedaaPowI
import Derived.Test.YtahgjfmdafhedaaSchA
namespace Go.Proofs.Ytahgjfmdafhedaa
open Go.RowKit Mat
set_option linter.unusedVariables false

/-- It ends with an empty slice of its own. -/
def GrowsE (w : World) (e : Ending) (w' : World) : Prop := ∃ u, e = .returned u ∧ Own w' 3 u [] ∧ From w.heap.size u ∧ New w w'
set_option maxRecDepth 100000 in
set_option maxHeartbeats 2000000 in
theorem grow_nil (n : Nat) (w : World) (h1 : 1 ≤ n) (hn : n ≤ 1000) :
    Calls Try.prog 88 #[.slice none 0 0, .int .i64 n] w fun e w' => GrowsE w e w' := by
  obtain ⟨i0, ht, hi0, hz0, hs0, hby, hzc⟩ := tyInt
  have hold : (Builtin.firstCells i0.size 0 (.slice none 0 0)).run Try.prog w.drew = .ok #[] w.drew := by
    simp [Builtin.firstCells]
  have hb24 : i0.bytes ≤ 24 := hby
  have hrz : ∀ ty, (Builtin.append_ #[23, 3] ty #[.slice none 0 0, .int .i64 n]).run Try.prog w = _ := fun ty =>
    Lib.run_append_grow_zeros (P := Try.prog) w 23 3 ty 3 i0 (.int .i64 0) .i64 .i64 ht Try.underlying3 hi0 hz0 none 0 0 [] hold n (by omega) (by omega) (by omega) (by omega)
      (by have : n * i0.bytes ≤ 1000 * 24 := Nat.mul_le_mul hn hb24
          omega)
      (growslice_fits (by omega) (by have : (0 + n) * i0.bytes ≤ 1000 * 24 := Nat.mul_le_mul (by omega) hb24
                                     omega))
  obtain ⟨G, hG⟩ : ∃ G, G = grownCap w (0 + n) 0 3 := ⟨_, rfl⟩
  rw [← hG] at hrz
  have hGn : 0 + n ≤ G := by rw [hG]; exact grownCap_ge w _ _ _
  have hGm : G ≤ maxLen := by rw [hG]; exact grownCap_le_maxLen w (0 + n) 0 3 (by unfold maxLen; omega)
  have hG63 : G ≤ 9223372036854775807 := by unfold maxLen at hGm; omega
  have HG := Lib.hid (And.intro hGn hGm)
  have h4 : ((n : Int) > 0) := by omega
  clear hold hby ht hi0 hz0 hs0 hzc hb24 hG hGm
  go_enter Try.func88, Try.ntmps88
  go_wp2_with (at_builtin; refine Lib.wpList_append_run _ rfl _ _ _ _ rfl _ _ rfl rfl _ _ (hrz _) ?_)
  all_goals
    go_ret
    refine ⟨_, rfl, .inr ⟨w.heap.size, G, _, rfl, heap_alloc_new w _, Nat.zero_le _, HG.out.2, ?_, by simp⟩, fun g hg => by simp [Value.ownBlock] at hg; omega, (New.alloc w _).trans (New.drew _)⟩
    have := HG.out.1
    simp [Builtin.zeroCells]
    omega

/-- How many numbers the first rows have. -/
def flatN (rows : List (List Int)) (k : Nat) : Nat := ((rows.take k).flatten).length
theorem flat_succ {rows : List (List Int)} {k : Nat} (hk : k < rows.length) : (rows.take (k + 1)).flatten = (rows.take k).flatten ++ gr rows k := by
  rw [List.take_succ_eq_append_getElem hk, List.flatten_append]
  congr 1
  simp [gr, hk]
theorem flatN_succ {rows : List (List Int)} {k : Nat} (hk : k < rows.length) : flatN rows (k + 1) = flatN rows k + (gr rows k).length := by
  unfold flatN; rw [flat_succ hk, List.length_append]
theorem flatN_le (rows : List (List Int)) : ∀ {k m : Nat}, k ≤ m → m ≤ rows.length → flatN rows k ≤ flatN rows m
  | k, 0, h, _ => by obtain rfl : k = 0 := by omega
                     exact Nat.le_refl _
  | k, m + 1, h, hm => by
    by_cases e : k = m + 1
    · rw [e]; exact Nat.le_refl _
    · have := flatN_le rows (k := k) (m := m) (by omega) (by omega)
      rw [flatN_succ (by omega)]; omega
set_option maxRecDepth 100000 in
set_option maxHeartbeats 2000000 in
theorem concat_any (v : Value) (rows : List (List Int)) (w : World) (hr : IsR w v rows) (h1 : 1 ≤ rows.flatten.length) (h9 : rows.flatten.length ≤ 1000) :
    Calls Try.prog 51 #[v] w fun e w' => ∃ u, e = .returned u ∧ Own w' 3 u ((rows.flatten).map (Value.int .i64)) ∧ From w.heap.size u ∧ New w w' := by
  obtain ⟨ao, n, cap, rfl, HN, hn⟩ := hr.shape
  have htot : flatN rows n = rows.flatten.length := by unfold flatN; rw [HN.out, List.take_length]
  have HR := Lib.hid (And.intro hr (And.intro h1 (And.intro h9 htot)))
  have hbd : ∀ k, k ≤ n → flatN rows k ≤ 1000 := fun k hk => by
    have := flatN_le rows hk (by rw [HN.out]; exact Nat.le_refl _)
    omega
  have HBD := Lib.hid hbd
  clear hr h1 h9 htot hbd
  go_enter Try.func51, Try.ntmps51
  go_wp2_with fail
  go_loop [3, 11] (fun t3 t11 => ∃ k : Nat, t11 = .int .i64 k ∧ t3 = .int .i64 (flatN rows k) ∧ k ≤ n) (fun _ t11 => n - (intOf t11).toNat)
  case atStart => exact ⟨0, rfl, rfl, Nat.zero_le _⟩
  case round =>
    obtain ⟨k, rfl, rfl, hk⟩ := hrel
    have hb1 := HBD.out k hk
    by_cases hkn : k < n
    · obtain ⟨b, o, u, rfl, ck, hu⟩ := HR.out.1.at hkn
      obtain ⟨au, nu, cu, rfl, HNU, hnu⟩ := hu.shape
      have hs := flatN_succ (rows := rows) (k := k) (by rw [← HN.out]; exact hkn)
      rw [← HNU.out] at hs
      have hb2 := HBD.out (k + 1) hkn
      obtain ⟨x, hx⟩ : ∃ x, x = flatN rows k := ⟨_, rfl⟩
      rw [← hx] at hb1 hs ⊢
      have hxn : x + nu ≤ 1000 := by omega
      have HS := Lib.hid hs
      clear hu hs hb2 hx
      go_wp2_with fail
      go_round
      case rel => exact ⟨k + 1, by go_num, by rw [HS.out]; go_num, by omega⟩
      case measure => simp [intOf]; omega
    · obtain rfl : k = n := by omega
      have htot := HR.out.2.2.2
      obtain ⟨x, hx⟩ : ∃ x, x = flatN rows k := ⟨_, rfl⟩
      rw [← hx] at hb1 htot ⊢
      have hx1 : 1 ≤ x := by have := HR.out.2.1; omega
      have HXT := Lib.hid htot
      clear hx htot
      go_wp2_with fail
      refine (grow_nil x _ hx1 hb1).mono ?_
      rintro e w1 ⟨u1, rfl, ho1, hf1, hn1⟩
      have H1 := Lib.hid (And.intro ho1 (And.intro hf1 hn1))
      clear ho1 hf1 hn1
      go_wp2_with fail
      go_loopw [6, 27] (fun t6 t27 wr => ∃ j : Nat, t27 = .int .i64 j ∧ j ≤ k ∧ Hid (Own wr 3 t6 (((rows.take j).flatten).map (Value.int .i64)) ∧ From w.heap.size t6 ∧ New w wr)) (fun _ t27 _ => k - (intOf t27).toNat)
      case atStart => exact ⟨0, rfl, Nat.zero_le _, H1.out⟩
      case round =>
        obtain ⟨j, rfl, hj, HD⟩ := hrel
        obtain ⟨wz, hwz⟩ : ∃ wz : World, wz = wr := ⟨_, rfl⟩
        rw [← hwz] at HD
        rw [← hwz]
        clear hwz
        have hbj := HBD.out j hj
        obtain ⟨a2, l2, c2, rfl, _, _, _⟩ := HD.out.1.opened (by rw [List.length_map]; unfold flatN at hbj; unfold Mid; omega)
        by_cases hjk : j < k
        · obtain ⟨b, o, u, rfl, ck, hu⟩ := (HR.out.1.new HD.out.2.2).at hjk
          obtain ⟨au, nu, cu, rfl, HNU, hnu⟩ := hu.shape
          have HSR := Lib.hid hu.src
          have hjr : j < rows.length := by rw [← HN.out]; exact hjk
          have hb2 := HBD.out (j + 1) hjk
          have hs := flatN_succ hjr
          have hlen : (((rows.take j).flatten).map (Value.int .i64)).length + nu ≤ 1099511627776 := by rw [List.length_map]; unfold flatN at hs hbj hb2; rw [← HNU.out] at hs; omega
          have HFS := Lib.hid (flat_succ hjr)
          clear hu hs hb2 hbj
          go_wp2_with (at_builtin; refine wpList_app rfl _ _ _ rfl tyInt HD.out.1 rfl au nu cu ((gr rows j).map (Value.int .i64)) rfl HSR.out.1 HSR.out.2.1 HSR.out.2.2.1 HSR.out.2.2.2 hlen ?_; intro v3 w3 k1 k2 k3; have K3 := Lib.hid (And.intro k1 (And.intro k2 k3)); clear k1 k2 k3)
          go_roundw
          case rel => exact ⟨j + 1, by go_num, by omega, by rw [HFS.out, List.map_append]; exact K3.out.1, (fun g hg => by
            rcases K3.out.2.2 g hg with h | h
            · exact HD.out.2.1 g h
            · exact Nat.le_trans HD.out.2.2.size h), HD.out.2.2.then K3.out.2.1 (fun i hi => HD.out.2.1 i hi)⟩
          case measure => simp [intOf]; omega
        · obtain rfl : j = k := by omega
          clear hbj
          go_wp2_with fail
          go_ret
          have h8 := HD.out
          rw [show rows.take j = rows by rw [HN.out, List.take_length]] at h8
          exact ⟨_, rfl, h8⟩

theorem IsR.lit2 (w : World) (u v : Value) (xs ys : List Int) (hx : IsI w u xs) (hy : IsI w v ys) : IsR (w.alloc (.cells #[u, v] 23)) (.slice (some ⟨w.heap.size, 0, none⟩) 2 2) [xs, ys] :=
  (ShR.mk (vs := [u, v]) (.inr ⟨w.heap.size, 2, #[u, v], rfl, heap_alloc_new w _, by simp, by simp [maxLen], by simp, rfl⟩) rfl (fun i hi => by
    have h2 : i = 0 ∨ i = 1 := by simp at hi; omega
    rcases h2 with rfl | rfl
    · exact hx.new (New.alloc _ _)
    · exact hy.new (New.alloc _ _))).isR (by unfold Mid; simp)

set_option maxRecDepth 100000 in
set_option maxHeartbeats 4000000 in
theorem implQuotientsOf_any (p : Int) (v u : Value) (xs ys : List Int) (w : World) (hx : IsI w v xs) (hy : IsI w u ys) :
    Calls Try.prog 15 #[.int .i64 p, v, u] w fun e w' => GivesCB w e w' (QuoQ p xs ys) := by
  obtain ⟨ao, n, cap, rfl, HN0, hn⟩ := hx.shape
  obtain ⟨bo, m, cup, rfl, HM0, hm⟩ := hy.shape
  have HX := Lib.hid hx
  have HYY := Lib.hid hy
  clear hx hy
  have r0 := Blk2.alloc w (.int .i64 0) (.slice none 0 0) 28
  have n0 := New.alloc w (.cells #[.int .i64 0, .slice none 0 0] 28)
  obtain ⟨w0, hw0⟩ : ∃ w0, w0 = w.alloc (.cells #[.int .i64 0, .slice none 0 0] 28) := ⟨_, rfl⟩
  rw [← hw0] at r0 n0
  have HW0 := Lib.hid hw0
  clear hw0
  have fin : ∀ wq : World, New w wq → Blk2 wq w.heap.size (.int .i64 0) (.slice none 0 0) 28 → ¬ QuoOk p xs ys → GivesCB w (.returned (.tuple #[.agg #[.int .i64 0, .slice none 0 0], .bool false])) ((wq.setCell ⟨w.heap.size, 0, none⟩ (.int .i64 0)).setCell ⟨w.heap.size, 1, none⟩ (.slice none 0 0)) (QuoQ p xs ys) := fun wq h1 h2 h3 =>
    ⟨.slice none 0 0, [], [], 0, false, rfl, ⟨Own.nil _ _, rfl, fun i hi => by simp at hi, fun i j hi => by simp at hi⟩, ⟨fun g hg => by simp [Value.ownBlock] at hg, fun i hi => by simp at hi⟩, ⟨(fun h => by cases h), fun _ => ⟨h3, rfl, rfl⟩⟩, h1.then (h2.put _ _).2.2 (fun i hi => by omega)⟩
  have FIN := Lib.hid fin
  clear fin
  go_enter Try.func15, Try.ntmps15
  go_upto_region 1 with fail
  rw [← HW0.out]
  go_wp2_with fail
  refine (fieldOf_any p _).mono ?_
  rintro e w1 ⟨rfl, hn1⟩
  have r1 := r0.new hn1
  have n1 := n0.trans hn1
  have hlt0 : w.heap.size < w1.heap.size := Blk2.lt r1
  have H1 := Lib.hid (And.intro n1 r1)
  obtain ⟨d0, d1, f0, f1⟩ := r1.cells
  clear r0 n0 hn1 r1 n1
  cases hp : prB p with
  | false =>
    have HP := Lib.hid hp
    clear hp
    go_wp2_with fail
    obtain ⟨x0, x1, hx⟩ := H1.out.2.put (.int .i64 0) (.slice none 0 0)
    refine bodyPost_ret (v := .tuple #[.agg #[.int .i64 0, .slice none 0 0], .bool false]) (by simp [results, go_sem, x0, x1]) rfl ?_
    exact FIN.out _ H1.out.1 H1.out.2 (fun h => by have := h.1; rw [HP.out] at this; cases this)
  | true =>
    have hpb := prB_bounds hp
    have HP := Lib.hid hp
    clear hp
    cases hi1 : inB n 1 4 with
    | false =>
      have HI1 := Lib.hid hi1
      clear hi1
      go_wp2_with (first | (go_at_call 37; refine (within_any _ _ _ _).mono ?_; rintro e w' ⟨rfl, rfl⟩; rw [HI1.out]))
      obtain ⟨x0, x1, hx⟩ := H1.out.2.put (.int .i64 0) (.slice none 0 0)
      refine bodyPost_ret (v := .tuple #[.agg #[.int .i64 0, .slice none 0 0], .bool false]) (by simp [results, go_sem, x0, x1]) rfl ?_
      exact FIN.out _ H1.out.1 H1.out.2 (fun h => by have h2 := h.2.1; rw [← HN0.out] at h2; have := inB_iff.2 (show (1 : Int) ≤ n ∧ (n : Int) ≤ 4 by omega); rw [HI1.out] at this; cases this)
    | true =>
      have hk := inB_iff.1 hi1
      have HI1 := Lib.hid hi1
      clear hi1
      by_cases hm1 : m < 1
      · have hm0 : m = 0 := by omega
        subst hm0
        go_wp2_with (first | (go_at_call 37; refine (within_any _ _ _ _).mono ?_; rintro e w' ⟨rfl, rfl⟩; rw [HI1.out]))
        obtain ⟨x0, x1, hx⟩ := H1.out.2.put (.int .i64 0) (.slice none 0 0)
        refine bodyPost_ret (v := .tuple #[.agg #[.int .i64 0, .slice none 0 0], .bool false]) (by simp [results, go_sem, x0, x1]) rfl ?_
        exact FIN.out _ H1.out.1 H1.out.2 (fun h => by have h2 := h.2.2.1; rw [← HM0.out] at h2; omega)
      · have hm1' : 1 ≤ m := by omega
        by_cases hm7 : 7 < n + m
        · have hI7 : (7 : Int) < (n : Int) + (m : Int) := by omega
          go_wp2_with (first | (go_at_call 37; refine (within_any _ _ _ _).mono ?_; rintro e w' ⟨rfl, rfl⟩; rw [HI1.out]))
          obtain ⟨x0, x1, hx⟩ := H1.out.2.put (.int .i64 0) (.slice none 0 0)
          refine bodyPost_ret (v := .tuple #[.agg #[.int .i64 0, .slice none 0 0], .bool false]) (by simp [results, go_sem, x0, x1]) rfl ?_
          exact FIN.out _ H1.out.1 H1.out.2 (fun h => by have h2 := h.2.2.1; rw [← HM0.out, ← HN0.out] at h2; omega)
        · have hI7 : (n : Int) + (m : Int) ≤ 7 := by omega
          have hN7 : n + m ≤ 7 := by omega
          clear hm1 hm7
          have hlx : ([xs, ys] : List (List Int)).flatten.length = n + m := by simp [← HN0.out, ← HM0.out]
          have HLX := Lib.hid hlx
          clear hlx
          go_wp2_with (first | (go_at_call 37; refine (within_any _ _ _ _).mono ?_; rintro e w' ⟨rfl, rfl⟩; rw [HI1.out]))
          refine (concat_any _ [xs, ys] _ (IsR.lit2 w1 _ _ xs ys (HX.out.new H1.out.1) (HYY.out.new H1.out.1)) (by rw [HLX.out]; omega) (by rw [HLX.out]; omega)).mono ?_
          rintro e w2 ⟨u2, rfl, ho2, hf2, hn2⟩
          rw [show ([xs, ys] : List (List Int)).flatten = xs ++ ys by simp] at ho2
          obtain ⟨a2, l2, c2, rfl, _, _, _⟩ := ho2.opened (by rw [List.length_map, List.length_append, ← HN0.out, ← HM0.out]; unfold Mid; omega)
          have hn12 : New w1 w2 := (New.alloc w1 _).trans hn2
          have H2 := Lib.hid (And.intro (H1.out.1.trans hn12) (And.intro (H1.out.2.new hn12) (ho2.isI (by rw [List.length_append, ← HN0.out, ← HM0.out]; unfold Mid; omega))))
          have hlt2 : w.heap.size < w2.heap.size := Nat.lt_of_lt_of_le hlt0 hn12.size
          clear ho2 hf2 hn2 hn12
          go_wp2_with fail
          refine (implDifferent_any p _ (xs ++ ys) _ H2.out.2.2 (by omega)).mono ?_
          rintro e w3 ⟨b, rfl, hb, hn3⟩
          have H3 := Lib.hid (And.intro (H2.out.1.trans hn3) (H2.out.2.1.new hn3))
          have hlt3 : w.heap.size < w3.heap.size := Nat.lt_of_lt_of_le hlt2 hn3.size
          obtain ⟨d0, d1, f0, f1⟩ := H3.out.2.cells
          clear hn3
          cases b with
          | false =>
            have HNO : Hid (¬ DiffP p (xs ++ ys)) := fun h => by have := hb.2 h; cases this
            clear hb
            go_wp2_with fail
            obtain ⟨x0, x1, hx⟩ := H3.out.2.put (.int .i64 0) (.slice none 0 0)
            refine bodyPost_ret (v := .tuple #[.agg #[.int .i64 0, .slice none 0 0], .bool false]) (by simp [results, go_sem, x0, x1]) rfl ?_
            exact FIN.out _ H3.out.1 H3.out.2 (fun h => HNO.out h.2.2.2)
          | true =>
            have HDP := Lib.hid (hb.1 rfl)
            clear hb
            go_wp2_with (at_make; refine wpList_mk rfl _ _ _ rfl tyRow _ _ _ _ 0 n rfl rfl rfl rfl (Nat.zero_le _) (by omega) ?_; intro v4 w4 hv4 ho4 hn4 hs4; subst hv4; have H4 := Lib.hid (And.intro ho4 (And.intro hn4 hs4)); clear ho4 hn4 hs4)
            clear d0 d1 f0 f1
            go_loopw [10, 57] (fun t10 t57 wr => ∃ (i : Nat) (vs : List Value), t57 = .int .i64 i ∧ i ≤ n ∧ Hid (OwnR wr 23 3 t10 vs (quoR p xs ys i) ∧ FromR w3.heap.size t10 vs (quoR p xs ys i)) ∧ Hid (New w wr ∧ w3.heap.size ≤ wr.heap.size ∧ Blk2 wr w.heap.size (.int .i64 0) (.slice none 0 0) 28)) (fun _ t57 _ => n - (intOf t57).toNat)
            case atStart => exact ⟨0, [], rfl, Nat.zero_le _, ⟨⟨H4.out.1, rfl, fun i hi => by simp [quoR] at hi, fun i j hi => by simp [quoR] at hi⟩, ⟨From.new _ _ _, fun i hi => by simp [quoR] at hi⟩⟩, H3.out.1.trans H4.out.2.1, H4.out.2.1.size, H3.out.2.new H4.out.2.1⟩
            case round =>
              obtain ⟨i, vs, rfl, hi, HO, HN⟩ := hrel
              obtain ⟨wz, hwz⟩ : ∃ wz : World, wz = wr := ⟨_, rfl⟩
              rw [← hwz] at HO HN
              rw [← hwz]
              clear hwz
              have hvl : vs.length = i := by rw [HO.out.1.len, quoR_length]
              obtain ⟨a5, l5, c5, rfl, _, _, _⟩ := HO.out.1.outer.opened (by rw [hvl]; unfold Mid; omega)
              have HVL := Lib.hid hvl
              clear hvl
              by_cases hin : i < n
              · obtain ⟨b, o, rfl, ck⟩ := (HX.out.new HN.out.1).at hin
                obtain ⟨X, hX⟩ : ∃ X, X = gi xs i := ⟨_, rfl⟩
                rw [← hX] at ck
                have hbx := HDP.out.1 i (by rw [List.length_append, ← HN0.out]; omega)
                rw [gi_app, if_pos (by rw [← HN0.out]; exact hin), ← hX] at hbx
                have HXE := Lib.hid hX
                clear hX
                go_wp2_with (at_make; refine wpList_mk rfl _ _ _ rfl tyInt _ _ _ _ n (n + m) rfl rfl rfl (by push_cast; rfl) (by omega) (by omega) ?_; intro v5 w5 hv5 ho5 hn5 hs5; subst hv5; obtain ⟨u0, u1⟩ := ho5.cell (i := i) (by rw [List.length_replicate]; exact hin); have H5 := Lib.hid (And.intro ho5 (And.intro hn5 hs5)); clear ho5 hn5 hs5)
                clear ck
                go_loopw [13, 75] (fun t13 t75 wr => ∃ (j : Nat), t75 = .int .i64 j ∧ j ≤ m ∧ Hid (Own wr 3 t13 ((quoT p xs ys i j).map (Value.int .i64)) ∧ From wz.heap.size t13 ∧ New wz wr)) (fun _ t75 _ => m - (intOf t75).toNat)
                case atStart =>
                  have hst := H5.out.1.set i (.int .i64 1)
                  rw [show List.replicate n (Value.int .i64 0) = (List.replicate n (0 : Int)).map (Value.int .i64) by simp, set_map_int, HN0.out, quoT_zero (by rw [← HN0.out]; exact hin), ← HN0.out] at hst
                  exact ⟨0, rfl, Nat.zero_le _, hst, fun g hg => by simp [Value.ownBlock] at hg; omega, H5.out.2.1.then (Chg.setCell _ _ _) (fun k hk => Nat.le_of_eq hk.symm)⟩
                case round =>
                  obtain ⟨j, rfl, hj, HQ⟩ := hrel
                  clear u0 u1
                  obtain ⟨wy, hwy⟩ : ∃ wy : World, wy = wr := ⟨_, rfl⟩
                  rw [← hwy] at HQ
                  rw [← hwy]
                  clear hwy
                  have hql : ((quoT p xs ys i j).map (Value.int .i64)).length + 1 ≤ 1099511627776 := by rw [List.length_map, quoT_length, ← HN0.out]; omega
                  obtain ⟨a6, l6, c6, rfl, _, _, _⟩ := HQ.out.1.opened (by rw [List.length_map, quoT_length, ← HN0.out]; unfold Mid; omega)
                  by_cases hjm : j < m
                  · obtain ⟨b1, o1, rfl, cj⟩ := (HYY.out.new (HN.out.1.trans HQ.out.2.2)).at hjm
                    obtain ⟨Y, hY⟩ : ∃ Y, Y = gi ys j := ⟨_, rfl⟩
                    rw [← hY] at cj
                    have hby := HDP.out.1 (xs.length + j) (by rw [List.length_append, ← HM0.out]; omega)
                    rw [gi_app, if_neg (by omega), Nat.add_sub_cancel_left, ← hY] at hby
                    have hne : X ≠ Y := by
                      have h9 := HDP.out.2 i (xs.length + j) (by have := HN0.out; omega) (by rw [List.length_append, ← HM0.out]; omega)
                      rw [gi_app, gi_app, if_pos (by rw [← HN0.out]; exact hin), if_neg (by omega), Nat.add_sub_cancel_left, ← HXE.out, ← hY] at h9
                      exact h9
                    have hinv := quo_rest HP.out hbx hby hne
                    rw [hinv.2] at hinv
                    have hm2 := Int.emod_lt_of_pos (X - Y) (show 0 < p by omega)
                    obtain ⟨r, hr⟩ : ∃ r, r = (X - Y) % p := ⟨_, rfl⟩
                    rw [← hr] at hinv hm2
                    obtain ⟨y, hy⟩ : ∃ y, y = invZ p r := ⟨_, rfl⟩
                    have HINV := Lib.hid (And.intro hinv.1 (And.intro hm2 (And.intro hr (And.intro hy hY))))
                    clear hinv hm2 hr hy hY hne
                    go_wp2_with (first
                      | (go_at_call 41; refine (rest_any _ _ _ (by omega) (by omega)).mono ?_; rintro e w' ⟨rfl, rfl⟩; rw [← HINV.out.2.2.1])
                      | (go_at_call 52; refine (inverse_any p r _ HP.out HINV.out.1 HINV.out.2.1).mono ?_; rintro e w' ⟨rfl, rfl⟩; rw [← HINV.out.2.2.2.1])
                      | (at_builtin; refine wpList_app1 rfl _ _ _ rfl tyInt wy HQ.out.1 rfl _ _ rfl rfl rfl hql ?_; intro v7 w7 k1 k2 k3; have K7 := Lib.hid (And.intro k1 (And.intro k2 k3)); clear k1 k2 k3))
                    obtain ⟨m1, m2, m3⟩ := grow0 HQ.out.2.1 HQ.out.2.2 K7.out.1 K7.out.2.1 K7.out.2.2
                    go_roundw
                    case rel => exact ⟨j + 1, by go_num, by omega, by rw [quoT_succ, ← HXE.out, ← HINV.out.2.2.2.2, ← HINV.out.2.2.1, ← HINV.out.2.2.2.1]; exact m1, m2, m3⟩
                    case measure => simp [intOf]; omega
                  · obtain rfl : j = m := by omega
                    go_wp2_with (at_builtin; refine wpList_app1 rfl _ _ _ rfl tyRow wy (HO.out.1.outer.new HQ.out.2.2) rfl _ _ rfl rfl rfl (by rw [HVL.out]; omega) ?_; intro v7 w7 k1 k2 k3; have K7 := Lib.hid (And.intro k1 (And.intro k2 k3)); clear k1 k2 k3)
                    obtain ⟨m1, m2, m3⟩ := OwnR.push HO.out.1 HO.out.2 HN.out.2.1 HQ.out.2.2 HQ.out.1 HQ.out.2.1 K7.out.1 K7.out.2.1 K7.out.2.2
                    go_roundw
                    case rel => exact ⟨i + 1, vs ++ [Value.slice a6 l6 c6], by go_num, by omega, by rw [quoR, ← quoT_all, ← HM0.out]; exact ⟨m1, m2⟩, HN.out.1.then m3 (fun g hg => by have := HO.out.2.1 g hg; omega), Nat.le_trans HN.out.2.1 m3.size, HN.out.2.2.chg m3 (fun e => by have := HO.out.2.1 _ e; omega)⟩
                    case measure => simp [intOf]; omega
              · obtain rfl : i = n := by omega
                obtain ⟨d0, d1, f0, f1⟩ := HN.out.2.2.cells
                go_wp2_with fail
                obtain ⟨x0, x1, hx⟩ := HN.out.2.2.put (.int .i64 p) (.slice a5 l5 c5)
                refine bodyPost_ret (v := .tuple #[.agg #[.int .i64 p, .slice a5 l5 c5], .bool true]) (by simp [results, go_sem, x0, x1]) rfl ?_
                exact ⟨.slice a5 l5 c5, vs, quoR p xs ys i, p, true, rfl, HO.out.1.chg hx (own_ne_blk2 HO.out.1.outer HN.out.2.2 (by decide)) (fun t ht => own_ne_blk2 (HO.out.1.inner t ht) HN.out.2.2 (by decide)), ⟨HO.out.2.1.mono (by omega), fun t ht => (HO.out.2.2 t ht).mono (by omega)⟩, ⟨fun _ => ⟨⟨HP.out, by rw [← HN0.out]; omega, by rw [← HN0.out, ← HM0.out]; omega, HDP.out⟩, rfl, by rw [HN0.out]⟩, fun h => by cases h⟩, HN.out.1.then hx (fun i hi => by omega)⟩
end Go.Proofs.Ytahgjfmdafhedaa
