/- impl.PossibleOf: how many lists with each secret have the shares of a group. -/
import Derived.Deep.CutBlock
import Derived.Deep.DeepCutAuto
import Derived.Test.YtahgjfmdafhedaaSecr
import Derived.Test.YtahgjfmdafhedaaRang
import Derived.Test.YtahgjfmdafhedaaWtsI
namespace Go.Proofs.Ytahgjfmdafhedaa
open Go.RowKit Mat
set_option linter.unusedVariables false
attribute [local go_sem] Oper.semAt_some

/-- Only the plain end goes on. -/
def onlyN (K : Act → World → Prop) : Exit → Act → World → Prop
  | .normal, a, w => K a w
  | _, _, _ => False
theorem onlyN_mk {K : Act → World → Prop} {a : Act} {w : World} (h : K a w) : onlyN K .normal a w := h
theorem wp_only {P : Program} {c : Code} {K : Act → World → Prop} {Q : Exit → Act → World → Prop} {a : Act} {w : World} (h : c.wp P (onlyN K) a w) : c.wp P (Exit.then K Q) a w :=
  Code.wp_mono (fun e a w h => by cases e <;> first | exact h | exact h.elim) h

theorem sum36 {n : Nat} (h : n ≤ 8) {xs ys : List Int} (hx : ∀ i, i < n → 0 ≤ gi xs i ∧ gi xs i ≤ 6) (hy : ∀ i, i < n → 0 ≤ gi ys i ∧ gi ys i ≤ 6) : ∀ k, k ≤ n → 0 ≤ sumZ (fun i => gi xs i * gi ys i) k ∧ sumZ (fun i => gi xs i * gi ys i) k ≤ 36 * k
  | 0, _ => by simp [sumZ]
  | k + 1, hk => by
    have ih := sum36 h hx hy k (by omega)
    have h1 := hx k (by omega)
    have h2 := hy k (by omega)
    have h3 : 0 ≤ gi xs k * gi ys k := Int.mul_nonneg h1.1 h2.1
    have h4 : gi xs k * gi ys k ≤ 36 := Int.mul_le_mul (show gi xs k ≤ 6 by omega) (show gi ys k ≤ 6 by omega) h2.1 (by omega)
    rw [sumZ]
    push_cast
    omega

set_option maxHeartbeats 1000000 in
theorem share_any (q n : Nat) (va vb : Value) (xs ys : List Int) (w : World) (hx : IsI w va xs) (hy : IsI w vb ys) (gx : GoodRow q n xs) (gy : GoodRow q n ys) (hq : 2 ≤ q ∧ q ≤ 7) (hn : n ≤ 8) :
    Calls Try.prog 69 #[.int .i64 q, va, vb] w fun e w' => e = .returned (.int .i64 (dotTo q xs ys n)) ∧ w = w' := by
  obtain ⟨a1, n1, c1, rfl, H1, b1⟩ := hx.shape
  obtain ⟨a2, n2, c2, rfl, H2, b2⟩ := hy.shape
  have e1 : n1 = n := by rw [H1.out, gx.1]
  have e2 : n2 = n := by rw [H2.out, gy.1]
  subst e1 e2
  have hS := fun k (hk : k ≤ n2) => sum36 (n := n2) (by omega) (xs := xs) (ys := ys) (fun i hi => by have := gx.2 i hi; omega) (fun i hi => by have := gy.2 i hi; omega) k hk
  have HX := Lib.hid hx
  have HY := Lib.hid hy
  have HG := Lib.hid (And.intro gx gy)
  have HSS := Lib.hid hS
  clear hx hy gx gy hS
  go_enter Try.func69, Try.ntmps69
  go_wp2_with fail
  go_loop [7, 12] (fun t7 t12 => ∃ (k : Nat) (s : Int), t7 = .int .i64 s ∧ t12 = .int .i64 k ∧ k ≤ n2 ∧ Hid (s = sumZ (fun i => gi xs i * gi ys i) k)) (fun _ t12 => n2 - (intOf t12).toNat)
  case atStart => exact ⟨0, 0, rfl, rfl, Nat.zero_le _, rfl⟩
  case round =>
    obtain ⟨k, s, rfl, rfl, hk, HD⟩ := hrel
    have hsr := HSS.out k hk
    rw [← HD.out] at hsr
    by_cases hkn : k < n2
    · have hx := HG.out.1.2 k hkn
      have hy := HG.out.2.2 k hkn
      obtain ⟨bx, ox, rfl, cx⟩ := HX.out.at hkn
      obtain ⟨by', oy, rfl, cy⟩ := HY.out.at hkn
      have hr2 := HSS.out (k + 1) hkn
      have hstep : sumZ (fun i => gi xs i * gi ys i) (k + 1) = s + gi xs k * gi ys k := by rw [sumZ, ← HD.out]
      obtain ⟨x, hxe⟩ : ∃ x, gi xs k = x := ⟨_, rfl⟩
      obtain ⟨y, hye⟩ : ∃ y, gi ys k = y := ⟨_, rfl⟩
      rw [hxe] at hx cx hstep
      rw [hye] at hy cy hstep
      have hx6 : x ≤ 6 := by omega
      have hy6 : y ≤ 6 := by omega
      have hxy0 : 0 ≤ x * y := Int.mul_nonneg hx.1 hy.1
      have hxy : x * y ≤ 36 := Int.mul_le_mul hx6 hy6 hy.1 (by omega)
      have hw1 : IntKind.i64.wrap (x * y) = x * y := IntWalk.i64_in _ (by omega)
      have hw2 : IntKind.i64.wrap (s + x * y) = s + x * y := IntWalk.i64_in _ (by omega)
      have HS := Lib.hid hstep
      clear hxe hye hstep hr2
      go_wp2_with fail
      go_round
      case rel => exact ⟨k + 1, s + x * y, by first | rfl | go_num, by go_num, by omega, HS.out.symm⟩
      case measure => simp [intOf]; omega
    · obtain rfl : k = n2 := by omega
      go_wp2_with (go_at_call 41; refine (rest_any _ _ _ (by omega) (by omega)).mono ?_; rintro e w' ⟨rfl, rfl⟩)
      go_ret
      exact ⟨ret_int (by rw [HD.out, dotTo_sum]), rfl⟩

/-- How PossibleOf ends. -/
def PosR (q n : Nat) (rows : List (List Int)) (own sh : List Int) (s : Nat) (w : World) (e : Ending) (w' : World) : Prop :=
  ∃ u ys, e = .returned u ∧ IsI w' u ys ∧ (4 < n → ys = []) ∧ (n ≤ 4 → ys = posTo q n rows own sh s (q ^ n)) ∧ New w w'
set_option maxRecDepth 100000 in
set_option maxHeartbeats 8000000 in
theorem possible_any (q : Nat) [NeZero q] (v o vs : Value) (s : Nat) (rows : List (List Int)) (own sh : List Int) (w : World) (hr : IsR w v rows) (ho : IsI w o own) (hs : IsI w vs sh) (ha : AskedS q rows own sh s) :
    Calls Try.prog 21 #[.agg #[.int .i64 q, v, o], vs, .int .i64 s] w fun e w' => PosR q (gr rows 0).length rows own sh s w e w' := by
  obtain ⟨ao, n, cap, rfl, HN, hn⟩ := hr.shape
  obtain ⟨ay, m, cay, rfl, HM, hm⟩ := ho.shape
  obtain ⟨ash, k, csh, rfl, HK, hk⟩ := hs.shape
  have hto := vtB_ok ha.1.1
  have hn6 : n ≤ 6 := by rw [HN.out]; exact hto.r6
  have hn1 : 0 < n := by rw [HN.out]; exact hto.r1
  have hq27 : 2 ≤ q ∧ q ≤ 7 := hto.pr.pos
  obtain ⟨b0, o0, u0, rfl, ck0, hu0⟩ := hr.at hn1
  rw [Nat.add_zero] at ck0
  obtain ⟨a0, n0, cc0, rfl, HN0, hn0⟩ := hu0.shape
  have h17 : 1 ≤ n0 ∧ n0 ≤ 7 := by rw [HN0.out]; exact ⟨hto.n1, hto.n7⟩
  rw [← HN0.out]
  have hs32 : s < 32 := by have := ha.2.2.2; omega
  have hkn : k = n := by rw [HK.out, HN.out]; exact ha.2.1
  have hmn : m = n := by rw [HM.out, HN.out]; exact ha.1.2.1
  -- the three boxes
  have nA := New.alloc w (.cells #[.int .i64 q, .slice (some ⟨b0, o0, none⟩) n cap, .slice ay m cay] 38)
  have bA := Blk3.alloc w (.int .i64 q) (.slice (some ⟨b0, o0, none⟩) n cap) (.slice ay m cay) 38
  have sA : (w.alloc (.cells #[.int .i64 q, .slice (some ⟨b0, o0, none⟩) n cap, .slice ay m cay] 38)).heap.size = w.heap.size + 1 := World.size_alloc _ _
  obtain ⟨wA, hwA⟩ : ∃ wA, wA = w.alloc (.cells #[.int .i64 q, .slice (some ⟨b0, o0, none⟩) n cap, .slice ay m cay] 38) := ⟨_, rfl⟩
  rw [← hwA] at nA bA sA
  have nB := New.alloc wA (.cells #[.slice ash k csh] 23)
  have bB := Blk1.alloc wA (.slice ash k csh) 23
  have sB : (wA.alloc (.cells #[.slice ash k csh] 23)).heap.size = w.heap.size + 2 := by rw [World.size_alloc, sA]
  rw [sA] at bB
  obtain ⟨wB, hwB⟩ : ∃ wB, wB = wA.alloc (.cells #[.slice ash k csh] 23) := ⟨_, rfl⟩
  rw [← hwB] at nB bB sB
  have nC := New.alloc wB (.cells #[.int .i64 s] 3)
  have bC := Blk1.alloc wB (.int .i64 s) 3
  have sC : (wB.alloc (.cells #[.int .i64 s] 3)).heap.size = w.heap.size + 3 := by rw [World.size_alloc, sB]
  rw [sB] at bC
  obtain ⟨wC, hwC⟩ : ∃ wC, wC = wB.alloc (.cells #[.int .i64 s] 3) := ⟨_, rfl⟩
  rw [← hwC] at nC bC sC
  have H1 := Lib.hid (And.intro ((nA.trans nB).trans nC) (And.intro ((bA.new nB).new nC) (And.intro (bB.new nC) (And.intro bC sC))))
  have HW := Lib.hid (And.intro hwA (And.intro hwB hwC))
  have HR := Lib.hid hr
  have HO := Lib.hid ho
  have HSH := Lib.hid hs
  have HA := Lib.hid ha
  have HT := Lib.hid hto
  have HU0 := Lib.hid hu0
  have CK0 := Lib.hid ck0
  have HE := Lib.hid (And.intro hkn hmn)
  obtain ⟨c0, c1, c2, _, _, _⟩ := ((bA.new nB).new nC).cells
  obtain ⟨d0, _⟩ := (bB.new nC).cells
  obtain ⟨d1, _⟩ := bC.cells
  have hlt0 : w.heap.size < wC.heap.size := by omega
  clear hr ho hs ha hto hu0 ck0 hkn hmn nA nB nC bA bB bC sA sB sC hwA hwB hwC
  refine (callsIn_wide (n := 9)).1 ?_
  refine callsIn_of_wp_marks Try.func21 rfl trivial ?_ rfl
  simp only [Try.ntmps21, List.size_toArray, List.length_cons, List.length_nil, Nat.reduceAdd, Nat.reduceSub, Array.replicate_succ, Array.replicate_zero, List.push_toArray, List.append_toArray, List.nil_append, List.cons_append]
  refine wpIn_wide.2 ?_
  go_upto_region 1 with fail
  rw [← HW.out.1, ← HW.out.2.1, ← HW.out.2.2]
  go_wp2_with fail
  refine (asked_any q _ _ _ s rows own sh _ (HR.out.new H1.out.1) (HO.out.new H1.out.1) (HSH.out.new H1.out.1)).mono ?_
  rintro e w2 ⟨⟨b, rfl, hb⟩, hn2⟩
  obtain rfl : b = true := hb.2 HA.out
  clear hb
  have hsz2 := hn2.size
  have nF := New.alloc w2 (.cells #[.int .i64 q] 55)
  have bF := Blk1.alloc w2 (.int .i64 q) 55
  have sF : (w2.alloc (.cells #[.int .i64 q] 55)).heap.size = w2.heap.size + 1 := World.size_alloc _ _
  have H3 := Lib.hid (And.intro (H1.out.1.trans (hn2.trans nF)) (And.intro (H1.out.2.1.new (hn2.trans nF)) (And.intro (H1.out.2.2.1.new (hn2.trans nF)) (And.intro (H1.out.2.2.2.1.new (hn2.trans nF)) (And.intro bF (And.intro sF (show w.heap.size + 3 ≤ w2.heap.size by have := H1.out.2.2.2.2; omega)))))))
  obtain ⟨c0, c1, c2, _, _, _⟩ := H3.out.2.1.cells
  obtain ⟨d0, _⟩ := H3.out.2.2.1.cells
  obtain ⟨d1, _⟩ := H3.out.2.2.2.1.cells
  obtain ⟨d2, _⟩ := bF.cells
  have ck := H3.out.1.cellNew CK0.out
  have hlt2 : w.heap.size < w2.heap.size := by omega
  clear hn2 hsz2 nF bF sF
  obtain ⟨wF, hwF⟩ : ∃ wF, wF = w2.alloc (.cells #[.int .i64 q] 55) := ⟨_, rfl⟩
  rw [← hwF] at H3 c0 c1 c2 d0 d1 d2 ck
  have hltF : w2.heap.size < wF.heap.size := by rw [hwF, World.size_alloc]; omega
  have HWF := Lib.hid hwF
  clear hwF
  go_upto_region 2 with fail
  rw [← HWF.out]
  by_cases hn4 : 4 < n0
  · go_wp2_with fail
    have hG : PosR q n0 rows own sh s w (.returned (.slice none 0 0)) wF := ⟨_, [], rfl, (Own.nil _ 3).isI (by unfold Mid; simp), fun _ => rfl, fun h => by omega, H3.out.1⟩
    refine ⟨_, results_tmp rfl _ _ _, ?_⟩
    exact hG
  · have hd4 : decide ((4 : Int) < (n0 : Int)) = false := by simp; omega
    go_wp2_with (at_make; refine wpList_mk rfl _ _ _ rfl tyInt _ _ _ _ q q rfl rfl rfl rfl (Nat.le_refl _) (by omega) ?_; intro v5 w5 hv5 ho5 hn5 hs5; subst hv5; have H4 := Lib.hid (And.intro ho5 (And.intro hn5 hs5)); clear ho5 hn5 hs5)
    have nG := New.alloc w5 (.cells #[.slice (some ⟨wF.heap.size, 0, none⟩) q q] 23)
    have bG := Blk1.alloc w5 (.slice (some ⟨wF.heap.size, 0, none⟩) q q) 23
    have sG : (w5.alloc (.cells #[.slice (some ⟨wF.heap.size, 0, none⟩) q q] 23)).heap.size = w5.heap.size + 1 := World.size_alloc _ _
    obtain ⟨wG, hwG⟩ : ∃ wG, wG = w5.alloc (.cells #[.slice (some ⟨wF.heap.size, 0, none⟩) q q] 23) := ⟨_, rfl⟩
    rw [← hwG] at nG bG sG
    rw [← hwG]
    have nFG := H4.out.2.1.trans nG
    have H5 := Lib.hid (And.intro (H3.out.1.trans nFG) (And.intro (H3.out.2.1.new nFG) (And.intro (H3.out.2.2.1.new nFG) (And.intro (H3.out.2.2.2.1.new nFG) (And.intro (H3.out.2.2.2.2.1.new nFG) (And.intro bG (H4.out.1.new nG)))))))
    have CK := Lib.hid (H3.out.1.trans nFG |>.cellNew CK0.out)
    have HS0 := Lib.hid (And.intro H3.out.2.2.2.2.2.2 (And.intro H3.out.2.2.2.2.2.1 (And.intro H4.out.2.2 sG)))
    clear nG bG sG hwG nFG c0 c1 c2 d0 d1 d2 ck hltF
    refine wp_only ?_
    refine wp_region_held_drew (S := fun w' => New wG w') (by kernel_rfl) (New.drew _) (fun hY => ?_)
    refine held_take 0 (some 33) rfl rfl (by kernel_rfl) (by kernel_rfl) (by kernel_rfl) (fun _ _ _ h => h) rfl hY (v := .int .i64 q) (fun w' hS => by obtain ⟨c0, c1, c2, _, _, _⟩ := (H5.out.2.1.new hS).cells; obtain ⟨d0, _⟩ := (H5.out.2.2.2.2.1.new hS).cells; have ck1 := hS.cellNew CK.out; go_simp; try with_reducible rfl) ?_
    simp only [Act.put, List.setIfInBounds_toArray, List.set_cons_zero, List.set_cons_succ]
    refine held_take 1 (some 34) rfl rfl (by kernel_rfl) (by kernel_rfl) (by kernel_rfl) (fun _ _ _ h => h) rfl hY (v := ?_) (fun w' hS => by skip; go_simp; try with_reducible rfl) ?_
    simp only [Act.put, List.setIfInBounds_toArray, List.set_cons_zero, List.set_cons_succ]
    refine held_take 2 (some 35) rfl rfl (by kernel_rfl) (by kernel_rfl) (by kernel_rfl) (fun _ _ _ h => h) rfl hY (v := .slice (some ⟨b0, o0, none⟩) n cap) (fun w' hS => by obtain ⟨c0, c1, c2, _, _, _⟩ := (H5.out.2.1.new hS).cells; obtain ⟨d0, _⟩ := (H5.out.2.2.2.2.1.new hS).cells; have ck1 := hS.cellNew CK.out; go_simp; try with_reducible rfl) ?_
    simp only [Act.put, List.setIfInBounds_toArray, List.set_cons_zero, List.set_cons_succ]
    refine held_take 3 (some 36) rfl rfl (by kernel_rfl) (by kernel_rfl) (by kernel_rfl) (fun _ _ _ h => h) rfl hY (v := ?_) (fun w' hS => by skip; go_simp; try with_reducible rfl) ?_
    simp only [Act.put, List.setIfInBounds_toArray, List.set_cons_zero, List.set_cons_succ]
    refine held_take 4 (some 37) rfl rfl (by kernel_rfl) (by kernel_rfl) (by kernel_rfl) (fun _ _ _ h => h) rfl hY (v := .slice a0 n0 cc0) (fun w' hS => by obtain ⟨c0, c1, c2, _, _, _⟩ := (H5.out.2.1.new hS).cells; obtain ⟨d0, _⟩ := (H5.out.2.2.2.2.1.new hS).cells; have ck1 := hS.cellNew CK.out; go_simp; try with_reducible rfl) ?_
    simp only [Act.put, List.setIfInBounds_toArray, List.set_cons_zero, List.set_cons_succ]
    refine held_take 5 (some 38) rfl rfl (by kernel_rfl) (by kernel_rfl) (by kernel_rfl) (fun _ _ _ h => h) rfl hY (v := ?_) (fun w' hS => by skip; go_simp; try with_reducible rfl) ?_
    simp only [Act.put, List.setIfInBounds_toArray, List.set_cons_zero, List.set_cons_succ]
    refine held_only 6 (by kernel_rfl) rfl rfl (fun K1 hK1 => ?_)
    go_simp
    refine (messages_any q n0 _).mono ?_
    rintro e w6 ⟨rfl, hbm, hbp, hs6, hn6⟩
    refine hK1.out _ _ (hY.trans hn6) (fun hY1 => ?_)
    clear hK1 K1
    refine wpAnyH_done (by kernel_rfl) ?_ _
    refine onlyN_mk ?_
    have hsG : wG.drew.heap.size = wG.heap.size := rfl
    rw [hsG] at hbm hbp hs6
    rw [hsG]
    have H6 := Lib.hid (And.intro (And.intro hbm hbp) (And.intro (H5.out.1.trans hY1) (And.intro (H5.out.2.1.new hY1) (And.intro (H5.out.2.2.1.new hY1) (And.intro (H5.out.2.2.2.1.new hY1) (And.intro (H5.out.2.2.2.2.1.new hY1) (And.intro (H5.out.2.2.2.2.2.1.new hY1) (H5.out.2.2.2.2.2.2.new hY1))))))))
    have HS := Lib.hid (And.intro HS0.out hs6)
    clear hbm hbp hs6 hn6 hY hY1 hsG
    go_wp2_with fail
    have hn4' : n0 ≤ 4 := by omega
    refine (wpIn_wide (n := 9)).1 ?_
    refine wpIn_rangeM (F := Fence.wide) (n := 9) rfl (by omega) (gf := 96) (lb := #[.pointer (some ⟨wG.heap.size + 1, 0, none⟩), .pointer (some ⟨wG.heap.size, 0, none⟩)]) rfl trivial (enters_of Try.func96 (by kernel_rfl) rfl)
      (msgs_seq q n0 (wG.heap.size + 1) (wG.heap.size) 8 w6 hq27 ⟨h17.1, by omega⟩ H6.out.1.1 H6.out.1.2 (by omega)) (Chg.refl _ _) rfl
      (fun b hb => by have := HS.out; omega) (fun t X Y h he => h.same (fun g hg => by simp [Value.ownBlock] at hg; subst hg; exact he))
      (fun t W => Blk3 W w.heap.size (.int .i64 q) (.slice (some ⟨b0, o0, none⟩) n cap) (.slice ay m cay) 38 ∧ Blk1 W (w.heap.size + 1) (.slice ash k csh) 23 ∧ Blk1 W (w.heap.size + 2) (.int .i64 s) 3 ∧ Blk1 W w2.heap.size (.int .i64 q) 55 ∧ Blk1 W w5.heap.size (.slice (some ⟨wF.heap.size, 0, none⟩) q q) 23 ∧ Own W 3 (.slice (some ⟨wF.heap.size, 0, none⟩) q q) ((posTo q n0 rows own sh s t).map (Value.int .i64)) ∧ New w W)
      (fun t X Y h hc => ⟨h.1.chg hc (by have := HS.out; omega), h.2.1.chg hc (by have := HS.out; omega), h.2.2.1.chg hc (by have := HS.out; omega), h.2.2.2.1.chg hc (by have := HS.out; omega), h.2.2.2.2.1.chg hc (by have := HS.out; omega), h.2.2.2.2.2.1.chg hc (fun g hg => by simp [Value.ownBlock] at hg; have := HS.out; omega), h.2.2.2.2.2.2.then hc (fun i hi => by have := HS.out; omega)⟩)
      ⟨H6.out.2.2.1, H6.out.2.2.2.1, H6.out.2.2.2.2.1, H6.out.2.2.2.2.2.1, H6.out.2.2.2.2.2.2.1, by rw [posTo, List.map_replicate]; exact H6.out.2.2.2.2.2.2.2, H6.out.2.1⟩
      { tmps := #[.agg #[.int .i64 q, .slice (some ⟨b0, o0, none⟩) n cap, .slice ay m cay], .slice ash k csh, .int .i64 s, .pointer (some ⟨w.heap.size, 0, none⟩), .pointer (some ⟨w.heap.size + 1, 0, none⟩), .pointer (some ⟨w.heap.size + 1 + 1, 0, none⟩), .slice none 0 0, .pointer (some ⟨w2.heap.size, 0, none⟩), .bool true, .pointer (some ⟨w5.heap.size, 0, none⟩), (.slice (some ⟨w6.heap.size + 2, 0, none⟩) n0 n0), undef, undef, undef, .tuple #[.int .i64 q, .bool true], .agg #[.int .i64 q, .slice (some ⟨b0, o0, none⟩) n cap, .slice ay m cay], .slice ash k csh, .int .i64 s, .tuple #[.int .i64 q, .bool true], .int .i64 q, .bool true, .bool true, .bool false, .bool false, .pointer (some ⟨w.heap.size, 1, none⟩), .slice (some ⟨b0, o0, none⟩) n cap, .pointer (some ⟨b0, o0, none⟩), .slice a0 n0 cc0, .int .i64 n0, .bool false, .bool false, .int .i64 q, .slice (some ⟨wF.heap.size, 0, none⟩) q q, .int .i64 q, .pointer (some ⟨w.heap.size, 1, none⟩), .slice (some ⟨b0, o0, none⟩) n cap, .pointer (some ⟨b0, o0, none⟩), .slice a0 n0 cc0, .int .i64 n0, .func (.func 96) #[] #[.pointer (some ⟨wG.heap.size + 1, 0, none⟩), .pointer (some ⟨wG.heap.size, 0, none⟩)], (.slice (some ⟨w6.heap.size + 2, 0, none⟩) n0 n0), undef, undef, undef, undef, undef, undef, undef, undef, undef, undef, undef, undef, undef, undef, undef, undef, undef, undef, undef, undef, undef, undef, undef, undef, undef, undef, undef, undef, undef, undef, undef, undef, undef, undef, undef], defers := [] } ?assign ?body ?done
    case assign =>
      intro l W C hC
      gi_wp2
      exact hC
    case body =>
      intro lp t W ht hI hsz hR
      have HI := Lib.hid hI
      have HRR := Lib.hid hR
      obtain ⟨e0, e1, e2, _, _, _⟩ := hI.1.cells
      obtain ⟨e3, _⟩ := hI.2.2.1.cells
      have hltW : w.heap.size < W.heap.size := by have := HS.out; omega
      clear hI hR
      have hmg := msg_good (q := q) (k := n0) (t := t) (by omega)
      have HMG := Lib.hid hmg
      clear hmg
      gi_wp2
      refine ⟨trivial, (CallsIn.inRound lp (callsIn_wide.2 (implOwned_any q _ _ rows own s W (HR.out.new HI.out.2.2.2.2.2.2) (HO.out.new HI.out.2.2.2.2.2.2) HA.out.1.2 HT.out.r6 hs32))).mono ?_⟩
      rintro e W2 ⟨ui, rfl, hoi, hfi, hn2⟩
      have hil := idxTo_le own s rows.length
      have hii := hoi.isI (by have := HT.out.r6; unfold Mid; omega)
      obtain ⟨ai, li, ci, rfl, HLI, _⟩ := hii.shape
      have hli6 : li ≤ 6 := by rw [HLI.out]; have := HT.out.r6; omega
      have HI2 := Lib.hid (And.intro hii hn2)
      clear hoi hfi hn2 hil hii e0 e1 e2 e3
      gi_wp2
      gi_loopw [11, 45] (fun t11 t45 wr => ∃ (j : Nat) (b : Bool), t11 = .bool b ∧ t45 = .int .i64 j ∧ j ≤ li ∧ Hid (b = fineB q n0 rows own sh s t j ∧ New W2 wr)) (fun _ t45 _ => li - (intOf t45).toNat)
      case atStart => exact ⟨0, true, rfl, rfl, Nat.zero_le _, rfl, Chg.refl _ _⟩
      case round =>
        obtain ⟨j, b, rfl, rfl, hj, HJ⟩ := hrel
        obtain ⟨wy, hwy⟩ : ∃ wy : World, wy = wr := ⟨_, rfl⟩
        rw [← hwy] at HJ
        rw [← hwy]
        clear hwy
        have HWY := Lib.hid (HI2.out.2.trans HJ.out.2)
        have HB1 := Lib.hid (HI.out.1.new HWY.out)
        have HB2 := Lib.hid (HI.out.2.2.2.1.new HWY.out)
        have HB3 := Lib.hid (HI.out.2.1.new HWY.out)
        by_cases hjl : j < li
        · have hjI : j < (idxTo own s rows.length).length := by rw [← HLI.out]; exact hjl
          have hbd := idxTo_bound own s rows.length j hjI
          obtain ⟨b5, o5, rfl, c5⟩ := (HI2.out.1.new HJ.out.2).at hjl
          obtain ⟨z, hz⟩ : ∃ z : Nat, gi (idxTo own s rows.length) j = z := ⟨(gi (idxTo own s rows.length) j).toNat, by omega⟩
          rw [hz] at c5 hbd
          have hzn : z < n := by rw [HN.out]; omega
          have hzk : z < k := by rw [HE.out.1]; exact hzn
          have hzr : z < rows.length := by omega
          have hnw := HI.out.2.2.2.2.2.2.trans HWY.out
          obtain ⟨bb, oo, uz, ebb, ckz, huz⟩ := (HR.out.new hnw).at hzn
          simp only [Option.some.injEq, Addr.mk.injEq, and_true] at ebb
          obtain ⟨rfl, rfl⟩ := ebb
          obtain ⟨az, nz, cz, rfl, HNZ, _⟩ := huz.shape
          obtain ⟨bs, os, ebs, cks⟩ := (HSH.out.new hnw).at hzk
          subst ebs
          obtain ⟨y, hy⟩ : ∃ y, gi sh z = y := ⟨_, rfl⟩
          rw [hy] at cks
          have HRZ := Lib.hid huz
          have HGZ := Lib.hid (show GoodRow q n0 (gr rows z) by have h9 := HT.out.good z hzr; rw [← HN0.out] at h9; exact h9)
          have HLST := Lib.hid ((HRR.out.isI (by rw [msg_length]; unfold Mid; omega)).new HWY.out)
          have CK1 := Lib.hid ckz
          have CK2 := Lib.hid cks
          obtain ⟨D, hD⟩ : ∃ D, dotTo q (gr rows z) (msg q n0 t) n0 = D := ⟨_, rfl⟩
          have HDT := Lib.hid hD
          have hstep : fineB q n0 rows own sh s t (j + 1) = (fineB q n0 rows own sh s t j && decide (D = y)) := by
            rw [fineB, hz, Int.toNat_natCast, hD, hy]
          have HST := Lib.hid hstep
          clear hz hy hD hstep hnw huz ckz cks hjI hzr
          gi_wp2
          cases b with
          | false =>
            refine wpIn_region_held_round (S := fun w' => New wy w') (by kernel_rfl) (by kernel_rfl) (by rintro ⟨a, w, h⟩; exact h) (New.drew _) (fun hY => ?_)
            refine held_take 0 (some 49) rfl rfl (by kernel_rfl) (by kernel_rfl) (by kernel_rfl) (fun _ _ _ h => h) rfl hY (v := ?_) (fun w' hS => by skip; go_simp; try with_reducible rfl) ?_
            simp only [Act.put, List.setIfInBounds_toArray, List.set_cons_zero, List.set_cons_succ]
            refine held_take 1 (some 50) rfl rfl (by kernel_rfl) (by kernel_rfl) (by kernel_rfl) (fun _ _ _ h => h) rfl hY (v := .bool false) (fun w' hS => by skip; go_simp; try (first | (with_reducible rfl) | (simp; done) | (simp; omega))) ?_
            simp only [Act.put, List.setIfInBounds_toArray, List.set_cons_zero, List.set_cons_succ]
            refine held_skip 2 (some 51) rfl rfl (by kernel_rfl) (by kernel_rfl) (by kernel_rfl) (fun _ _ _ h => h) rfl hY ?_
            simp only [Act.put, List.setIfInBounds_toArray, List.set_cons_zero, List.set_cons_succ]
            refine held_skip 3 (some 52) rfl rfl (by kernel_rfl) (by kernel_rfl) (by kernel_rfl) (fun _ _ _ h => h) rfl hY ?_
            simp only [Act.put, List.setIfInBounds_toArray, List.set_cons_zero, List.set_cons_succ]
            refine held_skip 4 (some 53) rfl rfl (by kernel_rfl) (by kernel_rfl) (by kernel_rfl) (fun _ _ _ h => h) rfl hY ?_
            simp only [Act.put, List.setIfInBounds_toArray, List.set_cons_zero, List.set_cons_succ]
            refine held_skip 5 (some 54) rfl rfl (by kernel_rfl) (by kernel_rfl) (by kernel_rfl) (fun _ _ _ h => h) rfl hY ?_
            simp only [Act.put, List.setIfInBounds_toArray, List.set_cons_zero, List.set_cons_succ]
            refine held_skip 6 (some 55) rfl rfl (by kernel_rfl) (by kernel_rfl) (by kernel_rfl) (fun _ _ _ h => h) rfl hY ?_
            simp only [Act.put, List.setIfInBounds_toArray, List.set_cons_zero, List.set_cons_succ]
            refine held_skip 7 (some 56) rfl rfl (by kernel_rfl) (by kernel_rfl) (by kernel_rfl) (fun _ _ _ h => h) rfl hY ?_
            simp only [Act.put, List.setIfInBounds_toArray, List.set_cons_zero, List.set_cons_succ]
            refine held_skip 8 (some 57) rfl rfl (by kernel_rfl) (by kernel_rfl) (by kernel_rfl) (fun _ _ _ h => h) rfl hY ?_
            simp only [Act.put, List.setIfInBounds_toArray, List.set_cons_zero, List.set_cons_succ]
            refine held_skip 10 (some 59) rfl rfl (by kernel_rfl) (by kernel_rfl) (by kernel_rfl) (fun _ _ _ h => h) rfl hY ?_
            simp only [Act.put, List.setIfInBounds_toArray, List.set_cons_zero, List.set_cons_succ]
            refine held_skip 11 (some 60) rfl rfl (by kernel_rfl) (by kernel_rfl) (by kernel_rfl) (fun _ _ _ h => h) rfl hY ?_
            simp only [Act.put, List.setIfInBounds_toArray, List.set_cons_zero, List.set_cons_succ]
            refine held_skip 12 (some 61) rfl rfl (by kernel_rfl) (by kernel_rfl) (by kernel_rfl) (fun _ _ _ h => h) rfl hY ?_
            simp only [Act.put, List.setIfInBounds_toArray, List.set_cons_zero, List.set_cons_succ]
            refine held_skip 13 (some 62) rfl rfl (by kernel_rfl) (by kernel_rfl) (by kernel_rfl) (fun _ _ _ h => h) rfl hY ?_
            simp only [Act.put, List.setIfInBounds_toArray, List.set_cons_zero, List.set_cons_succ]
            refine held_skip 9 (some 58) rfl rfl (by kernel_rfl) (by kernel_rfl) (by kernel_rfl) (fun _ _ _ h => h) rfl hY ?_
            simp only [Act.put, List.setIfInBounds_toArray, List.set_cons_zero, List.set_cons_succ]
            refine held_skip 14 (some 63) rfl rfl (by kernel_rfl) (by kernel_rfl) (by kernel_rfl) (fun _ _ _ h => h) rfl hY ?_
            simp only [Act.put, List.setIfInBounds_toArray, List.set_cons_zero, List.set_cons_succ]
            refine held_take 15 (some 64) rfl rfl (by kernel_rfl) (by kernel_rfl) (by kernel_rfl) (fun _ _ _ h => h) rfl hY (v := .bool false) (fun w' hS => by skip; go_simp; try (first | (with_reducible rfl) | (simp; done) | (simp; omega))) ?_
            simp only [Act.put, List.setIfInBounds_toArray, List.set_cons_zero, List.set_cons_succ]
            refine held_take 16 (some 11) rfl rfl (by kernel_rfl) (by kernel_rfl) (by kernel_rfl) (fun _ _ _ h => h) rfl hY (v := ?_) (fun w' hS => by skip; go_simp; try with_reducible rfl) ?_
            simp only [Act.put, List.setIfInBounds_toArray, List.set_cons_zero, List.set_cons_succ]
            refine wpAnyH_done (by kernel_rfl) ?_ _
            gi_wp2
            go_roundw
            case rel => exact ⟨j + 1, false, rfl, by go_num, by omega, by rw [HST.out, ← HJ.out.1]; rfl, HJ.out.2.trans hY⟩
            case measure => simp [intOf]; omega
          | true =>
            by_cases hDy : D = y
            · subst hDy
              refine wpIn_region_held_round (S := fun w' => New wy w') (by kernel_rfl) (by kernel_rfl) (by rintro ⟨a, w, h⟩; exact h) (New.drew _) (fun hY => ?_)
              refine held_take 0 (some 49) rfl rfl (by kernel_rfl) (by kernel_rfl) (by kernel_rfl) (fun _ _ _ h => h) rfl hY (v := ?_) (fun w' hS => by skip; go_simp; try with_reducible rfl) ?_
              simp only [Act.put, List.setIfInBounds_toArray, List.set_cons_zero, List.set_cons_succ]
              refine held_take 1 (some 50) rfl rfl (by kernel_rfl) (by kernel_rfl) (by kernel_rfl) (fun _ _ _ h => h) rfl hY (v := .bool true) (fun w' hS => by skip; go_simp; try (first | (with_reducible rfl) | (simp; done) | (simp; omega))) ?_
              simp only [Act.put, List.setIfInBounds_toArray, List.set_cons_zero, List.set_cons_succ]
              refine held_take 2 (some 51) rfl rfl (by kernel_rfl) (by kernel_rfl) (by kernel_rfl) (fun _ _ _ h => h) rfl hY (v := .int .i64 q) (fun w' hS => by obtain ⟨c0, c1, c2, _, _, _⟩ := (HB1.out.new hS).cells; obtain ⟨d0, _⟩ := (HB2.out.new hS).cells; obtain ⟨d1, _⟩ := (HB3.out.new hS).cells; have ck1 := hS.cellNew CK1.out; have ck2 := hS.cellNew CK2.out; go_simp; try with_reducible rfl) ?_
              simp only [Act.put, List.setIfInBounds_toArray, List.set_cons_zero, List.set_cons_succ]
              refine held_take 3 (some 52) rfl rfl (by kernel_rfl) (by kernel_rfl) (by kernel_rfl) (fun _ _ _ h => h) rfl hY (v := ?_) (fun w' hS => by skip; go_simp; try with_reducible rfl) ?_
              simp only [Act.put, List.setIfInBounds_toArray, List.set_cons_zero, List.set_cons_succ]
              refine held_take 4 (some 53) rfl rfl (by kernel_rfl) (by kernel_rfl) (by kernel_rfl) (fun _ _ _ h => h) rfl hY (v := .slice (some ⟨b0, o0, none⟩) n cap) (fun w' hS => by obtain ⟨c0, c1, c2, _, _, _⟩ := (HB1.out.new hS).cells; obtain ⟨d0, _⟩ := (HB2.out.new hS).cells; obtain ⟨d1, _⟩ := (HB3.out.new hS).cells; have ck1 := hS.cellNew CK1.out; have ck2 := hS.cellNew CK2.out; go_simp; try with_reducible rfl) ?_
              simp only [Act.put, List.setIfInBounds_toArray, List.set_cons_zero, List.set_cons_succ]
              refine held_take 5 (some 54) rfl rfl (by kernel_rfl) (by kernel_rfl) (by kernel_rfl) (fun _ _ _ h => h) rfl hY (v := ?_) (fun w' hS => by skip; go_simp; try with_reducible rfl) ?_
              simp only [Act.put, List.setIfInBounds_toArray, List.set_cons_zero, List.set_cons_succ]
              refine held_take 6 (some 55) rfl rfl (by kernel_rfl) (by kernel_rfl) (by kernel_rfl) (fun _ _ _ h => h) rfl hY (v := ?_) (fun w' hS => by skip; go_simp; try with_reducible rfl) ?_
              simp only [Act.put, List.setIfInBounds_toArray, List.set_cons_zero, List.set_cons_succ]
              refine held_take 7 (some 56) rfl rfl (by kernel_rfl) (by kernel_rfl) (by kernel_rfl) (fun _ _ _ h => h) rfl hY (v := .slice az nz cz) (fun w' hS => by obtain ⟨c0, c1, c2, _, _, _⟩ := (HB1.out.new hS).cells; obtain ⟨d0, _⟩ := (HB2.out.new hS).cells; obtain ⟨d1, _⟩ := (HB3.out.new hS).cells; have ck1 := hS.cellNew CK1.out; have ck2 := hS.cellNew CK2.out; go_simp; try with_reducible rfl) ?_
              simp only [Act.put, List.setIfInBounds_toArray, List.set_cons_zero, List.set_cons_succ]
              refine held_take 8 (some 57) rfl rfl (by kernel_rfl) (by kernel_rfl) (by kernel_rfl) (fun _ _ _ h => h) rfl hY (v := ?_) (fun w' hS => by skip; go_simp; try with_reducible rfl) ?_
              simp only [Act.put, List.setIfInBounds_toArray, List.set_cons_zero, List.set_cons_succ]
              refine held_take 10 (some 59) rfl rfl (by kernel_rfl) (by kernel_rfl) (by kernel_rfl) (fun _ _ _ h => h) rfl hY (v := .slice (some ⟨bs, os, none⟩) k csh) (fun w' hS => by obtain ⟨c0, c1, c2, _, _, _⟩ := (HB1.out.new hS).cells; obtain ⟨d0, _⟩ := (HB2.out.new hS).cells; obtain ⟨d1, _⟩ := (HB3.out.new hS).cells; have ck1 := hS.cellNew CK1.out; have ck2 := hS.cellNew CK2.out; go_simp; try with_reducible rfl) ?_
              simp only [Act.put, List.setIfInBounds_toArray, List.set_cons_zero, List.set_cons_succ]
              refine held_take 11 (some 60) rfl rfl (by kernel_rfl) (by kernel_rfl) (by kernel_rfl) (fun _ _ _ h => h) rfl hY (v := ?_) (fun w' hS => by skip; go_simp; try with_reducible rfl) ?_
              simp only [Act.put, List.setIfInBounds_toArray, List.set_cons_zero, List.set_cons_succ]
              refine held_take 12 (some 61) rfl rfl (by kernel_rfl) (by kernel_rfl) (by kernel_rfl) (fun _ _ _ h => h) rfl hY (v := ?_) (fun w' hS => by skip; go_simp; try with_reducible rfl) ?_
              simp only [Act.put, List.setIfInBounds_toArray, List.set_cons_zero, List.set_cons_succ]
              refine held_take 13 (some 62) rfl rfl (by kernel_rfl) (by kernel_rfl) (by kernel_rfl) (fun _ _ _ h => h) rfl hY (v := .int .i64 D) (fun w' hS => by obtain ⟨c0, c1, c2, _, _, _⟩ := (HB1.out.new hS).cells; obtain ⟨d0, _⟩ := (HB2.out.new hS).cells; obtain ⟨d1, _⟩ := (HB3.out.new hS).cells; have ck1 := hS.cellNew CK1.out; have ck2 := hS.cellNew CK2.out; go_simp; try with_reducible rfl) ?_
              simp only [Act.put, List.setIfInBounds_toArray, List.set_cons_zero, List.set_cons_succ]
              refine held_only 9 (by kernel_rfl) rfl rfl (fun K1 hK1 => ?_)
              go_simp
              refine (share_any q n0 _ _ (gr rows z) (msg q n0 t) _ (HRZ.out.new hY) (HLST.out.new hY) HGZ.out HMG.out hq27 (by omega)).mono ?_
              rintro e w9 ⟨rfl, rfl⟩
              have hn9 := Chg.refl (fun _ => False) wy.drew
              rw [HDT.out]
              refine hK1.out _ _ (hY.trans hn9) (fun hY1 => ?_)
              clear hK1 K1
              refine held_take 14 (some 63) rfl rfl (by kernel_rfl) (by kernel_rfl) (by kernel_rfl) (fun _ _ _ h => h) rfl hY1 (v := .bool true) (fun w' hS => by skip; go_simp; try (first | (with_reducible rfl) | (simp; done) | (simp; omega))) ?_
              simp only [Act.put, List.setIfInBounds_toArray, List.set_cons_zero, List.set_cons_succ]
              refine held_take 15 (some 64) rfl rfl (by kernel_rfl) (by kernel_rfl) (by kernel_rfl) (fun _ _ _ h => h) rfl hY1 (v := .bool true) (fun w' hS => by skip; go_simp; try (first | (with_reducible rfl) | (simp; done) | (simp; omega))) ?_
              simp only [Act.put, List.setIfInBounds_toArray, List.set_cons_zero, List.set_cons_succ]
              refine held_take 16 (some 11) rfl rfl (by kernel_rfl) (by kernel_rfl) (by kernel_rfl) (fun _ _ _ h => h) rfl hY1 (v := ?_) (fun w' hS => by skip; go_simp; try with_reducible rfl) ?_
              simp only [Act.put, List.setIfInBounds_toArray, List.set_cons_zero, List.set_cons_succ]
              refine wpAnyH_done (by kernel_rfl) ?_ _
              gi_wp2
              go_roundw
              case rel => exact ⟨j + 1, true, rfl, by go_num, by omega, by rw [HST.out, ← HJ.out.1]; simp, HJ.out.2.trans hY1⟩
              case measure => simp [intOf]; omega
            · have hdd : (D == y) = false := by simp; exact hDy
              refine wpIn_region_held_round (S := fun w' => New wy w') (by kernel_rfl) (by kernel_rfl) (by rintro ⟨a, w, h⟩; exact h) (New.drew _) (fun hY => ?_)
              refine held_take 0 (some 49) rfl rfl (by kernel_rfl) (by kernel_rfl) (by kernel_rfl) (fun _ _ _ h => h) rfl hY (v := ?_) (fun w' hS => by skip; go_simp; try with_reducible rfl) ?_
              simp only [Act.put, List.setIfInBounds_toArray, List.set_cons_zero, List.set_cons_succ]
              refine held_take 1 (some 50) rfl rfl (by kernel_rfl) (by kernel_rfl) (by kernel_rfl) (fun _ _ _ h => h) rfl hY (v := .bool true) (fun w' hS => by skip; go_simp; try (first | (with_reducible rfl) | (simp; done) | (simp; omega))) ?_
              simp only [Act.put, List.setIfInBounds_toArray, List.set_cons_zero, List.set_cons_succ]
              refine held_take 2 (some 51) rfl rfl (by kernel_rfl) (by kernel_rfl) (by kernel_rfl) (fun _ _ _ h => h) rfl hY (v := .int .i64 q) (fun w' hS => by obtain ⟨c0, c1, c2, _, _, _⟩ := (HB1.out.new hS).cells; obtain ⟨d0, _⟩ := (HB2.out.new hS).cells; obtain ⟨d1, _⟩ := (HB3.out.new hS).cells; have ck1 := hS.cellNew CK1.out; have ck2 := hS.cellNew CK2.out; go_simp; try with_reducible rfl) ?_
              simp only [Act.put, List.setIfInBounds_toArray, List.set_cons_zero, List.set_cons_succ]
              refine held_take 3 (some 52) rfl rfl (by kernel_rfl) (by kernel_rfl) (by kernel_rfl) (fun _ _ _ h => h) rfl hY (v := ?_) (fun w' hS => by skip; go_simp; try with_reducible rfl) ?_
              simp only [Act.put, List.setIfInBounds_toArray, List.set_cons_zero, List.set_cons_succ]
              refine held_take 4 (some 53) rfl rfl (by kernel_rfl) (by kernel_rfl) (by kernel_rfl) (fun _ _ _ h => h) rfl hY (v := .slice (some ⟨b0, o0, none⟩) n cap) (fun w' hS => by obtain ⟨c0, c1, c2, _, _, _⟩ := (HB1.out.new hS).cells; obtain ⟨d0, _⟩ := (HB2.out.new hS).cells; obtain ⟨d1, _⟩ := (HB3.out.new hS).cells; have ck1 := hS.cellNew CK1.out; have ck2 := hS.cellNew CK2.out; go_simp; try with_reducible rfl) ?_
              simp only [Act.put, List.setIfInBounds_toArray, List.set_cons_zero, List.set_cons_succ]
              refine held_take 5 (some 54) rfl rfl (by kernel_rfl) (by kernel_rfl) (by kernel_rfl) (fun _ _ _ h => h) rfl hY (v := ?_) (fun w' hS => by skip; go_simp; try with_reducible rfl) ?_
              simp only [Act.put, List.setIfInBounds_toArray, List.set_cons_zero, List.set_cons_succ]
              refine held_take 6 (some 55) rfl rfl (by kernel_rfl) (by kernel_rfl) (by kernel_rfl) (fun _ _ _ h => h) rfl hY (v := ?_) (fun w' hS => by skip; go_simp; try with_reducible rfl) ?_
              simp only [Act.put, List.setIfInBounds_toArray, List.set_cons_zero, List.set_cons_succ]
              refine held_take 7 (some 56) rfl rfl (by kernel_rfl) (by kernel_rfl) (by kernel_rfl) (fun _ _ _ h => h) rfl hY (v := .slice az nz cz) (fun w' hS => by obtain ⟨c0, c1, c2, _, _, _⟩ := (HB1.out.new hS).cells; obtain ⟨d0, _⟩ := (HB2.out.new hS).cells; obtain ⟨d1, _⟩ := (HB3.out.new hS).cells; have ck1 := hS.cellNew CK1.out; have ck2 := hS.cellNew CK2.out; go_simp; try with_reducible rfl) ?_
              simp only [Act.put, List.setIfInBounds_toArray, List.set_cons_zero, List.set_cons_succ]
              refine held_take 8 (some 57) rfl rfl (by kernel_rfl) (by kernel_rfl) (by kernel_rfl) (fun _ _ _ h => h) rfl hY (v := ?_) (fun w' hS => by skip; go_simp; try with_reducible rfl) ?_
              simp only [Act.put, List.setIfInBounds_toArray, List.set_cons_zero, List.set_cons_succ]
              refine held_take 10 (some 59) rfl rfl (by kernel_rfl) (by kernel_rfl) (by kernel_rfl) (fun _ _ _ h => h) rfl hY (v := .slice (some ⟨bs, os, none⟩) k csh) (fun w' hS => by obtain ⟨c0, c1, c2, _, _, _⟩ := (HB1.out.new hS).cells; obtain ⟨d0, _⟩ := (HB2.out.new hS).cells; obtain ⟨d1, _⟩ := (HB3.out.new hS).cells; have ck1 := hS.cellNew CK1.out; have ck2 := hS.cellNew CK2.out; go_simp; try with_reducible rfl) ?_
              simp only [Act.put, List.setIfInBounds_toArray, List.set_cons_zero, List.set_cons_succ]
              refine held_take 11 (some 60) rfl rfl (by kernel_rfl) (by kernel_rfl) (by kernel_rfl) (fun _ _ _ h => h) rfl hY (v := ?_) (fun w' hS => by skip; go_simp; try with_reducible rfl) ?_
              simp only [Act.put, List.setIfInBounds_toArray, List.set_cons_zero, List.set_cons_succ]
              refine held_take 12 (some 61) rfl rfl (by kernel_rfl) (by kernel_rfl) (by kernel_rfl) (fun _ _ _ h => h) rfl hY (v := ?_) (fun w' hS => by skip; go_simp; try with_reducible rfl) ?_
              simp only [Act.put, List.setIfInBounds_toArray, List.set_cons_zero, List.set_cons_succ]
              refine held_take 13 (some 62) rfl rfl (by kernel_rfl) (by kernel_rfl) (by kernel_rfl) (fun _ _ _ h => h) rfl hY (v := .int .i64 y) (fun w' hS => by obtain ⟨c0, c1, c2, _, _, _⟩ := (HB1.out.new hS).cells; obtain ⟨d0, _⟩ := (HB2.out.new hS).cells; obtain ⟨d1, _⟩ := (HB3.out.new hS).cells; have ck1 := hS.cellNew CK1.out; have ck2 := hS.cellNew CK2.out; go_simp; try with_reducible rfl) ?_
              simp only [Act.put, List.setIfInBounds_toArray, List.set_cons_zero, List.set_cons_succ]
              refine held_only 9 (by kernel_rfl) rfl rfl (fun K1 hK1 => ?_)
              go_simp
              refine (share_any q n0 _ _ (gr rows z) (msg q n0 t) _ (HRZ.out.new hY) (HLST.out.new hY) HGZ.out HMG.out hq27 (by omega)).mono ?_
              rintro e w9 ⟨rfl, rfl⟩
              have hn9 := Chg.refl (fun _ => False) wy.drew
              rw [HDT.out]
              refine hK1.out _ _ (hY.trans hn9) (fun hY1 => ?_)
              clear hK1 K1
              refine held_take 14 (some 63) rfl rfl (by kernel_rfl) (by kernel_rfl) (by kernel_rfl) (fun _ _ _ h => h) rfl hY1 (v := .bool false) (fun w' hS => by skip; go_simp; try (first | (with_reducible rfl) | (simp; done) | (simp; omega))) ?_
              simp only [Act.put, List.setIfInBounds_toArray, List.set_cons_zero, List.set_cons_succ]
              refine held_take 15 (some 64) rfl rfl (by kernel_rfl) (by kernel_rfl) (by kernel_rfl) (fun _ _ _ h => h) rfl hY1 (v := .bool false) (fun w' hS => by skip; go_simp; try (first | (with_reducible rfl) | (simp; done) | (simp; omega))) ?_
              simp only [Act.put, List.setIfInBounds_toArray, List.set_cons_zero, List.set_cons_succ]
              refine held_take 16 (some 11) rfl rfl (by kernel_rfl) (by kernel_rfl) (by kernel_rfl) (fun _ _ _ h => h) rfl hY1 (v := ?_) (fun w' hS => by skip; go_simp; try with_reducible rfl) ?_
              simp only [Act.put, List.setIfInBounds_toArray, List.set_cons_zero, List.set_cons_succ]
              refine wpAnyH_done (by kernel_rfl) ?_ _
              gi_wp2
              go_roundw
              case rel => exact ⟨j + 1, false, rfl, by go_num, by omega, by rw [HST.out, ← HJ.out.1]; simp; exact hDy, HJ.out.2.trans hY1⟩
              case measure => simp [intOf]; omega
        · obtain rfl : j = li := by omega
          have hall : b = allB q n0 rows own sh s t := by rw [HJ.out.1, HLI.out]; rfl
          have HAL := Lib.hid hall
          clear hall
          cases b with
          | false =>
            have hpo : posTo q n0 rows own sh s (t + 1) = posTo q n0 rows own sh s t := by rw [posTo, ← HAL.out]; rfl
            have HPO := Lib.hid hpo
            clear hpo
            gi_wp2
            have hS := HS.out
            have hD := HRR.out.lt (g := w6.heap.size + 2) rfl
            exact ⟨⟨HI.out.1.new HWY.out, HI.out.2.1.new HWY.out, HI.out.2.2.1.new HWY.out, HI.out.2.2.2.1.new HWY.out, HI.out.2.2.2.2.1.new HWY.out, by rw [HPO.out]; exact HI.out.2.2.2.2.2.1.new HWY.out, HI.out.2.2.2.2.2.2.trans HWY.out⟩, HWY.out.size, fun b hb => HWY.out.block b (by omega) (fun x => x)⟩
          | true =>
            have hm0 := HMG.out.2 0 (by omega)
            obtain ⟨x, hx⟩ : ∃ x : Nat, gi (msg q n0 t) 0 = x := ⟨(gi (msg q n0 t) 0).toNat, by omega⟩
            rw [hx] at hm0
            have hxq : x < q := by omega
            have hpo : posTo q n0 rows own sh s (t + 1) = bump (posTo q n0 rows own sh s t) x := by rw [posTo, ← HAL.out, hx, Int.toNat_natCast]; rfl
            have hpl := posTo_length q n0 rows own sh s t
            have hpr := posTo_range q n0 rows own sh s t x
            have htT : t ≤ 2401 := by have := pow_all (q := q) (k := n0) hq27.2 hn4'; omega
            obtain ⟨y, hy⟩ : ∃ y, y = gi (posTo q n0 rows own sh s t) x := ⟨_, rfl⟩
            rw [← hy] at hpr
            obtain ⟨f0, _⟩ := (HI.out.2.2.2.2.1.new HWY.out).cells
            obtain ⟨f1, _⟩ := (HRR.out.new HWY.out).cell (i := 0) (by rw [List.length_map, msg_length]; omega)
            rw [gv_map_int (by rw [msg_length]; omega), hx] at f1
            have ho6 := HI.out.2.2.2.2.2.1.new HWY.out
            obtain ⟨f2, f3⟩ := ho6.cell (i := x) (by rw [List.length_map, hpl]; exact hxq)
            rw [gv_map_int (by rw [hpl]; exact hxq), ← hy] at f2
            have HPO := Lib.hid (And.intro hpo (And.intro hpl hy))
            have hn00 : 0 < n0 := by omega
            have hwy1 : IntKind.i64.wrap (y + 1) = y + 1 := IntWalk.i64_in _ (by omega)
            have hy1 : 0 ≤ y + 1 := by omega
            clear hx hpo hpl hy ho6 hm0
            gi_wp2
            gi_region
            all_goals
              gi_wp2
              have hS := HS.out
              have hD := HRR.out.lt (g := w6.heap.size + 2) rfl
              have hch : Chg (· = wF.heap.size) W (wy.setCell ⟨wF.heap.size, x, none⟩ (.int .i64 (y + 1))).drew := Chg.trans (Chg.trans HWY.out (Chg.setCell wy ⟨wF.heap.size, x, none⟩ _) (fun _ _ x => x.elim) (fun _ _ x => x) (U := (· = wF.heap.size))) (New.drew _) (fun _ _ x => x) (fun _ _ x => x.elim)
              have hst := ((HI.out.2.2.2.2.2.1.new HWY.out).set x (.int .i64 (y + 1))).new (New.drew _)
              rw [set_map_int] at hst
              exact ⟨⟨HI.out.1.chg hch (by omega), HI.out.2.1.chg hch (by omega), HI.out.2.2.1.chg hch (by omega), HI.out.2.2.2.1.chg hch (by omega), HI.out.2.2.2.2.1.chg hch (by omega), by rw [HPO.out.1, bump, ← HPO.out.2.2]; exact hst, HI.out.2.2.2.2.2.2.then hch (fun i hi => by omega)⟩, hch.size, fun b hb => hch.block b (by omega) (by omega)⟩
    case done =>
      intro W hI hK
      have HI := Lib.hid hI
      obtain ⟨e0, _⟩ := hI.2.2.2.2.1.cells
      clear hI
      dsimp only
      go_wp2_with fail
      have hS := HS.out
      have hfin : New w (W.putObj w6.heap.size (.deferred none)) := HI.out.2.2.2.2.2.2.then (chg_putObj W _ _) (fun i hi => by omega)
      have hG : PosR q n0 rows own sh s w (.returned (.slice (some ⟨wF.heap.size, 0, none⟩) q q)) (W.putObj w6.heap.size (.deferred none)) :=
        ⟨_, _, rfl, (HI.out.2.2.2.2.2.1.chg (chg_putObj W _ _) (fun g hg => by simp [Value.ownBlock] at hg; omega)).isI (by rw [posTo_length]; unfold Mid; omega), fun h => by omega, fun _ => rfl, hfin⟩
      refine ⟨by simp, .inl ⟨_, _, rfl, run_takeDeferred hK, ?_⟩⟩
      refine ⟨_, results_tmp rfl _ _ _, ?_⟩
      exact hG
end Go.Proofs.Ytahgjfmdafhedaa
