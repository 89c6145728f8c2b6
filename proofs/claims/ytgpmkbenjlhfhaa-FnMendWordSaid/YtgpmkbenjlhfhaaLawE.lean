/- The laws' own helpers: equality of lists, products. -/
import Derived.Test.YtgpmkbenjlhfhaaLawK
import Derived.Test.YtgpmkbenjlhfhaaPlaM
import Derived.IntWalk
namespace Go.Proofs.Ytgpmkbenjlhfhaa
open Go.RowKit Mat
set_option linter.unusedVariables false

set_option maxHeartbeats 1000000 in
theorem equalInts_any (va vb : Value) (xs ys : List Int) (w : World) (hx : IsI w va xs) (hy : IsI w vb ys) :
    Calls Try.prog 19 #[va, vb] w fun e w' => e = .returned (.bool (eqL xs ys)) ∧ ∃ m, w' = w.drewN m := by
  obtain ⟨a1, n1, c1, rfl, H1, b1⟩ := hx.shape
  obtain ⟨a2, n2, c2, rfl, H2, b2⟩ := hy.shape
  have HX := Lib.hid hx
  have HY := Lib.hid hy
  clear hx hy
  by_cases hl : n1 = n2
  · subst hl
    have HL : Hid (xs.length = ys.length) := by show _ = _; rw [← H1.out, ← H2.out]
    go_enter Try.func19, Try.ntmps19
    go_wp2_with fail
    go_loopw [5] (fun i wr => ∃ k m : Nat, i = .int .i64 k ∧ k ≤ n1 ∧ Hid (wr = w.drewN m) ∧ ∀ j, j < k → gi xs j = gi ys j) (fun i _ => n1 - (intOf i).toNat)
    case atStart => exact ⟨0, 0, rfl, Nat.zero_le _, rfl, fun j hj => by omega⟩
    case round =>
      obtain ⟨k, m, rfl, hk, HW, hj⟩ := hrel
      have HJ := Lib.hid hj
      clear hj
      by_cases hkn : k < n1
      · have e := HW.out
        obtain ⟨bx, ox, rfl, cx⟩ := HX.out.at hkn
        obtain ⟨by', oy, rfl, cy⟩ := HY.out.at hkn
        have cx' : wr.cell? ⟨bx, ox + k, none⟩ = some (.int .i64 (gi xs k)) := by rw [e]; exact cx
        have cy' : wr.cell? ⟨by', oy + k, none⟩ = some (.int .i64 (gi ys k)) := by rw [e]; exact cy
        clear cx cy e
        by_cases hg : gi xs k = gi ys k
        · have HG := Lib.hid hg
          rw [hg] at cx'
          clear hg
          go_wp2_with fail
          go_quiet (fail)
          go_wp2_with fail
          go_roundw
          case rel =>
            refine ⟨k + 1, _, by go_num, by omega, by show _ = _; rw [HW.out]; exact (World.drewN_drewN _ _ _), fun j hj => ?_⟩
            by_cases e : j = k
            · rw [e]; exact HG.out
            · exact HJ.out j (by omega)
          case measure => simp [intOf]; omega
        · have HQ := Lib.hid (eqL_no hg)
          have hb : (gi xs k != gi ys k) = true := by simpa using hg
          clear hg
          go_wp2_with fail
          go_quiet (fail)
          go_wp2_with fail
          go_ret
          exact ⟨ret_bool HQ.out.symm, _, by rw [HW.out]; exact (World.drewN_drewN _ _ _)⟩
      · have HQ := Lib.hid (eqL_yes HL.out (fun i hi => HJ.out i (by rw [← H1.out] at hi; omega)))
        go_wp2_with fail
        go_ret
        exact ⟨ret_bool HQ.out.symm, m, HW.out⟩
  · have HQ := Lib.hid (eqL_len (xs := xs) (ys := ys) (by rw [← H1.out, ← H2.out]; exact hl))
    go_enter Try.func19, Try.ntmps19
    go_wp2_with fail
    go_ret
    exact ⟨ret_bool HQ.out.symm, 0, rfl⟩

set_option maxHeartbeats 1000000 in
theorem equalLists_any (va vb : Value) (A B : List (List Int)) (w : World) (hx : IsR w va A) (hy : IsR w vb B) :
    Calls Try.prog 73 #[va, vb] w fun e w' => e = .returned (.bool (eqLL A B)) ∧ ∃ m, w' = w.drewN m := by
  obtain ⟨a1, n1, c1, rfl, H1, b1⟩ := hx.shape
  obtain ⟨a2, n2, c2, rfl, H2, b2⟩ := hy.shape
  have HX := Lib.hid hx
  have HY := Lib.hid hy
  clear hx hy
  by_cases hl : n1 = n2
  · subst hl
    have HL : Hid (A.length = B.length) := by show _ = _; rw [← H1.out, ← H2.out]
    go_enter Try.func73, Try.ntmps73
    go_wp2_with fail
    go_loopw [5] (fun i wr => ∃ k m : Nat, i = .int .i64 k ∧ k ≤ n1 ∧ Hid (wr = w.drewN m) ∧ ∀ j, j < k → eqL (gr A j) (gr B j) = true) (fun i _ => n1 - (intOf i).toNat)
    case atStart => exact ⟨0, 0, rfl, Nat.zero_le _, rfl, fun j hj => by omega⟩
    case round =>
      obtain ⟨k, m, rfl, hk, HW, hj⟩ := hrel
      have HJ := Lib.hid hj
      clear hj
      by_cases hkn : k < n1
      · have e := HW.out
        obtain ⟨bx, ox, ux, rfl, cx, hux⟩ := HX.out.at hkn
        obtain ⟨by', oy, uy, rfl, cy, huy⟩ := HY.out.at hkn
        have i1 : ∀ z, IsI (wr.drewN z) ux (gr A k) := fun z => (hux.new (by rw [e]; exact New.drewN _ _)).new (New.drewN wr z)
        have i2 : ∀ z, IsI (wr.drewN z) uy (gr B k) := fun z => (huy.new (by rw [e]; exact New.drewN _ _)).new (New.drewN wr z)
        obtain ⟨ax, nx, dx, rfl, _, _⟩ := hux.shape
        obtain ⟨ay, ny, dy, rfl, _, _⟩ := huy.shape
        have cx' : wr.cell? ⟨bx, ox + k, none⟩ = some (.slice ax nx dx) := by rw [e]; exact cx
        have cy' : wr.cell? ⟨by', oy + k, none⟩ = some (.slice ay ny dy) := by rw [e]; exact cy
        have I1 := Lib.hid i1
        have I2 := Lib.hid i2
        clear cx cy e i1 i2 hux huy
        cases hg : eqL (gr A k) (gr B k) with
        | true =>
          have HG := Lib.hid hg
          clear hg
          go_wp2_with fail
          go_quiet ((go_at_call 19; exact Calls.quiet_of (equalInts_any _ _ _ _ _ (I1.out _) (I2.out _))))
          rw [HG.out]
          go_wp2_with fail
          go_roundw
          case rel =>
            refine ⟨k + 1, _, by go_num, by omega, by show _ = _; rw [HW.out]; exact (World.drewN_drewN _ _ _), fun j hj => ?_⟩
            by_cases e : j = k
            · rw [e]; exact HG.out
            · exact HJ.out j (by omega)
          case measure => simp [intOf]; omega
        | false =>
          have HQ := Lib.hid (eqLL_no hg)
          have HG := Lib.hid hg
          clear hg
          go_wp2_with fail
          go_quiet ((go_at_call 19; exact Calls.quiet_of (equalInts_any _ _ _ _ _ (I1.out _) (I2.out _))))
          rw [HG.out]
          go_wp2_with fail
          go_ret
          exact ⟨ret_bool HQ.out.symm, _, by rw [HW.out]; exact (World.drewN_drewN _ _ _)⟩
      · have HQ := Lib.hid (eqLL_yes HL.out (fun i hi => HJ.out i (by rw [← H1.out] at hi; omega)))
        go_wp2_with fail
        go_ret
        exact ⟨ret_bool HQ.out.symm, m, HW.out⟩
  · have HQ := Lib.hid (eqLL_len (xs := A) (ys := B) (by rw [← H1.out, ← H2.out]; exact hl))
    go_enter Try.func73, Try.ntmps73
    go_wp2_with fail
    go_ret
    exact ⟨ret_bool HQ.out.symm, 0, rfl⟩

/-! Marks. -/

/-- The rest of the product of two lists. -/
def dotTo (p : Int) (xs ys : List Int) : Nat → Int
  | 0 => 0
  | k + 1 => (dotTo p xs ys k + gi xs k * gi ys k) % p
theorem dotTo_range {p : Int} (hp : 0 < p) (xs ys : List Int) : ∀ k, 0 ≤ dotTo p xs ys k ∧ dotTo p xs ys k < p
  | 0 => ⟨Int.le_refl _, hp⟩
  | k + 1 => ⟨Int.emod_nonneg _ (by omega), Int.emod_lt_of_pos _ hp⟩
theorem dotTo_dt {q : Nat} [NeZero q] (xs ys : List Int) : ∀ k, phi q (dotTo q xs ys k) = dt k (vec q xs) (vec q ys)
  | 0 => phi_zero
  | k + 1 => by
    rw [dotTo, phi_emod, phi_add, phi_mul, dotTo_dt xs ys k]
    rfl
theorem dotTo_zero {q : Nat} [NeZero q] (xs ys : List Int) (k : Nat) : dotTo q xs ys k = 0 ↔ dt k (vec q xs) (vec q ys) = 0 := by
  have h := dotTo_range (p := q) p_pos xs ys k
  rw [← dotTo_dt, phi_eq_zero h.1 h.2]

set_option maxHeartbeats 1000000 in
theorem dot_any (q n : Nat) (va vb : Value) (xs ys : List Int) (w : World) (hx : IsI w va xs) (hy : IsI w vb ys) (gx : GoodRow q n xs) (gy : GoodRow q n ys) (hq : 2 ≤ q ∧ q ≤ 7) (hn : n ≤ 1000) :
    Calls Try.prog 29 #[.int .i64 q, va, vb] w fun e w' => e = .returned (.int .i64 (dotTo q xs ys n)) ∧ ∃ m, w' = w.drewN m := by
  obtain ⟨a1, n1, c1, rfl, H1, b1⟩ := hx.shape
  obtain ⟨a2, n2, c2, rfl, H2, b2⟩ := hy.shape
  have e1 : n1 = n := by rw [H1.out, gx.1]
  have e2 : n2 = n := by rw [H2.out, gy.1]
  subst e1 e2
  have HX := Lib.hid hx
  have HY := Lib.hid hy
  have HG := Lib.hid (And.intro gx gy)
  have hq2 : (2 : Int) ≤ q := by omega
  have hq7 : (q : Int) ≤ 7 := by omega
  clear hx hy gx gy
  go_enter Try.func29, Try.ntmps29
  go_wp2_with fail
  go_loopw [7, 8] (fun t7 t8 wr => ∃ (k m : Nat) (s : Int), t7 = .int .i64 s ∧ t8 = .int .i64 k ∧ k ≤ n2 ∧ 0 ≤ s ∧ s ≤ 6 ∧ Hid (s = dotTo q xs ys k ∧ wr = w.drewN m)) (fun _ t8 _ => n2 - (intOf t8).toNat)
  case atStart => exact ⟨0, 0, 0, rfl, rfl, Nat.zero_le _, by omega, by omega, rfl, rfl⟩
  case round =>
    obtain ⟨k, m, s, rfl, rfl, hk, hs0, hs6, HD⟩ := hrel
    by_cases hkn : k < n2
    · have hx := HG.out.1.2 k hkn
      have hy := HG.out.2.2 k hkn
      have e := HD.out.2
      obtain ⟨bx, ox, rfl, cx⟩ := HX.out.at hkn
      obtain ⟨by', oy, rfl, cy⟩ := HY.out.at hkn
      obtain ⟨x, hxe⟩ : ∃ x, gi xs k = x := ⟨_, rfl⟩
      obtain ⟨y, hye⟩ : ∃ y, gi ys k = y := ⟨_, rfl⟩
      have hstep : dotTo q xs ys (k + 1) = (s + x * y) % q := by rw [dotTo, HD.out.1, hxe, hye]
      have cx' : wr.cell? ⟨bx, ox + k, none⟩ = some (.int .i64 x) := by rw [e, ← hxe]; exact cx
      have cy' : wr.cell? ⟨by', oy + k, none⟩ = some (.int .i64 y) := by rw [e, ← hye]; exact cy
      rw [hxe] at hx
      rw [hye] at hy
      have hx6 : x ≤ 6 := by omega
      have hy6 : y ≤ 6 := by omega
      have hxy0 : 0 ≤ x * y := Int.mul_nonneg hx.1 hy.1
      have hxy : x * y ≤ 36 := Int.mul_le_mul hx6 hy6 hy.1 (by omega)
      have hr0 := Int.emod_nonneg (s + x * y) (show (q : Int) ≠ 0 by omega)
      have hr1 := Int.emod_lt_of_pos (s + x * y) (show (0 : Int) < q by omega)
      have hw1 : IntKind.i64.wrap (x * y) = x * y := IntWalk.i64_in _ (by omega)
      have hw2 : IntKind.i64.wrap (s + x * y) = s + x * y := IntWalk.i64_in _ (by omega)
      have hsx : 0 ≤ s + x * y := by omega
      have HS := Lib.hid (And.intro hstep (And.intro hr0 hr1))
      clear cx cy e hxe hye hstep hr0 hr1
      go_wp2_with fail
      go_quiet (fail)
      go_wp2_with fail
      go_roundw
      case rel => exact ⟨k + 1, _, _, rfl, by go_num, by omega, HS.out.2.1, by have := HS.out.2.2; omega, HS.out.1.symm, by rw [HD.out.2]; exact (World.drewN_drewN _ _ _)⟩
      case measure => simp [intOf]; omega
    · obtain rfl : k = n2 := by omega
      go_wp2_with fail
      go_ret
      exact ⟨ret_int HD.out.1, m, HD.out.2⟩
end Go.Proofs.Ytgpmkbenjlhfhaa
