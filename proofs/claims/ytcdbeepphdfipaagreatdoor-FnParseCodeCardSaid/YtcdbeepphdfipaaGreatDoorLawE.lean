/- The laws' own helpers: equality of lists, products. -/
import Derived.Test.YtcdbeepphdfipaaGreatDoorLawK
import Derived.Test.YtcdbeepphdfipaaGreatDoorPlaM
import Derived.IntWalk
namespace Go.Proofs.YtcdbeepphdfipaaGreatDoor
open Go.RowKit Mat
set_option linter.unusedVariables false

set_option maxHeartbeats 1000000 in
theorem equalInts_any (va vb : Value) (xs ys : List Int) (w : World) (hx : IsI w va xs) (hy : IsI w vb ys) :
    Calls Tryz.prog 72 #[va, vb] w fun e w' => e = .returned (.bool (eqL xs ys)) ∧ ∃ m, w' = w.drewN m := by
  obtain ⟨a1, n1, c1, rfl, H1, b1⟩ := hx.shape
  obtain ⟨a2, n2, c2, rfl, H2, b2⟩ := hy.shape
  have HX := Lib.hid hx
  have HY := Lib.hid hy
  clear hx hy
  by_cases hl : n1 = n2
  · subst hl
    have HL : Hid (xs.length = ys.length) := by show _ = _; rw [← H1.out, ← H2.out]
    go_enter Tryz.func72, Tryz.ntmps72
    go_wp2_with fail
    go_loopw [5] (fun i wr => ∃ k m : Nat, i = .int .i64 k ∧ k ≤ n1 ∧ Hid (wr = w.drewN m) ∧ ∀ j, j < k → gi xs j = gi ys j) (fun i _ => n1 - (intOf i).toNat)
    case atStart => exact ⟨0, 0, rfl, Nat.zero_le _, rfl, fun j hj => by omega⟩
    case round =>
      obtain ⟨k, m, rfl, hk, HW, hj⟩ := hrel
      have HJ := Lib.hid hj
      clear hj
      by_cases hkn : k < n1
      · have e := HW.out
        obtain ⟨bx, ox, rfl, cx⟩ := HX.out.at hkn
        obtain ⟨by', oy, rfl, cy⟩ := HY.out.at hkn
        have cx' : wr.cell? ⟨bx, ox + k, none⟩ = some (.int .i64 (gi xs k)) := by rw [e]; exact cx
        have cy' : wr.cell? ⟨by', oy + k, none⟩ = some (.int .i64 (gi ys k)) := by rw [e]; exact cy
        clear cx cy e
        by_cases hg : gi xs k = gi ys k
        · have HG := Lib.hid hg
          rw [hg] at cx'
          clear hg
          go_wp2_with fail
          go_quiet (fail)
          go_wp2_with fail
          go_roundw
          case rel =>
            refine ⟨k + 1, _, by go_num, by omega, by show _ = _; rw [HW.out]; exact (World.drewN_drewN _ _ _), fun j hj => ?_⟩
            by_cases e : j = k
            · rw [e]; exact HG.out
            · exact HJ.out j (by omega)
          case measure => simp [intOf]; omega
        · have HQ := Lib.hid (eqL_no hg)
          have hb : (gi xs k != gi ys k) = true := by simpa using hg
          clear hg
          go_wp2_with fail
          go_quiet (fail)
          go_wp2_with fail
          go_ret
          exact ⟨ret_bool HQ.out.symm, _, by rw [HW.out]; exact (World.drewN_drewN _ _ _)⟩
      · have HQ := Lib.hid (eqL_yes HL.out (fun i hi => HJ.out i (by rw [← H1.out] at hi; omega)))
        go_wp2_with fail
        go_ret
        exact ⟨ret_bool HQ.out.symm, m, HW.out⟩
  · have HQ := Lib.hid (eqL_len (xs := xs) (ys := ys) (by rw [← H1.out, ← H2.out]; exact hl))
    go_enter Tryz.func72, Tryz.ntmps72
    go_wp2_with fail
    go_ret
    exact ⟨ret_bool HQ.out.symm, 0, rfl⟩

set_option maxHeartbeats 1000000 in
theorem equalLists_any (va vb : Value) (A B : List (List Int)) (w : World) (hx : IsR w va A) (hy : IsR w vb B) :
    Calls Tryz.prog 43 #[va, vb] w fun e w' => e = .returned (.bool (eqLL A B)) ∧ ∃ m, w' = w.drewN m := by
  obtain ⟨a1, n1, c1, rfl, H1, b1⟩ := hx.shape
  obtain ⟨a2, n2, c2, rfl, H2, b2⟩ := hy.shape
  have HX := Lib.hid hx
  have HY := Lib.hid hy
  clear hx hy
  by_cases hl : n1 = n2
  · subst hl
    have HL : Hid (A.length = B.length) := by show _ = _; rw [← H1.out, ← H2.out]
    go_enter Tryz.func43, Tryz.ntmps43
    go_wp2_with fail
    go_loopw [5] (fun i wr => ∃ k m : Nat, i = .int .i64 k ∧ k ≤ n1 ∧ Hid (wr = w.drewN m) ∧ ∀ j, j < k → eqL (gr A j) (gr B j) = true) (fun i _ => n1 - (intOf i).toNat)
    case atStart => exact ⟨0, 0, rfl, Nat.zero_le _, rfl, fun j hj => by omega⟩
    case round =>
      obtain ⟨k, m, rfl, hk, HW, hj⟩ := hrel
      have HJ := Lib.hid hj
      clear hj
      by_cases hkn : k < n1
      · have e := HW.out
        obtain ⟨bx, ox, ux, rfl, cx, hux⟩ := HX.out.at hkn
        obtain ⟨by', oy, uy, rfl, cy, huy⟩ := HY.out.at hkn
        have i1 : ∀ z, IsI (wr.drewN z) ux (gr A k) := fun z => (hux.new (by rw [e]; exact New.drewN _ _)).new (New.drewN wr z)
        have i2 : ∀ z, IsI (wr.drewN z) uy (gr B k) := fun z => (huy.new (by rw [e]; exact New.drewN _ _)).new (New.drewN wr z)
        obtain ⟨ax, nx, dx, rfl, _, _⟩ := hux.shape
        obtain ⟨ay, ny, dy, rfl, _, _⟩ := huy.shape
        have cx' : wr.cell? ⟨bx, ox + k, none⟩ = some (.slice ax nx dx) := by rw [e]; exact cx
        have cy' : wr.cell? ⟨by', oy + k, none⟩ = some (.slice ay ny dy) := by rw [e]; exact cy
        have I1 := Lib.hid i1
        have I2 := Lib.hid i2
        clear cx cy e i1 i2 hux huy
        cases hg : eqL (gr A k) (gr B k) with
        | true =>
          have HG := Lib.hid hg
          clear hg
          go_wp2_with fail
          go_quiet ((go_at_call 72; exact Calls.quiet_of (equalInts_any _ _ _ _ _ (I1.out _) (I2.out _))))
          rw [HG.out]
          go_wp2_with fail
          go_roundw
          case rel =>
            refine ⟨k + 1, _, by go_num, by omega, by show _ = _; rw [HW.out]; exact (World.drewN_drewN _ _ _), fun j hj => ?_⟩
            by_cases e : j = k
            · rw [e]; exact HG.out
            · exact HJ.out j (by omega)
          case measure => simp [intOf]; omega
        | false =>
          have HQ := Lib.hid (eqLL_no hg)
          have HG := Lib.hid hg
          clear hg
          go_wp2_with fail
          go_quiet ((go_at_call 72; exact Calls.quiet_of (equalInts_any _ _ _ _ _ (I1.out _) (I2.out _))))
          rw [HG.out]
          go_wp2_with fail
          go_ret
          exact ⟨ret_bool HQ.out.symm, _, by rw [HW.out]; exact (World.drewN_drewN _ _ _)⟩
      · have HQ := Lib.hid (eqLL_yes HL.out (fun i hi => HJ.out i (by rw [← H1.out] at hi; omega)))
        go_wp2_with fail
        go_ret
        exact ⟨ret_bool HQ.out.symm, m, HW.out⟩
  · have HQ := Lib.hid (eqLL_len (xs := A) (ys := B) (by rw [← H1.out, ← H2.out]; exact hl))
    go_enter Tryz.func43, Tryz.ntmps43
    go_wp2_with fail
    go_ret
    exact ⟨ret_bool HQ.out.symm, 0, rfl⟩

/-! Marks. -/

/-- The rest of the product of two lists. -/
def dotTo (p : Int) (xs ys : List Int) : Nat → Int
  | 0 => 0
  | k + 1 => (dotTo p xs ys k + gi xs k * gi ys k) % p
theorem dotTo_range {p : Int} (hp : 0 < p) (xs ys : List Int) : ∀ k, 0 ≤ dotTo p xs ys k ∧ dotTo p xs ys k < p
  | 0 => ⟨Int.le_refl _, hp⟩
  | k + 1 => ⟨Int.emod_nonneg _ (by omega), Int.emod_lt_of_pos _ hp⟩
theorem dotTo_dt {q : Nat} [NeZero q] (xs ys : List Int) : ∀ k, phi q (dotTo q xs ys k) = dt k (vec q xs) (vec q ys)
  | 0 => phi_zero
  | k + 1 => by
    rw [dotTo, phi_emod, phi_add, phi_mul, dotTo_dt xs ys k]
    rfl
theorem dotTo_zero {q : Nat} [NeZero q] (xs ys : List Int) (k : Nat) : dotTo q xs ys k = 0 ↔ dt k (vec q xs) (vec q ys) = 0 := by
  have h := dotTo_range (p := q) p_pos xs ys k
  rw [← dotTo_dt, phi_eq_zero h.1 h.2]

end Go.Proofs.YtcdbeepphdfipaaGreatDoor
