/- The laws' own helpers: equality of lists and rows, marks. -/
import Derived.Test.YteoiaicpdmlecaaLawA
namespace Go.Proofs.Yteoiaicpdmlecaa
open Go.RowKit
set_option linter.unusedVariables false

def eqL (xs ys : List Int) : Bool := decide (xs = ys)
def eqLL (xs ys : List (List Int)) : Bool := decide (xs = ys)

theorem eqL_len {xs ys : List Int} (h : xs.length ≠ ys.length) : eqL xs ys = false := by simp only [eqL, decide_eq_false_iff_not]; intro e; exact h (by rw [e])
theorem eqL_no {xs ys : List Int} {k : Nat} (h : gi xs k ≠ gi ys k) : eqL xs ys = false := by simp only [eqL, decide_eq_false_iff_not]; intro e; exact h (by rw [e])
theorem eqL_yes {xs ys : List Int} (hl : xs.length = ys.length) (h : ∀ i, i < xs.length → gi xs i = gi ys i) : eqL xs ys = true := by simp only [eqL, decide_eq_true_eq]; exact ext_gi hl h
theorem eqLL_len {xs ys : List (List Int)} (h : xs.length ≠ ys.length) : eqLL xs ys = false := by simp only [eqLL, decide_eq_false_iff_not]; intro e; exact h (by rw [e])
theorem eqLL_no {xs ys : List (List Int)} {k : Nat} (h : eqL (gr xs k) (gr ys k) = false) : eqLL xs ys = false := by
  simp only [eqLL, decide_eq_false_iff_not]; intro e; subst e; simp [eqL] at h
theorem eqLL_yes {xs ys : List (List Int)} (hl : xs.length = ys.length) (h : ∀ i, i < xs.length → eqL (gr xs i) (gr ys i) = true) : eqLL xs ys = true := by
  simp only [eqLL, decide_eq_true_eq]; exact ext_gr hl (fun i hi => by have := h i hi; simpa [eqL] using this)
theorem eqL_self (xs : List Int) : eqL xs xs = true := by simp [eqL]
theorem eqLL_self (xs : List (List Int)) : eqLL xs xs = true := by simp [eqLL]

set_option maxHeartbeats 1000000 in
theorem eqIntS_any (va vb : Value) (xs ys : List Int) (w : World) (hx : IsI w va xs) (hy : IsI w vb ys) :
    Calls Try.prog 22 #[va, vb] w fun e w' => e = .returned (.bool (eqL xs ys)) ∧ ∃ m, w' = w.drewN m := by
  obtain ⟨a1, n1, c1, rfl, H1, b1⟩ := hx.shape
  obtain ⟨a2, n2, c2, rfl, H2, b2⟩ := hy.shape
  have HX := Lib.hid hx
  have HY := Lib.hid hy
  clear hx hy
  by_cases hl : n1 = n2
  · subst hl
    have HL : Hid (xs.length = ys.length) := by show _ = _; rw [← H1.out, ← H2.out]
    go_enter Try.func22, Try.ntmps22
    go_wp2_with fail
    go_loopw [5] (fun i wr => ∃ k m : Nat, i = .int .i64 k ∧ k ≤ n1 ∧ Hid (wr = w.drewN m) ∧ ∀ j, j < k → gi xs j = gi ys j) (fun i _ => n1 - (intOf i).toNat)
    case atStart => exact ⟨0, 0, rfl, Nat.zero_le _, rfl, fun j hj => by omega⟩
    case round =>
      obtain ⟨k, m, rfl, hk, HW, hj⟩ := hrel
      have HJ := Lib.hid hj
      clear hj
      by_cases hkn : k < n1
      · have e := HW.out
        obtain ⟨bx, ox, rfl, cx⟩ := HX.out.at hkn
        obtain ⟨by', oy, rfl, cy⟩ := HY.out.at hkn
        have cx' : wr.cell? ⟨bx, ox + k, none⟩ = some (.int .i64 (gi xs k)) := by rw [e]; exact cx
        have cy' : wr.cell? ⟨by', oy + k, none⟩ = some (.int .i64 (gi ys k)) := by rw [e]; exact cy
        clear cx cy e
        by_cases hg : gi xs k = gi ys k
        · have HG := Lib.hid hg
          rw [hg] at cx'
          clear hg
          go_wp2_with fail
          go_quiet (fail)
          go_wp2_with fail
          go_roundw
          case rel =>
            refine ⟨k + 1, _, by go_num, by omega, by show _ = _; rw [HW.out]; exact (World.drewN_drewN _ _ _), fun j hj => ?_⟩
            by_cases e : j = k
            · rw [e]; exact HG.out
            · exact HJ.out j (by omega)
          case measure => simp [intOf]; omega
        · have HQ := Lib.hid (eqL_no hg)
          have hb : (gi xs k != gi ys k) = true := by simpa using hg
          clear hg
          go_wp2_with fail
          go_quiet (fail)
          go_wp2_with fail
          go_ret
          exact ⟨ret_bool HQ.out.symm, _, by rw [HW.out]; exact (World.drewN_drewN _ _ _)⟩
      · have HQ := Lib.hid (eqL_yes HL.out (fun i hi => HJ.out i (by rw [← H1.out] at hi; omega)))
        go_wp2_with fail
        go_ret
        exact ⟨ret_bool HQ.out.symm, m, HW.out⟩
  · have HQ := Lib.hid (eqL_len (xs := xs) (ys := ys) (by rw [← H1.out, ← H2.out]; exact hl))
    go_enter Try.func22, Try.ntmps22
    go_wp2_with fail
    go_ret
    exact ⟨ret_bool HQ.out.symm, 0, rfl⟩

set_option maxHeartbeats 1000000 in
theorem eqIntSS_any (va vb : Value) (A B : List (List Int)) (w : World) (hx : IsR w va A) (hy : IsR w vb B) :
    Calls Try.prog 40 #[va, vb] w fun e w' => e = .returned (.bool (eqLL A B)) ∧ ∃ m, w' = w.drewN m := by
  obtain ⟨a1, n1, c1, rfl, H1, b1⟩ := hx.shape
  obtain ⟨a2, n2, c2, rfl, H2, b2⟩ := hy.shape
  have HX := Lib.hid hx
  have HY := Lib.hid hy
  clear hx hy
  by_cases hl : n1 = n2
  · subst hl
    have HL : Hid (A.length = B.length) := by show _ = _; rw [← H1.out, ← H2.out]
    go_enter Try.func40, Try.ntmps40
    go_wp2_with fail
    go_loopw [5] (fun i wr => ∃ k m : Nat, i = .int .i64 k ∧ k ≤ n1 ∧ Hid (wr = w.drewN m) ∧ ∀ j, j < k → eqL (gr A j) (gr B j) = true) (fun i _ => n1 - (intOf i).toNat)
    case atStart => exact ⟨0, 0, rfl, Nat.zero_le _, rfl, fun j hj => by omega⟩
    case round =>
      obtain ⟨k, m, rfl, hk, HW, hj⟩ := hrel
      have HJ := Lib.hid hj
      clear hj
      by_cases hkn : k < n1
      · have e := HW.out
        obtain ⟨bx, ox, ux, rfl, cx, hux⟩ := HX.out.at hkn
        obtain ⟨by', oy, uy, rfl, cy, huy⟩ := HY.out.at hkn
        have i1 : ∀ z, IsI (wr.drewN z) ux (gr A k) := fun z => (hux.new (by rw [e]; exact New.drewN _ _)).new (New.drewN wr z)
        have i2 : ∀ z, IsI (wr.drewN z) uy (gr B k) := fun z => (huy.new (by rw [e]; exact New.drewN _ _)).new (New.drewN wr z)
        obtain ⟨ax, nx, dx, rfl, _, _⟩ := hux.shape
        obtain ⟨ay, ny, dy, rfl, _, _⟩ := huy.shape
        have cx' : wr.cell? ⟨bx, ox + k, none⟩ = some (.slice ax nx dx) := by rw [e]; exact cx
        have cy' : wr.cell? ⟨by', oy + k, none⟩ = some (.slice ay ny dy) := by rw [e]; exact cy
        have I1 := Lib.hid i1
        have I2 := Lib.hid i2
        clear cx cy e i1 i2 hux huy
        cases hg : eqL (gr A k) (gr B k) with
        | true =>
          have HG := Lib.hid hg
          clear hg
          go_wp2_with fail
          go_quiet ((go_at_call 22; exact Calls.quiet_of (eqIntS_any _ _ _ _ _ (I1.out _) (I2.out _))))
          rw [HG.out]
          go_wp2_with fail
          go_roundw
          case rel =>
            refine ⟨k + 1, _, by go_num, by omega, by show _ = _; rw [HW.out]; exact (World.drewN_drewN _ _ _), fun j hj => ?_⟩
            by_cases e : j = k
            · rw [e]; exact HG.out
            · exact HJ.out j (by omega)
          case measure => simp [intOf]; omega
        | false =>
          have HQ := Lib.hid (eqLL_no hg)
          have HG := Lib.hid hg
          clear hg
          go_wp2_with fail
          go_quiet ((go_at_call 22; exact Calls.quiet_of (eqIntS_any _ _ _ _ _ (I1.out _) (I2.out _))))
          rw [HG.out]
          go_wp2_with fail
          go_ret
          exact ⟨ret_bool HQ.out.symm, _, by rw [HW.out]; exact (World.drewN_drewN _ _ _)⟩
      · have HQ := Lib.hid (eqLL_yes HL.out (fun i hi => HJ.out i (by rw [← H1.out] at hi; omega)))
        go_wp2_with fail
        go_ret
        exact ⟨ret_bool HQ.out.symm, m, HW.out⟩
  · have HQ := Lib.hid (eqLL_len (xs := A) (ys := B) (by rw [← H1.out, ← H2.out]; exact hl))
    go_enter Try.func40, Try.ntmps40
    go_wp2_with fail
    go_ret
    exact ⟨ret_bool HQ.out.symm, 0, rfl⟩

/-! Marks. -/

/-- The first j numbers have been marked from k0 on. -/
def mkTo (xs : List Int) (k0 : Int) (j : Nat) : List Int := xs.mapIdx (fun i a => if i < j then k0 + i else a)
/-- A list of n marks from k0 on. -/
def markL (n : Nat) (k0 : Int) : List Int := (List.range n).map (fun (i : Nat) => k0 + (i : Int))
theorem mkTo_length (xs : List Int) (k0 : Int) (j : Nat) : (mkTo xs k0 j).length = xs.length := by simp [mkTo]
theorem markL_length (n : Nat) (k0 : Int) : (markL n k0).length = n := by simp [markL]
theorem mkTo_get (xs : List Int) (k0 : Int) (j : Nat) {i : Nat} (hi : i < xs.length) : gi (mkTo xs k0 j) i = if i < j then k0 + i else gi xs i := by
  rw [gi_lt (by rw [mkTo_length]; exact hi), gi_lt hi]; simp [mkTo]
theorem markL_get (n : Nat) (k0 : Int) {i : Nat} (hi : i < n) : gi (markL n k0) i = k0 + i := by
  rw [gi_lt (by rw [markL_length]; exact hi)]; simp [markL]
theorem mkTo_zero (xs : List Int) (k0 : Int) : mkTo xs k0 0 = xs :=
  ext_gi (mkTo_length _ _ _) (fun i hi => by rw [mkTo_length] at hi; rw [mkTo_get _ _ _ hi, if_neg (by omega)])
theorem mkTo_succ (xs : List Int) (k0 : Int) (j : Nat) (hj : j < xs.length) : (mkTo xs k0 j).set j (k0 + j) = mkTo xs k0 (j + 1) := by
  refine ext_gi (by simp [mkTo]) (fun i hi => ?_)
  rw [List.length_set, mkTo_length] at hi
  rw [gi_set (by rw [mkTo_length]; exact hi), mkTo_get _ _ _ hi, mkTo_get _ _ _ hi]
  by_cases e : j = i
  · subst e; rw [if_pos rfl, if_pos (by omega)]
  · rw [if_neg e]
    by_cases h : i < j
    · rw [if_pos h, if_pos (by omega)]
    · rw [if_neg h, if_neg (by omega)]
theorem mkTo_all (xs : List Int) (k0 : Int) : mkTo xs k0 xs.length = markL xs.length k0 :=
  ext_gi (by rw [mkTo_length, markL_length]) (fun i hi => by rw [mkTo_length] at hi; rw [mkTo_get _ _ _ hi, if_pos hi, markL_get _ _ hi])

set_option maxHeartbeats 1000000 in
theorem markIntS_any (v : Value) (xs : List Int) (k0 : Int) (w : World) (hx : Own w 3 v (xs.map (Value.int .i64))) (hm : Mid xs.length) (hk : 0 ≤ k0 ∧ k0 ≤ 1152921504606846976) :
    Calls Try.prog 26 #[v, .int .i64 k0] w fun e w' => e = .returned (.int .i64 (k0 + xs.length)) ∧ Own w' 3 v ((markL xs.length k0).map (Value.int .i64)) ∧ Chg (fun k => v.ownBlock = some k) w w' := by
  obtain ⟨ao, n, cap, rfl, HN, hn, _⟩ := hx.opened (by rw [List.length_map]; exact hm)
  have en : n = xs.length := by have := HN.out; rwa [List.length_map] at this
  rw [← en]
  have HX := Lib.hid hx
  have HE := Lib.hid en
  clear hx en hm
  go_enter Try.func26, Try.ntmps26
  go_wp2_with fail
  go_loopw [1, 5] (fun t1 i wr => ∃ k : Nat, i = .int .i64 k ∧ t1 = .int .i64 (k0 + k) ∧ k ≤ n ∧ Own wr 3 (.slice ao n cap) ((mkTo xs k0 k).map (Value.int .i64)) ∧ Chg (fun k => (Value.slice ao n cap).ownBlock = some k) w wr) (fun _ i _ => n - (intOf i).toNat)
  case atStart => exact ⟨0, rfl, by go_num, Nat.zero_le _, by rw [mkTo_zero]; exact HX.out, Chg.refl _ _⟩
  case round =>
    obtain ⟨k, rfl, rfl, hkn', hown, hchg⟩ := hrel
    have HO := Lib.hid hown
    have HC := Lib.hid hchg
    clear hown hchg
    by_cases hkn : k < n
    · have hkx : k < xs.length := by rw [← HE.out]; exact hkn
      obtain ⟨g, rfl⟩ := HO.out.head (i := k) (by rw [List.length_map, mkTo_length]; exact hkx)
      obtain ⟨c1, f1⟩ := HO.out.cell (i := k) (by rw [List.length_map, mkTo_length]; exact hkx)
      go_wp2_with fail
      go_roundw
      case rel =>
        have hst := HO.out.set k (.int .i64 (k0 + k))
        rw [set_map_int, mkTo_succ _ _ _ hkx] at hst
        exact ⟨k + 1, by go_num, by apply val_int; omega, by omega, hst, Chg.trans HC.out (Chg.setCell _ _ _) (fun _ _ x => x) (fun i _ x => by rw [x]; rfl)⟩
      case measure => simp [intOf]; omega
    · obtain rfl : k = n := by omega
      go_wp2_with fail
      go_ret
      exact ⟨rfl, by have h := HO.out; rw [HE.out, mkTo_all, ← HE.out] at h; exact h, HC.out⟩

set_option maxHeartbeats 1000000 in
theorem heldIntS_any (v : Value) (n : Nat) (k0 : Int) (w : World) (hx : IsI w v (markL n k0)) (hk : 0 ≤ k0 ∧ k0 ≤ 1152921504606846976) :
    Calls Try.prog 27 #[v, .int .i64 k0] w fun e w' => e = .returned (.int .i64 (k0 + n)) ∧ w = w' := by
  obtain ⟨ao, n', cap, rfl, HN, hn⟩ := hx.shape
  obtain rfl : n' = n := by rw [HN.out, markL_length]
  have HX := Lib.hid hx
  clear hx
  go_enter Try.func27, Try.ntmps27
  go_wp2_with fail
  go_loop [1, 5] (fun t1 i => ∃ k : Nat, i = .int .i64 k ∧ t1 = .int .i64 (k0 + k) ∧ k ≤ n') (fun _ i => n' - (intOf i).toNat)
  case atStart => exact ⟨0, rfl, by go_num, Nat.zero_le _⟩
  case round =>
    obtain ⟨k, rfl, rfl, hkn'⟩ := hrel
    by_cases hkn : k < n'
    · obtain ⟨b, o, rfl, c⟩ := HX.out.at hkn
      rw [markL_get _ _ hkn] at c
      go_wp2_with fail
      go_round
      case rel => exact ⟨k + 1, by go_num, by apply val_int; omega, by omega⟩
      case measure => simp [intOf]; omega
    · obtain rfl : k = n' := by omega
      go_wp2_with fail
      go_ret
      exact ⟨rfl, rfl⟩

/-- How many numbers the first rows have. -/
def offR (rows : List (List Int)) : Nat → Int
  | 0 => 0
  | i + 1 => offR rows i + (gr rows i).length

/-- The first j rows have been marked. -/
def mkR (rows : List (List Int)) (k0 : Int) (j : Nat) : List (List Int) := rows.mapIdx (fun i r => if i < j then markL r.length (k0 + offR rows i) else r)
theorem mkR_length (rows : List (List Int)) (k0 : Int) (j : Nat) : (mkR rows k0 j).length = rows.length := by simp [mkR]
theorem mkR_get (rows : List (List Int)) (k0 : Int) (j : Nat) {i : Nat} (hi : i < rows.length) : gr (mkR rows k0 j) i = if i < j then markL (gr rows i).length (k0 + offR rows i) else gr rows i := by
  rw [gr_lt (by rw [mkR_length]; exact hi), gr_lt hi]; simp [mkR]
theorem mkR_zero (rows : List (List Int)) (k0 : Int) : mkR rows k0 0 = rows :=
  ext_gr (mkR_length _ _ _) (fun i hi => by rw [mkR_length] at hi; rw [mkR_get _ _ _ hi, if_neg (by omega)])
theorem mkR_succ (rows : List (List Int)) (k0 : Int) (j : Nat) (hj : j < rows.length) : (mkR rows k0 j).set j (markL (gr rows j).length (k0 + offR rows j)) = mkR rows k0 (j + 1) := by
  refine ext_gr (by simp [mkR]) (fun i hi => ?_)
  rw [List.length_set, mkR_length] at hi
  rw [gr_set (by rw [mkR_length]; exact hi), mkR_get _ _ _ hi, mkR_get _ _ _ hi]
  by_cases e : j = i
  · subst e; rw [if_pos rfl, if_pos (by omega)]
  · rw [if_neg e]
    by_cases h : i < j
    · rw [if_pos h, if_pos (by omega)]
    · rw [if_neg h, if_neg (by omega)]

theorem offR_bounds (rows : List (List Int)) (M : Int) (hM : 0 ≤ M) (h : ∀ i, i < rows.length → ((gr rows i).length : Int) ≤ M) (j : Nat) (hj : j ≤ rows.length) : 0 ≤ offR rows j ∧ offR rows j ≤ j * M := by
  induction j with
  | zero => simp [offR]
  | succ j ih =>
    have := ih (by omega)
    have h1 := h j (by omega)
    simp only [offR, Int.natCast_add, Int.add_mul]
    omega

set_option maxHeartbeats 1000000 in
theorem markIntSS_any (v : Value) (vs : List Value) (rows : List (List Int)) (k0 : Int) (w : World) (hx : OwnR w 31 3 v vs rows) (hm : rows.length ≤ 1048576) (hms : ∀ i, i < rows.length → (gr rows i).length ≤ 1048576) (hk : 0 ≤ k0 ∧ k0 ≤ 4503599627370496) :
    Calls Try.prog 41 #[v, .int .i64 k0] w fun e w' => e = .returned (.int .i64 (k0 + offR rows rows.length)) ∧ OwnR w' 31 3 v vs (mkR rows k0 rows.length) ∧ Chg (fun k => ∃ i, i < rows.length ∧ (gv vs i).ownBlock = some k) w w' := by
  obtain ⟨ao, n, cap, rfl, HN, hn, _⟩ := hx.outer.opened (by rw [hx.len]; unfold Mid; omega)
  have en : n = rows.length := by rw [HN.out, hx.len]
  rw [← en] at hm
  rw [← en]
  have HX := Lib.hid hx
  have HE := Lib.hid en
  have HMS := Lib.hid hms
  have HOFF := Lib.hid (fun j (hj : j ≤ rows.length) => offR_bounds rows 1048576 (by omega) (fun i hi => by have := hms i hi; omega) j hj)
  clear hx en hms
  go_enter Try.func41, Try.ntmps41
  go_wp2_with fail
  go_loopw [1, 5] (fun t1 i wr => ∃ k : Nat, i = .int .i64 k ∧ t1 = .int .i64 (k0 + offR rows k) ∧ k ≤ n ∧ OwnR wr 31 3 (.slice ao n cap) vs (mkR rows k0 k) ∧ Chg (fun k => ∃ i, i < n ∧ (gv vs i).ownBlock = some k) w wr) (fun _ i _ => n - (intOf i).toNat)
  case atStart => exact ⟨0, rfl, by simp [offR], Nat.zero_le _, by rw [mkR_zero]; exact HX.out, Chg.refl _ _⟩
  case round =>
    obtain ⟨k, rfl, rfl, hkn', hown, hchg⟩ := hrel
    have HO := Lib.hid hown
    have HC := Lib.hid hchg
    clear hown hchg
    by_cases hkn : k < n
    · have hkx : k < rows.length := by rw [← HE.out]; exact hkn
      have hkm : k < (mkR rows k0 k).length := by rw [mkR_length]; exact hkx
      obtain ⟨g, rfl⟩ := HO.out.outer.head (i := k) (by rw [HO.out.len]; exact hkm)
      obtain ⟨c1, f1⟩ := HO.out.outer.cell (i := k) (by rw [HO.out.len]; exact hkm)
      have hin := HO.out.inner k hkm
      rw [mkR_get _ _ _ hkx, if_neg (by omega)] at hin
      have hmr := HMS.out k hkx
      have hmid : Mid (gr rows k).length := by unfold Mid; omega
      obtain ⟨a, l, c, e, _, _, _⟩ := hin.opened (by rw [List.length_map]; exact hmid)
      rw [e] at c1 hin
      have HI := Lib.hid hin
      have E := Lib.hid e
      have hoff := HOFF.out k (by omega)
      have hb1 : 0 ≤ offR rows k := hoff.1
      have hb2 : offR rows k ≤ 1099511627776 := by have := hoff.2; omega
      clear hin e hoff
      go_wp2_with fail
      refine (markIntS_any _ (gr rows k) _ _ HI.out hmid (by omega)).mono ?_
      rintro e w2 ⟨rfl, h1, h2⟩
      have H1 := Lib.hid h1
      have H2 := Lib.hid h2
      clear h1 h2
      go_wp2_with fail
      go_roundw
      case rel =>
        refine ⟨k + 1, by go_num, by apply val_int; simp only [offR]; omega, by omega, ?_, Chg.trans HC.out H2.out (fun _ _ x => x) (fun i _ x => ⟨k, hkn, by rw [E.out]; exact x⟩)⟩
        rw [← mkR_succ _ _ _ hkx]
        exact HO.out.turn (by decide) hkm H2.out (fun g hg => by rw [E.out]; exact hg) (by rw [E.out]; exact H1.out)
      case measure => simp [intOf]; omega
    · obtain rfl : k = n := by omega
      go_wp2_with fail
      go_ret
      exact ⟨rfl, HO.out, HC.out⟩

set_option maxHeartbeats 1000000 in
theorem heldIntSS_any (v : Value) (rows : List (List Int)) (k0 : Int) (w : World) (hx : IsR w v (mkR rows k0 rows.length)) (hm : rows.length ≤ 1048576) (hms : ∀ i, i < rows.length → (gr rows i).length ≤ 1048576) (hk : 0 ≤ k0 ∧ k0 ≤ 4503599627370496) :
    Calls Try.prog 42 #[v, .int .i64 k0] w fun e w' => e = .returned (.int .i64 (k0 + offR rows rows.length)) ∧ w = w' := by
  obtain ⟨ao, n, cap, rfl, HN, hn⟩ := hx.shape
  have en : n = rows.length := by rw [HN.out, mkR_length]
  rw [← en] at hm
  rw [← en]
  have HX := Lib.hid hx
  have HE := Lib.hid en
  have HMS := Lib.hid hms
  have HOFF := Lib.hid (fun j (hj : j ≤ rows.length) => offR_bounds rows 1048576 (by omega) (fun i hi => by have := hms i hi; omega) j hj)
  clear hx en hms
  go_enter Try.func42, Try.ntmps42
  go_wp2_with fail
  go_loop [1, 5] (fun t1 i => ∃ k : Nat, i = .int .i64 k ∧ t1 = .int .i64 (k0 + offR rows k) ∧ k ≤ n) (fun _ i => n - (intOf i).toNat)
  case atStart => exact ⟨0, rfl, by simp [offR], Nat.zero_le _⟩
  case round =>
    obtain ⟨k, rfl, rfl, hkn'⟩ := hrel
    by_cases hkn : k < n
    · have hkx : k < rows.length := by rw [← HE.out]; exact hkn
      obtain ⟨b, o, u, rfl, c, hu⟩ := HX.out.at hkn
      rw [mkR_get _ _ _ hkx, if_pos hkx] at hu
      have HU := Lib.hid hu
      obtain ⟨a, l, c', rfl, _, _⟩ := hu.shape
      clear hu
      have hmr := HMS.out k hkx
      have hoff := HOFF.out k (by omega)
      have hb1 : 0 ≤ offR rows k := hoff.1
      have hb2 : offR rows k ≤ 1099511627776 := by have := hoff.2; omega
      clear hoff
      go_wp2_with fail
      refine (heldIntS_any _ _ _ _ HU.out (by omega)).mono ?_
      rintro e w2 ⟨rfl, rfl⟩
      go_wp2_with fail
      go_round
      case rel => exact ⟨k + 1, by go_num, by apply val_int; simp only [offR]; omega, by omega⟩
      case measure => simp [intOf]; omega
    · obtain rfl : k = n := by omega
      go_wp2_with fail
      go_ret
      exact ⟨rfl, rfl⟩
end Go.Proofs.Yteoiaicpdmlecaa
