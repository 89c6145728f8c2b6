/- The laws' own helpers: sizes, copies, equality, marks. The laws' own helpers: equality of lists and rows, marks. Blocks of two cells; what came in, when memory is made. A block of one cell. The laws' helpers on codes. What the laws hold: lists and rows of their own, each in its own stretch of the heap. What the laws hold: rows. What the laws hold: codes. What the laws hold: codes that are looked at again. From what the row's form hands over to what the walks ask: rows of numbers that came in. -/
import Derived.Test.YtcdbeepphdfipaaGreatDoorLeaf
import Derived.Test.YtcdbeepphdfipaaGreatDoorRedP
import Derived.Deep.QuietTactic
import Derived.BigQuiet
import Derived.Outline
import Derived.ProofKit
import Derived.OpenShut
import Derived.ShutString
import Derived.ChangeOld
import Derived.Below
import Derived.Deep.Matrix
namespace Go.Proofs.YtcdbeepphdfipaaGreatDoor
open Go.RowKit
set_option linter.unusedVariables false

/-- As IsI and IsR, of whatever length memory can hold. -/
def RawI (w : World) (v : Value) (xs : List Int) : Prop :=
  ∃ ao cap, v = .slice ao xs.length cap ∧ (xs.length ≤ cap ∧ (ao = none → cap = 0)) ∧ cap ≤ maxLen ∧
    ∀ i, i < xs.length → ∃ b o, ao = some ⟨b, o, none⟩ ∧ w.cell? ⟨b, o + i, none⟩ = some (.int .i64 (gi xs i))
def RawR (w : World) (v : Value) (rows : List (List Int)) : Prop :=
  ∃ ao cap, v = .slice ao rows.length cap ∧ (rows.length ≤ cap ∧ (ao = none → cap = 0)) ∧ cap ≤ maxLen ∧
    ∀ i, i < rows.length → ∃ b o u, ao = some ⟨b, o, none⟩ ∧ w.cell? ⟨b, o + i, none⟩ = some u ∧ RawI w u (gr rows i)

theorem RawI.isI {w : World} {v : Value} {xs : List Int} (h : RawI w v xs) (hm : Mid xs.length) : IsI w v xs := by
  obtain ⟨ao, cap, e, h1, h2, h3⟩ := h
  exact ⟨ao, cap, e, h1, h2, hm, h3⟩

theorem RawR.isR {w : World} {v : Value} {rows : List (List Int)} (h : RawR w v rows) (hm : Mid rows.length) (hms : ∀ i, i < rows.length → Mid (gr rows i).length) : IsR w v rows := by
  obtain ⟨ao, cap, e, h1, h2, h3⟩ := h
  exact ⟨ao, cap, e, h1, h2, hm, fun i hi => by
    obtain ⟨b, o, u, e1, e2, e3⟩ := h3 i hi
    exact ⟨b, o, u, e1, e2, e3.isI (hms i hi)⟩⟩

/-- The first k numbers have been copied. -/
def cpTo (xs : List Int) (k : Nat) : List Int := xs.mapIdx (fun i a => if i < k then a else 0)
theorem cpTo_length (xs : List Int) (k : Nat) : (cpTo xs k).length = xs.length := by simp [cpTo]
theorem cpTo_get (xs : List Int) (k : Nat) {i : Nat} (hi : i < xs.length) : gi (cpTo xs k) i = if i < k then gi xs i else 0 := by
  rw [gi_lt (by rw [cpTo_length]; exact hi), gi_lt hi]; simp [cpTo]
theorem cpTo_zero (xs : List Int) : cpTo xs 0 = List.replicate xs.length 0 :=
  ext_gi (by simp [cpTo]) (fun i hi => by rw [cpTo_length] at hi; rw [cpTo_get _ _ hi, gi_replicate, if_neg (by omega)])
theorem cpTo_succ (xs : List Int) (k : Nat) (hk : k < xs.length) : (cpTo xs k).set k (gi xs k) = cpTo xs (k + 1) := by
  refine ext_gi (by simp [cpTo]) (fun i hi => ?_)
  rw [List.length_set, cpTo_length] at hi
  rw [gi_set (by rw [cpTo_length]; exact hi), cpTo_get _ _ hi, cpTo_get _ _ hi]
  by_cases e : k = i
  · subst e; rw [if_pos rfl, if_pos (by omega)]
  · rw [if_neg e]
    by_cases h : i < k
    · rw [if_pos h, if_pos (by omega)]
    · rw [if_neg h, if_neg (by omega)]
theorem cpTo_all (xs : List Int) : cpTo xs xs.length = xs :=
  ext_gi (cpTo_length _ _) (fun i hi => by rw [cpTo_length] at hi; rw [cpTo_get _ _ hi, if_pos hi])

theorem set_replicate {vs : List Value} {u z : Value} {n k : Nat} (hk : vs.length = k) (hkn : k < n) : (vs ++ List.replicate (n - k) z).set k u = (vs ++ [u]) ++ List.replicate (n - (k + 1)) z := by
  subst hk
  rw [List.set_append_right _ _ (Nat.le_refl _), Nat.sub_self]
  obtain ⟨d, hd⟩ : ∃ d, n - vs.length = d + 1 := ⟨n - vs.length - 1, by omega⟩
  rw [hd, List.replicate_succ, List.set_cons_zero, show n - (vs.length + 1) = d by omega]
  simp

end Go.Proofs.YtcdbeepphdfipaaGreatDoor

namespace Go.Proofs.YtcdbeepphdfipaaGreatDoor
open Go.RowKit
set_option linter.unusedVariables false

def eqL (xs ys : List Int) : Bool := decide (xs = ys)
def eqLL (xs ys : List (List Int)) : Bool := decide (xs = ys)

theorem eqL_len {xs ys : List Int} (h : xs.length ≠ ys.length) : eqL xs ys = false := by simp only [eqL, decide_eq_false_iff_not]; intro e; exact h (by rw [e])
theorem eqL_no {xs ys : List Int} {k : Nat} (h : gi xs k ≠ gi ys k) : eqL xs ys = false := by simp only [eqL, decide_eq_false_iff_not]; intro e; exact h (by rw [e])
theorem eqL_yes {xs ys : List Int} (hl : xs.length = ys.length) (h : ∀ i, i < xs.length → gi xs i = gi ys i) : eqL xs ys = true := by simp only [eqL, decide_eq_true_eq]; exact ext_gi hl h
theorem eqLL_len {xs ys : List (List Int)} (h : xs.length ≠ ys.length) : eqLL xs ys = false := by simp only [eqLL, decide_eq_false_iff_not]; intro e; exact h (by rw [e])
theorem eqLL_no {xs ys : List (List Int)} {k : Nat} (h : eqL (gr xs k) (gr ys k) = false) : eqLL xs ys = false := by
  simp only [eqLL, decide_eq_false_iff_not]; intro e; subst e; simp [eqL] at h
theorem eqLL_yes {xs ys : List (List Int)} (hl : xs.length = ys.length) (h : ∀ i, i < xs.length → eqL (gr xs i) (gr ys i) = true) : eqLL xs ys = true := by
  simp only [eqLL, decide_eq_true_eq]; exact ext_gr hl (fun i hi => by have := h i hi; simpa [eqL] using this)
theorem eqL_self (xs : List Int) : eqL xs xs = true := by simp [eqL]
theorem eqLL_self (xs : List (List Int)) : eqLL xs xs = true := by simp [eqLL]

set_option maxHeartbeats 1000000 in
theorem eqIntS_any (va vb : Value) (xs ys : List Int) (w : World) (hx : IsI w va xs) (hy : IsI w vb ys) :
    Calls Tryz.prog 62 #[va, vb] w fun e w' => e = .returned (.bool (eqL xs ys)) ∧ ∃ m, w' = w.drewN m := by
  obtain ⟨a1, n1, c1, rfl, H1, b1⟩ := hx.shape
  obtain ⟨a2, n2, c2, rfl, H2, b2⟩ := hy.shape
  have HX := Lib.hid hx
  have HY := Lib.hid hy
  clear hx hy
  by_cases hl : n1 = n2
  · subst hl
    have HL : Hid (xs.length = ys.length) := by show _ = _; rw [← H1.out, ← H2.out]
    go_enter Tryz.func62, Tryz.ntmps62
    go_wp2_with fail
    go_loopw [5] (fun i wr => ∃ k m : Nat, i = .int .i64 k ∧ k ≤ n1 ∧ Hid (wr = w.drewN m) ∧ ∀ j, j < k → gi xs j = gi ys j) (fun i _ => n1 - (intOf i).toNat)
    case atStart => exact ⟨0, 0, rfl, Nat.zero_le _, rfl, fun j hj => by omega⟩
    case round =>
      obtain ⟨k, m, rfl, hk, HW, hj⟩ := hrel
      have HJ := Lib.hid hj
      clear hj
      by_cases hkn : k < n1
      · have e := HW.out
        obtain ⟨bx, ox, rfl, cx⟩ := HX.out.at hkn
        obtain ⟨by', oy, rfl, cy⟩ := HY.out.at hkn
        have cx' : wr.cell? ⟨bx, ox + k, none⟩ = some (.int .i64 (gi xs k)) := by rw [e]; exact cx
        have cy' : wr.cell? ⟨by', oy + k, none⟩ = some (.int .i64 (gi ys k)) := by rw [e]; exact cy
        clear cx cy e
        by_cases hg : gi xs k = gi ys k
        · have HG := Lib.hid hg
          rw [hg] at cx'
          clear hg
          go_wp2_with fail
          go_quiet (fail)
          go_wp2_with fail
          go_roundw
          case rel =>
            refine ⟨k + 1, _, by go_num, by omega, by show _ = _; rw [HW.out]; exact (World.drewN_drewN _ _ _), fun j hj => ?_⟩
            by_cases e : j = k
            · rw [e]; exact HG.out
            · exact HJ.out j (by omega)
          case measure => simp [intOf]; omega
        · have HQ := Lib.hid (eqL_no hg)
          have hb : (gi xs k != gi ys k) = true := by simpa using hg
          clear hg
          go_wp2_with fail
          go_quiet (fail)
          go_wp2_with fail
          go_ret
          exact ⟨ret_bool HQ.out.symm, _, by rw [HW.out]; exact (World.drewN_drewN _ _ _)⟩
      · have HQ := Lib.hid (eqL_yes HL.out (fun i hi => HJ.out i (by rw [← H1.out] at hi; omega)))
        go_wp2_with fail
        go_ret
        exact ⟨ret_bool HQ.out.symm, m, HW.out⟩
  · have HQ := Lib.hid (eqL_len (xs := xs) (ys := ys) (by rw [← H1.out, ← H2.out]; exact hl))
    go_enter Tryz.func62, Tryz.ntmps62
    go_wp2_with fail
    go_ret
    exact ⟨ret_bool HQ.out.symm, 0, rfl⟩

set_option maxHeartbeats 1000000 in
theorem eqIntSS_any (va vb : Value) (A B : List (List Int)) (w : World) (hx : IsR w va A) (hy : IsR w vb B) :
    Calls Tryz.prog 31 #[va, vb] w fun e w' => e = .returned (.bool (eqLL A B)) ∧ ∃ m, w' = w.drewN m := by
  obtain ⟨a1, n1, c1, rfl, H1, b1⟩ := hx.shape
  obtain ⟨a2, n2, c2, rfl, H2, b2⟩ := hy.shape
  have HX := Lib.hid hx
  have HY := Lib.hid hy
  clear hx hy
  by_cases hl : n1 = n2
  · subst hl
    have HL : Hid (A.length = B.length) := by show _ = _; rw [← H1.out, ← H2.out]
    go_enter Tryz.func31, Tryz.ntmps31
    go_wp2_with fail
    go_loopw [5] (fun i wr => ∃ k m : Nat, i = .int .i64 k ∧ k ≤ n1 ∧ Hid (wr = w.drewN m) ∧ ∀ j, j < k → eqL (gr A j) (gr B j) = true) (fun i _ => n1 - (intOf i).toNat)
    case atStart => exact ⟨0, 0, rfl, Nat.zero_le _, rfl, fun j hj => by omega⟩
    case round =>
      obtain ⟨k, m, rfl, hk, HW, hj⟩ := hrel
      have HJ := Lib.hid hj
      clear hj
      by_cases hkn : k < n1
      · have e := HW.out
        obtain ⟨bx, ox, ux, rfl, cx, hux⟩ := HX.out.at hkn
        obtain ⟨by', oy, uy, rfl, cy, huy⟩ := HY.out.at hkn
        have i1 : ∀ z, IsI (wr.drewN z) ux (gr A k) := fun z => (hux.new (by rw [e]; exact New.drewN _ _)).new (New.drewN wr z)
        have i2 : ∀ z, IsI (wr.drewN z) uy (gr B k) := fun z => (huy.new (by rw [e]; exact New.drewN _ _)).new (New.drewN wr z)
        obtain ⟨ax, nx, dx, rfl, _, _⟩ := hux.shape
        obtain ⟨ay, ny, dy, rfl, _, _⟩ := huy.shape
        have cx' : wr.cell? ⟨bx, ox + k, none⟩ = some (.slice ax nx dx) := by rw [e]; exact cx
        have cy' : wr.cell? ⟨by', oy + k, none⟩ = some (.slice ay ny dy) := by rw [e]; exact cy
        have I1 := Lib.hid i1
        have I2 := Lib.hid i2
        clear cx cy e i1 i2 hux huy
        cases hg : eqL (gr A k) (gr B k) with
        | true =>
          have HG := Lib.hid hg
          clear hg
          go_wp2_with fail
          go_quiet ((go_at_call 62; exact Calls.quiet_of (eqIntS_any _ _ _ _ _ (I1.out _) (I2.out _))))
          rw [HG.out]
          go_wp2_with fail
          go_roundw
          case rel =>
            refine ⟨k + 1, _, by go_num, by omega, by show _ = _; rw [HW.out]; exact (World.drewN_drewN _ _ _), fun j hj => ?_⟩
            by_cases e : j = k
            · rw [e]; exact HG.out
            · exact HJ.out j (by omega)
          case measure => simp [intOf]; omega
        | false =>
          have HQ := Lib.hid (eqLL_no hg)
          have HG := Lib.hid hg
          clear hg
          go_wp2_with fail
          go_quiet ((go_at_call 62; exact Calls.quiet_of (eqIntS_any _ _ _ _ _ (I1.out _) (I2.out _))))
          rw [HG.out]
          go_wp2_with fail
          go_ret
          exact ⟨ret_bool HQ.out.symm, _, by rw [HW.out]; exact (World.drewN_drewN _ _ _)⟩
      · have HQ := Lib.hid (eqLL_yes HL.out (fun i hi => HJ.out i (by rw [← H1.out] at hi; omega)))
        go_wp2_with fail
        go_ret
        exact ⟨ret_bool HQ.out.symm, m, HW.out⟩
  · have HQ := Lib.hid (eqLL_len (xs := A) (ys := B) (by rw [← H1.out, ← H2.out]; exact hl))
    go_enter Tryz.func31, Tryz.ntmps31
    go_wp2_with fail
    go_ret
    exact ⟨ret_bool HQ.out.symm, 0, rfl⟩

/-! Marks. -/

/-- The first j numbers have been marked from k0 on. -/
def mkTo (xs : List Int) (k0 : Int) (j : Nat) : List Int := xs.mapIdx (fun i a => if i < j then k0 + i else a)
/-- A list of n marks from k0 on. -/
def markL (n : Nat) (k0 : Int) : List Int := (List.range n).map (fun (i : Nat) => k0 + (i : Int))
theorem mkTo_length (xs : List Int) (k0 : Int) (j : Nat) : (mkTo xs k0 j).length = xs.length := by simp [mkTo]
theorem markL_length (n : Nat) (k0 : Int) : (markL n k0).length = n := by simp [markL]
theorem mkTo_get (xs : List Int) (k0 : Int) (j : Nat) {i : Nat} (hi : i < xs.length) : gi (mkTo xs k0 j) i = if i < j then k0 + i else gi xs i := by
  rw [gi_lt (by rw [mkTo_length]; exact hi), gi_lt hi]; simp [mkTo]
theorem markL_get (n : Nat) (k0 : Int) {i : Nat} (hi : i < n) : gi (markL n k0) i = k0 + i := by
  rw [gi_lt (by rw [markL_length]; exact hi)]; simp [markL]
theorem mkTo_zero (xs : List Int) (k0 : Int) : mkTo xs k0 0 = xs :=
  ext_gi (mkTo_length _ _ _) (fun i hi => by rw [mkTo_length] at hi; rw [mkTo_get _ _ _ hi, if_neg (by omega)])
theorem mkTo_succ (xs : List Int) (k0 : Int) (j : Nat) (hj : j < xs.length) : (mkTo xs k0 j).set j (k0 + j) = mkTo xs k0 (j + 1) := by
  refine ext_gi (by simp [mkTo]) (fun i hi => ?_)
  rw [List.length_set, mkTo_length] at hi
  rw [gi_set (by rw [mkTo_length]; exact hi), mkTo_get _ _ _ hi, mkTo_get _ _ _ hi]
  by_cases e : j = i
  · subst e; rw [if_pos rfl, if_pos (by omega)]
  · rw [if_neg e]
    by_cases h : i < j
    · rw [if_pos h, if_pos (by omega)]
    · rw [if_neg h, if_neg (by omega)]
theorem mkTo_all (xs : List Int) (k0 : Int) : mkTo xs k0 xs.length = markL xs.length k0 :=
  ext_gi (by rw [mkTo_length, markL_length]) (fun i hi => by rw [mkTo_length] at hi; rw [mkTo_get _ _ _ hi, if_pos hi, markL_get _ _ hi])

set_option maxHeartbeats 1000000 in
theorem markIntS_any (v : Value) (xs : List Int) (k0 : Int) (w : World) (hx : Own w 3 v (xs.map (Value.int .i64))) (hm : Mid xs.length) (hk : 0 ≤ k0 ∧ k0 ≤ 1152921504606846976) :
    Calls Tryz.prog 63 #[v, .int .i64 k0] w fun e w' => e = .returned (.int .i64 (k0 + xs.length)) ∧ Own w' 3 v ((markL xs.length k0).map (Value.int .i64)) ∧ Chg (fun k => v.ownBlock = some k) w w' := by
  obtain ⟨ao, n, cap, rfl, HN, hn, _⟩ := hx.opened (by rw [List.length_map]; exact hm)
  have en : n = xs.length := by have := HN.out; rwa [List.length_map] at this
  rw [← en]
  have HX := Lib.hid hx
  have HE := Lib.hid en
  clear hx en hm
  go_enter Tryz.func63, Tryz.ntmps63
  go_wp2_with fail
  go_loopw [1, 5] (fun t1 i wr => ∃ k : Nat, i = .int .i64 k ∧ t1 = .int .i64 (k0 + k) ∧ k ≤ n ∧ Own wr 3 (.slice ao n cap) ((mkTo xs k0 k).map (Value.int .i64)) ∧ Chg (fun k => (Value.slice ao n cap).ownBlock = some k) w wr) (fun _ i _ => n - (intOf i).toNat)
  case atStart => exact ⟨0, rfl, by go_num, Nat.zero_le _, by rw [mkTo_zero]; exact HX.out, Chg.refl _ _⟩
  case round =>
    obtain ⟨k, rfl, rfl, hkn', hown, hchg⟩ := hrel
    have HO := Lib.hid hown
    have HC := Lib.hid hchg
    clear hown hchg
    by_cases hkn : k < n
    · have hkx : k < xs.length := by rw [← HE.out]; exact hkn
      obtain ⟨g, rfl⟩ := HO.out.head (i := k) (by rw [List.length_map, mkTo_length]; exact hkx)
      obtain ⟨c1, f1⟩ := HO.out.cell (i := k) (by rw [List.length_map, mkTo_length]; exact hkx)
      go_wp2_with fail
      go_roundw
      case rel =>
        have hst := HO.out.set k (.int .i64 (k0 + k))
        rw [set_map_int, mkTo_succ _ _ _ hkx] at hst
        exact ⟨k + 1, by go_num, by apply val_int; omega, by omega, hst, Chg.trans HC.out (Chg.setCell _ _ _) (fun _ _ x => x) (fun i _ x => by rw [x]; rfl)⟩
      case measure => simp [intOf]; omega
    · obtain rfl : k = n := by omega
      go_wp2_with fail
      go_ret
      exact ⟨rfl, by have h := HO.out; rw [HE.out, mkTo_all, ← HE.out] at h; exact h, HC.out⟩

set_option maxHeartbeats 1000000 in
theorem heldIntS_any (v : Value) (n : Nat) (k0 : Int) (w : World) (hx : IsI w v (markL n k0)) (hk : 0 ≤ k0 ∧ k0 ≤ 1152921504606846976) :
    Calls Tryz.prog 64 #[v, .int .i64 k0] w fun e w' => e = .returned (.int .i64 (k0 + n)) ∧ w = w' := by
  obtain ⟨ao, n', cap, rfl, HN, hn⟩ := hx.shape
  obtain rfl : n' = n := by rw [HN.out, markL_length]
  have HX := Lib.hid hx
  clear hx
  go_enter Tryz.func64, Tryz.ntmps64
  go_wp2_with fail
  go_loop [1, 5] (fun t1 i => ∃ k : Nat, i = .int .i64 k ∧ t1 = .int .i64 (k0 + k) ∧ k ≤ n') (fun _ i => n' - (intOf i).toNat)
  case atStart => exact ⟨0, rfl, by go_num, Nat.zero_le _⟩
  case round =>
    obtain ⟨k, rfl, rfl, hkn'⟩ := hrel
    by_cases hkn : k < n'
    · obtain ⟨b, o, rfl, c⟩ := HX.out.at hkn
      rw [markL_get _ _ hkn] at c
      go_wp2_with fail
      go_round
      case rel => exact ⟨k + 1, by go_num, by apply val_int; omega, by omega⟩
      case measure => simp [intOf]; omega
    · obtain rfl : k = n' := by omega
      go_wp2_with fail
      go_ret
      exact ⟨rfl, rfl⟩

/-- How many numbers the first rows have. -/
def offR (rows : List (List Int)) : Nat → Int
  | 0 => 0
  | i + 1 => offR rows i + (gr rows i).length

/-- The first j rows have been marked. -/
def mkR (rows : List (List Int)) (k0 : Int) (j : Nat) : List (List Int) := rows.mapIdx (fun i r => if i < j then markL r.length (k0 + offR rows i) else r)
theorem mkR_length (rows : List (List Int)) (k0 : Int) (j : Nat) : (mkR rows k0 j).length = rows.length := by simp [mkR]
theorem mkR_get (rows : List (List Int)) (k0 : Int) (j : Nat) {i : Nat} (hi : i < rows.length) : gr (mkR rows k0 j) i = if i < j then markL (gr rows i).length (k0 + offR rows i) else gr rows i := by
  rw [gr_lt (by rw [mkR_length]; exact hi), gr_lt hi]; simp [mkR]
theorem mkR_zero (rows : List (List Int)) (k0 : Int) : mkR rows k0 0 = rows :=
  ext_gr (mkR_length _ _ _) (fun i hi => by rw [mkR_length] at hi; rw [mkR_get _ _ _ hi, if_neg (by omega)])
theorem mkR_succ (rows : List (List Int)) (k0 : Int) (j : Nat) (hj : j < rows.length) : (mkR rows k0 j).set j (markL (gr rows j).length (k0 + offR rows j)) = mkR rows k0 (j + 1) := by
  refine ext_gr (by simp [mkR]) (fun i hi => ?_)
  rw [List.length_set, mkR_length] at hi
  rw [gr_set (by rw [mkR_length]; exact hi), mkR_get _ _ _ hi, mkR_get _ _ _ hi]
  by_cases e : j = i
  · subst e; rw [if_pos rfl, if_pos (by omega)]
  · rw [if_neg e]
    by_cases h : i < j
    · rw [if_pos h, if_pos (by omega)]
    · rw [if_neg h, if_neg (by omega)]

theorem offR_bounds (rows : List (List Int)) (M : Int) (hM : 0 ≤ M) (h : ∀ i, i < rows.length → ((gr rows i).length : Int) ≤ M) (j : Nat) (hj : j ≤ rows.length) : 0 ≤ offR rows j ∧ offR rows j ≤ j * M := by
  induction j with
  | zero => simp [offR]
  | succ j ih =>
    have := ih (by omega)
    have h1 := h j (by omega)
    simp only [offR, Int.natCast_add, Int.add_mul]
    omega

set_option maxHeartbeats 1000000 in
theorem markIntSS_any (v : Value) (vs : List Value) (rows : List (List Int)) (k0 : Int) (w : World) (hx : OwnR w 53 3 v vs rows) (hm : rows.length ≤ 1048576) (hms : ∀ i, i < rows.length → (gr rows i).length ≤ 1048576) (hk : 0 ≤ k0 ∧ k0 ≤ 4503599627370496) :
    Calls Tryz.prog 32 #[v, .int .i64 k0] w fun e w' => e = .returned (.int .i64 (k0 + offR rows rows.length)) ∧ OwnR w' 53 3 v vs (mkR rows k0 rows.length) ∧ Chg (fun k => ∃ i, i < rows.length ∧ (gv vs i).ownBlock = some k) w w' := by
  obtain ⟨ao, n, cap, rfl, HN, hn, _⟩ := hx.outer.opened (by rw [hx.len]; unfold Mid; omega)
  have en : n = rows.length := by rw [HN.out, hx.len]
  rw [← en] at hm
  rw [← en]
  have HX := Lib.hid hx
  have HE := Lib.hid en
  have HMS := Lib.hid hms
  have HOFF := Lib.hid (fun j (hj : j ≤ rows.length) => offR_bounds rows 1048576 (by omega) (fun i hi => by have := hms i hi; omega) j hj)
  clear hx en hms
  go_enter Tryz.func32, Tryz.ntmps32
  go_wp2_with fail
  go_loopw [1, 5] (fun t1 i wr => ∃ k : Nat, i = .int .i64 k ∧ t1 = .int .i64 (k0 + offR rows k) ∧ k ≤ n ∧ OwnR wr 53 3 (.slice ao n cap) vs (mkR rows k0 k) ∧ Chg (fun k => ∃ i, i < n ∧ (gv vs i).ownBlock = some k) w wr) (fun _ i _ => n - (intOf i).toNat)
  case atStart => exact ⟨0, rfl, by simp [offR], Nat.zero_le _, by rw [mkR_zero]; exact HX.out, Chg.refl _ _⟩
  case round =>
    obtain ⟨k, rfl, rfl, hkn', hown, hchg⟩ := hrel
    have HO := Lib.hid hown
    have HC := Lib.hid hchg
    clear hown hchg
    by_cases hkn : k < n
    · have hkx : k < rows.length := by rw [← HE.out]; exact hkn
      have hkm : k < (mkR rows k0 k).length := by rw [mkR_length]; exact hkx
      obtain ⟨g, rfl⟩ := HO.out.outer.head (i := k) (by rw [HO.out.len]; exact hkm)
      obtain ⟨c1, f1⟩ := HO.out.outer.cell (i := k) (by rw [HO.out.len]; exact hkm)
      have hin := HO.out.inner k hkm
      rw [mkR_get _ _ _ hkx, if_neg (by omega)] at hin
      have hmr := HMS.out k hkx
      have hmid : Mid (gr rows k).length := by unfold Mid; omega
      obtain ⟨a, l, c, e, _, _, _⟩ := hin.opened (by rw [List.length_map]; exact hmid)
      rw [e] at c1 hin
      have HI := Lib.hid hin
      have E := Lib.hid e
      have hoff := HOFF.out k (by omega)
      have hb1 : 0 ≤ offR rows k := hoff.1
      have hb2 : offR rows k ≤ 1099511627776 := by have := hoff.2; omega
      clear hin e hoff
      go_wp2_with fail
      refine (markIntS_any _ (gr rows k) _ _ HI.out hmid (by omega)).mono ?_
      rintro e w2 ⟨rfl, h1, h2⟩
      have H1 := Lib.hid h1
      have H2 := Lib.hid h2
      clear h1 h2
      go_wp2_with fail
      go_roundw
      case rel =>
        refine ⟨k + 1, by go_num, by apply val_int; simp only [offR]; omega, by omega, ?_, Chg.trans HC.out H2.out (fun _ _ x => x) (fun i _ x => ⟨k, hkn, by rw [E.out]; exact x⟩)⟩
        rw [← mkR_succ _ _ _ hkx]
        exact HO.out.turn (by decide) hkm H2.out (fun g hg => by rw [E.out]; exact hg) (by rw [E.out]; exact H1.out)
      case measure => simp [intOf]; omega
    · obtain rfl : k = n := by omega
      go_wp2_with fail
      go_ret
      exact ⟨rfl, HO.out, HC.out⟩

set_option maxHeartbeats 1000000 in
theorem heldIntSS_any (v : Value) (rows : List (List Int)) (k0 : Int) (w : World) (hx : IsR w v (mkR rows k0 rows.length)) (hm : rows.length ≤ 1048576) (hms : ∀ i, i < rows.length → (gr rows i).length ≤ 1048576) (hk : 0 ≤ k0 ∧ k0 ≤ 4503599627370496) :
    Calls Tryz.prog 33 #[v, .int .i64 k0] w fun e w' => e = .returned (.int .i64 (k0 + offR rows rows.length)) ∧ w = w' := by
  obtain ⟨ao, n, cap, rfl, HN, hn⟩ := hx.shape
  have en : n = rows.length := by rw [HN.out, mkR_length]
  rw [← en] at hm
  rw [← en]
  have HX := Lib.hid hx
  have HE := Lib.hid en
  have HMS := Lib.hid hms
  have HOFF := Lib.hid (fun j (hj : j ≤ rows.length) => offR_bounds rows 1048576 (by omega) (fun i hi => by have := hms i hi; omega) j hj)
  clear hx en hms
  go_enter Tryz.func33, Tryz.ntmps33
  go_wp2_with fail
  go_loop [1, 5] (fun t1 i => ∃ k : Nat, i = .int .i64 k ∧ t1 = .int .i64 (k0 + offR rows k) ∧ k ≤ n) (fun _ i => n - (intOf i).toNat)
  case atStart => exact ⟨0, rfl, by simp [offR], Nat.zero_le _⟩
  case round =>
    obtain ⟨k, rfl, rfl, hkn'⟩ := hrel
    by_cases hkn : k < n
    · have hkx : k < rows.length := by rw [← HE.out]; exact hkn
      obtain ⟨b, o, u, rfl, c, hu⟩ := HX.out.at hkn
      rw [mkR_get _ _ _ hkx, if_pos hkx] at hu
      have HU := Lib.hid hu
      obtain ⟨a, l, c', rfl, _, _⟩ := hu.shape
      clear hu
      have hmr := HMS.out k hkx
      have hoff := HOFF.out k (by omega)
      have hb1 : 0 ≤ offR rows k := hoff.1
      have hb2 : offR rows k ≤ 1099511627776 := by have := hoff.2; omega
      clear hoff
      go_wp2_with fail
      refine (heldIntS_any _ _ _ _ HU.out (by omega)).mono ?_
      rintro e w2 ⟨rfl, rfl⟩
      go_wp2_with fail
      go_round
      case rel => exact ⟨k + 1, by go_num, by apply val_int; simp only [offR]; omega, by omega⟩
      case measure => simp [intOf]; omega
    · obtain rfl : k = n := by omega
      go_wp2_with fail
      go_ret
      exact ⟨rfl, rfl⟩
end Go.Proofs.YtcdbeepphdfipaaGreatDoor

namespace Go.Proofs.YtcdbeepphdfipaaGreatDoor
open Go.RowKit
set_option linter.unusedVariables false

theorem RawI.new {w w' : World} {v : Value} {xs : List Int} (h : RawI w v xs) (hn : New w w') : RawI w' v xs := by
  obtain ⟨ao, cap, e, h1, h2, h3⟩ := h
  exact ⟨ao, cap, e, h1, h2, fun i hi => by
    obtain ⟨b, o, e1, e2⟩ := h3 i hi
    exact ⟨b, o, e1, hn.cellNew e2⟩⟩
theorem RawR.new {w w' : World} {v : Value} {rows : List (List Int)} (h : RawR w v rows) (hn : New w w') : RawR w' v rows := by
  obtain ⟨ao, cap, e, h1, h2, h3⟩ := h
  exact ⟨ao, cap, e, h1, h2, fun i hi => by
    obtain ⟨b, o, u, e1, e2, e3⟩ := h3 i hi
    exact ⟨b, o, u, e1, hn.cellNew e2, e3.new hn⟩⟩

theorem box2 (w : World) (t : TypeId) (a b : Value) : (w.alloc (.cells #[a, b] t)).cell? ⟨w.heap.size, 0, none⟩ = some a ∧ (w.alloc (.cells #[a, b] t)).cell? ⟨w.heap.size, 1, none⟩ = some b :=
  ⟨by rw [cell_of_heap (heap_alloc_new w _)]; rfl, by rw [cell_of_heap (heap_alloc_new w _)]; rfl⟩

/-- A block of two cells, that may be written. -/
def Blk2 (w : World) (g : Nat) (a b : Value) (t : TypeId) : Prop := w.heap[g]? = some (.cells #[a, b] t (0, 0))
theorem Blk2.cells {w : World} {g : Nat} {a b : Value} {t : TypeId} (h : Blk2 w g a b t) :
    w.cell? ⟨g, 0, none⟩ = some a ∧ w.cell? ⟨g, 1, none⟩ = some b ∧ w.frozen? ⟨g, 0, none⟩ = false ∧ w.frozen? ⟨g, 1, none⟩ = false :=
  ⟨by rw [cell_of_heap h]; rfl, by rw [cell_of_heap h]; rfl, frozen_of_heap h 0, frozen_of_heap h 1⟩
theorem Blk2.chg {S : Nat → Prop} {w w' : World} {g : Nat} {a b : Value} {t : TypeId} (h : Blk2 w g a b t) (hc : Chg S w w') (hS : ¬ S g) : Blk2 w' g a b t := hc.heapAt h hS
theorem Blk2.new {w w' : World} {g : Nat} {a b : Value} {t : TypeId} (h : Blk2 w g a b t) (hc : New w w') : Blk2 w' g a b t := hc.heapAt h (fun x => x)
theorem Blk2.alloc (w : World) (a b : Value) (t : TypeId) : Blk2 (w.alloc (.cells #[a, b] t)) w.heap.size a b t := heap_alloc_new w _

/-- Both cells are written. -/
theorem Blk2.put {w : World} {g : Nat} {a b : Value} {t : TypeId} (h : Blk2 w g a b t) (x y : Value) :
    ((w.setCell ⟨g, 0, none⟩ x).setCell ⟨g, 1, none⟩ y).cell? ⟨g, 0, none⟩ = some x ∧ ((w.setCell ⟨g, 0, none⟩ x).setCell ⟨g, 1, none⟩ y).cell? ⟨g, 1, none⟩ = some y ∧
      Chg (· = g) w ((w.setCell ⟨g, 0, none⟩ x).setCell ⟨g, 1, none⟩ y) := by
  obtain ⟨c0, c1, _, _⟩ := h.cells
  refine ⟨?_, ?_, Chg.trans (Chg.setCell _ _ _) (Chg.setCell _ _ _) (fun _ _ x => x) (fun _ _ x => x)⟩
  · rw [World.cell?_setCell_other _ _ _ _ (by simp)]
    exact World.cell?_setCell_same _ _ _ (u := a) c0
  · exact World.cell?_setCell_same _ _ _ (u := b) (by rw [World.cell?_setCell_other _ _ _ _ (by simp)]; exact c1)
end Go.Proofs.YtcdbeepphdfipaaGreatDoor

namespace Go.Proofs.YtcdbeepphdfipaaGreatDoor
open Go.RowKit
set_option linter.unusedVariables false

/-- A block of one cell, that may be written. -/
def Blk1 (w : World) (g : Nat) (a : Value) (t : TypeId) : Prop := w.heap[g]? = some (.cells #[a] t (0, 0))
theorem Blk1.cells {w : World} {g : Nat} {a : Value} {t : TypeId} (h : Blk1 w g a t) : w.cell? ⟨g, 0, none⟩ = some a ∧ w.frozen? ⟨g, 0, none⟩ = false :=
  ⟨by rw [cell_of_heap h]; rfl, frozen_of_heap h 0⟩
theorem Blk1.chg {S : Nat → Prop} {w w' : World} {g : Nat} {a : Value} {t : TypeId} (h : Blk1 w g a t) (hc : Chg S w w') (hS : ¬ S g) : Blk1 w' g a t := hc.heapAt h hS
theorem Blk1.new {w w' : World} {g : Nat} {a : Value} {t : TypeId} (h : Blk1 w g a t) (hc : New w w') : Blk1 w' g a t := hc.heapAt h (fun x => x)
theorem Blk1.alloc (w : World) (a : Value) (t : TypeId) : Blk1 (w.alloc (.cells #[a] t)) w.heap.size a t := heap_alloc_new w _
theorem Blk1.put {w : World} {g : Nat} {a : Value} {t : TypeId} (h : Blk1 w g a t) (x : Value) : Blk1 (w.setCell ⟨g, 0, none⟩ x) g x t := by
  have h' : w.heap[g]? = some (.cells #[a] t (0, 0)) := h
  simp [Blk1, World.setCell, Array.getElem?_modify, h']
theorem Blk1.lt {w : World} {g : Nat} {a : Value} {t : TypeId} (h : Blk1 w g a t) : g < w.heap.size := (Array.getElem?_eq_some_iff.1 h).1
end Go.Proofs.YtcdbeepphdfipaaGreatDoor

namespace Go.Proofs.YtcdbeepphdfipaaGreatDoor
open Go.RowKit
set_option linter.unusedVariables false

theorem eqCode_any (p : Int) (v v' : Value) (rows : List (List Int)) (w : World) (hx : IsR w v rows) (hy : IsR w v' rows) :
    Calls Tryz.prog 10 #[.agg #[.int .i64 p, v], .agg #[.int .i64 p, v']] w fun e w' => e = .returned (.bool true) ∧ New w w' := by
  obtain ⟨ao, n, cap, rfl, _, hn⟩ := hx.shape
  obtain ⟨ao', n', cap', rfl, _, hn'⟩ := hy.shape
  have HX := Lib.hid hx
  have HY := Lib.hid hy
  clear hx hy
  have h1 : New w ((w.alloc (.cells #[.int .i64 p, .slice ao n cap] 24)).alloc (.cells #[.int .i64 p, .slice ao' n' cap'] 24)) := (New.alloc _ _).trans (New.alloc _ _)
  go_enter Tryz.func10, Tryz.ntmps10
  go_wp2_with fail
  refine (eqIntSS_any _ _ rows rows _ (HX.out.new h1) (HY.out.new h1)).mono ?_
  rintro e w2 ⟨rfl, m, rfl⟩
  rw [eqLL_self]
  go_wp2_with fail
  go_ret
  exact ⟨rfl, h1.trans (New.drewN _ _)⟩

end Go.Proofs.YtcdbeepphdfipaaGreatDoor

namespace Go.Proofs.YtcdbeepphdfipaaGreatDoor
open Go.RowKit
set_option linter.unusedVariables false

/-- The blocks from b up to e. -/
def Iv (b e : Nat) (g : Nat) : Prop := b ≤ g ∧ g < e
/-- A list, rows, whose blocks lie from b up to e. -/
def ObI (w : World) (v : Value) (xs : List Int) (b e : Nat) : Prop := Own w 3 v (xs.map (Value.int .i64)) ∧ ∀ g, v.ownBlock = some g → b ≤ g ∧ g < e
def ObR (w : World) (v : Value) (rows : List (List Int)) (b e : Nat) : Prop :=
  ∃ vs, OwnR w 53 3 v vs rows ∧ (∀ g, v.ownBlock = some g → b ≤ g ∧ g < e) ∧ ∀ i, i < rows.length → ∀ g, (gv vs i).ownBlock = some g → b ≤ g ∧ g < e
/-- Few rows of few numbers. -/
def SmR (rows : List (List Int)) : Prop := rows.length ≤ 1048576 ∧ ∀ i, i < rows.length → (gr rows i).length ≤ 1048576

theorem ObI.new {w w' : World} {v : Value} {xs : List Int} {b e : Nat} (h : ObI w v xs b e) (hn : New w w') : ObI w' v xs b e := ⟨h.1.new hn, h.2⟩
theorem ObR.new {w w' : World} {v : Value} {rows : List (List Int)} {b e : Nat} (h : ObR w v rows b e) (hn : New w w') : ObR w' v rows b e := by
  obtain ⟨vs, h1, h2, h3⟩ := h
  exact ⟨vs, h1.new hn, h2, h3⟩
theorem ObI.chg {w w' : World} {v : Value} {xs : List Int} {b e b' e' : Nat} (h : ObI w v xs b e) (hc : Chg (Iv b' e') w w') (hd : e ≤ b' ∨ e' ≤ b) : ObI w' v xs b e :=
  ⟨h.1.chg hc (fun g hg hs => by have := h.2 g hg; unfold Iv at hs; omega), h.2⟩
theorem ObR.chg {w w' : World} {v : Value} {rows : List (List Int)} {b e b' e' : Nat} (h : ObR w v rows b e) (hc : Chg (Iv b' e') w w') (hd : e ≤ b' ∨ e' ≤ b) : ObR w' v rows b e := by
  obtain ⟨vs, h1, h2, h3⟩ := h
  exact ⟨vs, h1.chg hc (fun g hg hs => by have := h2 g hg; unfold Iv at hs; omega) (fun i hi g hg hs => by have := h3 i hi g hg; unfold Iv at hs; omega), h2, h3⟩
theorem Blk2.iv {w w' : World} {g : Nat} {a c : Value} {t : TypeId} {b e : Nat} (h : Blk2 w g a c t) (hc : Chg (Iv b e) w w') (hd : g < b ∨ e ≤ g) : Blk2 w' g a c t :=
  h.chg hc (fun hs => by unfold Iv at hs; omega)
theorem Chg.ivNew {w0 w w' : World} {b e : Nat} (h : New w0 w) (hc : Chg (Iv b e) w w') (hd : w0.heap.size ≤ b) : New w0 w' :=
  h.then hc (fun g hs => by unfold Iv at hs; omega)
theorem ObI.of {w w' : World} {v : Value} {xs : List Int} (h : Own w' 3 v (xs.map (Value.int .i64))) (hf : From w.heap.size v) : ObI w' v xs w.heap.size w'.heap.size :=
  ⟨h, fun g hg => ⟨hf g hg, h.lt hg⟩⟩
theorem ObR.of {w w' : World} {v : Value} {vs : List Value} {rows : List (List Int)} (h : OwnR w' 53 3 v vs rows) (hf : FromR w.heap.size v vs rows) : ObR w' v rows w.heap.size w'.heap.size :=
  ⟨vs, h, fun g hg => ⟨hf.1 g hg, h.outer.lt hg⟩, fun i hi g hg => ⟨hf.2 i hi g hg, (h.inner i hi).lt hg⟩⟩
theorem ObI.isI {w : World} {v : Value} {xs : List Int} {b e : Nat} (h : ObI w v xs b e) (hm : xs.length ≤ 1048576) : IsI w v xs := h.1.isI (by unfold Mid; omega)
theorem ObR.isR {w : World} {v : Value} {rows : List (List Int)} {b e : Nat} (h : ObR w v rows b e) (hm : SmR rows) : IsR w v rows := by
  obtain ⟨vs, h1, _⟩ := h
  exact h1.isR (by have := hm.1; unfold Mid; omega) (fun i hi => by have := hm.2 i hi; unfold Mid; omega)
theorem ObI.shape {w : World} {v : Value} {xs : List Int} {b e : Nat} (h : ObI w v xs b e) (hm : xs.length ≤ 1048576) : ∃ ao n cap, v = .slice ao n cap := by
  obtain ⟨ao, n, cap, h, _⟩ := (h.isI hm).shape
  exact ⟨ao, n, cap, h⟩
theorem ObR.shape {w : World} {v : Value} {rows : List (List Int)} {b e : Nat} (h : ObR w v rows b e) (hm : SmR rows) : ∃ ao n cap, v = .slice ao n cap := by
  obtain ⟨ao, n, cap, h, _⟩ := (h.isR hm).shape
  exact ⟨ao, n, cap, h⟩

theorem eqI (va vb : Value) (xs : List Int) (b e b' e' : Nat) (w : World) (hm : xs.length ≤ 1048576) (hx : ObI w va xs b e) (hy : ObI w vb xs b' e') :
    Calls Tryz.prog 62 #[va, vb] w fun e w' => e = .returned (.bool true) ∧ New w w' := by
  refine (eqIntS_any _ _ xs xs _ (hx.isI hm) (hy.isI hm)).mono ?_
  rintro e w' ⟨rfl, m, rfl⟩
  rw [eqL_self]
  exact ⟨rfl, New.drewN _ _⟩

/-- A list is marked. -/
theorem markI (v : Value) (xs : List Int) (k : Int) (b e : Nat) (w : World) (hm : xs.length ≤ 1048576) (hx : ObI w v xs b e) (hk : 0 ≤ k ∧ k ≤ 4503599627370496) :
    Calls Tryz.prog 63 #[v, .int .i64 k] w fun e' w' => ∃ M, e' = .returned (.int .i64 M) ∧ M = k + xs.length ∧ k ≤ M ∧ M ≤ k + 1099512676352 ∧ ObI w' v (markL xs.length k) b e ∧ Chg (Iv b e) w w' := by
  refine (markIntS_any v xs k w hx.1 (by unfold Mid; omega) (by omega)).mono ?_
  rintro e' w' ⟨rfl, ho, hc⟩
  exact ⟨_, rfl, rfl, by omega, by omega, ⟨ho, hx.2⟩, hc.mono (fun g _ hg => hx.2 g hg)⟩

theorem heldI (v : Value) (n : Nat) (k M : Int) (b e : Nat) (w : World) (hm : n ≤ 1048576) (hM : M = k + n) (hx : ObI w v (markL n k) b e) (hk : 0 ≤ k ∧ k ≤ 4503599627370496) :
    Calls Tryz.prog 64 #[v, .int .i64 k] w fun e' w' => e' = .returned (.int .i64 M) ∧ New w w' := by
  refine (heldIntS_any v n k w (hx.isI (by rw [markL_length]; exact hm)) (by omega)).mono ?_
  rintro e' w' ⟨rfl, rfl⟩
  exact ⟨by rw [hM], Chg.refl _ _⟩
end Go.Proofs.YtcdbeepphdfipaaGreatDoor

namespace Go.Proofs.YtcdbeepphdfipaaGreatDoor
open Go.RowKit
set_option linter.unusedVariables false

theorem eqR (va vb : Value) (rows : List (List Int)) (b e b' e' : Nat) (w : World) (hm : SmR rows) (hx : ObR w va rows b e) (hy : ObR w vb rows b' e') :
    Calls Tryz.prog 31 #[va, vb] w fun e w' => e = .returned (.bool true) ∧ New w w' := by
  refine (eqIntSS_any _ _ rows rows _ (hx.isR hm) (hy.isR hm)).mono ?_
  rintro e w' ⟨rfl, m, rfl⟩
  rw [eqLL_self]
  exact ⟨rfl, New.drewN _ _⟩

theorem offR_small {rows : List (List Int)} (h : SmR rows) : 0 ≤ offR rows rows.length ∧ offR rows rows.length ≤ 1099511627776 := by
  have := offR_bounds rows 1048576 (by omega) (fun i hi => by have := h.2 i hi; omega) rows.length (Nat.le_refl _)
  have := h.1
  omega

theorem SmR.mk' {rows : List (List Int)} (h : SmR rows) (k : Int) (j : Nat) : SmR (mkR rows k j) :=
  ⟨by rw [mkR_length]; exact h.1, fun i hi => by
    rw [mkR_length] at hi
    rw [mkR_get _ _ _ hi]
    split
    · rw [markL_length]; exact h.2 i hi
    · exact h.2 i hi⟩

/-- Rows are marked. -/
theorem markR (v : Value) (rows : List (List Int)) (k : Int) (b e : Nat) (w : World) (hm : SmR rows) (hx : ObR w v rows b e) (hk : 0 ≤ k ∧ k ≤ 4503599627370496) :
    Calls Tryz.prog 32 #[v, .int .i64 k] w fun e' w' => ∃ M, e' = .returned (.int .i64 M) ∧ M = k + offR rows rows.length ∧ k ≤ M ∧ M ≤ k + 1099512676352 ∧ ObR w' v (mkR rows k rows.length) b e ∧ Chg (Iv b e) w w' := by
  obtain ⟨vs, h1, h2, h3⟩ := hx
  have hs := offR_small hm
  refine (markIntSS_any v vs rows k w h1 hm.1 hm.2 hk).mono ?_
  rintro e' w' ⟨rfl, ho, hc⟩
  exact ⟨_, rfl, rfl, by omega, by omega, ⟨vs, ho, h2, fun i hi => h3 i (by rw [mkR_length] at hi; exact hi)⟩, hc.mono (fun g _ ⟨i, hi, hg⟩ => h3 i hi g hg)⟩

theorem heldR (v : Value) (rows : List (List Int)) (k M : Int) (b e : Nat) (w : World) (hm : SmR rows) (hM : M = k + offR rows rows.length) (hx : ObR w v (mkR rows k rows.length) b e) (hk : 0 ≤ k ∧ k ≤ 4503599627370496) :
    Calls Tryz.prog 33 #[v, .int .i64 k] w fun e' w' => e' = .returned (.int .i64 M) ∧ New w w' := by
  refine (heldIntSS_any v rows k w (hx.isR (hm.mk' _ _)) hm.1 hm.2 hk).mono ?_
  rintro e' w' ⟨rfl, rfl⟩
  exact ⟨by rw [hM], Chg.refl _ _⟩
end Go.Proofs.YtcdbeepphdfipaaGreatDoor

namespace Go.Proofs.YtcdbeepphdfipaaGreatDoor
open Go.RowKit
set_option linter.unusedVariables false

theorem eqC (p : Int) (va vb : Value) (rows : List (List Int)) (b e b' e' : Nat) (w : World) (hm : SmR rows) (hx : ObR w va rows b e) (hy : ObR w vb rows b' e') :
    Calls Tryz.prog 10 #[.agg #[.int .i64 p, va], .agg #[.int .i64 p, vb]] w fun e w' => e = .returned (.bool true) ∧ New w w' :=
  eqCode_any p _ _ rows _ (hx.isR hm) (hy.isR hm)

/-- A code is marked. -/
theorem markC (p : Int) (v : Value) (rows : List (List Int)) (k : Int) (b e : Nat) (w : World) (hm : SmR rows) (hx : ObR w v rows b e) (hk : 0 ≤ k ∧ k ≤ 4503599627370496) :
    Calls Tryz.prog 11 #[.agg #[.int .i64 p, v], .int .i64 k] w fun e' w' => ∃ M, e' = .returned (.int .i64 M) ∧ M = k + offR rows rows.length ∧ k ≤ M ∧ M ≤ k + 1099512676352 ∧ ObR w' v (mkR rows k rows.length) b e ∧ Chg (Iv b e) w w' := by
  obtain ⟨ao, n, cap, rfl⟩ := hx.shape hm
  have HX := Lib.hid hx
  clear hx
  have h1 : New w (w.alloc (.cells #[.int .i64 p, .slice ao n cap] 24)) := New.alloc _ _
  go_enter Tryz.func11, Tryz.ntmps11
  go_wp2_with fail
  refine (markR _ rows k b e _ hm (HX.out.new h1) hk).mono ?_
  rintro e' w' ⟨M, rfl, hM, h2, h3, ho, hc⟩
  have HO := Lib.hid (And.intro ho (Chg.trans h1 hc (U := Iv b e) (fun _ _ x => x.elim) (fun _ _ x => x)))
  have HM := Lib.hid hM
  clear ho hc hM
  go_wp2_with fail
  go_ret
  exact ⟨M, rfl, HM.out, h2, h3, HO.out.1, HO.out.2⟩
end Go.Proofs.YtcdbeepphdfipaaGreatDoor

namespace Go.Proofs.YtcdbeepphdfipaaGreatDoor
open Go.RowKit
set_option linter.unusedVariables false

theorem heldC (p : Int) (v : Value) (rows : List (List Int)) (k M : Int) (b e : Nat) (w : World) (hm : SmR rows) (hM : M = k + offR rows rows.length) (hx : ObR w v (mkR rows k rows.length) b e) (hk : 0 ≤ k ∧ k ≤ 4503599627370496) :
    Calls Tryz.prog 12 #[.agg #[.int .i64 p, v], .int .i64 k] w fun e' w' => e' = .returned (.int .i64 M) ∧ New w w' := by
  obtain ⟨ao, n, cap, rfl⟩ := hx.shape (hm.mk' _ _)
  have hs := offR_small hm
  have HX := Lib.hid hx
  clear hx
  have h1 : New w (w.alloc (.cells #[.int .i64 p, .slice ao n cap] 24)) := New.alloc _ _
  have hM0 : 0 ≤ M := by omega
  have HM := Lib.hid hM
  clear hM hs
  go_enter Tryz.func12, Tryz.ntmps12
  go_wp2_with fail
  refine (heldR _ rows k M b e _ hm HM.out (HX.out.new h1) hk).mono ?_
  rintro e' w' ⟨rfl, hn⟩
  have HN := Lib.hid hn
  clear hn
  go_wp2_with fail
  go_ret
  exact ⟨rfl, h1.trans HN.out⟩
end Go.Proofs.YtcdbeepphdfipaaGreatDoor

namespace Go.Proofs.YtcdbeepphdfipaaGreatDoor
open Go.ChangeShapes Go.WideShapes Go.ChangeAt Go.RowKit
set_option linter.unusedVariables false

theorem own : ownKnob Tryz.prog.godebug = none := by kernel_rfl
theorem laidOut : laidOutB Tryz.prog = true := by kernel_rfl
theorem cellsInt : Tryz.prog.cellsOf 3 = 1 := by kernel_rfl
theorem cellsRow : Tryz.prog.cellsOf 53 = 1 := by kernel_rfl

theorem Addr.spot_none {w : World} {a : Addr} {n : Nat} {v : Value} (h : w.cell? (a.add n) = some v) (hn : n = 0 ∨ a.spot = none) : a.spot = none := by
  rcases hn with rfl | h'
  · simpa [Addr.add] using World.cell?_spot h
  · exact h'

/-- A slice of numbers that came in. -/
theorem rawI_of_cells {w : World} {ao : Option Addr} {n cap : Nat} {xs : List Int} (hl : xs.length = n) (hle : n ≤ cap) (hnil : ao = none → cap = 0) (hm : cap ≤ maxLen)
    (h : ∀ a, ao = some a → ∀ i, i < n → w.cell? (a.add i) = some (.int .i64 (gi xs i))) : RawI w (.slice ao n cap) xs := by
  refine ⟨ao, cap, by rw [hl], ⟨by omega, hnil⟩, hm, fun i hi => ?_⟩
  cases ao with
  | none => have := hnil rfl; omega
  | some a =>
    obtain ⟨b, o, sp⟩ := a
    have h0 := h _ rfl 0 (by omega)
    have : sp = none := by simpa [Addr.add] using World.cell?_spot h0
    subst this
    have := h _ rfl i (by omega)
    rw [Addr.add_lit] at this
    exact ⟨b, o, rfl, this⟩

section
variable {H : Type} {enc : TypeId × Value → H} {w : World} {base : Nat} {held : Bool}

theorem rawR_of_trod {fuel : Nat} {ao : Option Addr} {len cap : Nat} {x : DataW H × List MemPlace}
    (h : DataW.trod enc Tryz.prog w base (fun _ => true) held fuel 22 (Value.slice ao len cap).cells.toList = some x) : ∃ rows, RawR w (.slice ao len cap) rows := by
  rcases Deep.open_int_rows Tryz.underlying22 Tryz.underlying53 Tryz.underlying3 cellsRow cellsInt h with ⟨hcs, _⟩ | ⟨a, len', cap', A, L, C, Z, hcs, _, hl, hm, _, hrows⟩
  · simp [Value.cells] at hcs
    obtain ⟨rfl, rfl, rfl⟩ := hcs
    exact ⟨[], none, 0, rfl, by simp, by simp [maxLen], fun i hi => by simp at hi⟩
  · simp [Value.cells] at hcs
    obtain ⟨rfl, rfl, rfl⟩ := hcs
    refine ⟨(List.range len).map (fun r => (Z r).take (L r)), some a, cap, by simp, ⟨by simpa using hl, by simp⟩, hm, fun i hi => ?_⟩
    simp at hi
    obtain ⟨b, o, sp⟩ := a
    have h0 := (hrows 0 (by omega)).1
    have : sp = none := by simpa [Addr.add] using World.cell?_spot h0
    subst this
    obtain ⟨hc, h1, h2, h3, _, h5, h6⟩ := hrows i (by omega)
    rw [Addr.add_lit] at hc
    refine ⟨b, o, _, rfl, hc, ?_⟩
    rw [gr_lt (by simpa using hi)]
    simp only [List.getElem_map, List.getElem_range]
    refine rawI_of_cells (by simp; omega) h1 h5 h2 (fun a' ha' j hj => ?_)
    rw [(h6 a' ha').2 j (by omega)]
    simp [gi, hj]

/-- A slice of numbers that came in. -/
theorem rawI_of_trod {fuel : Nat} {ao : Option Addr} {len cap : Nat} {x : DataW H × List MemPlace}
    (h : DataW.trod enc Tryz.prog w base (fun _ => true) held fuel 53 (Value.slice ao len cap).cells.toList = some x) : ∃ xs, RawI w (.slice ao len cap) xs := by
  rcases open_ints Tryz.underlying53 Tryz.underlying3 cellsInt h with ⟨hcs, _⟩ | ⟨a, len', cap', zs, hcs, _, hl, hm, hz, _, hcell, _⟩
  · simp [Value.cells] at hcs
    obtain ⟨rfl, rfl, rfl⟩ := hcs
    exact ⟨[], none, 0, rfl, by simp, by simp [maxLen], fun i hi => by simp at hi⟩
  · simp [Value.cells] at hcs
    obtain ⟨rfl, rfl, rfl⟩ := hcs
    rw [if_pos rfl] at hz
    refine ⟨zs.take len, rawI_of_cells (by simp; omega) hl (by simp) hm (fun a' ha' i hi => ?_)⟩
    obtain rfl := Option.some.inj ha'
    rw [hcell i (by omega)]
    simp [gi, hi]

/-- A field that is a slice of rows. -/
theorem rawR_of_cell {fuel : Nat} {v : Value} {x : DataW H × List MemPlace}
    (h : DataW.trod enc Tryz.prog w base (fun _ => true) held fuel 22 [v] = some x) : ∃ rows, RawR w v rows := by
  rcases Deep.open_int_rows Tryz.underlying22 Tryz.underlying53 Tryz.underlying3 cellsRow cellsInt h with ⟨hcs, _⟩ | ⟨a, len', cap', A, L, C, Z, hcs, _⟩
  · simp only [List.cons.injEq, and_true] at hcs
    subst hcs
    exact rawR_of_trod (fuel := fuel) (x := x) h
  · simp only [List.cons.injEq, and_true] at hcs
    subst hcs
    exact rawR_of_trod (fuel := fuel) (x := x) h
/-- A field that is a slice of numbers. -/
theorem rawI_of_cell {fuel : Nat} {v : Value} {x : DataW H × List MemPlace}
    (h : DataW.trod enc Tryz.prog w base (fun _ => true) held fuel 53 [v] = some x) : ∃ xs, RawI w v xs := by
  rcases open_ints Tryz.underlying53 Tryz.underlying3 cellsInt h with ⟨hcs, _⟩ | ⟨a, len', cap', zs, hcs, _⟩
  · simp only [List.cons.injEq, and_true] at hcs
    subst hcs
    exact rawI_of_trod (fuel := fuel) (x := x) h
  · simp only [List.cons.injEq, and_true] at hcs
    subst hcs
    exact rawI_of_trod (fuel := fuel) (x := x) h
end
end Go.Proofs.YtcdbeepphdfipaaGreatDoor
