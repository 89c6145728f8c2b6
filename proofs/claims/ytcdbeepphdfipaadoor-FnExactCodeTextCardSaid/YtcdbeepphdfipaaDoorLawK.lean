/- The laws' own helpers: sizes, copies, equality, marks. The laws' own helpers: equality of lists and rows, marks. Blocks of two cells; what came in, when memory is made. A block of one cell. The laws' helpers on codes. What the laws hold: lists and rows of their own, each in its own stretch of the heap. What the laws hold: rows. What the laws hold: codes. What the laws hold: codes that are looked at again. From what the row's form hands over to what the walks ask: rows of numbers that came in. -/
import Derived.Test.YtcdbeepphdfipaaDoorLeaf
import Derived.Test.YtcdbeepphdfipaaDoorRedP
import Derived.Deep.QuietTactic
import Derived.BigQuiet
import Derived.Outline
import Derived.ProofKit
import Derived.OpenShut
import Derived.ShutString
import Derived.ChangeOld
import Derived.Below
import Derived.Deep.Matrix
namespace Go.Proofs.YtcdbeepphdfipaaDoor
open Go.RowKit
set_option linter.unusedVariables false

/-- As IsI and IsR, of whatever length memory can hold. -/
def RawI (w : World) (v : Value) (xs : List Int) : Prop :=
  ∃ ao cap, v = .slice ao xs.length cap ∧ (xs.length ≤ cap ∧ (ao = none → cap = 0)) ∧ cap ≤ maxLen ∧
    ∀ i, i < xs.length → ∃ b o, ao = some ⟨b, o, none⟩ ∧ w.cell? ⟨b, o + i, none⟩ = some (.int .i64 (gi xs i))
def RawR (w : World) (v : Value) (rows : List (List Int)) : Prop :=
  ∃ ao cap, v = .slice ao rows.length cap ∧ (rows.length ≤ cap ∧ (ao = none → cap = 0)) ∧ cap ≤ maxLen ∧
    ∀ i, i < rows.length → ∃ b o u, ao = some ⟨b, o, none⟩ ∧ w.cell? ⟨b, o + i, none⟩ = some u ∧ RawI w u (gr rows i)

theorem RawI.isI {w : World} {v : Value} {xs : List Int} (h : RawI w v xs) (hm : Mid xs.length) : IsI w v xs := by
  obtain ⟨ao, cap, e, h1, h2, h3⟩ := h
  exact ⟨ao, cap, e, h1, h2, hm, h3⟩

theorem RawR.isR {w : World} {v : Value} {rows : List (List Int)} (h : RawR w v rows) (hm : Mid rows.length) (hms : ∀ i, i < rows.length → Mid (gr rows i).length) : IsR w v rows := by
  obtain ⟨ao, cap, e, h1, h2, h3⟩ := h
  exact ⟨ao, cap, e, h1, h2, hm, fun i hi => by
    obtain ⟨b, o, u, e1, e2, e3⟩ := h3 i hi
    exact ⟨b, o, u, e1, e2, e3.isI (hms i hi)⟩⟩

theorem szIntS_any (v : Value) (xs : List Int) (left : Int) (w : World) (hx : RawI w v xs) (hl : 0 ≤ left ∧ left ≤ 1048576) :
    Calls Tryd.prog 19 #[v, .int .i64 left] w fun e w' => ∃ r : Int, e = .returned (.int .i64 r) ∧ w = w' ∧ r ≤ left ∧ (r < 0 ∨ (xs.length : Int) ≤ left) := by
  obtain ⟨ao, cap, rfl, ⟨h1, _⟩, h2, _⟩ := hx
  obtain ⟨n, hn⟩ : ∃ n, n = xs.length := ⟨_, rfl⟩
  rw [← hn] at h1 ⊢
  clear hn
  have hn2 : n ≤ 9223372036854775807 := by unfold maxLen at h2; omega
  clear h2
  by_cases hc : left - n < 0
  · go_enter Tryd.func19, Tryd.ntmps19
    go_wp2
    go_ret
    exact ⟨_, rfl, rfl, by omega, .inl (by omega)⟩
  · go_enter Tryd.func19, Tryd.ntmps19
    go_wp2
    go_ret
    exact ⟨_, rfl, rfl, by omega, .inr (by omega)⟩

set_option maxHeartbeats 1000000 in
theorem szIntSS_any (v : Value) (rows : List (List Int)) (left : Int) (w : World) (hx : RawR w v rows) (hl : 0 ≤ left ∧ left ≤ 1048576) :
    Calls Tryd.prog 9 #[v, .int .i64 left] w fun e w' => ∃ r : Int, e = .returned (.int .i64 r) ∧ w = w' ∧ r ≤ left ∧ (r < 0 ∨ ((rows.length : Int) ≤ left ∧ ∀ i, i < rows.length → ((gr rows i).length : Int) ≤ left)) := by
  obtain ⟨ao, cap, rfl, ⟨h1, _⟩, h2, hcell⟩ := hx
  obtain ⟨n, hn⟩ : ∃ n, n = rows.length := ⟨_, rfl⟩
  rw [← hn] at h1 hcell ⊢
  clear hn
  have hn2 : n ≤ 9223372036854775807 := by unfold maxLen at h2; omega
  have HC := Lib.hid hcell
  clear h2 hcell
  by_cases hc : left - n < 0
  · go_enter Tryd.func9, Tryd.ntmps9
    go_wp2
    go_ret
    exact ⟨_, rfl, rfl, by omega, .inl (by omega)⟩
  · go_enter Tryd.func9, Tryd.ntmps9
    go_wp2
    go_loop [1, 5] (fun l i => ∃ (k : Nat) (lf : Int), i = .int .i64 k ∧ l = .int .i64 lf ∧ k ≤ n ∧ 0 ≤ lf ∧ lf ≤ left ∧ ∀ j, j < k → ((gr rows j).length : Int) ≤ left) (fun _ i => n - (intOf i).toNat)
    case atStart => exact ⟨0, left - n, rfl, rfl, Nat.zero_le _, by omega, by omega, fun j hj => by omega⟩
    case round =>
      obtain ⟨k, lf, rfl, rfl, hk, hl0, hl1, hj⟩ := hrel
      have HJ := Lib.hid hj
      clear hj
      by_cases hkn : k < n
      · obtain ⟨b, o, u, rfl, ck, hu⟩ := HC.out k hkn
        obtain ⟨au, cu, eu, _⟩ := id hu
        obtain ⟨nu, hnu⟩ : ∃ nu, nu = (gr rows k).length := ⟨_, rfl⟩
        rw [← hnu] at eu
        have HNU := Lib.hid hnu
        clear hnu
        subst eu
        have HU := Lib.hid hu
        clear hu
        go_wp2_with fail
        refine (szIntS_any _ _ _ _ HU.out (by omega)).mono ?_
        rintro e w' ⟨r, rfl, rfl, hr1, hr2⟩
        by_cases hr : r < 0
        · clear hr2
          go_wp2_with fail
          go_ret
          exact ⟨_, rfl, rfl, by omega, .inl (by omega)⟩
        · have hr3 : ((gr rows k).length : Int) ≤ left := by rcases hr2 with h | h <;> omega
          have HR := Lib.hid hr3
          clear hr2 hr3
          go_wp2_with fail
          go_round
          case rel =>
            refine ⟨k + 1, r, by go_num, rfl, by omega, by omega, by omega, fun j hj => ?_⟩
            by_cases e : j = k
            · rw [e]; exact HR.out
            · exact HJ.out j (by omega)
          case measure => simp [intOf]; omega
      · obtain rfl : k = n := by omega
        go_wp2_with fail
        go_ret
        exact ⟨_, rfl, rfl, by omega, .inr ⟨by omega, HJ.out⟩⟩

/-- The first k numbers have been copied. -/
def cpTo (xs : List Int) (k : Nat) : List Int := xs.mapIdx (fun i a => if i < k then a else 0)
theorem cpTo_length (xs : List Int) (k : Nat) : (cpTo xs k).length = xs.length := by simp [cpTo]
theorem cpTo_get (xs : List Int) (k : Nat) {i : Nat} (hi : i < xs.length) : gi (cpTo xs k) i = if i < k then gi xs i else 0 := by
  rw [gi_lt (by rw [cpTo_length]; exact hi), gi_lt hi]; simp [cpTo]
theorem cpTo_zero (xs : List Int) : cpTo xs 0 = List.replicate xs.length 0 :=
  ext_gi (by simp [cpTo]) (fun i hi => by rw [cpTo_length] at hi; rw [cpTo_get _ _ hi, gi_replicate, if_neg (by omega)])
theorem cpTo_succ (xs : List Int) (k : Nat) (hk : k < xs.length) : (cpTo xs k).set k (gi xs k) = cpTo xs (k + 1) := by
  refine ext_gi (by simp [cpTo]) (fun i hi => ?_)
  rw [List.length_set, cpTo_length] at hi
  rw [gi_set (by rw [cpTo_length]; exact hi), cpTo_get _ _ hi, cpTo_get _ _ hi]
  by_cases e : k = i
  · subst e; rw [if_pos rfl, if_pos (by omega)]
  · rw [if_neg e]
    by_cases h : i < k
    · rw [if_pos h, if_pos (by omega)]
    · rw [if_neg h, if_neg (by omega)]
theorem cpTo_all (xs : List Int) : cpTo xs xs.length = xs :=
  ext_gi (cpTo_length _ _) (fun i hi => by rw [cpTo_length] at hi; rw [cpTo_get _ _ hi, if_pos hi])

set_option maxHeartbeats 1000000 in
theorem toIntS_any (v : Value) (xs : List Int) (w : World) (hx : IsI w v xs) :
    Calls Tryd.prog 22 #[v] w fun e w' => ∃ u, e = .returned u ∧ Own w' 3 u (xs.map (Value.int .i64)) ∧ From w.heap.size u ∧ New w w' := by
  obtain ⟨ao, n, cap, rfl, HN, hn⟩ := hx.shape
  have HX := Lib.hid hx
  clear hx
  go_enter Tryd.func22, Tryd.ntmps22
  go_wp2_with (at_make; refine wpList_mk rfl _ _ _ rfl tyInt _ _ _ _ n n rfl rfl rfl rfl (Nat.le_refl _) hn ?_; intro v3 w3 hv3 ho3 hn3 hs3; subst hv3; have HO3 := Lib.hid ho3; have HN3 := Lib.hid hn3; clear ho3 hn3 hs3)
  go_loopw [4] (fun i wr => ∃ k : Nat, i = .int .i64 k ∧ k ≤ n ∧ Own wr 3 (.slice (some ⟨w.heap.size, 0, none⟩) n n) ((cpTo xs k).map (Value.int .i64)) ∧ New w wr) (fun i _ => n - (intOf i).toNat)
  case atStart => exact ⟨0, rfl, Nat.zero_le _, by rw [cpTo_zero, List.map_replicate, ← HN.out]; exact HO3.out, HN3.out⟩
  case round =>
    obtain ⟨k, rfl, hk, hown, hnew⟩ := hrel
    have HO := Lib.hid hown
    have HW := Lib.hid hnew
    clear hown hnew
    by_cases hkn : k < n
    · have hkx : k < xs.length := by rw [← HN.out]; exact hkn
      obtain ⟨b, o, rfl, ck⟩ := (HX.out.new HW.out).at hkn
      obtain ⟨c1, f1⟩ := HO.out.cell (i := k) (by rw [List.length_map, cpTo_length]; exact hkx)
      go_wp2_with fail
      go_roundw
      case rel =>
        have hst := HO.out.set k (.int .i64 (gi xs k))
        rw [set_map_int, cpTo_succ _ _ hkx] at hst
        exact ⟨k + 1, by go_num, by omega, hst, HW.out.then (Chg.setCell _ _ _) (fun i hi => Nat.le_of_eq hi.symm)⟩
      case measure => simp [intOf]; omega
    · obtain rfl : k = n := by omega
      go_wp2_with fail
      go_ret
      exact ⟨_, rfl, by have h := HO.out; rw [HN.out, cpTo_all, ← HN.out] at h; exact h, From.new _ _ _, HW.out⟩

theorem set_replicate {vs : List Value} {u z : Value} {n k : Nat} (hk : vs.length = k) (hkn : k < n) : (vs ++ List.replicate (n - k) z).set k u = (vs ++ [u]) ++ List.replicate (n - (k + 1)) z := by
  subst hk
  rw [List.set_append_right _ _ (Nat.le_refl _), Nat.sub_self]
  obtain ⟨d, hd⟩ : ∃ d, n - vs.length = d + 1 := ⟨n - vs.length - 1, by omega⟩
  rw [hd, List.replicate_succ, List.set_cons_zero, show n - (vs.length + 1) = d by omega]
  simp

set_option maxHeartbeats 1000000 in
theorem toIntSS_any (v : Value) (rows : List (List Int)) (w : World) (hx : IsR w v rows) :
    Calls Tryd.prog 13 #[v] w fun e w' => ∃ u vs, e = .returned u ∧ OwnR w' 37 3 u vs rows ∧ FromR w.heap.size u vs rows ∧ New w w' := by
  obtain ⟨ao, n, cap, rfl, HN, hn⟩ := hx.shape
  have HX := Lib.hid hx
  clear hx
  go_enter Tryd.func13, Tryd.ntmps13
  go_wp2_with (at_make; refine wpList_mk rfl _ _ _ rfl tyRow _ _ _ _ n n rfl rfl rfl rfl (Nat.le_refl _) hn ?_; intro v3 w3 hv3 ho3 hn3 hs3; subst hv3; have HO3 := Lib.hid ho3; have HN3 := Lib.hid hn3; have HS3 := Lib.hid hs3; clear ho3 hn3 hs3)
  go_loopw [4] (fun i wr => ∃ (k : Nat) (vs : List Value), i = .int .i64 k ∧ k ≤ n ∧ Hid (vs.length = k) ∧ Own wr 37 (.slice (some ⟨w.heap.size, 0, none⟩) n n) (vs ++ List.replicate (n - k) (.slice none 0 0)) ∧
      (∀ i, i < k → Own wr 3 (gv vs i) ((gr rows i).map (Value.int .i64)) ∧ From (w.heap.size + 1) (gv vs i)) ∧ (∀ i j, i < k → j < k → i ≠ j → Apart (gv vs i) (gv vs j)) ∧ New w wr ∧ w.heap.size < wr.heap.size) (fun i _ => n - (intOf i).toNat)
  case atStart => exact ⟨0, [], rfl, Nat.zero_le _, rfl, by simpa using HO3.out, fun i hi => by omega, fun i j hi => by omega, HN3.out, HS3.out⟩
  case round =>
    obtain ⟨k, vs, rfl, hk, HL, hown, hin, hap, hnew, hsz⟩ := hrel
    have HO := Lib.hid hown
    have HW := Lib.hid hnew
    have HI := Lib.hid hin
    have HA := Lib.hid hap
    clear hown hnew hin hap
    by_cases hkn : k < n
    · have hkx : k < rows.length := by rw [← HN.out]; exact hkn
      obtain ⟨b, o, u, rfl, ck, hu⟩ := (HX.out.new HW.out).at hkn
      have HU := Lib.hid hu
      have hlk : k < (vs ++ List.replicate (n - k) (Value.slice none 0 0)).length := by have := HL.out; rw [List.length_append, List.length_replicate]; omega
      obtain ⟨au, nu, cu, rfl, _, _⟩ := hu.shape
      clear hu
      go_wp2_with fail
      refine (toIntS_any _ _ _ HU.out).mono ?_
      rintro e w2 ⟨u2, rfl, ho2, hf2, hn2⟩
      obtain ⟨a2, l2, c2, rfl, _, _, _⟩ := ho2.opened (by rw [List.length_map]; exact (by obtain ⟨_, _, _, _, _, hm, _⟩ := HU.out; exact hm))
      obtain ⟨c1, f1⟩ := (HO.out.new hn2).cell (i := k) hlk
      have HO2 := Lib.hid ho2
      have HF2 := Lib.hid hf2
      have HN2 := Lib.hid hn2
      clear ho2 hf2 hn2
      go_wp2_with fail
      go_roundw
      case rel =>
        have hl := HL.out
        have hst := (HO.out.new HN2.out).set k (.slice a2 l2 c2)
        rw [set_replicate hl hkn] at hst
        have hne : ∀ i, i < k → ∀ g, (gv vs i).ownBlock = some g → ¬ g = w.heap.size := fun i hi g hg => by have := (HI.out i hi).2 g hg; omega
        have hs2 := HN2.out.size
        have hcs : Chg (· = w.heap.size) w2 (w2.setCell ⟨w.heap.size, k, none⟩ (.slice a2 l2 c2)) := Chg.setCell w2 ⟨w.heap.size, k, none⟩ _
        refine ⟨k + 1, vs ++ [.slice a2 l2 c2], by go_num, by omega, by show _ = _; simp [hl], hst, fun i hi => ?_, fun i j hi hj hne' => ?_, (HW.out.trans HN2.out).then hcs (fun i hi => Nat.le_of_eq hi.symm), by simp; omega⟩
        · by_cases e : i < k
          · rw [gv_snoc_lt (by omega)]
            exact ⟨((HI.out i e).1.new HN2.out).chg hcs (hne i e), (HI.out i e).2⟩
          · obtain rfl : i = k := by omega
            rw [gv_snoc_eq (by omega)]
            exact ⟨HO2.out.chg hcs (fun g hg e => by have := HF2.out g hg; omega), HF2.out.mono hsz⟩
        · by_cases e : i < k
          · rw [gv_snoc_lt (by omega)]
            by_cases e' : j < k
            · rw [gv_snoc_lt (by omega)]; exact HA.out i j e e' hne'
            · rw [gv_snoc_eq (by omega)]; exact From.apart HF2.out (HI.out i e).1
          · rw [gv_snoc_eq (by omega), gv_snoc_lt (by omega)]
            exact (From.apart HF2.out (HI.out j (by omega)).1).symm
      case measure => simp [intOf]; omega
    · obtain rfl : k = n := by omega
      go_wp2_with fail
      go_ret
      have hl := HL.out
      have h := HO.out
      rw [Nat.sub_self, List.replicate_zero, List.append_nil] at h
      have hn' := HN.out
      exact ⟨_, vs, rfl, ⟨h, by omega, fun i hi => (HI.out i (by omega)).1, fun i j hi hj => HA.out i j (by omega) (by omega)⟩, ⟨From.new _ _ _, fun i hi => ((HI.out i (by omega)).2).mono (by omega)⟩, HW.out⟩
end Go.Proofs.YtcdbeepphdfipaaDoor

namespace Go.Proofs.YtcdbeepphdfipaaDoor
open Go.RowKit
set_option linter.unusedVariables false

def eqL (xs ys : List Int) : Bool := decide (xs = ys)
def eqLL (xs ys : List (List Int)) : Bool := decide (xs = ys)

theorem eqL_len {xs ys : List Int} (h : xs.length ≠ ys.length) : eqL xs ys = false := by simp only [eqL, decide_eq_false_iff_not]; intro e; exact h (by rw [e])
theorem eqL_no {xs ys : List Int} {k : Nat} (h : gi xs k ≠ gi ys k) : eqL xs ys = false := by simp only [eqL, decide_eq_false_iff_not]; intro e; exact h (by rw [e])
theorem eqL_yes {xs ys : List Int} (hl : xs.length = ys.length) (h : ∀ i, i < xs.length → gi xs i = gi ys i) : eqL xs ys = true := by simp only [eqL, decide_eq_true_eq]; exact ext_gi hl h
theorem eqLL_len {xs ys : List (List Int)} (h : xs.length ≠ ys.length) : eqLL xs ys = false := by simp only [eqLL, decide_eq_false_iff_not]; intro e; exact h (by rw [e])
theorem eqLL_no {xs ys : List (List Int)} {k : Nat} (h : eqL (gr xs k) (gr ys k) = false) : eqLL xs ys = false := by
  simp only [eqLL, decide_eq_false_iff_not]; intro e; subst e; simp [eqL] at h
theorem eqLL_yes {xs ys : List (List Int)} (hl : xs.length = ys.length) (h : ∀ i, i < xs.length → eqL (gr xs i) (gr ys i) = true) : eqLL xs ys = true := by
  simp only [eqLL, decide_eq_true_eq]; exact ext_gr hl (fun i hi => by have := h i hi; simpa [eqL] using this)
theorem eqL_self (xs : List Int) : eqL xs xs = true := by simp [eqL]
theorem eqLL_self (xs : List (List Int)) : eqLL xs xs = true := by simp [eqLL]

set_option maxHeartbeats 1000000 in
theorem eqIntS_any (va vb : Value) (xs ys : List Int) (w : World) (hx : IsI w va xs) (hy : IsI w vb ys) :
    Calls Tryd.prog 28 #[va, vb] w fun e w' => e = .returned (.bool (eqL xs ys)) ∧ ∃ m, w' = w.drewN m := by
  obtain ⟨a1, n1, c1, rfl, H1, b1⟩ := hx.shape
  obtain ⟨a2, n2, c2, rfl, H2, b2⟩ := hy.shape
  have HX := Lib.hid hx
  have HY := Lib.hid hy
  clear hx hy
  by_cases hl : n1 = n2
  · subst hl
    have HL : Hid (xs.length = ys.length) := by show _ = _; rw [← H1.out, ← H2.out]
    go_enter Tryd.func28, Tryd.ntmps28
    go_wp2_with fail
    go_loopw [5] (fun i wr => ∃ k m : Nat, i = .int .i64 k ∧ k ≤ n1 ∧ Hid (wr = w.drewN m) ∧ ∀ j, j < k → gi xs j = gi ys j) (fun i _ => n1 - (intOf i).toNat)
    case atStart => exact ⟨0, 0, rfl, Nat.zero_le _, rfl, fun j hj => by omega⟩
    case round =>
      obtain ⟨k, m, rfl, hk, HW, hj⟩ := hrel
      have HJ := Lib.hid hj
      clear hj
      by_cases hkn : k < n1
      · have e := HW.out
        obtain ⟨bx, ox, rfl, cx⟩ := HX.out.at hkn
        obtain ⟨by', oy, rfl, cy⟩ := HY.out.at hkn
        have cx' : wr.cell? ⟨bx, ox + k, none⟩ = some (.int .i64 (gi xs k)) := by rw [e]; exact cx
        have cy' : wr.cell? ⟨by', oy + k, none⟩ = some (.int .i64 (gi ys k)) := by rw [e]; exact cy
        clear cx cy e
        by_cases hg : gi xs k = gi ys k
        · have HG := Lib.hid hg
          rw [hg] at cx'
          clear hg
          go_wp2_with fail
          go_quiet (fail)
          go_wp2_with fail
          go_roundw
          case rel =>
            refine ⟨k + 1, _, by go_num, by omega, by show _ = _; rw [HW.out]; exact (World.drewN_drewN _ _ _), fun j hj => ?_⟩
            by_cases e : j = k
            · rw [e]; exact HG.out
            · exact HJ.out j (by omega)
          case measure => simp [intOf]; omega
        · have HQ := Lib.hid (eqL_no hg)
          have hb : (gi xs k != gi ys k) = true := by simpa using hg
          clear hg
          go_wp2_with fail
          go_quiet (fail)
          go_wp2_with fail
          go_ret
          exact ⟨ret_bool HQ.out.symm, _, by rw [HW.out]; exact (World.drewN_drewN _ _ _)⟩
      · have HQ := Lib.hid (eqL_yes HL.out (fun i hi => HJ.out i (by rw [← H1.out] at hi; omega)))
        go_wp2_with fail
        go_ret
        exact ⟨ret_bool HQ.out.symm, m, HW.out⟩
  · have HQ := Lib.hid (eqL_len (xs := xs) (ys := ys) (by rw [← H1.out, ← H2.out]; exact hl))
    go_enter Tryd.func28, Tryd.ntmps28
    go_wp2_with fail
    go_ret
    exact ⟨ret_bool HQ.out.symm, 0, rfl⟩

set_option maxHeartbeats 1000000 in
theorem eqIntSS_any (va vb : Value) (A B : List (List Int)) (w : World) (hx : IsR w va A) (hy : IsR w vb B) :
    Calls Tryd.prog 18 #[va, vb] w fun e w' => e = .returned (.bool (eqLL A B)) ∧ ∃ m, w' = w.drewN m := by
  obtain ⟨a1, n1, c1, rfl, H1, b1⟩ := hx.shape
  obtain ⟨a2, n2, c2, rfl, H2, b2⟩ := hy.shape
  have HX := Lib.hid hx
  have HY := Lib.hid hy
  clear hx hy
  by_cases hl : n1 = n2
  · subst hl
    have HL : Hid (A.length = B.length) := by show _ = _; rw [← H1.out, ← H2.out]
    go_enter Tryd.func18, Tryd.ntmps18
    go_wp2_with fail
    go_loopw [5] (fun i wr => ∃ k m : Nat, i = .int .i64 k ∧ k ≤ n1 ∧ Hid (wr = w.drewN m) ∧ ∀ j, j < k → eqL (gr A j) (gr B j) = true) (fun i _ => n1 - (intOf i).toNat)
    case atStart => exact ⟨0, 0, rfl, Nat.zero_le _, rfl, fun j hj => by omega⟩
    case round =>
      obtain ⟨k, m, rfl, hk, HW, hj⟩ := hrel
      have HJ := Lib.hid hj
      clear hj
      by_cases hkn : k < n1
      · have e := HW.out
        obtain ⟨bx, ox, ux, rfl, cx, hux⟩ := HX.out.at hkn
        obtain ⟨by', oy, uy, rfl, cy, huy⟩ := HY.out.at hkn
        have i1 : ∀ z, IsI (wr.drewN z) ux (gr A k) := fun z => (hux.new (by rw [e]; exact New.drewN _ _)).new (New.drewN wr z)
        have i2 : ∀ z, IsI (wr.drewN z) uy (gr B k) := fun z => (huy.new (by rw [e]; exact New.drewN _ _)).new (New.drewN wr z)
        obtain ⟨ax, nx, dx, rfl, _, _⟩ := hux.shape
        obtain ⟨ay, ny, dy, rfl, _, _⟩ := huy.shape
        have cx' : wr.cell? ⟨bx, ox + k, none⟩ = some (.slice ax nx dx) := by rw [e]; exact cx
        have cy' : wr.cell? ⟨by', oy + k, none⟩ = some (.slice ay ny dy) := by rw [e]; exact cy
        have I1 := Lib.hid i1
        have I2 := Lib.hid i2
        clear cx cy e i1 i2 hux huy
        cases hg : eqL (gr A k) (gr B k) with
        | true =>
          have HG := Lib.hid hg
          clear hg
          go_wp2_with fail
          go_quiet ((go_at_call 28; exact Calls.quiet_of (eqIntS_any _ _ _ _ _ (I1.out _) (I2.out _))))
          rw [HG.out]
          go_wp2_with fail
          go_roundw
          case rel =>
            refine ⟨k + 1, _, by go_num, by omega, by show _ = _; rw [HW.out]; exact (World.drewN_drewN _ _ _), fun j hj => ?_⟩
            by_cases e : j = k
            · rw [e]; exact HG.out
            · exact HJ.out j (by omega)
          case measure => simp [intOf]; omega
        | false =>
          have HQ := Lib.hid (eqLL_no hg)
          have HG := Lib.hid hg
          clear hg
          go_wp2_with fail
          go_quiet ((go_at_call 28; exact Calls.quiet_of (eqIntS_any _ _ _ _ _ (I1.out _) (I2.out _))))
          rw [HG.out]
          go_wp2_with fail
          go_ret
          exact ⟨ret_bool HQ.out.symm, _, by rw [HW.out]; exact (World.drewN_drewN _ _ _)⟩
      · have HQ := Lib.hid (eqLL_yes HL.out (fun i hi => HJ.out i (by rw [← H1.out] at hi; omega)))
        go_wp2_with fail
        go_ret
        exact ⟨ret_bool HQ.out.symm, m, HW.out⟩
  · have HQ := Lib.hid (eqLL_len (xs := A) (ys := B) (by rw [← H1.out, ← H2.out]; exact hl))
    go_enter Tryd.func18, Tryd.ntmps18
    go_wp2_with fail
    go_ret
    exact ⟨ret_bool HQ.out.symm, 0, rfl⟩

/-! Marks. -/

/-- The first j numbers have been marked from k0 on. -/
def mkTo (xs : List Int) (k0 : Int) (j : Nat) : List Int := xs.mapIdx (fun i a => if i < j then k0 + i else a)
/-- A list of n marks from k0 on. -/
def markL (n : Nat) (k0 : Int) : List Int := (List.range n).map (fun (i : Nat) => k0 + (i : Int))
theorem mkTo_length (xs : List Int) (k0 : Int) (j : Nat) : (mkTo xs k0 j).length = xs.length := by simp [mkTo]
theorem markL_length (n : Nat) (k0 : Int) : (markL n k0).length = n := by simp [markL]
theorem mkTo_get (xs : List Int) (k0 : Int) (j : Nat) {i : Nat} (hi : i < xs.length) : gi (mkTo xs k0 j) i = if i < j then k0 + i else gi xs i := by
  rw [gi_lt (by rw [mkTo_length]; exact hi), gi_lt hi]; simp [mkTo]
theorem markL_get (n : Nat) (k0 : Int) {i : Nat} (hi : i < n) : gi (markL n k0) i = k0 + i := by
  rw [gi_lt (by rw [markL_length]; exact hi)]; simp [markL]
theorem mkTo_zero (xs : List Int) (k0 : Int) : mkTo xs k0 0 = xs :=
  ext_gi (mkTo_length _ _ _) (fun i hi => by rw [mkTo_length] at hi; rw [mkTo_get _ _ _ hi, if_neg (by omega)])
theorem mkTo_succ (xs : List Int) (k0 : Int) (j : Nat) (hj : j < xs.length) : (mkTo xs k0 j).set j (k0 + j) = mkTo xs k0 (j + 1) := by
  refine ext_gi (by simp [mkTo]) (fun i hi => ?_)
  rw [List.length_set, mkTo_length] at hi
  rw [gi_set (by rw [mkTo_length]; exact hi), mkTo_get _ _ _ hi, mkTo_get _ _ _ hi]
  by_cases e : j = i
  · subst e; rw [if_pos rfl, if_pos (by omega)]
  · rw [if_neg e]
    by_cases h : i < j
    · rw [if_pos h, if_pos (by omega)]
    · rw [if_neg h, if_neg (by omega)]
theorem mkTo_all (xs : List Int) (k0 : Int) : mkTo xs k0 xs.length = markL xs.length k0 :=
  ext_gi (by rw [mkTo_length, markL_length]) (fun i hi => by rw [mkTo_length] at hi; rw [mkTo_get _ _ _ hi, if_pos hi, markL_get _ _ hi])

/-- How many numbers the first rows have. -/
def offR (rows : List (List Int)) : Nat → Int
  | 0 => 0
  | i + 1 => offR rows i + (gr rows i).length

/-- The first j rows have been marked. -/
def mkR (rows : List (List Int)) (k0 : Int) (j : Nat) : List (List Int) := rows.mapIdx (fun i r => if i < j then markL r.length (k0 + offR rows i) else r)
theorem mkR_length (rows : List (List Int)) (k0 : Int) (j : Nat) : (mkR rows k0 j).length = rows.length := by simp [mkR]
theorem mkR_get (rows : List (List Int)) (k0 : Int) (j : Nat) {i : Nat} (hi : i < rows.length) : gr (mkR rows k0 j) i = if i < j then markL (gr rows i).length (k0 + offR rows i) else gr rows i := by
  rw [gr_lt (by rw [mkR_length]; exact hi), gr_lt hi]; simp [mkR]
theorem mkR_zero (rows : List (List Int)) (k0 : Int) : mkR rows k0 0 = rows :=
  ext_gr (mkR_length _ _ _) (fun i hi => by rw [mkR_length] at hi; rw [mkR_get _ _ _ hi, if_neg (by omega)])
theorem mkR_succ (rows : List (List Int)) (k0 : Int) (j : Nat) (hj : j < rows.length) : (mkR rows k0 j).set j (markL (gr rows j).length (k0 + offR rows j)) = mkR rows k0 (j + 1) := by
  refine ext_gr (by simp [mkR]) (fun i hi => ?_)
  rw [List.length_set, mkR_length] at hi
  rw [gr_set (by rw [mkR_length]; exact hi), mkR_get _ _ _ hi, mkR_get _ _ _ hi]
  by_cases e : j = i
  · subst e; rw [if_pos rfl, if_pos (by omega)]
  · rw [if_neg e]
    by_cases h : i < j
    · rw [if_pos h, if_pos (by omega)]
    · rw [if_neg h, if_neg (by omega)]

theorem offR_bounds (rows : List (List Int)) (M : Int) (hM : 0 ≤ M) (h : ∀ i, i < rows.length → ((gr rows i).length : Int) ≤ M) (j : Nat) (hj : j ≤ rows.length) : 0 ≤ offR rows j ∧ offR rows j ≤ j * M := by
  induction j with
  | zero => simp [offR]
  | succ j ih =>
    have := ih (by omega)
    have h1 := h j (by omega)
    simp only [offR, Int.natCast_add, Int.add_mul]
    omega

end Go.Proofs.YtcdbeepphdfipaaDoor

namespace Go.Proofs.YtcdbeepphdfipaaDoor
open Go.RowKit
set_option linter.unusedVariables false

theorem RawI.new {w w' : World} {v : Value} {xs : List Int} (h : RawI w v xs) (hn : New w w') : RawI w' v xs := by
  obtain ⟨ao, cap, e, h1, h2, h3⟩ := h
  exact ⟨ao, cap, e, h1, h2, fun i hi => by
    obtain ⟨b, o, e1, e2⟩ := h3 i hi
    exact ⟨b, o, e1, hn.cellNew e2⟩⟩
theorem RawR.new {w w' : World} {v : Value} {rows : List (List Int)} (h : RawR w v rows) (hn : New w w') : RawR w' v rows := by
  obtain ⟨ao, cap, e, h1, h2, h3⟩ := h
  exact ⟨ao, cap, e, h1, h2, fun i hi => by
    obtain ⟨b, o, u, e1, e2, e3⟩ := h3 i hi
    exact ⟨b, o, u, e1, hn.cellNew e2, e3.new hn⟩⟩

theorem box2 (w : World) (t : TypeId) (a b : Value) : (w.alloc (.cells #[a, b] t)).cell? ⟨w.heap.size, 0, none⟩ = some a ∧ (w.alloc (.cells #[a, b] t)).cell? ⟨w.heap.size, 1, none⟩ = some b :=
  ⟨by rw [cell_of_heap (heap_alloc_new w _)]; rfl, by rw [cell_of_heap (heap_alloc_new w _)]; rfl⟩

/-- A block of two cells, that may be written. -/
def Blk2 (w : World) (g : Nat) (a b : Value) (t : TypeId) : Prop := w.heap[g]? = some (.cells #[a, b] t (0, 0))
theorem Blk2.cells {w : World} {g : Nat} {a b : Value} {t : TypeId} (h : Blk2 w g a b t) :
    w.cell? ⟨g, 0, none⟩ = some a ∧ w.cell? ⟨g, 1, none⟩ = some b ∧ w.frozen? ⟨g, 0, none⟩ = false ∧ w.frozen? ⟨g, 1, none⟩ = false :=
  ⟨by rw [cell_of_heap h]; rfl, by rw [cell_of_heap h]; rfl, frozen_of_heap h 0, frozen_of_heap h 1⟩
theorem Blk2.chg {S : Nat → Prop} {w w' : World} {g : Nat} {a b : Value} {t : TypeId} (h : Blk2 w g a b t) (hc : Chg S w w') (hS : ¬ S g) : Blk2 w' g a b t := hc.heapAt h hS
theorem Blk2.new {w w' : World} {g : Nat} {a b : Value} {t : TypeId} (h : Blk2 w g a b t) (hc : New w w') : Blk2 w' g a b t := hc.heapAt h (fun x => x)
theorem Blk2.alloc (w : World) (a b : Value) (t : TypeId) : Blk2 (w.alloc (.cells #[a, b] t)) w.heap.size a b t := heap_alloc_new w _

/-- Both cells are written. -/
theorem Blk2.put {w : World} {g : Nat} {a b : Value} {t : TypeId} (h : Blk2 w g a b t) (x y : Value) :
    ((w.setCell ⟨g, 0, none⟩ x).setCell ⟨g, 1, none⟩ y).cell? ⟨g, 0, none⟩ = some x ∧ ((w.setCell ⟨g, 0, none⟩ x).setCell ⟨g, 1, none⟩ y).cell? ⟨g, 1, none⟩ = some y ∧
      Chg (· = g) w ((w.setCell ⟨g, 0, none⟩ x).setCell ⟨g, 1, none⟩ y) := by
  obtain ⟨c0, c1, _, _⟩ := h.cells
  refine ⟨?_, ?_, Chg.trans (Chg.setCell _ _ _) (Chg.setCell _ _ _) (fun _ _ x => x) (fun _ _ x => x)⟩
  · rw [World.cell?_setCell_other _ _ _ _ (by simp)]
    exact World.cell?_setCell_same _ _ _ (u := a) c0
  · exact World.cell?_setCell_same _ _ _ (u := b) (by rw [World.cell?_setCell_other _ _ _ _ (by simp)]; exact c1)
end Go.Proofs.YtcdbeepphdfipaaDoor

namespace Go.Proofs.YtcdbeepphdfipaaDoor
open Go.RowKit
set_option linter.unusedVariables false

/-- A block of one cell, that may be written. -/
def Blk1 (w : World) (g : Nat) (a : Value) (t : TypeId) : Prop := w.heap[g]? = some (.cells #[a] t (0, 0))
theorem Blk1.cells {w : World} {g : Nat} {a : Value} {t : TypeId} (h : Blk1 w g a t) : w.cell? ⟨g, 0, none⟩ = some a ∧ w.frozen? ⟨g, 0, none⟩ = false :=
  ⟨by rw [cell_of_heap h]; rfl, frozen_of_heap h 0⟩
theorem Blk1.chg {S : Nat → Prop} {w w' : World} {g : Nat} {a : Value} {t : TypeId} (h : Blk1 w g a t) (hc : Chg S w w') (hS : ¬ S g) : Blk1 w' g a t := hc.heapAt h hS
theorem Blk1.new {w w' : World} {g : Nat} {a : Value} {t : TypeId} (h : Blk1 w g a t) (hc : New w w') : Blk1 w' g a t := hc.heapAt h (fun x => x)
theorem Blk1.alloc (w : World) (a : Value) (t : TypeId) : Blk1 (w.alloc (.cells #[a] t)) w.heap.size a t := heap_alloc_new w _
theorem Blk1.put {w : World} {g : Nat} {a : Value} {t : TypeId} (h : Blk1 w g a t) (x : Value) : Blk1 (w.setCell ⟨g, 0, none⟩ x) g x t := by
  have h' : w.heap[g]? = some (.cells #[a] t (0, 0)) := h
  simp [Blk1, World.setCell, Array.getElem?_modify, h']
theorem Blk1.lt {w : World} {g : Nat} {a : Value} {t : TypeId} (h : Blk1 w g a t) : g < w.heap.size := (Array.getElem?_eq_some_iff.1 h).1
end Go.Proofs.YtcdbeepphdfipaaDoor

namespace Go.Proofs.YtcdbeepphdfipaaDoor
open Go.RowKit
set_option linter.unusedVariables false

theorem szCode_any (p : Int) (v : Value) (rows : List (List Int)) (left : Int) (w : World) (hx : RawR w v rows) (hl : 0 ≤ left ∧ left ≤ 1048576) :
    Calls Tryd.prog 4 #[.agg #[.int .i64 p, v], .int .i64 left] w fun e w' => ∃ r : Int, e = .returned (.int .i64 r) ∧ New w w' ∧ r ≤ left ∧ (r < 0 ∨ ((rows.length : Int) ≤ left ∧ ∀ i, i < rows.length → ((gr rows i).length : Int) ≤ left)) := by
  obtain ⟨ao, cap, ev, _⟩ := id hx
  obtain ⟨n, hn⟩ : ∃ n, n = rows.length := ⟨_, rfl⟩
  rw [← hn] at ev
  subst ev
  have HX := Lib.hid hx
  clear hx hn
  obtain ⟨b0, b1⟩ := box2 w 24 (.int .i64 p) (.slice ao n cap)
  have hnew : New w (w.alloc (.cells #[.int .i64 p, .slice ao n cap] 24)) := New.alloc _ _
  go_enter Tryd.func4, Tryd.ntmps4
  go_wp2_with fail
  refine (szIntSS_any _ _ _ _ (HX.out.new hnew) hl).mono ?_
  rintro e w1 ⟨r, rfl, rfl, hr1, hr2⟩
  have HR := Lib.hid hr2
  clear hr2
  by_cases hneg : r < 0
  · go_wp2_with fail
    go_ret
    exact ⟨_, rfl, hnew, by omega, .inl (by omega)⟩
  · go_wp2_with fail
    go_ret
    exact ⟨_, rfl, hnew, hr1, .inr (HR.out.resolve_left (by omega))⟩

theorem eqCode_any (p : Int) (v v' : Value) (rows : List (List Int)) (w : World) (hx : IsR w v rows) (hy : IsR w v' rows) :
    Calls Tryd.prog 8 #[.agg #[.int .i64 p, v], .agg #[.int .i64 p, v']] w fun e w' => e = .returned (.bool true) ∧ New w w' := by
  obtain ⟨ao, n, cap, rfl, _, hn⟩ := hx.shape
  obtain ⟨ao', n', cap', rfl, _, hn'⟩ := hy.shape
  have HX := Lib.hid hx
  have HY := Lib.hid hy
  clear hx hy
  have h1 : New w ((w.alloc (.cells #[.int .i64 p, .slice ao n cap] 27)).alloc (.cells #[.int .i64 p, .slice ao' n' cap'] 27)) := (New.alloc _ _).trans (New.alloc _ _)
  go_enter Tryd.func8, Tryd.ntmps8
  go_wp2_with fail
  refine (eqIntSS_any _ _ rows rows _ (HX.out.new h1) (HY.out.new h1)).mono ?_
  rintro e w2 ⟨rfl, m, rfl⟩
  rw [eqLL_self]
  go_wp2_with fail
  go_ret
  exact ⟨rfl, h1.trans (New.drewN _ _)⟩

set_option maxHeartbeats 1000000 in
theorem toCode_any (p : Int) (v : Value) (rows : List (List Int)) (w : World) (hx : IsR w v rows) :
    Calls Tryd.prog 6 #[.agg #[.int .i64 p, v]] w fun e w' => ∃ u vs, e = .returned (.agg #[.int .i64 p, u]) ∧ OwnR w' 37 3 u vs rows ∧ FromR w.heap.size u vs rows ∧ New w w' := by
  obtain ⟨ao, n, cap, rfl, HN, hn⟩ := hx.shape
  have HX := Lib.hid hx
  clear hx
  go_enter Tryd.func6, Tryd.ntmps6
  go_wp2_with fail
  obtain ⟨wa, hwa⟩ : ∃ wa : World, wa = (w.alloc (.cells #[.int .i64 p, .slice ao n cap] 24)).alloc (.cells #[.int .i64 0, .slice none 0 0] 27) := ⟨_, rfl⟩
  have hna : New w wa := by rw [hwa]; exact (New.alloc _ _).trans (New.alloc _ _)
  have hsa : wa.heap.size = w.heap.size + 1 + 1 := by rw [hwa, World.size_alloc, World.size_alloc]
  have hba : Blk2 wa (w.heap.size + 1) (.int .i64 0) (.slice none 0 0) 27 := by rw [hwa, ← World.size_alloc w (.cells #[.int .i64 p, .slice ao n cap] 24)]; exact Blk2.alloc _ _ _ _
  rw [← hwa]
  refine (toIntSS_any _ _ _ (HX.out.new (hna.trans (New.alloc _ _)))).mono ?_
  rintro e w2 ⟨u, vs, rfl, ho, hf, hn2⟩
  have hbb := (Blk2.alloc wa (.int .i64 p) (.slice none 0 0) 27).new hn2
  rw [hsa] at hbb
  have hba2 := hba.new ((New.alloc _ _).trans hn2)
  obtain ⟨ba0, ba1, fa0, fa1⟩ := hba2.cells
  obtain ⟨bb0, bb1, fb0, fb1⟩ := hbb.cells
  have HO := Lib.hid ho
  have hf' : FromR (w.heap.size + 1 + 1 + 1) u vs rows := by rw [World.size_alloc, hsa] at hf; exact hf
  have HF := Lib.hid hf'
  have HN2 := Lib.hid (hna.trans ((New.alloc _ _).trans hn2))
  obtain ⟨au, nu, cu, rfl, _, _, _⟩ := ho.outer.opened (by rw [ho.len, ← HN.out]; exact hn)
  clear ho hf hf' hn2 hba hbb hba2 hwa hna hsa
  go_wp2_with fail
  have hc0 : (((w2.setCell ⟨w.heap.size + 1 + 1, 1, none⟩ (.slice au nu cu)).setCell ⟨w.heap.size + 1, 0, none⟩ (.int .i64 p)).setCell ⟨w.heap.size + 1, 1, none⟩ (.slice au nu cu)).cell? ⟨w.heap.size + 1, 0, none⟩ = some (.int .i64 p) := by
    rw [World.cell?_setCell_other _ _ _ _ (by simp)]
    exact World.cell?_setCell_same _ _ _ (u := .int .i64 0) (by rw [World.cell?_setCell_other _ _ _ _ (by simp)]; exact ba0)
  have hc1 : (((w2.setCell ⟨w.heap.size + 1 + 1, 1, none⟩ (.slice au nu cu)).setCell ⟨w.heap.size + 1, 0, none⟩ (.int .i64 p)).setCell ⟨w.heap.size + 1, 1, none⟩ (.slice au nu cu)).cell? ⟨w.heap.size + 1, 1, none⟩ = some (.slice au nu cu) :=
    World.cell?_setCell_same _ _ _ (u := .slice none 0 0) (by rw [World.cell?_setCell_other _ _ _ _ (by simp), World.cell?_setCell_other _ _ _ _ (by simp)]; exact ba1)
  refine bodyPost_ret (v := .agg #[.int .i64 p, .slice au nu cu]) (by simp [results, go_sem, hc0, hc1]) rfl ?_
  have hc : Chg (fun k => k = w.heap.size + 1 + 1 ∨ k = w.heap.size + 1) w2 (((w2.setCell ⟨w.heap.size + 1 + 1, 1, none⟩ (.slice au nu cu)).setCell ⟨w.heap.size + 1, 0, none⟩ (.int .i64 p)).setCell ⟨w.heap.size + 1, 1, none⟩ (.slice au nu cu)) :=
    (Chg.trans (Chg.trans (Chg.setCell _ _ _) (Chg.setCell _ _ _) (U := fun k => k = w.heap.size + 1 + 1 ∨ k = w.heap.size + 1) (fun i _ h => .inl h) (fun i _ h => .inr h)) (Chg.setCell _ _ _) (fun i _ h => h) (fun i _ h => .inr h))
  have hF := HF.out
  refine ⟨_, vs, rfl, HO.out.chg hc (fun g hg => by have := hF.1 g hg; omega) (fun i hi g hg => by have := hF.2 i hi g hg; omega), ⟨fun g hg => by have := hF.1 g hg; omega, fun i hi g hg => by have := hF.2 i hi g hg; omega⟩, HN2.out.then hc (fun i hi => by omega)⟩
end Go.Proofs.YtcdbeepphdfipaaDoor

namespace Go.Proofs.YtcdbeepphdfipaaDoor
open Go.RowKit
set_option linter.unusedVariables false

/-- The blocks from b up to e. -/
def Iv (b e : Nat) (g : Nat) : Prop := b ≤ g ∧ g < e
/-- A list, rows, whose blocks lie from b up to e. -/
def ObI (w : World) (v : Value) (xs : List Int) (b e : Nat) : Prop := Own w 3 v (xs.map (Value.int .i64)) ∧ ∀ g, v.ownBlock = some g → b ≤ g ∧ g < e
def ObR (w : World) (v : Value) (rows : List (List Int)) (b e : Nat) : Prop :=
  ∃ vs, OwnR w 37 3 v vs rows ∧ (∀ g, v.ownBlock = some g → b ≤ g ∧ g < e) ∧ ∀ i, i < rows.length → ∀ g, (gv vs i).ownBlock = some g → b ≤ g ∧ g < e
/-- Few rows of few numbers. -/
def SmR (rows : List (List Int)) : Prop := rows.length ≤ 1048576 ∧ ∀ i, i < rows.length → (gr rows i).length ≤ 1048576

theorem ObI.new {w w' : World} {v : Value} {xs : List Int} {b e : Nat} (h : ObI w v xs b e) (hn : New w w') : ObI w' v xs b e := ⟨h.1.new hn, h.2⟩
theorem ObR.new {w w' : World} {v : Value} {rows : List (List Int)} {b e : Nat} (h : ObR w v rows b e) (hn : New w w') : ObR w' v rows b e := by
  obtain ⟨vs, h1, h2, h3⟩ := h
  exact ⟨vs, h1.new hn, h2, h3⟩
theorem ObI.chg {w w' : World} {v : Value} {xs : List Int} {b e b' e' : Nat} (h : ObI w v xs b e) (hc : Chg (Iv b' e') w w') (hd : e ≤ b' ∨ e' ≤ b) : ObI w' v xs b e :=
  ⟨h.1.chg hc (fun g hg hs => by have := h.2 g hg; unfold Iv at hs; omega), h.2⟩
theorem ObR.chg {w w' : World} {v : Value} {rows : List (List Int)} {b e b' e' : Nat} (h : ObR w v rows b e) (hc : Chg (Iv b' e') w w') (hd : e ≤ b' ∨ e' ≤ b) : ObR w' v rows b e := by
  obtain ⟨vs, h1, h2, h3⟩ := h
  exact ⟨vs, h1.chg hc (fun g hg hs => by have := h2 g hg; unfold Iv at hs; omega) (fun i hi g hg hs => by have := h3 i hi g hg; unfold Iv at hs; omega), h2, h3⟩
theorem Blk2.iv {w w' : World} {g : Nat} {a c : Value} {t : TypeId} {b e : Nat} (h : Blk2 w g a c t) (hc : Chg (Iv b e) w w') (hd : g < b ∨ e ≤ g) : Blk2 w' g a c t :=
  h.chg hc (fun hs => by unfold Iv at hs; omega)
theorem Chg.ivNew {w0 w w' : World} {b e : Nat} (h : New w0 w) (hc : Chg (Iv b e) w w') (hd : w0.heap.size ≤ b) : New w0 w' :=
  h.then hc (fun g hs => by unfold Iv at hs; omega)
theorem ObI.of {w w' : World} {v : Value} {xs : List Int} (h : Own w' 3 v (xs.map (Value.int .i64))) (hf : From w.heap.size v) : ObI w' v xs w.heap.size w'.heap.size :=
  ⟨h, fun g hg => ⟨hf g hg, h.lt hg⟩⟩
theorem ObR.of {w w' : World} {v : Value} {vs : List Value} {rows : List (List Int)} (h : OwnR w' 37 3 v vs rows) (hf : FromR w.heap.size v vs rows) : ObR w' v rows w.heap.size w'.heap.size :=
  ⟨vs, h, fun g hg => ⟨hf.1 g hg, h.outer.lt hg⟩, fun i hi g hg => ⟨hf.2 i hi g hg, (h.inner i hi).lt hg⟩⟩
theorem ObI.isI {w : World} {v : Value} {xs : List Int} {b e : Nat} (h : ObI w v xs b e) (hm : xs.length ≤ 1048576) : IsI w v xs := h.1.isI (by unfold Mid; omega)
theorem ObR.isR {w : World} {v : Value} {rows : List (List Int)} {b e : Nat} (h : ObR w v rows b e) (hm : SmR rows) : IsR w v rows := by
  obtain ⟨vs, h1, _⟩ := h
  exact h1.isR (by have := hm.1; unfold Mid; omega) (fun i hi => by have := hm.2 i hi; unfold Mid; omega)
theorem ObI.shape {w : World} {v : Value} {xs : List Int} {b e : Nat} (h : ObI w v xs b e) (hm : xs.length ≤ 1048576) : ∃ ao n cap, v = .slice ao n cap := by
  obtain ⟨ao, n, cap, h, _⟩ := (h.isI hm).shape
  exact ⟨ao, n, cap, h⟩
theorem ObR.shape {w : World} {v : Value} {rows : List (List Int)} {b e : Nat} (h : ObR w v rows b e) (hm : SmR rows) : ∃ ao n cap, v = .slice ao n cap := by
  obtain ⟨ao, n, cap, h, _⟩ := (h.isR hm).shape
  exact ⟨ao, n, cap, h⟩

theorem eqI (va vb : Value) (xs : List Int) (b e b' e' : Nat) (w : World) (hm : xs.length ≤ 1048576) (hx : ObI w va xs b e) (hy : ObI w vb xs b' e') :
    Calls Tryd.prog 28 #[va, vb] w fun e w' => e = .returned (.bool true) ∧ New w w' := by
  refine (eqIntS_any _ _ xs xs _ (hx.isI hm) (hy.isI hm)).mono ?_
  rintro e w' ⟨rfl, m, rfl⟩
  rw [eqL_self]
  exact ⟨rfl, New.drewN _ _⟩

theorem toI_any (v : Value) (xs : List Int) (w : World) (hx : IsI w v xs) :
    Calls Tryd.prog 22 #[v] w fun e w' => ∃ u, e = .returned u ∧ ObI w' u xs w.heap.size w'.heap.size ∧ New w w' := by
  refine (toIntS_any v xs w hx).mono ?_
  rintro e w' ⟨u, rfl, ho, hf, hn⟩
  exact ⟨u, rfl, ObI.of ho hf, hn⟩

end Go.Proofs.YtcdbeepphdfipaaDoor

namespace Go.Proofs.YtcdbeepphdfipaaDoor
open Go.RowKit
set_option linter.unusedVariables false

theorem eqR (va vb : Value) (rows : List (List Int)) (b e b' e' : Nat) (w : World) (hm : SmR rows) (hx : ObR w va rows b e) (hy : ObR w vb rows b' e') :
    Calls Tryd.prog 18 #[va, vb] w fun e w' => e = .returned (.bool true) ∧ New w w' := by
  refine (eqIntSS_any _ _ rows rows _ (hx.isR hm) (hy.isR hm)).mono ?_
  rintro e w' ⟨rfl, m, rfl⟩
  rw [eqLL_self]
  exact ⟨rfl, New.drewN _ _⟩

theorem toR_any (v : Value) (rows : List (List Int)) (w : World) (hx : IsR w v rows) :
    Calls Tryd.prog 13 #[v] w fun e w' => ∃ u, e = .returned u ∧ ObR w' u rows w.heap.size w'.heap.size ∧ New w w' := by
  refine (toIntSS_any v rows w hx).mono ?_
  rintro e w' ⟨u, vs, rfl, ho, hf, hn⟩
  exact ⟨u, rfl, ObR.of ho hf, hn⟩

theorem offR_small {rows : List (List Int)} (h : SmR rows) : 0 ≤ offR rows rows.length ∧ offR rows rows.length ≤ 1099511627776 := by
  have := offR_bounds rows 1048576 (by omega) (fun i hi => by have := h.2 i hi; omega) rows.length (Nat.le_refl _)
  have := h.1
  omega

theorem SmR.mk' {rows : List (List Int)} (h : SmR rows) (k : Int) (j : Nat) : SmR (mkR rows k j) :=
  ⟨by rw [mkR_length]; exact h.1, fun i hi => by
    rw [mkR_length] at hi
    rw [mkR_get _ _ _ hi]
    split
    · rw [markL_length]; exact h.2 i hi
    · exact h.2 i hi⟩

end Go.Proofs.YtcdbeepphdfipaaDoor

namespace Go.Proofs.YtcdbeepphdfipaaDoor
open Go.RowKit
set_option linter.unusedVariables false

theorem eqC (p : Int) (va vb : Value) (rows : List (List Int)) (b e b' e' : Nat) (w : World) (hm : SmR rows) (hx : ObR w va rows b e) (hy : ObR w vb rows b' e') :
    Calls Tryd.prog 8 #[.agg #[.int .i64 p, va], .agg #[.int .i64 p, vb]] w fun e w' => e = .returned (.bool true) ∧ New w w' :=
  eqCode_any p _ _ rows _ (hx.isR hm) (hy.isR hm)

theorem toC_any (p : Int) (v : Value) (rows : List (List Int)) (w : World) (hx : IsR w v rows) :
    Calls Tryd.prog 6 #[.agg #[.int .i64 p, v]] w fun e w' => ∃ u, e = .returned (.agg #[.int .i64 p, u]) ∧ ObR w' u rows w.heap.size w'.heap.size ∧ New w w' := by
  refine (toCode_any p v rows w hx).mono ?_
  rintro e w' ⟨u, vs, rfl, ho, hf, hn⟩
  exact ⟨u, rfl, ObR.of ho hf, hn⟩

end Go.Proofs.YtcdbeepphdfipaaDoor

namespace Go.Proofs.YtcdbeepphdfipaaDoor
open Go.RowKit
set_option linter.unusedVariables false

end Go.Proofs.YtcdbeepphdfipaaDoor

namespace Go.Proofs.YtcdbeepphdfipaaDoor
open Go.ChangeShapes Go.WideShapes Go.ChangeAt Go.RowKit
set_option linter.unusedVariables false

theorem own : ownKnob Tryd.prog.godebug = none := by kernel_rfl
theorem laidOut : laidOutB Tryd.prog = true := by kernel_rfl
theorem cellsInt : Tryd.prog.cellsOf 3 = 1 := by kernel_rfl
theorem cellsRow : Tryd.prog.cellsOf 37 = 1 := by kernel_rfl

theorem Addr.spot_none {w : World} {a : Addr} {n : Nat} {v : Value} (h : w.cell? (a.add n) = some v) (hn : n = 0 ∨ a.spot = none) : a.spot = none := by
  rcases hn with rfl | h'
  · simpa [Addr.add] using World.cell?_spot h
  · exact h'

/-- A slice of numbers that came in. -/
theorem rawI_of_cells {w : World} {ao : Option Addr} {n cap : Nat} {xs : List Int} (hl : xs.length = n) (hle : n ≤ cap) (hnil : ao = none → cap = 0) (hm : cap ≤ maxLen)
    (h : ∀ a, ao = some a → ∀ i, i < n → w.cell? (a.add i) = some (.int .i64 (gi xs i))) : RawI w (.slice ao n cap) xs := by
  refine ⟨ao, cap, by rw [hl], ⟨by omega, hnil⟩, hm, fun i hi => ?_⟩
  cases ao with
  | none => have := hnil rfl; omega
  | some a =>
    obtain ⟨b, o, sp⟩ := a
    have h0 := h _ rfl 0 (by omega)
    have : sp = none := by simpa [Addr.add] using World.cell?_spot h0
    subst this
    have := h _ rfl i (by omega)
    rw [Addr.add_lit] at this
    exact ⟨b, o, rfl, this⟩

section
variable {H : Type} {enc : TypeId × Value → H} {w : World} {base : Nat} {held : Bool}

theorem rawR_of_trod {fuel : Nat} {ao : Option Addr} {len cap : Nat} {x : DataW H × List MemPlace}
    (h : DataW.trod enc Tryd.prog w base (fun _ => true) held fuel 22 (Value.slice ao len cap).cells.toList = some x) : ∃ rows, RawR w (.slice ao len cap) rows := by
  rcases Deep.open_int_rows Tryd.underlying22 Tryd.underlying37 Tryd.underlying3 cellsRow cellsInt h with ⟨hcs, _⟩ | ⟨a, len', cap', A, L, C, Z, hcs, _, hl, hm, _, hrows⟩
  · simp [Value.cells] at hcs
    obtain ⟨rfl, rfl, rfl⟩ := hcs
    exact ⟨[], none, 0, rfl, by simp, by simp [maxLen], fun i hi => by simp at hi⟩
  · simp [Value.cells] at hcs
    obtain ⟨rfl, rfl, rfl⟩ := hcs
    refine ⟨(List.range len).map (fun r => (Z r).take (L r)), some a, cap, by simp, ⟨by simpa using hl, by simp⟩, hm, fun i hi => ?_⟩
    simp at hi
    obtain ⟨b, o, sp⟩ := a
    have h0 := (hrows 0 (by omega)).1
    have : sp = none := by simpa [Addr.add] using World.cell?_spot h0
    subst this
    obtain ⟨hc, h1, h2, h3, _, h5, h6⟩ := hrows i (by omega)
    rw [Addr.add_lit] at hc
    refine ⟨b, o, _, rfl, hc, ?_⟩
    rw [gr_lt (by simpa using hi)]
    simp only [List.getElem_map, List.getElem_range]
    refine rawI_of_cells (by simp; omega) h1 h5 h2 (fun a' ha' j hj => ?_)
    rw [(h6 a' ha').2 j (by omega)]
    simp [gi, hj]

/-- A slice of numbers that came in. -/
theorem rawI_of_trod {fuel : Nat} {ao : Option Addr} {len cap : Nat} {x : DataW H × List MemPlace}
    (h : DataW.trod enc Tryd.prog w base (fun _ => true) held fuel 37 (Value.slice ao len cap).cells.toList = some x) : ∃ xs, RawI w (.slice ao len cap) xs := by
  rcases open_ints Tryd.underlying37 Tryd.underlying3 cellsInt h with ⟨hcs, _⟩ | ⟨a, len', cap', zs, hcs, _, hl, hm, hz, _, hcell, _⟩
  · simp [Value.cells] at hcs
    obtain ⟨rfl, rfl, rfl⟩ := hcs
    exact ⟨[], none, 0, rfl, by simp, by simp [maxLen], fun i hi => by simp at hi⟩
  · simp [Value.cells] at hcs
    obtain ⟨rfl, rfl, rfl⟩ := hcs
    rw [if_pos rfl] at hz
    refine ⟨zs.take len, rawI_of_cells (by simp; omega) hl (by simp) hm (fun a' ha' i hi => ?_)⟩
    obtain rfl := Option.some.inj ha'
    rw [hcell i (by omega)]
    simp [gi, hi]

/-- A field that is a slice of rows. -/
theorem rawR_of_cell {fuel : Nat} {v : Value} {x : DataW H × List MemPlace}
    (h : DataW.trod enc Tryd.prog w base (fun _ => true) held fuel 22 [v] = some x) : ∃ rows, RawR w v rows := by
  rcases Deep.open_int_rows Tryd.underlying22 Tryd.underlying37 Tryd.underlying3 cellsRow cellsInt h with ⟨hcs, _⟩ | ⟨a, len', cap', A, L, C, Z, hcs, _⟩
  · simp only [List.cons.injEq, and_true] at hcs
    subst hcs
    exact rawR_of_trod (fuel := fuel) (x := x) h
  · simp only [List.cons.injEq, and_true] at hcs
    subst hcs
    exact rawR_of_trod (fuel := fuel) (x := x) h
/-- A field that is a slice of numbers. -/
theorem rawI_of_cell {fuel : Nat} {v : Value} {x : DataW H × List MemPlace}
    (h : DataW.trod enc Tryd.prog w base (fun _ => true) held fuel 37 [v] = some x) : ∃ xs, RawI w v xs := by
  rcases open_ints Tryd.underlying37 Tryd.underlying3 cellsInt h with ⟨hcs, _⟩ | ⟨a, len', cap', zs, hcs, _⟩
  · simp only [List.cons.injEq, and_true] at hcs
    subst hcs
    exact rawI_of_trod (fuel := fuel) (x := x) h
  · simp only [List.cons.injEq, and_true] at hcs
    subst hcs
    exact rawI_of_trod (fuel := fuel) (x := x) h
end
end Go.Proofs.YtcdbeepphdfipaaDoor
