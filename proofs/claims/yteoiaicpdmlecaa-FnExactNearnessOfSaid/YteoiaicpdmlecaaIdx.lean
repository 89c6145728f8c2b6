/- slices.Index, Contains, IndexFunc, ContainsFunc at numbers; what rests on them: fieldOf, has, lead. -/
import Derived.Test.YteoiaicpdmlecaaLeafA
import Derived.Test.YteoiaicpdmlecaaTabM
import Derived.Test.YteoiaicpdmlecaaIdxM
import Derived.Outline
namespace Go.Proofs.Yteoiaicpdmlecaa
open Go.RowKit
set_option linter.unusedVariables false

/-- A function value that tells g of a number and turns nothing. -/
def Tells (P : Program) (w : World) (f : Nat) (caps : Array Value) (g : Int → Bool) : Prop :=
  (∀ (xs : Array Value) (w' : World), (callFunc f xs).run P w' = .ok (.enter f xs) w') ∧
  ∀ (x : Int) (w' : World), New w w' → Calls P f (#[.int .i64 x] ++ caps) w' fun e w'' => e = .returned (.bool (g x)) ∧ w' = w''

theorem indexFunc_any (v : Value) (xs : List Int) (f : Nat) (caps : Array Value) (g : Int → Bool) (w : World) (hx : IsI w v xs) (hf : Tells Try.prog w f caps g) :
    Calls Try.prog 130 #[v, .func (.func f) #[] caps] w fun e w' => e = .returned (.int .i64 (fiZ g xs)) ∧ w = w' := by
  obtain ⟨ao, n, cap, rfl, HN, hn⟩ := hx.shape
  obtain ⟨hcf, hf⟩ := hf
  have HF := Lib.hid hf
  clear hf
  go_enter Try.func130, Try.ntmps130
  go_wp2
  go_loop [8] (fun i => ∃ k : Nat, i = .int .i64 k ∧ k ≤ n ∧ ∀ j, j < k → g (gi xs j) = false) (fun i => n - (intOf i).toNat)
  case atStart => exact ⟨0, rfl, Nat.zero_le _, fun j hj => by omega⟩
  case round =>
    obtain ⟨k, rfl, hk, hno⟩ := hrel
    have HD := Lib.hid hno
    clear hno
    by_cases hkn : k < n
    · obtain ⟨b, o, rfl, ck⟩ := hx.at hkn
      cases hg : g (gi xs k) with
      | true =>
        have HQ := Lib.hid (fiZ_found (g := g) (xs := xs) (k := k) (by rw [← HN.out]; exact hkn) hg HD.out)
        go_wp2_with fail
        refine (HF.out _ _ (Chg.refl _ _)).mono ?_
        rintro e w' ⟨rfl, rfl⟩
        go_wp2_with fail
        go_ret
        exact ⟨ret_int HQ.out.symm, rfl⟩
      | false =>
        have HG := Lib.hid hg
        go_wp2_with fail
        refine (HF.out _ _ (Chg.refl _ _)).mono ?_
        rintro e w' ⟨rfl, rfl⟩
        go_wp2_with fail
        go_round
        case rel =>
          refine ⟨k + 1, by go_num, by omega, fun j hj => ?_⟩
          by_cases e : j = k
          · rw [e]; exact HG.out
          · exact HD.out j (by omega)
        case measure => simp [intOf]; omega
    · have HQ := Lib.hid (fiZ_none (g := g) (xs := xs) (fun j hj => HD.out j (by rw [← HN.out] at hj; omega)))
      go_wp2
      go_ret
      exact ⟨ret_int HQ.out.symm, rfl⟩

/-- Some number of the list has g. -/
def anyB (g : Int → Bool) (xs : List Int) : Bool := xs.any g
theorem anyB_fiZ (g : Int → Bool) (xs : List Int) : decide (0 ≤ fiZ g xs) = anyB g xs := by
  have h1 := fiZ_ge g xs
  rw [Bool.eq_iff_iff]
  simp only [decide_eq_true_eq, anyB, List.any_eq_true]
  constructor
  · intro h
    obtain ⟨k, hk⟩ : ∃ k : Nat, fiZ g xs = k := ⟨(fiZ g xs).toNat, by omega⟩
    obtain ⟨a, b, _⟩ := fiZ_at hk
    exact ⟨xs[k], List.getElem_mem a, by rw [gi_lt a] at b; exact b⟩
  · rintro ⟨x, hx, hg⟩
    apply Classical.byContradiction
    intro hc
    obtain ⟨j, hj, rfl⟩ := List.getElem_of_mem hx
    have := fiZ_all.1 (show fiZ g xs = -1 by omega) j hj
    rw [gi_lt hj] at this
    rw [hg] at this; cases this

theorem containsFunc_any (v : Value) (xs : List Int) (f : Nat) (caps : Array Value) (g : Int → Bool) (w : World) (hx : IsI w v xs) (hf : Tells Try.prog w f caps g) :
    Calls Try.prog 114 #[v, .func (.func f) #[] caps] w fun e w' => e = .returned (.bool (anyB g xs)) ∧ w = w' := by
  have HX := Lib.hid hx
  have HF := Lib.hid hf
  clear hf hx
  go_enter Try.func114, Try.ntmps114
  go_wp2_with (go_at_call 130; refine (indexFunc_any _ _ _ _ _ _ HX.out HF.out).mono ?_; rintro e w' ⟨rfl, rfl⟩)
  go_ret
  exact ⟨ret_bool (anyB_fiZ g xs), rfl⟩

theorem lead1_any (w : World) : Tells Try.prog w 131 #[] nzB := by
  refine ⟨fun xs w' => by kernel_rfl, fun x w' _ => ?_⟩
  show Calls Try.prog 131 #[.int .i64 x] w' _
  go_enter Try.func131, Try.ntmps131
  go_wp2
  go_ret
  refine ⟨ret_bool ?_, rfl⟩
  simp [nzB]; rfl

theorem lead_any (v : Value) (xs : List Int) (w : World) (hx : IsI w v xs) :
    Calls Try.prog 110 #[v] w fun e w' => e = .returned (.int .i64 (leadZ xs)) ∧ w = w' := by
  have HX := Lib.hid hx
  clear hx
  go_enter Try.func110, Try.ntmps110
  go_wp2_with (go_at_call 130; refine (indexFunc_any _ _ _ _ _ _ HX.out (lead1_any _)).mono ?_; rintro e w' ⟨rfl, rfl⟩)
  go_ret
  exact ⟨rfl, rfl⟩

theorem index_any (v : Value) (xs : List Int) (y : Int) (w : World) (hx : IsI w v xs) :
    Calls Try.prog 138 #[v, .int .i64 y] w fun e w' => e = .returned (.int .i64 (fiZ (fun z => decide (y = z)) xs)) ∧ w = w' := by
  obtain ⟨ao, n, cap, rfl, HN, hn⟩ := hx.shape
  obtain ⟨g, hg0⟩ : ∃ g : Int → Bool, g = fun z => decide (y = z) := ⟨_, rfl⟩
  rw [← hg0]
  have HG0 := Lib.hid hg0
  clear hg0
  go_enter Try.func138, Try.ntmps138
  go_wp2
  go_loop [8] (fun i => ∃ k : Nat, i = .int .i64 k ∧ k ≤ n ∧ ∀ j, j < k → g (gi xs j) = false) (fun i => n - (intOf i).toNat)
  case atStart => exact ⟨0, rfl, Nat.zero_le _, fun j hj => by omega⟩
  case round =>
    obtain ⟨k, rfl, hk, hno⟩ := hrel
    have HD := Lib.hid hno
    clear hno
    by_cases hkn : k < n
    · obtain ⟨b, o, rfl, ck⟩ := hx.at hkn
      by_cases hg : y = gi xs k
      · have HQ := Lib.hid (fiZ_found (g := g) (xs := xs) (k := k) (by rw [← HN.out]; exact hkn) (by rw [HG0.out]; simpa using hg) HD.out)
        have hb : (y == gi xs k) = true := by simpa using hg
        clear hg
        go_wp2
        go_ret
        exact ⟨ret_int HQ.out.symm, rfl⟩
      · have HG : Hid (g (gi xs k) = false) := by show g (gi xs k) = false; rw [HG0.out]; simpa using hg
        have hb : (y == gi xs k) = false := by simpa using hg
        clear hg
        go_wp2
        go_round
        case rel =>
          refine ⟨k + 1, by go_num, by omega, fun j hj => ?_⟩
          by_cases e : j = k
          · rw [e]; exact HG.out
          · exact HD.out j (by omega)
        case measure => simp [intOf]; omega
    · have HQ := Lib.hid (fiZ_none (g := g) (xs := xs) (fun j hj => HD.out j (by rw [← HN.out] at hj; omega)))
      go_wp2
      go_ret
      exact ⟨ret_int HQ.out.symm, rfl⟩

theorem contains_any (v : Value) (xs : List Int) (y : Int) (w : World) (hx : IsI w v xs) :
    Calls Try.prog 128 #[v, .int .i64 y] w fun e w' => e = .returned (.bool (anyB (fun z => decide (y = z)) xs)) ∧ w = w' := by
  have HX := Lib.hid hx
  clear hx
  go_enter Try.func128, Try.ntmps128
  go_wp2_with (go_at_call 138; refine (index_any _ _ _ _ HX.out).mono ?_; rintro e w' ⟨rfl, rfl⟩)
  go_ret
  exact ⟨ret_bool (anyB_fiZ _ xs), rfl⟩

theorem has1_any (p : Int) (hp : -1000 ≤ p ∧ p ≤ 1000) (w : World) (a : Addr) (h : w.cell? a = some (.int .i64 p)) : Tells Try.prog w 129 #[.pointer (some a)] (fun x => !inB x 0 (p - 1)) := by
  refine ⟨fun xs w' => by kernel_rfl, fun x w' hn => ?_⟩
  have hc := hn.cellNew h
  show Calls Try.prog 129 #[.int .i64 x, .pointer (some a)] w' _
  go_enter Try.func129, Try.ntmps129
  go_wp2_with (go_at_call 67; refine (within_any _ _ _ _).mono ?_; rintro e w' ⟨rfl, rfl⟩)
  go_ret
  exact ⟨rfl, rfl⟩

theorem not_any_not (f : Int → Bool) (xs : List Int) : (!xs.any fun x => !f x) = xs.all f := by
  induction xs with
  | nil => rfl
  | cons x xs ih => simp only [List.any_cons, List.all_cons, ← ih]; cases f x <;> simp

theorem has_any (p : Int) (v : Value) (xs : List Int) (w : World) (hx : IsI w v xs) (hp : -1000 ≤ p ∧ p ≤ 1000) :
    Calls Try.prog 109 #[.int .i64 p, v] w fun e w' => e = .returned (.bool (hasB p xs)) ∧ New w w' := by
  have HX := Lib.hid hx
  clear hx
  go_enter Try.func109, Try.ntmps109
  go_wp2_with (go_at_call 114; refine (containsFunc_any _ _ _ _ _ _ (HX.out.new (New.alloc _ _)) (has1_any p hp _ _ (by rw [cell_of_heap (heap_alloc_new w _)]; rfl))).mono ?_; rintro e w' ⟨rfl, rfl⟩)
  go_ret
  exact ⟨ret_bool (not_any_not _ _), New.alloc _ _⟩

theorem fieldOf_any (p : Int) (w : World) :
    Calls Try.prog 108 #[.int .i64 p] w fun e w' => e = .returned (.tuple #[.int .i64 p, .bool (prB p)]) ∧ New w w' := by
  have hlit : ∀ w0 : World, IsI (w0.alloc (.cells #[.int .i64 2, .int .i64 3, .int .i64 5, .int .i64 7] 3)) (.slice (some ⟨w0.heap.size, 0, none⟩) 4 4) [2, 3, 5, 7] := fun w0 =>
    (Own.isI (e := 3) (.inr ⟨w0.heap.size, 4, #[.int .i64 2, .int .i64 3, .int .i64 5, .int .i64 7], rfl, heap_alloc_new w0 _, by simp, by simp [maxLen], by simp, rfl⟩) (by simp [Mid]))
  have HL := Lib.hid hlit
  clear hlit
  go_enter Try.func108, Try.ntmps108
  go_wp2_with (go_at_call 128; refine (contains_any _ _ _ _ (HL.out _)).mono ?_; rintro e w' ⟨rfl, rfl⟩)
  go_ret2
  have e : anyB (fun z => decide (p = z)) [2, 3, 5, 7] = prB p := by
    rw [Bool.eq_iff_iff]; simp [anyB, prB]
  exact ⟨by rw [← e]; rfl, New.alloc _ _⟩
end Go.Proofs.Yteoiaicpdmlecaa
