/- encode of both: the word of a message. EncodeWord of both. -/
import Derived.Test.YtahgjfmdafhedaaKnow
import Derived.Test.YtahgjfmdafhedaaLawK
import Derived.BigRegion
namespace Go.Proofs.Ytahgjfmdafhedaa
open Go.RowKit Mat
set_option linter.unusedVariables false

/-- Rows of one length, of rests. -/
def RowsOk (p : Int) (n : Nat) (rows : List (List Int)) : Prop := ∀ i, i < rows.length → (gr rows i).length = n ∧ ∀ k, k < n → 0 ≤ gi (gr rows i) k ∧ gi (gr rows i) k ≤ p - 1

/-- The word of the first k numbers of a message. -/
def encZ (p : Int) (n : Nat) (rows : List (List Int)) (m : List Int) : Nat → List Int
  | 0 => List.replicate n 0
  | k + 1 => addZ p (encZ p n rows m k) (gi m k) (gr rows k)

theorem encZ_length (p : Int) (n : Nat) (rows : List (List Int)) (m : List Int) (k : Nat) : (encZ p n rows m k).length = n := by
  induction k with
  | zero => simp [encZ]
  | succ k ih => simp [encZ, addZ_length, ih]

theorem encZ_range {p : Int} (hp : 0 < p) {n : Nat} {rows : List (List Int)} (m : List Int) {k : Nat} (hk : k ≤ rows.length) (hr : RowsOk p n rows) {i : Nat} (hi : i < n) :
    0 ≤ gi (encZ p n rows m k) i ∧ gi (encZ p n rows m k) i < p := by
  cases k with
  | zero => simp [encZ, gi_replicate]; exact hp
  | succ k =>
    have hl := (hr k (by omega)).1
    rw [encZ, addZ, addTo_get _ _ _ _ _ (by rw [encZ_length]; exact hi), if_pos (by omega)]
    exact ⟨Int.emod_nonneg _ (by omega), Int.emod_lt_of_pos _ hp⟩

theorem IsI.old {w : World} {v : Value} {xs : List Int} (h : IsI w v xs) (hx : 0 < xs.length) {g : Nat} (hg : v.ownBlock = some g) : g < w.heap.size := by
  obtain ⟨ao, n, cap, rfl, HN, hn⟩ := h.shape
  obtain ⟨b, o, rfl, hc⟩ := h.at (i := 0) (by rw [HN.out]; exact hx)
  simp [Value.ownBlock] at hg
  subst hg
  exact World.block_lt_of_cell? w _ hc

end Go.Proofs.Ytahgjfmdafhedaa

namespace Go.Proofs.Ytahgjfmdafhedaa
open Go.RowKit Mat
set_option linter.unusedVariables false

theorem validWord_any (p : Int) (v : Value) (xs : List Int) (k : Nat) (w : World) (hx : IsI w v xs) (hp : -1000 ≤ p ∧ p ≤ 1000) (hk : k ≤ 1000) :
    Calls Try.prog 61 #[.int .i64 p, v, .int .i64 k] w fun e w' => e = .returned (.bool (hasB p xs && decide (xs.length = k))) ∧ w = w' := by
  obtain ⟨ao, n, cap, rfl, HN, hn⟩ := hx.shape
  have HX := Lib.hid hx
  clear hx
  go_enter Try.func61, Try.ntmps61
  go_wp2_with fail
  go_loop [7] (fun i => ∃ j : Nat, i = .int .i64 j ∧ j ≤ n ∧ Hid (∀ l, l < j → inB (gi xs l) 0 (p - 1) = true)) (fun i => n - (intOf i).toNat)
  case atStart => exact ⟨0, rfl, Nat.zero_le _, fun l hl => by omega⟩
  case round =>
    obtain ⟨j, rfl, hj, HD⟩ := hrel
    by_cases hjn : j < n
    · obtain ⟨b, o, rfl, c⟩ := HX.out.at hjn
      cases hb : inB (gi xs j) 0 (p - 1) with
      | false =>
        have HQ := Lib.hid (hasB_no (p := p) (by rw [← HN.out]; exact hjn) hb)
        go_wp2_with (go_at_call 43; refine (inRange_any _ _ _ _).mono ?_; rintro e w' ⟨rfl, rfl⟩)
        go_ret
        exact ⟨by rw [HQ.out]; rfl, rfl⟩
      | true =>
        have HB := Lib.hid hb
        go_wp2_with (go_at_call 43; refine (inRange_any _ _ _ _).mono ?_; rintro e w' ⟨rfl, rfl⟩)
        go_round
        case rel =>
          refine ⟨j + 1, by go_num, by omega, fun l hl => ?_⟩
          by_cases e : l = j
          · rw [e]; exact HB.out
          · exact HD.out l (by omega)
        case measure => simp [intOf]; omega
    · obtain rfl : j = n := by omega
      have hh : hasB p xs = true := hasB_iff.2 (fun i hi => inB_iff.1 (HD.out i (by rw [HN.out]; exact hi)))
      have HH := Lib.hid hh
      clear hh
      go_wp2_with fail
      go_ret
      refine ⟨ret_bool ?_, rfl⟩
      rw [HH.out, ← HN.out, Bool.true_and]
      rw [Bool.eq_iff_iff]
      simp
      omega

/-- A valid code and a message of it. -/
def MsgC (p : Int) (rows : List (List Int)) (m : List Int) : Prop := ValidC p rows ∧ m.length = rows.length ∧ hasB p m = true
/-- What EncodeWord answers. -/
def EncR (p : Int) (rows : List (List Int)) (m : List Int) (out : List Int) : Prop :=
  (MsgC p rows m → out = encZ p (gr rows 0).length rows m m.length) ∧ (¬ MsgC p rows m → out = [])
theorem ValidC.rowsOk {p : Int} {rows : List (List Int)} (h : ValidC p rows) : RowsOk p (gr rows 0).length rows := fun i hi => h.few.2.2.2.2 i hi
theorem EncR.unique {p : Int} {rows : List (List Int)} {m a b : List Int} (h : EncR p rows m a) (h' : EncR p rows m b) : a = b := by
  by_cases c : MsgC p rows m
  · rw [h.1 c, h'.1 c]
  · rw [h.2 c, h'.2 c]

theorem EncR.small {p : Int} {rows : List (List Int)} {m a : List Int} (h : EncR p rows m a) : a.length ≤ 1048576 := by
  by_cases c : MsgC p rows m
  · rw [h.1 c, encZ_length]; have := c.1.few; omega
  · rw [h.2 c]; simp


end Go.Proofs.Ytahgjfmdafhedaa
