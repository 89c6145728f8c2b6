/- Which sets help a column: by the solver and by the ranks. Plain. impl.least: the least sets for which a question holds. spec.helps. The closure of impl.helpers. impl.helpers. spec.helpers. -/
import Derived.Test.YtcdbeepphdfipaaGreatDoorPlaM
import Derived.Test.YtcdbeepphdfipaaGreatDoorSolS
import Derived.Test.YtcdbeepphdfipaaGreatDoorBitL
import Derived.Test.YtcdbeepphdfipaaGreatDoorKnow
import Derived.Test.YtcdbeepphdfipaaGreatDoorLawK
import Derived.Test.YtcdbeepphdfipaaGreatDoorLeaf
import Derived.Test.YtcdbeepphdfipaaGreatDoorBase
namespace Go.Proofs.YtcdbeepphdfipaaGreatDoor
open Go.RowKit Mat
set_option linter.unusedVariables false

/-- The set does not hold i and helps it. -/
def HelpQ (q : Nat) [NeZero q] (rows : List (List Int)) (n i s : Nat) : Prop := bitN s i = 0 ∧ HelpC q rows n s i

theorem SolB.help {q : Nat} [NeZero q] {rows : List (List Int)} {n s i : Nat} {out : List Int} {ok : Bool} (h : SolB q (colsTo rows s n) (colN rows i) out ok) : ok = true ↔ HelpC q rows n s i := by
  unfold HelpC
  rw [← colsTo_length rows s n]
  cases ok with
  | true => exact ⟨fun _ => (h.1 rfl).spans, fun _ => rfl⟩
  | false => exact ⟨(fun h2 => by cases h2), fun h2 => absurd h2 (h.2 rfl).2⟩

theorem help_none {q : Nat} [NeZero q] {rows : List (List Int)} {n s i : Nat} (hg : GoodRows q n rows) (hi : i < n) (h0 : wtN s n = 0) : HelpC q rows n s i ↔ ∀ r, r < (colN rows i).length → gi (colN rows i) r = 0 := by
  unfold HelpC
  rw [h0]
  have hc := colN_good hg hi
  constructor
  · rintro ⟨c, hc0⟩ r hr
    have h1 := hc0 r
    rw [hc.1] at hr
    have h2 := hc.2 r hr
    exact (phi_eq_zero h2.1 h2.2).1 h1
  · intro h
    refine ⟨fun _ => 0, fun k => ?_⟩
    show phi q (gi (colN rows i) k) = 0
    by_cases hk : k < (colN rows i).length
    · rw [h k hk, phi_zero]
    · rw [gi_ge (by omega), phi_zero]

theorem or_bits : ∀ s : Nat, s < 128 → ∀ i : Nat, i < 7 → ∀ k : Nat, k < 7 → bitN (s ||| 2 ^ i) k = if k = i then 1 else bitN s k := by decide +kernel
theorem or_small : ∀ s : Nat, s < 128 → ∀ i : Nat, i < 7 → s ||| 2 ^ i < 128 := by decide +kernel
theorem wt_full : ∀ n : Nat, n < 8 → ∀ s : Nat, s < 128 → s < 2 ^ n → wtN s 7 = n → ∀ i : Nat, i < n → bitN s i = 1 := by decide +kernel
theorem wt_less : ∀ n : Nat, n < 8 → ∀ s : Nat, s < 128 → ∀ i : Nat, i < n → bitN s i = 0 → wtN s n ≤ 6 := by decide +kernel
theorem wt_cut : ∀ n : Nat, n < 8 → ∀ s : Nat, s < 128 → s < 2 ^ n → wtN s n = wtN s 7 := by decide +kernel

theorem rank_help {q : Nat} [NeZero q] (hq : Pr q) {rows : List (List Int)} {n s i a b : Nat} (hg : GoodRows q n rows) (hc : (gr rows 0).length = n) (hn : n ≤ 7) (hs : s < 128) (hi : i < n) (hb : bitN s i = 0) (h1 : RkOf q rows s a) (h2 : RkOf q rows (s ||| 2 ^ i) b) : a = b ↔ HelpC q rows n s i := by
  obtain ⟨q1, i1, e1, _, o1, r1, rfl⟩ := h1
  obtain ⟨q2, i2, e2, _, o2, r2, rfl⟩ := h2
  obtain rfl : q = q1 := by omega
  obtain rfl : q = q2 := by omega
  rw [hc] at r1 r2
  exact (help_rank hq hg hi hb (fun k hk => or_bits s hs i (by omega) k (by omega)) r1 r2).symm
end Go.Proofs.YtcdbeepphdfipaaGreatDoor

namespace Go.Proofs.YtcdbeepphdfipaaGreatDoor
open Go.RowKit
set_option linter.unusedVariables false

/-- A function value that answers a question of the numbers below N, and may make memory. -/
def Asks (P : Program) (w : World) (f : Nat) (caps : Array Value) (N : Nat) (H : Nat → Prop) : Prop :=
  (∀ (xs : Array Value) (w' : World), (callFunc f xs).run P w' = .ok (.enter f xs) w') ∧
  ∀ (x : Nat) (w' : World), x < N → New w w' → Calls P f (#[.int .i64 x] ++ caps) w' fun e w'' => SaysB e (H x) ∧ New w' w''

/-- Nothing of x lies outside s. -/
def inSet (s x : Int) : Bool := decide (bits BinOp.andNot IntKind.i64 x s = 0)
theorem inSet_iff {s : Nat} (hs : s < 128) {x : Int} (h0 : 0 ≤ x) (h1 : x < 128) : inSet s x = true ↔ Sub x.toNat s := by
  obtain ⟨y, rfl⟩ : ∃ y : Nat, x = y := ⟨x.toNat, by omega⟩
  have h := Nat.and_le_left (n := y) (m := s)
  simp only [inSet, decide_eq_true_eq, Int.toNat_natCast]
  rw [andNot_i64 y (by omega) s hs]
  unfold Sub wo
  omega
theorem anyB_inSet {s : Nat} (hs : s < 128) {out : List Int} (ho : ∀ j, j < out.length → 0 ≤ gi out j ∧ gi out j < 128) : anyB (inSet s) out = false ↔ ∀ j, j < out.length → ¬ Sub (gi out j).toNat s := by
  rw [Bool.eq_false_iff]
  simp only [anyB, ne_eq, List.any_eq_true, not_exists, not_and]
  constructor
  · intro h j hj hc
    have := ho j hj
    exact h out[j] (List.getElem_mem hj) (by rw [← gi_lt hj]; exact (inSet_iff hs this.1 this.2).2 hc)
  · intro h x hx hc
    obtain ⟨j, hj, rfl⟩ := List.getElem_of_mem hx
    have := ho j hj
    rw [← gi_lt hj] at hc
    exact h j hj ((inSet_iff hs this.1 this.2).1 hc)

end Go.Proofs.YtcdbeepphdfipaaGreatDoor

namespace Go.Proofs.YtcdbeepphdfipaaGreatDoor
open Go.RowKit Mat
set_option linter.unusedVariables false

/-- How many are not 0. -/
def hvTo (xs : List Int) : Nat → Nat
  | 0 => 0
  | k + 1 => if gi xs k = 0 then hvTo xs k else hvTo xs k + 1
theorem hvTo_le (xs : List Int) : ∀ k, hvTo xs k ≤ k
  | 0 => Nat.le_refl _
  | k + 1 => by have := hvTo_le xs k; unfold hvTo; split <;> omega
theorem hvTo_zero (xs : List Int) : ∀ k, hvTo xs k = 0 ↔ ∀ r, r < k → gi xs r = 0
  | 0 => ⟨fun _ r hr => by omega, fun _ => rfl⟩
  | k + 1 => by
    have ih := hvTo_zero xs k
    unfold hvTo
    split
    · rename_i h
      rw [ih]
      exact ⟨fun h2 r hr => (if e : r = k then by rw [e]; exact h else h2 r (by omega)), fun h2 r hr => h2 r (by omega)⟩
    · rename_i h
      exact ⟨fun h2 => by omega, fun h2 => absurd (h2 k (by omega)) h⟩

theorem heavy_any (v : Value) (xs : List Int) (w : World) (hx : IsI w v xs) (hl : xs.length ≤ 1000) :
    Calls Tryz.prog 154 #[v] w fun e w' => e = .returned (.int .i64 (hvTo xs xs.length)) ∧ w = w' := by
  obtain ⟨ao, n, cap, rfl, HN, hn⟩ := hx.shape
  have hn1 : n ≤ 1000 := by rw [HN.out]; exact hl
  have HX := Lib.hid hx
  clear hx
  go_enter Tryz.func154, Tryz.ntmps154
  go_wp2_with fail
  go_loop [3, 4] (fun t i => ∃ k c : Nat, t = .int .i64 c ∧ i = .int .i64 k ∧ k ≤ n ∧ c ≤ k ∧ Hid (c = hvTo xs k)) (fun _ i => n - (intOf i).toNat)
  case atStart => exact ⟨0, 0, rfl, rfl, Nat.zero_le _, Nat.le_refl _, rfl⟩
  case round =>
    obtain ⟨k, c, rfl, rfl, hk, hck, HC⟩ := hrel
    by_cases hkn : k < n
    · obtain ⟨b, o, rfl, ck⟩ := HX.out.at hkn
      obtain ⟨x, hx⟩ : ∃ x, x = gi xs k := ⟨_, rfl⟩
      rw [← hx] at ck
      have HXX := Lib.hid hx
      clear hx
      by_cases h0 : x = 0
      · subst h0
        go_wp2_with fail
        go_round
        case rel => exact ⟨k + 1, c, by go_num, by go_num, by omega, by omega, by show c = _; rw [HC.out, hvTo, if_pos HXX.out.symm]⟩
        case measure => simp [intOf]; omega
      · have hd2 : (x != 0) = true := by simp; exact h0
        have HS : Hid (c + 1 = hvTo xs (k + 1)) := by show c + 1 = _; rw [HC.out, hvTo, if_neg (by rw [← HXX.out]; exact h0)]
        go_wp2_with fail
        go_round
        case rel => exact ⟨k + 1, c + 1, by go_num, by go_num, by omega, by omega, HS⟩
        case measure => simp [intOf]; omega
    · obtain rfl : k = n := by omega
      go_wp2_with fail
      go_ret
      exact ⟨ret_int (by rw [HC.out, HN.out]), rfl⟩

end Go.Proofs.YtcdbeepphdfipaaGreatDoor

namespace Go.Proofs.YtcdbeepphdfipaaGreatDoor
open Go.RowKit Mat
set_option linter.unusedVariables false

end Go.Proofs.YtcdbeepphdfipaaGreatDoor

namespace Go.Proofs.YtcdbeepphdfipaaGreatDoor
open Go.RowKit Mat
set_option linter.unusedVariables false

end Go.Proofs.YtcdbeepphdfipaaGreatDoor

namespace Go.Proofs.YtcdbeepphdfipaaGreatDoor
open Go.RowKit Mat
set_option linter.unusedVariables false

end Go.Proofs.YtcdbeepphdfipaaGreatDoor
