/- (Code).known and spec.validCode tell what a valid code is. ValidCode of both. Sets as numbers: powers of 2, bits, sizes. What the contracts say that give a slice of numbers. The columns of a set. The columns of a set, by the program and by the reference. spec.columns. The rank of the columns of a set. -/
import Derived.Test.YtcdbeepphdfipaaGreatDoorRedu
import Derived.Test.YtcdbeepphdfipaaGreatDoorLeaf
import Derived.Deep.RegionHeld3
import Derived.Test.YtcdbeepphdfipaaGreatDoorBase
import Derived.Test.YtcdbeepphdfipaaGreatDoorLawK
namespace Go.Proofs.YtcdbeepphdfipaaGreatDoor
open Go.RowKit Mat
set_option linter.unusedVariables false

/-- Rows are a valid code over p. -/
def ValidC (p : Int) (rows : List (List Int)) : Prop := vtB p rows = true ∧ rows.length ≤ 4 ∧ ∃ out, RedOf p rows out ∧ out.length = rows.length

theorem RedOf.le_cols {p : Int} {rows out : List (List Int)} (h : RedOf p rows out) : out.length ≤ (gr rows 0).length := by
  obtain ⟨q, i1, e1, hq, r1⟩ := h
  have hl : ∀ i, i < out.length → ldN (gr out i) < (gr rows 0).length := fun i hi => (lead_some (r1.inv.good i hi) (r1.inv.lead i hi)).1
  have key : ∀ i, i < out.length → i ≤ ldN (gr out i) := fun i => by
    induction i with
    | zero => intro _; exact Nat.zero_le _
    | succ i ih => intro hi; have := ih (by omega); have := r1.asc i (i + 1) (by omega) hi; omega
  by_cases h0 : out.length = 0
  · omega
  · have := key (out.length - 1) (by omega)
    have := hl (out.length - 1) (by omega)
    omega

theorem ValidC.cols {p : Int} {rows : List (List Int)} (h : ValidC p rows) : rows.length ≤ (gr rows 0).length := by
  obtain ⟨_, _, out, h, e⟩ := h
  rw [← e]
  exact h.le_cols

/-- A valid code has at least one row and at least one column, and few. -/
theorem ValidC.few {p : Int} {rows : List (List Int)} (h : ValidC p rows) : 1 ≤ rows.length ∧ rows.length ≤ 4 ∧ rows.length ≤ (gr rows 0).length ∧ (gr rows 0).length ≤ 7 ∧
    ∀ i, i < rows.length → (gr rows i).length = (gr rows 0).length ∧ ∀ k, k < (gr rows 0).length → 0 ≤ gi (gr rows i) k ∧ gi (gr rows i) k ≤ p - 1 := by
  have hv := vtB_iff.1 h.1
  exact ⟨hv.2.1.1, h.2.1, h.cols, hv.2.2.1.2, fun i hi => ⟨(hv.2.2.2 i hi).1, fun k hk => (hv.2.2.2 i hi).2 k (by rw [(hv.2.2.2 i hi).1]; exact hk)⟩⟩

/-- It ends with the answer to a question. -/
def SaysB (e : Ending) (Q : Prop) : Prop := ∃ b : Bool, e = .returned (.bool b) ∧ (b = true ↔ Q)

theorem known_any (p : Int) (v : Value) (rows : List (List Int)) (w : World) (hr : IsR w v rows) :
    Calls Tryz.prog 42 #[.agg #[.int .i64 p, v]] w fun e w' => (∃ b : Bool, e = .returned (.tuple #[.int .i64 p, .bool b]) ∧ (b = true ↔ ValidC p rows)) ∧ New w w' := by
  obtain ⟨ao, n, cap, rfl, HN, hn⟩ := hr.shape
  have HR := Lib.hid hr
  clear hr
  go_enter Tryz.func42, Tryz.ntmps42
  go_wp2_with fail
  refine (tableOf_any _ _ _ _ (HR.out.new (New.alloc _ _))).mono ?_
  rintro e w1 ⟨rfl, hn1⟩
  have b0 := hn1.cellNew (show (w.alloc (.cells #[.int .i64 p, .slice ao n cap] 24)).cell? ⟨w.heap.size, 0, none⟩ = some (.int .i64 p) by rw [cell_of_heap (heap_alloc_new w _)]; rfl)
  have b1 := hn1.cellNew (show (w.alloc (.cells #[.int .i64 p, .slice ao n cap] 24)).cell? ⟨w.heap.size, 1, none⟩ = some (.slice ao n cap) by rw [cell_of_heap (heap_alloc_new w _)]; rfl)
  have h1 : New w w1 := (New.alloc _ _).trans hn1
  cases hv : vtB p rows with
  | false =>
    have HV := Lib.hid hv
    clear hv
    go_wp2_with fail
    go_quiet (fail)
    go_wp2_with fail
    go_ret2
    exact ⟨⟨false, rfl, by simp [ValidC, HV.out]⟩, h1.trans (New.drewN _ _)⟩
  | true =>
    have HV := Lib.hid hv
    obtain ⟨q, rfl, hq⟩ := prime_nat (vtB_pr hv)
    have hi := vtB_iff.1 hv
    have hb : (1 ≤ rows.length ∧ rows.length ≤ 6) ∧ (gr rows 0).length ≤ 7 := ⟨hi.2.1, hi.2.2.1.2⟩
    have HB := Lib.hid hb
    have HQ := Lib.hid hq
    clear hv hi hb hq
    by_cases h4 : n ≤ 4
    · haveI := HQ.out.nz
      have hd : decide ((n : Int) ≤ 4) = true := by simp; omega
      go_wp2_with fail
      go_region_held3 (fun w' => w'.cell? ⟨w.heap.size, 0, none⟩ = some (.int .i64 q) ∧ w'.cell? ⟨w.heap.size, 1, none⟩ = some (.slice ao n cap)) (first | exact ⟨(HK.out.2.2.2.2).cellNew b0, (HK.out.2.2.2.2).cellNew b1⟩ | go_keep)
        (first | (go_at_call 71; refine (reduced_any q HQ.out _ HB.out.2 _ rows _ (HR.out.new (h1.trans (New.drew _))) (vtB_good HV.out) (by have := HB.out.1; omega)).mono ?_; rintro e w2 ⟨u, vs, out, rfl, ho, hf, hred, hn2⟩; obtain ⟨a, l, c, rfl, HL, hl, _⟩ := ho.outer.opened (by rw [ho.len]; unfold Mid; have := (RedOf.bounds ⟨q, this, rfl, HQ.out, hred⟩ HV.out).1; omega); have HK := Lib.hid (And.intro ho (And.intro hf (And.intro hred (And.intro HL.out ((New.drew w1).trans hn2))))); clear ho hf hred hn2 HL))
      go_wp2_with fail
      go_ret2
      refine ⟨⟨_, rfl, ?_⟩, h1.trans HK.out.2.2.2.2⟩
      obtain ⟨ho, _, hred, hL, _⟩ := HK.out
      have e1 : l = out.length := by rw [hL, ho.len]
      have hro : RedOf q rows out := ⟨q, this, rfl, HQ.out, hred⟩
      rw [beq_iff_eq]
      constructor
      · intro e; exact ⟨HV.out, by rw [← HN.out]; exact h4, out, hro, by rw [← e1, ← HN.out]; omega⟩
      · rintro ⟨_, _, out', h', hl'⟩
        have := h'.unique hro
        subst this
        rw [← e1, ← HN.out] at hl'
        omega
    · have hd : decide ((n : Int) ≤ 4) = false := by simp; omega
      go_wp2_with fail
      go_quiet (fail)
      go_wp2_with fail
      go_ret2
      exact ⟨⟨false, rfl, by simp only [ValidC, Bool.false_eq_true, false_iff]; rintro ⟨_, h, _⟩; rw [← HN.out] at h; exact h4 h⟩, h1.trans (New.drewN _ _)⟩

theorem validCode_any (p : Int) (v : Value) (rows : List (List Int)) (w : World) (hr : IsR w v rows) :
    Calls Tryz.prog 39 #[.agg #[.int .i64 p, v]] w fun e w' => (∃ b : Bool, e = .returned (.bool b) ∧ (b = true ↔ ValidC p rows)) ∧ New w w' := by
  obtain ⟨ao, n, cap, rfl, HN, hn⟩ := hr.shape
  have HR := Lib.hid hr
  clear hr
  have b0 : (w.alloc (.cells #[.int .i64 p, .slice ao n cap] 24)).cell? ⟨w.heap.size, 0, none⟩ = some (.int .i64 p) := by rw [cell_of_heap (heap_alloc_new w _)]; rfl
  have b1 : (w.alloc (.cells #[.int .i64 p, .slice ao n cap] 24)).cell? ⟨w.heap.size, 1, none⟩ = some (.slice ao n cap) := by rw [cell_of_heap (heap_alloc_new w _)]; rfl
  have h1 : New w (w.alloc (.cells #[.int .i64 p, .slice ao n cap] 24)) := New.alloc _ _
  go_enter Tryz.func39, Tryz.ntmps39
  go_wp2_with fail
  obtain ⟨w1, hw1⟩ : ∃ w1 : World, w1 = w.alloc (.cells #[.int .i64 p, .slice ao n cap] 24) := ⟨_, rfl⟩
  rw [← hw1] at b0 b1 h1
  rw [← hw1]
  clear hw1
  cases hv : vtB p rows with
  | false =>
    have HV := Lib.hid hv
    clear hv
    go_quiet ((go_at_call 68; exact Calls.quiet_of ((validTable_quiet _ _ _ _ (HR.out.new (h1.trans (New.drewN _ _)))).mono (fun e w' h => ⟨by rw [h.1, HV.out], h.2⟩))))
    go_wp2_with fail
    go_ret
    exact ⟨⟨false, rfl, by simp [ValidC, HV.out]⟩, h1.trans (New.drewN _ _)⟩
  | true =>
    have HV := Lib.hid hv
    obtain ⟨q, rfl, hq⟩ := prime_nat (vtB_pr hv)
    have hi := vtB_iff.1 hv
    have hb : (1 ≤ rows.length ∧ rows.length ≤ 6) ∧ (gr rows 0).length ≤ 7 := ⟨hi.2.1, hi.2.2.1.2⟩
    have HB := Lib.hid hb
    have HQ := Lib.hid hq
    clear hv hi hb hq
    by_cases h4 : n ≤ 4
    · haveI := HQ.out.nz
      have hd : decide ((n : Int) ≤ 4) = true := by simp; omega
      go_region_held3 (fun w' => w'.cell? ⟨w.heap.size, 0, none⟩ = some (.int .i64 q) ∧ w'.cell? ⟨w.heap.size, 1, none⟩ = some (.slice ao n cap)) (first | exact ⟨(HK.out.2.2.2.2).cellNew b0, (HK.out.2.2.2.2).cellNew b1⟩ | exact ⟨HV2.out.cellNew b0, HV2.out.cellNew b1⟩ | go_keep)
        (first | (go_at_call 68; refine ((validTable_any _ _ _ _ (HR.out.new (h1.trans (New.drew _)))).mono (fun e w' h => (⟨by rw [h.1, HV.out], h.2⟩ : e = .returned (.bool true) ∧ New _ w'))).mono ?_; rintro e w2 ⟨rfl, hn2⟩; have HV2 := Lib.hid ((New.drew w1).trans hn2); clear hn2) | (go_at_call 69; refine (reduce_any q HQ.out _ HB.out.2 _ rows _ (HR.out.new (h1.trans HV2.out)) (vtB_good HV.out) (by have := HB.out.1; omega)).mono ?_; rintro e w3 ⟨u, vs, out, rfl, ho, hf, hred, hn3⟩; obtain ⟨a, l, c, rfl, HL, hl, _⟩ := ho.outer.opened (by rw [ho.len]; unfold Mid; have := (RedOf.bounds ⟨q, this, rfl, HQ.out, hred⟩ HV.out).1; omega); have HK := Lib.hid (And.intro ho (And.intro hf (And.intro hred (And.intro HL.out (HV2.out.trans hn3))))); clear ho hf hred hn3 HL))
      go_wp2_with fail
      go_ret
      refine ⟨⟨_, rfl, ?_⟩, h1.trans HK.out.2.2.2.2⟩
      obtain ⟨ho, _, hred, hL, _⟩ := HK.out
      have e1 : l = out.length := by rw [hL, ho.len]
      have hro : RedOf q rows out := ⟨q, this, rfl, HQ.out, hred⟩
      rw [beq_iff_eq]
      constructor
      · intro e; exact ⟨HV.out, by rw [← HN.out]; exact h4, out, hro, by rw [← e1, ← HN.out]; omega⟩
      · rintro ⟨_, _, out', h', hl'⟩
        have := h'.unique hro
        subst this
        rw [← e1, ← HN.out] at hl'
        omega
    · have hd : decide ((n : Int) ≤ 4) = false := by simp; omega
      go_quiet ((go_at_call 68; exact Calls.quiet_of ((validTable_quiet _ _ _ _ (HR.out.new (h1.trans (New.drewN _ _)))).mono (fun e w' h => ⟨by rw [h.1, HV.out], h.2⟩))))
      go_wp2_with fail
      go_ret
      exact ⟨⟨false, rfl, by simp only [ValidC, Bool.false_eq_true, false_iff]; rintro ⟨_, h, _⟩; rw [← HN.out] at h; exact h4 h⟩, h1.trans (New.drewN _ _)⟩
end Go.Proofs.YtcdbeepphdfipaaGreatDoor

namespace Go.Proofs.YtcdbeepphdfipaaGreatDoor
open Go.RowKit Mat
set_option linter.unusedVariables false

theorem implValidCode_any (p : Int) (v : Value) (rows : List (List Int)) (w : World) (hr : IsR w v rows) :
    Calls Tryz.prog 16 #[.agg #[.int .i64 p, v]] w fun e w' => (∃ b : Bool, e = .returned (.bool b) ∧ (b = true ↔ ValidC p rows)) ∧ New w w' := by
  obtain ⟨ao, n, cap, rfl, HN, hn⟩ := hr.shape
  have HR := Lib.hid hr
  clear hr
  have h1 : New w (w.alloc (.cells #[.int .i64 p, .slice ao n cap] 24)) := New.alloc _ _
  go_enter Tryz.func16, Tryz.ntmps16
  go_wp2_with fail
  refine (known_any _ _ rows _ (HR.out.new h1)).mono ?_
  rintro e w2 ⟨⟨b, rfl, hb⟩, hn2⟩
  have HB := Lib.hid hb
  clear hb
  go_wp2_with fail
  go_ret
  exact ⟨⟨b, rfl, HB.out⟩, h1.trans hn2⟩

end Go.Proofs.YtcdbeepphdfipaaGreatDoor

namespace Go.Proofs.YtcdbeepphdfipaaGreatDoor
open Go.RowKit
set_option linter.unusedVariables false

theorem two_pow_le {m n : Nat} (h : m ≤ n) : 2 ^ m ≤ 2 ^ n := Nat.pow_le_pow_right (by omega) h

theorem power_any (n : Nat) (w : World) (hn : n ≤ 40) :
    Calls Tryz.prog 119 #[.int .i64 n] w fun e w' => e = .returned (.int .i64 ((2 ^ n : Nat) : Int)) ∧ w = w' := by
  go_enter Tryz.func119, Tryz.ntmps119
  go_wp2_with fail
  go_loop [0, 3] (fun t0 t3 => ∃ (k x : Nat), t0 = .int .i64 k ∧ t3 = .int .i64 x ∧ k ≤ n ∧ Hid (x * 2 ^ k = 2 ^ n) ∧ x ≤ 1099511627776) (fun t0 _ => (intOf t0).toNat)
  case atStart => exact ⟨n, 1, rfl, rfl, Nat.le_refl _, by show 1 * 2 ^ n = 2 ^ n; omega, by omega⟩
  case round =>
    obtain ⟨k, x, rfl, rfl, hk, HX, hx⟩ := hrel
    by_cases hk0 : 0 < k
    · go_wp2_with fail
      go_round
      case rel =>
        have hx2 : 2 * x * 2 ^ (k - 1) = 2 ^ n := by
          rw [← HX.out]
          obtain ⟨j, rfl⟩ : ∃ j, k = j + 1 := ⟨k - 1, by omega⟩
          rw [Nat.add_sub_cancel, Nat.pow_succ, Nat.mul_comm 2 x, Nat.mul_assoc, Nat.mul_comm 2]
        have h40 : 2 ^ n ≤ 1099511627776 := two_pow_le (m := n) (n := 40) hn
        have hle : 2 * x ≤ 2 ^ n := by rw [← hx2]; exact Nat.le_mul_of_pos_right _ (Nat.two_pow_pos _)
        refine ⟨k - 1, 2 * x, by apply val_int; omega, by apply val_int; omega, by omega, hx2, by omega⟩
      case measure => simp [intOf]; omega
    · obtain rfl : k = 0 := by omega
      have e : x = 2 ^ n := by have := HX.out; rw [Nat.pow_zero] at this; omega
      have HE := Lib.hid e
      clear e
      go_wp2_with fail
      go_ret
      exact ⟨ret_int (by rw [HE.out]; first | rfl | simp), rfl⟩

/-- Bit i of a set. -/
def bitN (s i : Nat) : Nat := s / 2 ^ i % 2

theorem bit_any (s i : Nat) (w : World) (hs : s ≤ 1099511627776) (hi : i ≤ 40) :
    Calls Tryz.prog 155 #[.int .i64 s, .int .i64 i] w fun e w' => e = .returned (.int .i64 (bitN s i)) ∧ w = w' := by
  have hp : 2 ^ i ≤ 1099511627776 := two_pow_le (m := i) (n := 40) hi
  have hp0 : 0 < 2 ^ i := Nat.two_pow_pos _
  have hb : bitN s i = s / 2 ^ i % 2 := rfl
  obtain ⟨p, hpe⟩ : ∃ p, p = 2 ^ i := ⟨_, rfl⟩
  rw [← hpe] at hp hp0 hb
  obtain ⟨q, hq⟩ : ∃ q, q = s / p := ⟨_, rfl⟩
  rw [← hq] at hb
  have hqi : (s : Int) / (p : Int) = (q : Int) := by rw [hq]; simp
  have hqs : q ≤ s := by rw [hq]; exact Nat.div_le_self _ _
  have htm : (q : Int).tmod 2 = ((bitN s i : Nat) : Int) := by rw [hb, Int.tmod_eq_emod_of_nonneg (by omega)]; omega
  have HP := Lib.hid hpe
  clear hpe hb hq
  go_enter Tryz.func155, Tryz.ntmps155
  go_wp2_with (go_at_call 119; refine (power_any _ _ hi).mono ?_; rintro e w' ⟨rfl, rfl⟩; rw [← HP.out])
  go_ret
  exact ⟨rfl, rfl⟩

/-- How many bits of the first k are set. -/
def wtN (s : Nat) : Nat → Nat
  | 0 => 0
  | k + 1 => wtN s k + bitN s k

theorem ones64_any (s : Nat) (w : World) (hs : s < 128) :
    Calls Tryz.prog 185 #[.int .u64 s] w fun e w' => e = .returned (.int .i64 (wtN s 7)) ∧ w = w' := by
  go_enter Tryz.func185, Tryz.ntmps185
  go_wp2_with fail
  go_ret
  refine ⟨ret_int ?_, rfl⟩
  revert hs
  revert s
  decide +kernel

theorem ones_any (s : Nat) (w : World) (hs : s < 128) :
    Calls Tryz.prog 158 #[.int .u64 s] w fun e w' => e = .returned (.int .i64 (wtN s 7)) ∧ w = w' := by
  go_enter Tryz.func158, Tryz.ntmps158
  go_wp2_with (go_at_call 185; refine (ones64_any _ _ hs).mono ?_; rintro e w' ⟨rfl, rfl⟩)
  go_ret
  exact ⟨rfl, rfl⟩

theorem size_any (s : Nat) (w : World) (hs : s < 128) :
    Calls Tryz.prog 126 #[.int .i64 s] w fun e w' => e = .returned (.int .i64 (wtN s 7)) ∧ w = w' := by
  go_enter Tryz.func126, Tryz.ntmps126
  go_wp2_with (go_at_call 158; refine (ones_any _ _ hs).mono ?_; rintro e w' ⟨rfl, rfl⟩)
  go_ret
  exact ⟨rfl, rfl⟩

theorem wt_done : ∀ s, s < 128 → ∀ j, j < 8 → s / 2 ^ j = 0 → wtN s j = wtN s 7 := by decide +kernel

theorem weight_any (s : Nat) (w : World) (hs : s < 128) :
    Calls Tryz.prog 120 #[.int .i64 s] w fun e w' => e = .returned (.int .i64 (wtN s 7)) ∧ w = w' := by
  go_enter Tryz.func120, Tryz.ntmps120
  go_wp2_with fail
  go_loop [0, 3] (fun t0 t3 => ∃ (j x y : Nat), t0 = .int .i64 x ∧ t3 = .int .i64 y ∧ j ≤ 7 ∧ Hid (x = s / 2 ^ j) ∧ Hid (y = wtN s j) ∧ x ≤ s ∧ y ≤ j) (fun t0 _ => (intOf t0).toNat)
  case atStart => exact ⟨0, s, 0, rfl, rfl, by omega, by show s = s / 2 ^ 0; simp, rfl, Nat.le_refl _, Nat.le_refl _⟩
  case round =>
    obtain ⟨j, x, y, rfl, rfl, hj, HX, HY, hxs, hyj⟩ := hrel
    by_cases hx0 : 0 < x
    · have hj7 : j < 7 := by
        apply Classical.byContradiction
        intro h
        have e : j = 7 := by omega
        have := HX.out
        rw [e] at this
        omega
      have hdiv : (x : Int) / 2 = ((x / 2 : Nat) : Int) := by omega
      have htm : (x : Int).tmod 2 = ((x % 2 : Nat) : Int) := by rw [Int.tmod_eq_emod_of_nonneg (by omega)]; omega
      obtain ⟨x2, hx2⟩ : ∃ x2, x2 = x / 2 := ⟨_, rfl⟩
      obtain ⟨r2, hr2⟩ : ∃ r2, r2 = x % 2 := ⟨_, rfl⟩
      rw [← hx2] at hdiv
      rw [← hr2] at htm
      have hx2s : x2 ≤ s ∧ x2 < x := by omega
      have hr : r2 ≤ 1 := by omega
      have H1 : Hid (x2 = s / 2 ^ (j + 1)) := by show x2 = _; rw [hx2, HX.out, Nat.pow_succ, Nat.div_div_eq_div_mul]
      have H2 : Hid (y + r2 = wtN s (j + 1)) := by show y + r2 = _; rw [hr2, HX.out, HY.out]; rfl
      clear hx2 hr2
      go_wp2_with fail
      go_round
      case rel => exact ⟨j + 1, x2, y + r2, rfl, by apply val_int; omega, by omega, H1, H2, by omega, by omega⟩
      case measure => simp [intOf]; omega
    · obtain rfl : x = 0 := by omega
      have HE : Hid (y = wtN s 7) := by show y = _; rw [HY.out]; exact wt_done s hs j (by omega) HX.out.symm
      go_wp2_with fail
      go_ret
      exact ⟨ret_int (by rw [HE.out]), rfl⟩
end Go.Proofs.YtcdbeepphdfipaaGreatDoor

namespace Go.Proofs.YtcdbeepphdfipaaGreatDoor
open Go.RowKit
set_option linter.unusedVariables false

/-- It ends with a slice of numbers of its own. -/
def GivesI (w : World) (e : Ending) (w' : World) (Q : List Int → Prop) : Prop :=
  ∃ u out, e = .returned u ∧ Own w' 3 u (out.map (Value.int .i64)) ∧ From w.heap.size u ∧ Q out ∧ New w w'

theorem givesNil {w w' : World} {Q : List Int → Prop} (h : New w w') (hq : Q []) : GivesI w (.returned (.slice none 0 0)) w' Q :=
  ⟨_, [], rfl, Own.nil _ _, (fun g hg => by simp [Value.ownBlock] at hg), hq, h⟩

theorem ValidC.prime {p : Int} {rows : List (List Int)} (h : ValidC p rows) : 2 ≤ p ∧ p ≤ 7 := by
  have := (vtB_iff.1 h.1).1
  omega
theorem pow_lt {n : Nat} (h : n ≤ 7) : 2 ^ n ≤ 128 := two_pow_le (m := n) (n := 7) h
/-- It ends with the answer to a question. -/
def TellsB (w : World) (e : Ending) (w' : World) (Q : Prop) : Prop := ∃ b : Bool, e = .returned (.bool b) ∧ (b = true ↔ Q) ∧ New w w'
theorem wrap_pow : ∀ n : Nat, n < 8 → IntKind.i64.wrap ((2 : Int) ^ n) = ((2 ^ n : Nat) : Int) := by decide +kernel
/-- It ends with a number that is so. -/
def TellsN (w : World) (e : Ending) (w' : World) (Q : Int → Prop) : Prop := ∃ t : Int, e = .returned (.int .i64 t) ∧ Q t ∧ New w w'
end Go.Proofs.YtcdbeepphdfipaaGreatDoor

namespace Go.Proofs.YtcdbeepphdfipaaGreatDoor
open Go.RowKit Mat
set_option linter.unusedVariables false

/-- Of the first k numbers of a row those in a set. -/
def selTo (s : Nat) (row : List Int) : Nat → List Int
  | 0 => []
  | k + 1 => if bitN s k = 1 then selTo s row k ++ [gi row k] else selTo s row k
/-- The numbers of a row in a set. -/
def sel (s : Nat) (row : List Int) : List Int := selTo s row row.length

theorem selTo_length (s : Nat) (row : List Int) (k : Nat) : (selTo s row k).length = wtN s k := by
  induction k with
  | zero => rfl
  | succ k ih =>
    have hb : bitN s k = 0 ∨ bitN s k = 1 := by unfold bitN; omega
    rcases hb with h | h
    · simp [selTo, wtN, h, ih]
    · simp [selTo, wtN, h, ih]

theorem wtN_le (s k : Nat) : wtN s k ≤ k := by
  induction k with
  | zero => simp [wtN]
  | succ k ih => have : bitN s k ≤ 1 := by unfold bitN; omega
                 simp only [wtN]; omega

theorem gi_snoc {xs : List Int} {x : Int} {i : Nat} : gi (xs ++ [x]) i = if i < xs.length then gi xs i else if i = xs.length then x else gi (xs ++ [x]) i := by
  by_cases h : i < xs.length
  · rw [if_pos h, gi_lt (by simp; omega), gi_lt h, List.getElem_append_left h]
  · rw [if_neg h]
    by_cases e : i = xs.length
    · rw [if_pos e]; subst e; rw [gi_lt (by simp)]; simp
    · rw [if_neg e]

theorem selTo_range {p : Int} (s : Nat) {row : List Int} {k : Nat} (h : ∀ i, i < k → 0 ≤ gi row i ∧ gi row i < p) : ∀ i, i < (selTo s row k).length → 0 ≤ gi (selTo s row k) i ∧ gi (selTo s row k) i < p := by
  induction k with
  | zero => intro i hi; simp [selTo] at hi
  | succ k ih =>
    have ih' := ih (fun i hi => h i (by omega))
    intro i hi
    unfold selTo at hi ⊢
    by_cases hb : bitN s k = 1
    · rw [if_pos hb] at hi ⊢
      rw [List.length_append, List.length_singleton] at hi
      rw [gi_snoc]
      by_cases c : i < (selTo s row k).length
      · rw [if_pos c]; exact ih' i c
      · rw [if_neg c, if_pos (by omega)]; exact h k (by omega)
    · rw [if_neg hb] at hi ⊢; exact ih' i hi

theorem sel_good {p : Int} {n : Nat} (s : Nat) {row : List Int} (h : GoodRow p n row) : GoodRow p (wtN s n) (sel s row) := by
  refine ⟨by unfold sel; rw [selTo_length, h.1], fun i hi => ?_⟩
  have hl : i < (selTo s row row.length).length := by rw [selTo_length, h.1]; exact hi
  exact selTo_range s (by rw [h.1]; exact h.2) i hl

theorem selRows_good {p : Int} {n : Nat} (s : Nat) {rows : List (List Int)} (h : GoodRows p n rows) : GoodRows p (wtN s n) (rows.map (sel s)) := fun i hi => by
  rw [List.length_map] at hi
  rw [gr_lt (by rw [List.length_map]; exact hi), List.getElem_map]
  have := h i hi
  rw [gr_lt hi] at this
  exact sel_good s this
end Go.Proofs.YtcdbeepphdfipaaGreatDoor

namespace Go.Proofs.YtcdbeepphdfipaaGreatDoor
open Go.RowKit Mat
set_option linter.unusedVariables false

theorem bits_bit : ∀ s : Nat, s < 128 → ∀ j : Nat, j < 8 → bits BinOp.and IntKind.i64 ((s : Int) / 2 ^ j) 1 = (bitN s j : Int) := by decide +kernel

set_option maxRecDepth 100000 in
set_option maxHeartbeats 1000000 in
theorem some_any (s : Nat) (hs : s < 128) (v : Value) (rows : List (List Int)) (w : World) (hr : IsR w v rows) (hl : rows.length ≤ 7) (hc : ∀ i, i < rows.length → (gr rows i).length ≤ 7) :
    Calls Tryz.prog 159 #[v, .int .i64 s] w fun e w' => ∃ u vs, e = .returned u ∧ OwnR w' 53 3 u vs (rows.map (sel s)) ∧ FromR w.heap.size u vs (rows.map (sel s)) ∧ New w w' := by
  obtain ⟨ao, n, cap, rfl, HN, hn⟩ := hr.shape
  have hn7 : n ≤ 7 := by rw [HN.out]; exact hl
  have HR := Lib.hid hr
  have HC := Lib.hid hc
  clear hr hl hc
  go_enter Tryz.func159, Tryz.ntmps159
  go_wp2_with (at_make; refine wpList_mk rfl _ _ _ rfl tyRow _ _ _ _ 0 n rfl rfl rfl rfl (Nat.zero_le _) hn ?_; intro v3 w3 hv3 ho3 hn3 hs3; subst hv3; have HO3 := Lib.hid ho3; have HN3 := Lib.hid hn3; clear ho3 hn3 hs3)
  go_loopw [5, 16] (fun v5 i wr => ∃ (k : Nat) (vs : List Value), i = .int .i64 k ∧ k ≤ n ∧ OwnR wr 53 3 v5 vs ((rows.take k).map (sel s)) ∧ FromR w.heap.size v5 vs ((rows.take k).map (sel s)) ∧ New w wr) (fun _ i _ => n - (intOf i).toNat)
  case atStart =>
    exact ⟨0, [], rfl, Nat.zero_le _, ⟨HO3.out, rfl, fun i hi => by simp at hi, fun i j hi => by simp at hi⟩, ⟨From.new _ _ _, fun i hi => by simp at hi⟩, HN3.out⟩
  case round =>
    obtain ⟨k, vs, rfl, hk, hown, hfrom, hnew⟩ := hrel
    have HO := Lib.hid hown
    have HF := Lib.hid hfrom
    have HNEW := Lib.hid hnew
    obtain ⟨wo, hwo⟩ : ∃ wo : World, wo = wr := ⟨_, rfl⟩
    rw [← hwo] at HO HNEW hnew
    rw [← hwo]
    clear hwo hown hfrom
    by_cases hkn : k < n
    · have hkr : k < rows.length := by rw [← HN.out]; exact hkn
      obtain ⟨b, o, u, rfl, ck, hu⟩ := (HR.out.new hnew).at hkn
      obtain ⟨au, nu, cu, rfl, HNU, hnu⟩ := hu.shape
      have hnu7 : nu ≤ 7 := by rw [HNU.out]; exact HC.out k hkr
      have HU := Lib.hid hu
      clear hnew hu
      go_wp2_with fail
      go_loopw [8, 23] (fun v8 i wr => ∃ (j : Nat), i = .int .i64 j ∧ j ≤ nu ∧ Own wr 3 v8 ((selTo s (gr rows k) j).map (Value.int .i64)) ∧ From wo.heap.size v8 ∧ New wo wr) (fun _ i _ => nu - (intOf i).toNat)
      case atStart => exact ⟨0, rfl, Nat.zero_le _, Own.empty _ _, From.new _ _ _, New.alloc _ _⟩
      case round =>
        obtain ⟨j, rfl, hj, hown, hfrom, hnw⟩ := hrel
        have hlj : ((selTo s (gr rows k) j).map (Value.int .i64)).length ≤ 7 := by rw [List.length_map, selTo_length]; have := wtN_le s j; omega
        obtain ⟨a8, l8, c8, rfl, _, _, _⟩ := hown.opened (by unfold Mid; omega)
        have HP := Lib.hid (And.intro hown (And.intro hfrom hnw))
        have ck' := hnw.cellNew ck
        by_cases hjn : j < nu
        · obtain ⟨bj, oj, rfl, cj⟩ := (HU.out.new hnw).at hjn
          have hbit := bits_bit s hs j (by omega)
          have hlen : ((selTo s (gr rows k) j).map (Value.int .i64)).length + 1 ≤ 1099511627776 := by omega
          clear hown hfrom hnw
          rcases (show bitN s j = 0 ∨ bitN s j = 1 by unfold bitN; omega) with hb | hb
          · rw [hb] at hbit
            have HB := Lib.hid hb
            clear hb
            go_wp2_with fail
            go_roundw
            case rel => exact ⟨j + 1, by go_num, by omega, by rw [selTo, if_neg (by rw [HB.out]; omega)]; exact HP.out.1, HP.out.2.1, HP.out.2.2⟩
            case measure => simp [intOf]; omega
          · rw [hb] at hbit
            have HB := Lib.hid hb
            clear hb
            go_wp2_with (at_builtin; refine wpList_app1 rfl _ _ _ rfl tyInt wr HP.out.1 rfl _ _ rfl rfl rfl hlen ?_; intro v2 w2 k1 k2 k3; have K2 := Lib.hid (And.intro k1 (And.intro k2 k3)); clear k1 k2 k3)
            go_roundw
            case rel =>
              obtain ⟨k1, k2, k3⟩ := K2.out
              exact ⟨j + 1, by go_num, by omega, by rw [selTo, if_pos HB.out, List.map_append]; exact k1, (fun g hg => by
                rcases k3 g hg with x | x
                · exact HP.out.2.1 g x
                · exact Nat.le_trans HP.out.2.2.size x), HP.out.2.2.then k2 (fun i hi => HP.out.2.1 i hi)⟩
            case measure => simp [intOf]; omega
        · obtain rfl : j = nu := by omega
          have hlv : vs.length + 1 ≤ 1099511627776 := by rw [HO.out.len, List.length_map]; simp; omega
          clear hown hfrom hnw
          go_wp2_with (at_builtin; refine wpList_app1 rfl _ _ _ rfl tyRow wr (HO.out.outer.new HP.out.2.2) rfl _ _ rfl rfl rfl hlv ?_; intro v2 w2 k1 k2 k3; have K2 := Lib.hid (And.intro k1 (And.intro k2 k3)); clear k1 k2 k3)
          go_roundw
          case rel =>
            obtain ⟨m1, m2, m3⟩ := K2.out
            have hk1 : Own wr 3 (.slice a8 l8 c8) ((sel s (gr rows k)).map (Value.int .i64)) := by have h := HP.out.1; rw [HNU.out] at h; exact h
            obtain ⟨p1, p2, p3⟩ := OwnR.push HO.out HF.out HNEW.out.size HP.out.2.2 hk1 HP.out.2.1 m1 m2 m3
            refine ⟨k + 1, vs ++ [Value.slice a8 l8 c8], by go_num, by omega, ?_, ?_, New.then HNEW.out p3 (fun i hi => HF.out.1 i hi)⟩
            · rw [take_succ_gr hkr, List.map_append]; exact p1
            · rw [take_succ_gr hkr, List.map_append]; exact p2
          case measure => simp [intOf]; omega
    · obtain rfl : k = n := by omega
      go_wp2_with fail
      go_ret
      have e : rows.take k = rows := List.take_of_length_le (by rw [← HN.out]; exact Nat.le_refl _)
      have h1 := HO.out
      have h2 := HF.out
      rw [e] at h1 h2
      exact ⟨_, vs, rfl, h1, h2, HNEW.out⟩
end Go.Proofs.YtcdbeepphdfipaaGreatDoor

namespace Go.Proofs.YtcdbeepphdfipaaGreatDoor
open Go.RowKit Mat
set_option linter.unusedVariables false

set_option maxRecDepth 100000 in
set_option maxHeartbeats 1000000 in
theorem columns_any (s : Nat) (hs : s < 128) (v : Value) (rows : List (List Int)) (w : World) (hr : IsR w v rows) (hl : rows.length ≤ 7) (hc : ∀ i, i < rows.length → (gr rows i).length ≤ 7) :
    Calls Tryz.prog 121 #[v, .int .i64 s] w fun e w' => ∃ u vs, e = .returned u ∧ OwnR w' 53 3 u vs (rows.map (sel s)) ∧ FromR w.heap.size u vs (rows.map (sel s)) ∧ New w w' := by
  obtain ⟨ao, n, cap, rfl, HN, hn⟩ := hr.shape
  have hn7 : n ≤ 7 := by rw [HN.out]; exact hl
  have HR := Lib.hid hr
  have HC := Lib.hid hc
  clear hr hl hc
  go_enter Tryz.func121, Tryz.ntmps121
  go_wp2_with fail
  go_loopw [5, 6] (fun v5 i wr => ∃ (k : Nat) (vs : List Value), i = .int .i64 k ∧ k ≤ n ∧ OwnR wr 53 3 v5 vs ((rows.take k).map (sel s)) ∧ FromR w.heap.size v5 vs ((rows.take k).map (sel s)) ∧ New w wr) (fun _ i _ => n - (intOf i).toNat)
  case atStart =>
    exact ⟨0, [], rfl, Nat.zero_le _, ⟨Own.empty _ _, rfl, fun i hi => by simp at hi, fun i j hi => by simp at hi⟩, ⟨From.new _ _ _, fun i hi => by simp at hi⟩, New.alloc _ _⟩
  case round =>
    obtain ⟨k, vs, rfl, hk, hown, hfrom, hnew⟩ := hrel
    have HO := Lib.hid hown
    have HF := Lib.hid hfrom
    have HNEW := Lib.hid hnew
    obtain ⟨wo, hwo⟩ : ∃ wo : World, wo = wr := ⟨_, rfl⟩
    rw [← hwo] at HO HNEW hnew
    rw [← hwo]
    clear hwo hown hfrom
    by_cases hkn : k < n
    · have hkr : k < rows.length := by rw [← HN.out]; exact hkn
      obtain ⟨b, o, u, rfl, ck, hu⟩ := (HR.out.new hnew).at hkn
      obtain ⟨au, nu, cu, rfl, HNU, hnu⟩ := hu.shape
      have hnu7 : nu ≤ 7 := by rw [HNU.out]; exact HC.out k hkr
      have HU := Lib.hid hu
      clear hnew hu
      go_wp2_with fail
      go_loopw [7, 8] (fun v8 i wr => ∃ (j : Nat), i = .int .i64 j ∧ j ≤ nu ∧ Own wr 3 v8 ((selTo s (gr rows k) j).map (Value.int .i64)) ∧ From wo.heap.size v8 ∧ New wo wr) (fun _ i _ => nu - (intOf i).toNat)
      case atStart => exact ⟨0, rfl, Nat.zero_le _, Own.empty _ _, From.new _ _ _, New.alloc _ _⟩
      case round =>
        obtain ⟨j, rfl, hj, hown, hfrom, hnw⟩ := hrel
        have hlj : ((selTo s (gr rows k) j).map (Value.int .i64)).length ≤ 7 := by rw [List.length_map, selTo_length]; have := wtN_le s j; omega
        obtain ⟨a8, l8, c8, rfl, _, _, _⟩ := hown.opened (by unfold Mid; omega)
        have HP := Lib.hid (And.intro hown (And.intro hfrom hnw))
        have ck' := hnw.cellNew ck
        by_cases hjn : j < nu
        · obtain ⟨bj, oj, rfl, cj⟩ := (HU.out.new hnw).at hjn
          have hlen : ((selTo s (gr rows k) j).map (Value.int .i64)).length + 1 ≤ 1099511627776 := by omega
          clear hown hfrom hnw
          rcases (show bitN s j = 0 ∨ bitN s j = 1 by unfold bitN; omega) with hb | hb
          · have HB := Lib.hid hb
            clear hb
            go_wp2_with (go_at_call 155; refine (bit_any _ _ _ (by omega) (by omega)).mono ?_; rintro e w' ⟨rfl, rfl⟩; rw [HB.out])
            go_roundw
            case rel => exact ⟨j + 1, by go_num, by omega, by rw [selTo, if_neg (by rw [HB.out]; omega)]; exact HP.out.1, HP.out.2.1, HP.out.2.2⟩
            case measure => simp [intOf]; omega
          · have HB := Lib.hid hb
            clear hb
            go_wp2_with (first | (go_at_call 155; refine (bit_any _ _ _ (by omega) (by omega)).mono ?_; rintro e w' ⟨rfl, rfl⟩; rw [HB.out]) | (at_builtin; refine wpList_app1 rfl _ _ _ rfl tyInt wr HP.out.1 rfl _ _ rfl rfl rfl hlen ?_; intro v2 w2 k1 k2 k3; have K2 := Lib.hid (And.intro k1 (And.intro k2 k3)); clear k1 k2 k3))
            go_roundw
            case rel =>
              obtain ⟨k1, k2, k3⟩ := K2.out
              exact ⟨j + 1, by go_num, by omega, by rw [selTo, if_pos HB.out, List.map_append]; exact k1, (fun g hg => by
                rcases k3 g hg with x | x
                · exact HP.out.2.1 g x
                · exact Nat.le_trans HP.out.2.2.size x), HP.out.2.2.then k2 (fun i hi => HP.out.2.1 i hi)⟩
            case measure => simp [intOf]; omega
        · obtain rfl : j = nu := by omega
          have hlv : vs.length + 1 ≤ 1099511627776 := by rw [HO.out.len, List.length_map]; simp; omega
          clear hown hfrom hnw
          go_wp2_with (at_builtin; refine wpList_app1 rfl _ _ _ rfl tyRow wr (HO.out.outer.new HP.out.2.2) rfl _ _ rfl rfl rfl hlv ?_; intro v2 w2 k1 k2 k3; have K2 := Lib.hid (And.intro k1 (And.intro k2 k3)); clear k1 k2 k3)
          go_roundw
          case rel =>
            obtain ⟨m1, m2, m3⟩ := K2.out
            have hk1 : Own wr 3 (.slice a8 l8 c8) ((sel s (gr rows k)).map (Value.int .i64)) := by have h := HP.out.1; rw [HNU.out] at h; exact h
            obtain ⟨p1, p2, p3⟩ := OwnR.push HO.out HF.out HNEW.out.size HP.out.2.2 hk1 HP.out.2.1 m1 m2 m3
            refine ⟨k + 1, vs ++ [Value.slice a8 l8 c8], by go_num, by omega, ?_, ?_, New.then HNEW.out p3 (fun i hi => HF.out.1 i hi)⟩
            · rw [take_succ_gr hkr, List.map_append]; exact p1
            · rw [take_succ_gr hkr, List.map_append]; exact p2
          case measure => simp [intOf]; omega
    · obtain rfl : k = n := by omega
      go_wp2_with fail
      go_ret
      have e : rows.take k = rows := List.take_of_length_le (by rw [← HN.out]; exact Nat.le_refl _)
      have h1 := HO.out
      have h2 := HF.out
      rw [e] at h1 h2
      exact ⟨_, vs, rfl, h1, h2, HNEW.out⟩
end Go.Proofs.YtcdbeepphdfipaaGreatDoor

namespace Go.Proofs.YtcdbeepphdfipaaGreatDoor
open Go.RowKit Mat
set_option linter.unusedVariables false

theorem IsRed.le_cols {p : Nat} [NeZero p] {n : Nat} {R out : List (List Int)} (r1 : IsRed p n R out) : out.length ≤ n := by
  have hl : ∀ i, i < out.length → ldN (gr out i) < n := fun i hi => (lead_some (r1.inv.good i hi) (r1.inv.lead i hi)).1
  have key : ∀ i, i < out.length → i ≤ ldN (gr out i) := fun i => by
    induction i with
    | zero => intro _; exact Nat.zero_le _
    | succ i ih => intro hi; have := ih (by omega); have := r1.asc i (i + 1) (by omega) hi; omega
  by_cases h0 : out.length = 0
  · omega
  · have := key (out.length - 1) (by omega)
    have := hl (out.length - 1) (by omega)
    omega

/-- r is the rank of the columns in s. -/
def RkOf (p : Int) (rows : List (List Int)) (s r : Nat) : Prop :=
  ∃ (q : Nat) (_ : NeZero q), p = q ∧ Pr q ∧ ∃ out, IsRed q (wtN s (gr rows 0).length) (rows.map (sel s)) out ∧ r = out.length

theorem RkOf.unique {p : Int} {rows : List (List Int)} {s a b : Nat} (h : RkOf p rows s a) (h' : RkOf p rows s b) : a = b := by
  obtain ⟨q, i1, e1, hq, o1, r1, rfl⟩ := h
  obtain ⟨q', i2, e2, hq', o2, r2, rfl⟩ := h'
  obtain rfl : q = q' := by omega
  rw [IsRed.unique hq r1 r2]

theorem RkOf.le {p : Int} {rows : List (List Int)} {s r : Nat} (h : RkOf p rows s r) : r ≤ wtN s (gr rows 0).length := by
  obtain ⟨q, i1, e1, hq, o1, r1, rfl⟩ := h
  exact r1.le_cols

theorem wtN_zero (k : Nat) : wtN 0 k = 0 := by
  induction k with
  | zero => rfl
  | succ k ih => simp [wtN, ih, bitN]

theorem RkOf.none {p : Int} {rows : List (List Int)} {r : Nat} (h : RkOf p rows 0 r) : r = 0 := by
  have := h.le
  rw [wtN_zero] at this
  omega

/-- A table, and few. -/
structure TabOk (q : Nat) (n : Nat) (rows : List (List Int)) : Prop where
  pr : Pr q
  good : GoodRows q n rows
  cols : (gr rows 0).length = n
  n7 : n ≤ 7
  n1 : 1 ≤ n
  r1 : 1 ≤ rows.length
  r6 : rows.length ≤ 6
theorem vtB_ok {q : Nat} {rows : List (List Int)} (h : vtB q rows = true) : TabOk q (gr rows 0).length rows := by
  have hv := vtB_iff.1 h
  exact ⟨by unfold Pr; have := hv.1; omega, vtB_good h, rfl, hv.2.2.1.2, hv.2.2.1.1, hv.2.1.1, hv.2.1.2⟩

set_option maxHeartbeats 1000000 in
theorem rank_any (q : Nat) [NeZero q] (n : Nat) (v : Value) (rows : List (List Int)) (s : Nat) (w : World) (hs : s < 128) (hr : IsR w v rows) (ht : TabOk q n rows) :
    Calls Tryz.prog 127 #[.int .i64 q, v, .int .i64 s] w fun e w' => ∃ r : Nat, e = .returned (.int .i64 r) ∧ RkOf q rows s r ∧ r ≤ 7 ∧ New w w' := by
  have HR := Lib.hid hr
  have HT := Lib.hid ht
  clear hr ht
  go_enter Tryz.func127, Tryz.ntmps127
  go_wp2_with fail
  refine (some_any s hs _ rows _ HR.out (by have := HT.out.r6; omega) (fun i hi => by have := HT.out.good i hi; have := HT.out.n7; rw [(HT.out.good i hi).1]; omega)).mono ?_
  rintro e w1 ⟨u1, vs1, rfl, ho1, hf1, hn1⟩
  have hw : wtN s n ≤ 7 := by have := wtN_le s n; have := HT.out.n7; omega
  have hg := selRows_good s HT.out.good
  have hi1 : IsR w1 u1 (rows.map (sel s)) := ho1.isR (by rw [List.length_map]; have := HT.out.r6; unfold Mid; omega) (fun i hi => by
    have := (hg i hi).1; unfold Mid; omega)
  have HI := Lib.hid hi1
  have HG := Lib.hid hg
  have HN := Lib.hid hn1
  clear ho1 hf1 hn1 hi1 hg
  go_wp2_with fail
  refine (reduced_any q HT.out.pr _ hw _ _ _ HI.out HG.out (by rw [List.length_map]; have := HT.out.r6; omega)).mono ?_
  rintro e w2 ⟨u2, vs2, out, rfl, ho2, hf2, hred, hn2⟩
  have hrk : RkOf q rows s out.length := ⟨q, _, rfl, HT.out.pr, out, by rw [HT.out.cols]; exact hred, rfl⟩
  have hle := hrk.le
  rw [HT.out.cols] at hle
  obtain ⟨a, l, c, rfl, HL, hl, _⟩ := ho2.outer.opened (by rw [ho2.len]; unfold Mid; omega)
  have el : out.length = l := by rw [HL.out, ho2.len]
  rw [el] at hrk hle
  have HK := Lib.hid (And.intro hrk (HN.out.trans hn2))
  clear ho2 hf2 hred hn2 hrk el HL
  go_wp2_with fail
  go_ret
  exact ⟨l, rfl, HK.out.1, by omega, HK.out.2⟩

set_option maxHeartbeats 1000000 in
theorem columnsOf_any (p : Int) (v : Value) (rows : List (List Int)) (w : World) (hr : IsR w v rows) (h1 : 1 ≤ rows.length) :
    Calls Tryz.prog 125 #[.agg #[.int .i64 p, v]] w fun e w' => e = .returned (.int .i64 ((gr rows 0).length : Nat)) ∧ New w w' := by
  obtain ⟨ao, n, cap, rfl, HN, hn⟩ := hr.shape
  have hn1 : New w (w.alloc (.cells #[.int .i64 p, .slice ao n cap] 24)) := New.alloc _ _
  obtain ⟨b0, o0, u0, rfl, ck0, hu0⟩ := (hr.new hn1).at (i := 0) (by rw [HN.out]; exact h1)
  rw [Nat.add_zero] at ck0
  obtain ⟨a0, m, c0, rfl, HM, hm⟩ := hu0.shape
  have h0 : 0 < n := by rw [HN.out]; exact h1
  rw [← HM.out]
  clear hr hu0
  go_enter Tryz.func125, Tryz.ntmps125
  go_wp2_with fail
  go_ret
  exact ⟨rfl, hn1⟩
end Go.Proofs.YtcdbeepphdfipaaGreatDoor
