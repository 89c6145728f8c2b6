/- (Code).known and spec.validCode tell what a valid code is. ValidCode of both. Sets as numbers: powers of 2, bits, sizes. What the contracts say that give a slice of numbers. The columns of a set. The columns of a set, by the program and by the reference. spec.columns. The rank of the columns of a set. -/
import Derived.Test.YtcdbeepphdfipaaDoorRedu
import Derived.Test.YtcdbeepphdfipaaDoorLeaf
import Derived.Deep.RegionHeld3
import Derived.Test.YtcdbeepphdfipaaDoorBase
import Derived.Test.YtcdbeepphdfipaaDoorLawK
namespace Go.Proofs.YtcdbeepphdfipaaDoor
open Go.RowKit Mat
set_option linter.unusedVariables false

/-- Rows are a valid code over p. -/
def ValidC (p : Int) (rows : List (List Int)) : Prop := vtB p rows = true ∧ rows.length ≤ 4 ∧ ∃ out, RedOf p rows out ∧ out.length = rows.length

theorem RedOf.le_cols {p : Int} {rows out : List (List Int)} (h : RedOf p rows out) : out.length ≤ (gr rows 0).length := by
  obtain ⟨q, i1, e1, hq, r1⟩ := h
  have hl : ∀ i, i < out.length → ldN (gr out i) < (gr rows 0).length := fun i hi => (lead_some (r1.inv.good i hi) (r1.inv.lead i hi)).1
  have key : ∀ i, i < out.length → i ≤ ldN (gr out i) := fun i => by
    induction i with
    | zero => intro _; exact Nat.zero_le _
    | succ i ih => intro hi; have := ih (by omega); have := r1.asc i (i + 1) (by omega) hi; omega
  by_cases h0 : out.length = 0
  · omega
  · have := key (out.length - 1) (by omega)
    have := hl (out.length - 1) (by omega)
    omega

theorem ValidC.cols {p : Int} {rows : List (List Int)} (h : ValidC p rows) : rows.length ≤ (gr rows 0).length := by
  obtain ⟨_, _, out, h, e⟩ := h
  rw [← e]
  exact h.le_cols

/-- A valid code has at least one row and at least one column, and few. -/
theorem ValidC.few {p : Int} {rows : List (List Int)} (h : ValidC p rows) : 1 ≤ rows.length ∧ rows.length ≤ 4 ∧ rows.length ≤ (gr rows 0).length ∧ (gr rows 0).length ≤ 7 ∧
    ∀ i, i < rows.length → (gr rows i).length = (gr rows 0).length ∧ ∀ k, k < (gr rows 0).length → 0 ≤ gi (gr rows i) k ∧ gi (gr rows i) k ≤ p - 1 := by
  have hv := vtB_iff.1 h.1
  exact ⟨hv.2.1.1, h.2.1, h.cols, hv.2.2.1.2, fun i hi => ⟨(hv.2.2.2 i hi).1, fun k hk => (hv.2.2.2 i hi).2 k (by rw [(hv.2.2.2 i hi).1]; exact hk)⟩⟩

/-- It ends with the answer to a question. -/
def SaysB (e : Ending) (Q : Prop) : Prop := ∃ b : Bool, e = .returned (.bool b) ∧ (b = true ↔ Q)

theorem known_any (p : Int) (v : Value) (rows : List (List Int)) (w : World) (hr : IsR w v rows) :
    Calls Tryd.prog 23 #[.agg #[.int .i64 p, v]] w fun e w' => (∃ b : Bool, e = .returned (.tuple #[.int .i64 p, .bool b]) ∧ (b = true ↔ ValidC p rows)) ∧ New w w' := by
  obtain ⟨ao, n, cap, rfl, HN, hn⟩ := hr.shape
  have HR := Lib.hid hr
  clear hr
  go_enter Tryd.func23, Tryd.ntmps23
  go_wp2_with fail
  refine (tableOf_any _ _ _ _ (HR.out.new (New.alloc _ _))).mono ?_
  rintro e w1 ⟨rfl, hn1⟩
  have b0 := hn1.cellNew (show (w.alloc (.cells #[.int .i64 p, .slice ao n cap] 27)).cell? ⟨w.heap.size, 0, none⟩ = some (.int .i64 p) by rw [cell_of_heap (heap_alloc_new w _)]; rfl)
  have b1 := hn1.cellNew (show (w.alloc (.cells #[.int .i64 p, .slice ao n cap] 27)).cell? ⟨w.heap.size, 1, none⟩ = some (.slice ao n cap) by rw [cell_of_heap (heap_alloc_new w _)]; rfl)
  have h1 : New w w1 := (New.alloc _ _).trans hn1
  cases hv : vtB p rows with
  | false =>
    have HV := Lib.hid hv
    clear hv
    go_wp2_with fail
    go_quiet (fail)
    go_wp2_with fail
    go_ret2
    exact ⟨⟨false, rfl, by simp [ValidC, HV.out]⟩, h1.trans (New.drewN _ _)⟩
  | true =>
    have HV := Lib.hid hv
    obtain ⟨q, rfl, hq⟩ := prime_nat (vtB_pr hv)
    have hi := vtB_iff.1 hv
    have hb : (1 ≤ rows.length ∧ rows.length ≤ 6) ∧ (gr rows 0).length ≤ 7 := ⟨hi.2.1, hi.2.2.1.2⟩
    have HB := Lib.hid hb
    have HQ := Lib.hid hq
    clear hv hi hb hq
    by_cases h4 : n ≤ 4
    · haveI := HQ.out.nz
      have hd : decide ((n : Int) ≤ 4) = true := by simp; omega
      go_wp2_with fail
      go_region_held3 (fun w' => w'.cell? ⟨w.heap.size, 0, none⟩ = some (.int .i64 q) ∧ w'.cell? ⟨w.heap.size, 1, none⟩ = some (.slice ao n cap)) (first | exact ⟨(HK.out.2.2.2.2).cellNew b0, (HK.out.2.2.2.2).cellNew b1⟩ | go_keep)
        (first | (go_at_call 34; refine (reduced_any q HQ.out _ HB.out.2 _ rows _ (HR.out.new (h1.trans (New.drew _))) (vtB_good HV.out) (by have := HB.out.1; omega)).mono ?_; rintro e w2 ⟨u, vs, out, rfl, ho, hf, hred, hn2⟩; obtain ⟨a, l, c, rfl, HL, hl, _⟩ := ho.outer.opened (by rw [ho.len]; unfold Mid; have := (RedOf.bounds ⟨q, this, rfl, HQ.out, hred⟩ HV.out).1; omega); have HK := Lib.hid (And.intro ho (And.intro hf (And.intro hred (And.intro HL.out ((New.drew w1).trans hn2))))); clear ho hf hred hn2 HL))
      go_wp2_with fail
      go_ret2
      refine ⟨⟨_, rfl, ?_⟩, h1.trans HK.out.2.2.2.2⟩
      obtain ⟨ho, _, hred, hL, _⟩ := HK.out
      have e1 : l = out.length := by rw [hL, ho.len]
      have hro : RedOf q rows out := ⟨q, this, rfl, HQ.out, hred⟩
      rw [beq_iff_eq]
      constructor
      · intro e; exact ⟨HV.out, by rw [← HN.out]; exact h4, out, hro, by rw [← e1, ← HN.out]; omega⟩
      · rintro ⟨_, _, out', h', hl'⟩
        have := h'.unique hro
        subst this
        rw [← e1, ← HN.out] at hl'
        omega
    · have hd : decide ((n : Int) ≤ 4) = false := by simp; omega
      go_wp2_with fail
      go_quiet (fail)
      go_wp2_with fail
      go_ret2
      exact ⟨⟨false, rfl, by simp only [ValidC, Bool.false_eq_true, false_iff]; rintro ⟨_, h, _⟩; rw [← HN.out] at h; exact h4 h⟩, h1.trans (New.drewN _ _)⟩

theorem validCode_any (p : Int) (v : Value) (rows : List (List Int)) (w : World) (hr : IsR w v rows) :
    Calls Tryd.prog 10 #[.agg #[.int .i64 p, v]] w fun e w' => (∃ b : Bool, e = .returned (.bool b) ∧ (b = true ↔ ValidC p rows)) ∧ New w w' := by
  obtain ⟨ao, n, cap, rfl, HN, hn⟩ := hr.shape
  have HR := Lib.hid hr
  clear hr
  have b0 : (w.alloc (.cells #[.int .i64 p, .slice ao n cap] 27)).cell? ⟨w.heap.size, 0, none⟩ = some (.int .i64 p) := by rw [cell_of_heap (heap_alloc_new w _)]; rfl
  have b1 : (w.alloc (.cells #[.int .i64 p, .slice ao n cap] 27)).cell? ⟨w.heap.size, 1, none⟩ = some (.slice ao n cap) := by rw [cell_of_heap (heap_alloc_new w _)]; rfl
  have h1 : New w (w.alloc (.cells #[.int .i64 p, .slice ao n cap] 27)) := New.alloc _ _
  go_enter Tryd.func10, Tryd.ntmps10
  go_wp2_with fail
  obtain ⟨w1, hw1⟩ : ∃ w1 : World, w1 = w.alloc (.cells #[.int .i64 p, .slice ao n cap] 27) := ⟨_, rfl⟩
  rw [← hw1] at b0 b1 h1
  rw [← hw1]
  clear hw1
  cases hv : vtB p rows with
  | false =>
    have HV := Lib.hid hv
    clear hv
    go_quiet ((go_at_call 20; exact Calls.quiet_of ((validTable_quiet _ _ _ _ (HR.out.new (h1.trans (New.drewN _ _)))).mono (fun e w' h => ⟨by rw [h.1, HV.out], h.2⟩))))
    go_wp2_with fail
    go_ret
    exact ⟨⟨false, rfl, by simp [ValidC, HV.out]⟩, h1.trans (New.drewN _ _)⟩
  | true =>
    have HV := Lib.hid hv
    obtain ⟨q, rfl, hq⟩ := prime_nat (vtB_pr hv)
    have hi := vtB_iff.1 hv
    have hb : (1 ≤ rows.length ∧ rows.length ≤ 6) ∧ (gr rows 0).length ≤ 7 := ⟨hi.2.1, hi.2.2.1.2⟩
    have HB := Lib.hid hb
    have HQ := Lib.hid hq
    clear hv hi hb hq
    by_cases h4 : n ≤ 4
    · haveI := HQ.out.nz
      have hd : decide ((n : Int) ≤ 4) = true := by simp; omega
      go_region_held3 (fun w' => w'.cell? ⟨w.heap.size, 0, none⟩ = some (.int .i64 q) ∧ w'.cell? ⟨w.heap.size, 1, none⟩ = some (.slice ao n cap)) (first | exact ⟨(HK.out.2.2.2.2).cellNew b0, (HK.out.2.2.2.2).cellNew b1⟩ | exact ⟨HV2.out.cellNew b0, HV2.out.cellNew b1⟩ | go_keep)
        (first | (go_at_call 20; refine ((validTable_any _ _ _ _ (HR.out.new (h1.trans (New.drew _)))).mono (fun e w' h => (⟨by rw [h.1, HV.out], h.2⟩ : e = .returned (.bool true) ∧ New _ w'))).mono ?_; rintro e w2 ⟨rfl, hn2⟩; have HV2 := Lib.hid ((New.drew w1).trans hn2); clear hn2) | (go_at_call 21; refine (reduce_any q HQ.out _ HB.out.2 _ rows _ (HR.out.new (h1.trans HV2.out)) (vtB_good HV.out) (by have := HB.out.1; omega)).mono ?_; rintro e w3 ⟨u, vs, out, rfl, ho, hf, hred, hn3⟩; obtain ⟨a, l, c, rfl, HL, hl, _⟩ := ho.outer.opened (by rw [ho.len]; unfold Mid; have := (RedOf.bounds ⟨q, this, rfl, HQ.out, hred⟩ HV.out).1; omega); have HK := Lib.hid (And.intro ho (And.intro hf (And.intro hred (And.intro HL.out (HV2.out.trans hn3))))); clear ho hf hred hn3 HL))
      go_wp2_with fail
      go_ret
      refine ⟨⟨_, rfl, ?_⟩, h1.trans HK.out.2.2.2.2⟩
      obtain ⟨ho, _, hred, hL, _⟩ := HK.out
      have e1 : l = out.length := by rw [hL, ho.len]
      have hro : RedOf q rows out := ⟨q, this, rfl, HQ.out, hred⟩
      rw [beq_iff_eq]
      constructor
      · intro e; exact ⟨HV.out, by rw [← HN.out]; exact h4, out, hro, by rw [← e1, ← HN.out]; omega⟩
      · rintro ⟨_, _, out', h', hl'⟩
        have := h'.unique hro
        subst this
        rw [← e1, ← HN.out] at hl'
        omega
    · have hd : decide ((n : Int) ≤ 4) = false := by simp; omega
      go_quiet ((go_at_call 20; exact Calls.quiet_of ((validTable_quiet _ _ _ _ (HR.out.new (h1.trans (New.drewN _ _)))).mono (fun e w' h => ⟨by rw [h.1, HV.out], h.2⟩))))
      go_wp2_with fail
      go_ret
      exact ⟨⟨false, rfl, by simp only [ValidC, Bool.false_eq_true, false_iff]; rintro ⟨_, h, _⟩; rw [← HN.out] at h; exact h4 h⟩, h1.trans (New.drewN _ _)⟩
end Go.Proofs.YtcdbeepphdfipaaDoor

namespace Go.Proofs.YtcdbeepphdfipaaDoor
open Go.RowKit Mat
set_option linter.unusedVariables false

theorem implValidCode_any (p : Int) (v : Value) (rows : List (List Int)) (w : World) (hr : IsR w v rows) :
    Calls Tryd.prog 14 #[.agg #[.int .i64 p, v]] w fun e w' => (∃ b : Bool, e = .returned (.bool b) ∧ (b = true ↔ ValidC p rows)) ∧ New w w' := by
  obtain ⟨ao, n, cap, rfl, HN, hn⟩ := hr.shape
  have HR := Lib.hid hr
  clear hr
  have h1 : New w (w.alloc (.cells #[.int .i64 p, .slice ao n cap] 27)) := New.alloc _ _
  go_enter Tryd.func14, Tryd.ntmps14
  go_wp2_with fail
  refine (known_any _ _ rows _ (HR.out.new h1)).mono ?_
  rintro e w2 ⟨⟨b, rfl, hb⟩, hn2⟩
  have HB := Lib.hid hb
  clear hb
  go_wp2_with fail
  go_ret
  exact ⟨⟨b, rfl, HB.out⟩, h1.trans hn2⟩

end Go.Proofs.YtcdbeepphdfipaaDoor

namespace Go.Proofs.YtcdbeepphdfipaaDoor
open Go.RowKit
set_option linter.unusedVariables false

theorem two_pow_le {m n : Nat} (h : m ≤ n) : 2 ^ m ≤ 2 ^ n := Nat.pow_le_pow_right (by omega) h

/-- Bit i of a set. -/
def bitN (s i : Nat) : Nat := s / 2 ^ i % 2

/-- How many bits of the first k are set. -/
def wtN (s : Nat) : Nat → Nat
  | 0 => 0
  | k + 1 => wtN s k + bitN s k

theorem wt_done : ∀ s, s < 128 → ∀ j, j < 8 → s / 2 ^ j = 0 → wtN s j = wtN s 7 := by decide +kernel

end Go.Proofs.YtcdbeepphdfipaaDoor

namespace Go.Proofs.YtcdbeepphdfipaaDoor
open Go.RowKit
set_option linter.unusedVariables false

/-- It ends with a slice of numbers of its own. -/
def GivesI (w : World) (e : Ending) (w' : World) (Q : List Int → Prop) : Prop :=
  ∃ u out, e = .returned u ∧ Own w' 3 u (out.map (Value.int .i64)) ∧ From w.heap.size u ∧ Q out ∧ New w w'

theorem givesNil {w w' : World} {Q : List Int → Prop} (h : New w w') (hq : Q []) : GivesI w (.returned (.slice none 0 0)) w' Q :=
  ⟨_, [], rfl, Own.nil _ _, (fun g hg => by simp [Value.ownBlock] at hg), hq, h⟩

theorem ValidC.prime {p : Int} {rows : List (List Int)} (h : ValidC p rows) : 2 ≤ p ∧ p ≤ 7 := by
  have := (vtB_iff.1 h.1).1
  omega
theorem pow_lt {n : Nat} (h : n ≤ 7) : 2 ^ n ≤ 128 := two_pow_le (m := n) (n := 7) h
/-- It ends with the answer to a question. -/
def TellsB (w : World) (e : Ending) (w' : World) (Q : Prop) : Prop := ∃ b : Bool, e = .returned (.bool b) ∧ (b = true ↔ Q) ∧ New w w'
theorem wrap_pow : ∀ n : Nat, n < 8 → IntKind.i64.wrap ((2 : Int) ^ n) = ((2 ^ n : Nat) : Int) := by decide +kernel
/-- It ends with a number that is so. -/
def TellsN (w : World) (e : Ending) (w' : World) (Q : Int → Prop) : Prop := ∃ t : Int, e = .returned (.int .i64 t) ∧ Q t ∧ New w w'
end Go.Proofs.YtcdbeepphdfipaaDoor

namespace Go.Proofs.YtcdbeepphdfipaaDoor
open Go.RowKit Mat
set_option linter.unusedVariables false

/-- Of the first k numbers of a row those in a set. -/
def selTo (s : Nat) (row : List Int) : Nat → List Int
  | 0 => []
  | k + 1 => if bitN s k = 1 then selTo s row k ++ [gi row k] else selTo s row k
/-- The numbers of a row in a set. -/
def sel (s : Nat) (row : List Int) : List Int := selTo s row row.length

theorem selTo_length (s : Nat) (row : List Int) (k : Nat) : (selTo s row k).length = wtN s k := by
  induction k with
  | zero => rfl
  | succ k ih =>
    have hb : bitN s k = 0 ∨ bitN s k = 1 := by unfold bitN; omega
    rcases hb with h | h
    · simp [selTo, wtN, h, ih]
    · simp [selTo, wtN, h, ih]

theorem wtN_le (s k : Nat) : wtN s k ≤ k := by
  induction k with
  | zero => simp [wtN]
  | succ k ih => have : bitN s k ≤ 1 := by unfold bitN; omega
                 simp only [wtN]; omega

theorem gi_snoc {xs : List Int} {x : Int} {i : Nat} : gi (xs ++ [x]) i = if i < xs.length then gi xs i else if i = xs.length then x else gi (xs ++ [x]) i := by
  by_cases h : i < xs.length
  · rw [if_pos h, gi_lt (by simp; omega), gi_lt h, List.getElem_append_left h]
  · rw [if_neg h]
    by_cases e : i = xs.length
    · rw [if_pos e]; subst e; rw [gi_lt (by simp)]; simp
    · rw [if_neg e]

theorem selTo_range {p : Int} (s : Nat) {row : List Int} {k : Nat} (h : ∀ i, i < k → 0 ≤ gi row i ∧ gi row i < p) : ∀ i, i < (selTo s row k).length → 0 ≤ gi (selTo s row k) i ∧ gi (selTo s row k) i < p := by
  induction k with
  | zero => intro i hi; simp [selTo] at hi
  | succ k ih =>
    have ih' := ih (fun i hi => h i (by omega))
    intro i hi
    unfold selTo at hi ⊢
    by_cases hb : bitN s k = 1
    · rw [if_pos hb] at hi ⊢
      rw [List.length_append, List.length_singleton] at hi
      rw [gi_snoc]
      by_cases c : i < (selTo s row k).length
      · rw [if_pos c]; exact ih' i c
      · rw [if_neg c, if_pos (by omega)]; exact h k (by omega)
    · rw [if_neg hb] at hi ⊢; exact ih' i hi

theorem sel_good {p : Int} {n : Nat} (s : Nat) {row : List Int} (h : GoodRow p n row) : GoodRow p (wtN s n) (sel s row) := by
  refine ⟨by unfold sel; rw [selTo_length, h.1], fun i hi => ?_⟩
  have hl : i < (selTo s row row.length).length := by rw [selTo_length, h.1]; exact hi
  exact selTo_range s (by rw [h.1]; exact h.2) i hl

theorem selRows_good {p : Int} {n : Nat} (s : Nat) {rows : List (List Int)} (h : GoodRows p n rows) : GoodRows p (wtN s n) (rows.map (sel s)) := fun i hi => by
  rw [List.length_map] at hi
  rw [gr_lt (by rw [List.length_map]; exact hi), List.getElem_map]
  have := h i hi
  rw [gr_lt hi] at this
  exact sel_good s this
end Go.Proofs.YtcdbeepphdfipaaDoor

namespace Go.Proofs.YtcdbeepphdfipaaDoor
open Go.RowKit Mat
set_option linter.unusedVariables false

theorem bits_bit : ∀ s : Nat, s < 128 → ∀ j : Nat, j < 8 → bits BinOp.and IntKind.i64 ((s : Int) / 2 ^ j) 1 = (bitN s j : Int) := by decide +kernel

end Go.Proofs.YtcdbeepphdfipaaDoor

namespace Go.Proofs.YtcdbeepphdfipaaDoor
open Go.RowKit Mat
set_option linter.unusedVariables false

end Go.Proofs.YtcdbeepphdfipaaDoor

namespace Go.Proofs.YtcdbeepphdfipaaDoor
open Go.RowKit Mat
set_option linter.unusedVariables false

theorem IsRed.le_cols {p : Nat} [NeZero p] {n : Nat} {R out : List (List Int)} (r1 : IsRed p n R out) : out.length ≤ n := by
  have hl : ∀ i, i < out.length → ldN (gr out i) < n := fun i hi => (lead_some (r1.inv.good i hi) (r1.inv.lead i hi)).1
  have key : ∀ i, i < out.length → i ≤ ldN (gr out i) := fun i => by
    induction i with
    | zero => intro _; exact Nat.zero_le _
    | succ i ih => intro hi; have := ih (by omega); have := r1.asc i (i + 1) (by omega) hi; omega
  by_cases h0 : out.length = 0
  · omega
  · have := key (out.length - 1) (by omega)
    have := hl (out.length - 1) (by omega)
    omega

/-- r is the rank of the columns in s. -/
def RkOf (p : Int) (rows : List (List Int)) (s r : Nat) : Prop :=
  ∃ (q : Nat) (_ : NeZero q), p = q ∧ Pr q ∧ ∃ out, IsRed q (wtN s (gr rows 0).length) (rows.map (sel s)) out ∧ r = out.length

theorem RkOf.unique {p : Int} {rows : List (List Int)} {s a b : Nat} (h : RkOf p rows s a) (h' : RkOf p rows s b) : a = b := by
  obtain ⟨q, i1, e1, hq, o1, r1, rfl⟩ := h
  obtain ⟨q', i2, e2, hq', o2, r2, rfl⟩ := h'
  obtain rfl : q = q' := by omega
  rw [IsRed.unique hq r1 r2]

theorem RkOf.le {p : Int} {rows : List (List Int)} {s r : Nat} (h : RkOf p rows s r) : r ≤ wtN s (gr rows 0).length := by
  obtain ⟨q, i1, e1, hq, o1, r1, rfl⟩ := h
  exact r1.le_cols

theorem wtN_zero (k : Nat) : wtN 0 k = 0 := by
  induction k with
  | zero => rfl
  | succ k ih => simp [wtN, ih, bitN]

theorem RkOf.none {p : Int} {rows : List (List Int)} {r : Nat} (h : RkOf p rows 0 r) : r = 0 := by
  have := h.le
  rw [wtN_zero] at this
  omega

/-- A table, and few. -/
structure TabOk (q : Nat) (n : Nat) (rows : List (List Int)) : Prop where
  pr : Pr q
  good : GoodRows q n rows
  cols : (gr rows 0).length = n
  n7 : n ≤ 7
  n1 : 1 ≤ n
  r1 : 1 ≤ rows.length
  r6 : rows.length ≤ 6
theorem vtB_ok {q : Nat} {rows : List (List Int)} (h : vtB q rows = true) : TabOk q (gr rows 0).length rows := by
  have hv := vtB_iff.1 h
  exact ⟨by unfold Pr; have := hv.1; omega, vtB_good h, rfl, hv.2.2.1.2, hv.2.2.1.1, hv.2.1.1, hv.2.1.2⟩

end Go.Proofs.YtcdbeepphdfipaaDoor
