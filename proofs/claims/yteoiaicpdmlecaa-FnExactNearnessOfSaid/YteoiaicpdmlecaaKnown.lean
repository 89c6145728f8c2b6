/- (Code).known and spec.validCode tell what a valid code is. -/
import Derived.Test.YteoiaicpdmlecaaRankM
import Derived.Test.YteoiaicpdmlecaaTabQ
import Derived.Deep.RegionHeld3
namespace Go.Proofs.Yteoiaicpdmlecaa
open Go.RowKit Mat
set_option linter.unusedVariables false

/-- Rows are a valid code over p. -/
def ValidC (p : Int) (rows : List (List Int)) : Prop := vtB p rows = true ∧ rows.length ≤ 4 ∧ ∃ out, RedOf p rows out ∧ out.length = rows.length

theorem RedOf.le_cols {p : Int} {rows out : List (List Int)} (h : RedOf p rows out) : out.length ≤ (gr rows 0).length := by
  obtain ⟨q, i1, e1, hq, r1⟩ := h
  have hl : ∀ i, i < out.length → ldN (gr out i) < (gr rows 0).length := fun i hi => (lead_some (r1.inv.good i hi) (r1.inv.lead i hi)).1
  have key : ∀ i, i < out.length → i ≤ ldN (gr out i) := fun i => by
    induction i with
    | zero => intro _; exact Nat.zero_le _
    | succ i ih => intro hi; have := ih (by omega); have := r1.asc i (i + 1) (by omega) hi; omega
  by_cases h0 : out.length = 0
  · omega
  · have := key (out.length - 1) (by omega)
    have := hl (out.length - 1) (by omega)
    omega

theorem ValidC.cols {p : Int} {rows : List (List Int)} (h : ValidC p rows) : rows.length ≤ (gr rows 0).length := by
  obtain ⟨_, _, out, h, e⟩ := h
  rw [← e]
  exact h.le_cols

/-- A valid code has at least one row and at least one column, and few. -/
theorem ValidC.few {p : Int} {rows : List (List Int)} (h : ValidC p rows) : 1 ≤ rows.length ∧ rows.length ≤ 4 ∧ rows.length ≤ (gr rows 0).length ∧ (gr rows 0).length ≤ 7 ∧
    ∀ i, i < rows.length → (gr rows i).length = (gr rows 0).length ∧ ∀ k, k < (gr rows 0).length → 0 ≤ gi (gr rows i) k ∧ gi (gr rows i) k ≤ p - 1 := by
  have hv := vtB_iff.1 h.1
  exact ⟨hv.2.1.1, h.2.1, h.cols, hv.2.2.1.2, fun i hi => ⟨(hv.2.2.2 i hi).1, fun k hk => (hv.2.2.2 i hi).2 k (by rw [(hv.2.2.2 i hi).1]; exact hk)⟩⟩

/-- It ends with the answer to a question. -/
def SaysB (e : Ending) (Q : Prop) : Prop := ∃ b : Bool, e = .returned (.bool b) ∧ (b = true ↔ Q)

theorem known_any (p : Int) (v : Value) (rows : List (List Int)) (w : World) (hr : IsR w v rows) :
    Calls Try.prog 59 #[.agg #[.int .i64 p, v]] w fun e w' => (∃ b : Bool, e = .returned (.tuple #[.int .i64 p, .bool b]) ∧ (b = true ↔ ValidC p rows)) ∧ New w w' := by
  obtain ⟨ao, n, cap, rfl, HN, hn⟩ := hr.shape
  have HR := Lib.hid hr
  clear hr
  go_enter Try.func59, Try.ntmps59
  go_wp2_with fail
  refine (tableOf_any _ _ _ _ (HR.out.new (New.alloc _ _))).mono ?_
  rintro e w1 ⟨rfl, hn1⟩
  have b0 := hn1.cellNew (show (w.alloc (.cells #[.int .i64 p, .slice ao n cap] 27)).cell? ⟨w.heap.size, 0, none⟩ = some (.int .i64 p) by rw [cell_of_heap (heap_alloc_new w _)]; rfl)
  have b1 := hn1.cellNew (show (w.alloc (.cells #[.int .i64 p, .slice ao n cap] 27)).cell? ⟨w.heap.size, 1, none⟩ = some (.slice ao n cap) by rw [cell_of_heap (heap_alloc_new w _)]; rfl)
  have h1 : New w w1 := (New.alloc _ _).trans hn1
  cases hv : vtB p rows with
  | false =>
    have HV := Lib.hid hv
    clear hv
    go_wp2_with fail
    go_quiet (fail)
    go_wp2_with fail
    go_ret2
    exact ⟨⟨false, rfl, by simp [ValidC, HV.out]⟩, h1.trans (New.drewN _ _)⟩
  | true =>
    have HV := Lib.hid hv
    obtain ⟨q, rfl, hq⟩ := prime_nat (vtB_pr hv)
    have hi := vtB_iff.1 hv
    have hb : (1 ≤ rows.length ∧ rows.length ≤ 6) ∧ (gr rows 0).length ≤ 7 := ⟨hi.2.1, hi.2.2.1.2⟩
    have HB := Lib.hid hb
    have HQ := Lib.hid hq
    clear hv hi hb hq
    by_cases h4 : n ≤ 4
    · haveI := HQ.out.nz
      have hd : decide ((n : Int) ≤ 4) = true := by simp; omega
      go_wp2_with fail
      go_region_held3 (fun w' => w'.cell? ⟨w.heap.size, 0, none⟩ = some (.int .i64 q) ∧ w'.cell? ⟨w.heap.size, 1, none⟩ = some (.slice ao n cap)) (first | exact ⟨(HK.out.2.2.2.2).cellNew b0, (HK.out.2.2.2.2).cellNew b1⟩ | go_keep)
        (first | (go_at_call 89; refine (reduced_any q HQ.out _ HB.out.2 _ rows _ (HR.out.new (h1.trans (New.drew _))) (vtB_good HV.out) (by have := HB.out.1; omega)).mono ?_; rintro e w2 ⟨u, vs, out, rfl, ho, hf, hred, hn2⟩; obtain ⟨a, l, c, rfl, HL, hl, _⟩ := ho.outer.opened (by rw [ho.len]; unfold Mid; have := (RedOf.bounds ⟨q, this, rfl, HQ.out, hred⟩ HV.out).1; omega); have HK := Lib.hid (And.intro ho (And.intro hf (And.intro hred (And.intro HL.out ((New.drew w1).trans hn2))))); clear ho hf hred hn2 HL))
      go_wp2_with fail
      go_ret2
      refine ⟨⟨_, rfl, ?_⟩, h1.trans HK.out.2.2.2.2⟩
      obtain ⟨ho, _, hred, hL, _⟩ := HK.out
      have e1 : l = out.length := by rw [hL, ho.len]
      have hro : RedOf q rows out := ⟨q, this, rfl, HQ.out, hred⟩
      rw [beq_iff_eq]
      constructor
      · intro e; exact ⟨HV.out, by rw [← HN.out]; exact h4, out, hro, by rw [← e1, ← HN.out]; omega⟩
      · rintro ⟨_, _, out', h', hl'⟩
        have := h'.unique hro
        subst this
        rw [← e1, ← HN.out] at hl'
        omega
    · have hd : decide ((n : Int) ≤ 4) = false := by simp; omega
      go_wp2_with fail
      go_quiet (fail)
      go_wp2_with fail
      go_ret2
      exact ⟨⟨false, rfl, by simp only [ValidC, Bool.false_eq_true, false_iff]; rintro ⟨_, h, _⟩; rw [← HN.out] at h; exact h4 h⟩, h1.trans (New.drewN _ _)⟩

theorem validCode_any (p : Int) (v : Value) (rows : List (List Int)) (w : World) (hr : IsR w v rows) :
    Calls Try.prog 53 #[.agg #[.int .i64 p, v]] w fun e w' => (∃ b : Bool, e = .returned (.bool b) ∧ (b = true ↔ ValidC p rows)) ∧ New w w' := by
  obtain ⟨ao, n, cap, rfl, HN, hn⟩ := hr.shape
  have HR := Lib.hid hr
  clear hr
  have b0 : (w.alloc (.cells #[.int .i64 p, .slice ao n cap] 27)).cell? ⟨w.heap.size, 0, none⟩ = some (.int .i64 p) := by rw [cell_of_heap (heap_alloc_new w _)]; rfl
  have b1 : (w.alloc (.cells #[.int .i64 p, .slice ao n cap] 27)).cell? ⟨w.heap.size, 1, none⟩ = some (.slice ao n cap) := by rw [cell_of_heap (heap_alloc_new w _)]; rfl
  have h1 : New w (w.alloc (.cells #[.int .i64 p, .slice ao n cap] 27)) := New.alloc _ _
  go_enter Try.func53, Try.ntmps53
  go_wp2_with fail
  obtain ⟨w1, hw1⟩ : ∃ w1 : World, w1 = w.alloc (.cells #[.int .i64 p, .slice ao n cap] 27) := ⟨_, rfl⟩
  rw [← hw1] at b0 b1 h1
  rw [← hw1]
  clear hw1
  cases hv : vtB p rows with
  | false =>
    have HV := Lib.hid hv
    clear hv
    go_quiet ((go_at_call 73; exact Calls.quiet_of ((validTable_quiet _ _ _ _ (HR.out.new (h1.trans (New.drewN _ _)))).mono (fun e w' h => ⟨by rw [h.1, HV.out], h.2⟩))))
    go_wp2_with fail
    go_ret
    exact ⟨⟨false, rfl, by simp [ValidC, HV.out]⟩, h1.trans (New.drewN _ _)⟩
  | true =>
    have HV := Lib.hid hv
    obtain ⟨q, rfl, hq⟩ := prime_nat (vtB_pr hv)
    have hi := vtB_iff.1 hv
    have hb : (1 ≤ rows.length ∧ rows.length ≤ 6) ∧ (gr rows 0).length ≤ 7 := ⟨hi.2.1, hi.2.2.1.2⟩
    have HB := Lib.hid hb
    have HQ := Lib.hid hq
    clear hv hi hb hq
    by_cases h4 : n ≤ 4
    · haveI := HQ.out.nz
      have hd : decide ((n : Int) ≤ 4) = true := by simp; omega
      go_region_held3 (fun w' => w'.cell? ⟨w.heap.size, 0, none⟩ = some (.int .i64 q) ∧ w'.cell? ⟨w.heap.size, 1, none⟩ = some (.slice ao n cap)) (first | exact ⟨(HK.out.2.2.2.2).cellNew b0, (HK.out.2.2.2.2).cellNew b1⟩ | exact ⟨HV2.out.cellNew b0, HV2.out.cellNew b1⟩ | go_keep)
        (first | (go_at_call 73; refine ((validTable_any _ _ _ _ (HR.out.new (h1.trans (New.drew _)))).mono (fun e w' h => (⟨by rw [h.1, HV.out], h.2⟩ : e = .returned (.bool true) ∧ New _ w'))).mono ?_; rintro e w2 ⟨rfl, hn2⟩; have HV2 := Lib.hid ((New.drew w1).trans hn2); clear hn2) | (go_at_call 90; refine (reduce_any q HQ.out _ HB.out.2 _ rows _ (HR.out.new (h1.trans HV2.out)) (vtB_good HV.out) (by have := HB.out.1; omega)).mono ?_; rintro e w3 ⟨u, vs, out, rfl, ho, hf, hred, hn3⟩; obtain ⟨a, l, c, rfl, HL, hl, _⟩ := ho.outer.opened (by rw [ho.len]; unfold Mid; have := (RedOf.bounds ⟨q, this, rfl, HQ.out, hred⟩ HV.out).1; omega); have HK := Lib.hid (And.intro ho (And.intro hf (And.intro hred (And.intro HL.out (HV2.out.trans hn3))))); clear ho hf hred hn3 HL))
      go_wp2_with fail
      go_ret
      refine ⟨⟨_, rfl, ?_⟩, h1.trans HK.out.2.2.2.2⟩
      obtain ⟨ho, _, hred, hL, _⟩ := HK.out
      have e1 : l = out.length := by rw [hL, ho.len]
      have hro : RedOf q rows out := ⟨q, this, rfl, HQ.out, hred⟩
      rw [beq_iff_eq]
      constructor
      · intro e; exact ⟨HV.out, by rw [← HN.out]; exact h4, out, hro, by rw [← e1, ← HN.out]; omega⟩
      · rintro ⟨_, _, out', h', hl'⟩
        have := h'.unique hro
        subst this
        rw [← e1, ← HN.out] at hl'
        omega
    · have hd : decide ((n : Int) ≤ 4) = false := by simp; omega
      go_quiet ((go_at_call 73; exact Calls.quiet_of ((validTable_quiet _ _ _ _ (HR.out.new (h1.trans (New.drewN _ _)))).mono (fun e w' h => ⟨by rw [h.1, HV.out], h.2⟩))))
      go_wp2_with fail
      go_ret
      exact ⟨⟨false, rfl, by simp only [ValidC, Bool.false_eq_true, false_iff]; rintro ⟨_, h, _⟩; rw [← HN.out] at h; exact h4 h⟩, h1.trans (New.drewN _ _)⟩
end Go.Proofs.Yteoiaicpdmlecaa
