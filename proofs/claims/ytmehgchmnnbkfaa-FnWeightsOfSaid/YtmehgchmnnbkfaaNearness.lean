/- NearnessOf of both. -/
import Derived.Test.YtmehgchmnnbkfaaHelpersOf
namespace Go.Proofs.Ytmehgchmnnbkfaa
open Go.RowKit Mat
set_option linter.unusedVariables false

/-- The helpers of a column. -/
def HelpL (q : Nat) [NeZero q] (rows : List (List Int)) (n i : Nat) (out : List Int) : Prop := LeastTo (2 ^ n) (HelpQ q rows n i) ((n + 1) * 2 ^ n) out
/-- The greatest of the least helpers' sizes of the first k columns. -/
def NearTo (q : Nat) [NeZero q] (rows : List (List Int)) (n : Nat) : Nat → Nat → Prop
  | 0, t => t = 0
  | k + 1, t => ∃ s out, NearTo q rows n k s ∧ HelpL q rows n k out ∧ 0 < out.length ∧ t = max s (wtN (gi out 0).toNat 7)
theorem NearTo.unique {q : Nat} [NeZero q] {rows : List (List Int)} {n : Nat} : ∀ {k a b : Nat}, NearTo q rows n k a → NearTo q rows n k b → a = b
  | 0, a, b, h, h' => by rw [show a = 0 from h, show b = 0 from h']
  | k + 1, a, b, ⟨s, out, h1, h2, h3, h4⟩, ⟨s', out', h1', h2', h3', h4'⟩ => by
    obtain rfl := h1.unique h1'
    obtain rfl := LeastTo.unique h2 h2'
    rw [h4, h4']
theorem NearTo.some {q : Nat} [NeZero q] {rows : List (List Int)} {n : Nat} : ∀ {k t : Nat}, NearTo q rows n k t → ∀ j, j < k → ¬ HelpL q rows n j []
  | 0, t, h, j, hj, _ => by omega
  | k + 1, t, ⟨s, out, h1, h2, h3, h4⟩, j, hj, h => by
    by_cases e : j = k
    · subst e
      have := LeastTo.unique h h2
      rw [← this] at h3
      simp at h3
    · exact h1.some j (by omega) h
theorem NearTo.le {q : Nat} [NeZero q] {rows : List (List Int)} {n : Nat} : ∀ {k t : Nat}, NearTo q rows n k t → t ≤ 7
  | 0, t, h => by rw [show t = 0 from h]; omega
  | k + 1, t, ⟨s, out, h1, h2, h3, h4⟩ => by
    have := h1.le
    have := wtN_le (gi out 0).toNat 7
    omega
/-- What NearnessOf answers. -/
def NearR (p : Int) (rows : List (List Int)) (t : Int) (ok : Bool) : Prop :=
  (ValidC p rows → ∃ (q : Nat) (_ : NeZero q), p = q ∧ ((ok = true ∧ ∃ m : Nat, t = m ∧ NearTo q rows (gr rows 0).length (gr rows 0).length m) ∨ (ok = false ∧ t = 0 ∧ ∃ j, j < (gr rows 0).length ∧ HelpL q rows (gr rows 0).length j []))) ∧
  (¬ ValidC p rows → t = 0 ∧ ok = false)
theorem NearR.unique {p : Int} {rows : List (List Int)} {a b : Int} {x y : Bool} (h : NearR p rows a x) (h' : NearR p rows b y) : a = b ∧ x = y := by
  by_cases c : ValidC p rows
  · obtain ⟨q, i1, e, h1⟩ := h.1 c
    obtain ⟨q', i2, e', h2⟩ := h'.1 c
    obtain rfl : q = q' := by omega
    rcases h1 with ⟨x1, m, e1, n1⟩ | ⟨x1, e1, j, hj, n1⟩ <;> rcases h2 with ⟨x2, m', e2, n2⟩ | ⟨x2, e2, j', hj', n2⟩
    · rw [e1, e2, n1.unique n2, x1, x2]; exact ⟨rfl, rfl⟩
    · exact absurd n2 (n1.some j' hj')
    · exact absurd n1 (n2.some j hj)
    · rw [e1, e2, x1, x2]; exact ⟨rfl, rfl⟩
  · obtain ⟨rfl, rfl⟩ := h.2 c
    obtain ⟨rfl, rfl⟩ := h'.2 c
    exact ⟨rfl, rfl⟩
/-- It ends with a number and an answer. -/
def TellsNB (w : World) (e : Ending) (w' : World) (Q : Int → Bool → Prop) : Prop := ∃ (t : Int) (ok : Bool), e = .returned (.tuple #[.int .i64 t, .bool ok]) ∧ Q t ok ∧ New w w'

set_option maxRecDepth 100000 in
set_option maxHeartbeats 1000000 in
theorem specNearness_any (q : Nat) [NeZero q] (n : Nat) (v : Value) (rows : List (List Int)) (w : World) (hr : IsR w v rows) (ht : TabOk q n rows) :
    Calls Try.prog 87 #[.agg #[.int .i64 q, v]] w fun e w' => (∃ t : Int, e = .returned (.int .i64 t) ∧ ((∃ m : Nat, t = m ∧ NearTo q rows n n m) ∨ (t = -1 ∧ ∃ j, j < n ∧ HelpL q rows n j []))) ∧ New w w' := by
  obtain ⟨ao, m, cap, rfl, HN, hm⟩ := hr.shape
  have hm1 : 0 < m := by rw [HN.out]; exact ht.r1
  have hn7 := ht.n7
  have h1 : New w (w.alloc (.cells #[.int .i64 q, .slice ao m cap] 25)) := New.alloc _ _
  have b1 := Blk2.alloc w (.int .i64 q) (.slice ao m cap) 25
  have HR := Lib.hid hr
  have HT := Lib.hid ht
  clear hr ht
  go_enter Try.func87, Try.ntmps87
  go_wp2_with fail
  go_loopw [3, 4] (fun t3 t4 wr => ∃ k t : Nat, t3 = .int .i64 t ∧ t4 = .int .i64 k ∧ k ≤ n ∧ t ≤ 7 ∧ Hid (NearTo q rows n k t ∧ New w wr ∧ Blk2 wr w.heap.size (.int .i64 q) (.slice ao m cap) 25)) (fun _ t4 _ => n - (intOf t4).toNat)
  case atStart => exact ⟨0, 0, rfl, rfl, Nat.zero_le _, by omega, rfl, h1, b1⟩
  case round =>
    obtain ⟨k, t, rfl, rfl, hk, ht7, HL⟩ := hrel
    obtain ⟨wz, hwz⟩ : ∃ wz : World, wz = wr := ⟨_, rfl⟩
    rw [← hwz] at HL
    rw [← hwz]
    clear hwz
    obtain ⟨b, o, u0, rfl, ck0, hu0⟩ := (HR.out.new HL.out.2.1).at hm1
    rw [Nat.add_zero] at ck0
    obtain ⟨au0, n0, cu0, rfl, HN0, hnu0⟩ := hu0.shape
    have hn0 : n = n0 := by rw [HN0.out, HT.out.cols]
    subst hn0
    obtain ⟨c0, c1, _, _⟩ := HL.out.2.2.cells
    clear hu0
    by_cases hkn : k < n
    · go_wp2_with fail
      refine (specHelpers_any q n k _ rows _ (HR.out.new HL.out.2.1) HT.out hkn).mono ?_
      rintro e w4 ⟨u, out, rfl, ho, hf, hq, hn4⟩
      have hq' : HelpL q rows n k out := hq
      have hbd := hq.bounds (Nat.two_pow_pos _)
      have hp := pow_lt hn7
      have hol : out.length ≤ 1200 := by have := Nat.mul_le_mul (show n + 1 ≤ 8 by omega) hp; omega
      have hoi := ho.isI (by unfold Mid; omega)
      obtain ⟨au, l, cu, rfl, HLU, hlu⟩ := hoi.shape
      have HE := Lib.hid (And.intro hq' (And.intro hn4 (And.intro hbd hoi)))
      clear ho hf hq hq' hn4 hbd hoi c0 c1 ck0
      by_cases hl0 : l = 0
      · subst hl0
        go_wp2_with fail
        go_ret
        exact ⟨⟨-1, rfl, .inr ⟨rfl, k, hkn, by have h := HE.out.1; rw [List.eq_nil_of_length_eq_zero HLU.out.symm] at h; exact h⟩⟩, HL.out.2.1.trans HE.out.2.1⟩
      · have hd : ((l : Int) == 0) = false := by simp; omega
        obtain ⟨bx, ox, rfl, cx⟩ := HE.out.2.2.2.at (i := 0) (by omega)
        rw [Nat.add_zero] at cx
        have hb0 := HE.out.2.2.1.2 0 (by rw [← HLU.out]; omega)
        obtain ⟨x, hx⟩ : ∃ x : Nat, gi out 0 = x := ⟨(gi out 0).toNat, by omega⟩
        rw [hx] at cx hb0
        have hx128 : x < 128 := by omega
        obtain ⟨c, hc⟩ : ∃ c, c = wtN x 7 := ⟨_, rfl⟩
        have hc7 : c ≤ 7 := by rw [hc]; exact wtN_le _ _
        have HX := Lib.hid (And.intro hx hc)
        clear hx hb0 hc
        go_wp2_with (go_at_call 85; refine (weight_any x _ hx128).mono ?_; rintro e w' ⟨rfl, rfl⟩; rw [← HX.out.2])
        go_roundw
        case rel => exact ⟨k + 1, max t c, by go_num, by go_num, by omega, by omega, ⟨t, out, HL.out.1, HE.out.1, by rw [← HLU.out]; omega, by rw [HX.out.1, Int.toNat_natCast, ← HX.out.2]⟩, HL.out.2.1.trans HE.out.2.1, HL.out.2.2.new HE.out.2.1⟩
        case measure => simp [intOf]; omega
    · obtain rfl : k = n := by omega
      go_wp2_with fail
      go_ret
      exact ⟨⟨_, rfl, .inl ⟨t, rfl, HL.out.1⟩⟩, HL.out.2.1⟩
end Go.Proofs.Ytmehgchmnnbkfaa
