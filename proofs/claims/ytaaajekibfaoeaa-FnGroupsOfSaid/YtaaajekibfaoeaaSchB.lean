/- Which groups know, plain: what the laws on least groups say. -/
import Derived.Test.YtaaajekibfaoeaaSchA
import Derived.Test.YtaaajekibfaoeaaCodU
namespace Go.Proofs.Ytaaajekibfaoeaa
open Go.RowKit Mat
set_option linter.unusedVariables false

theorem idxTo_bit (own : List Int) (s : Nat) : ∀ k j, j < (idxTo own s k).length → bitN s (gi own (gi (idxTo own s k) j).toNat).toNat = 1
  | 0, j, h => by simp [idxTo] at h
  | k + 1, j, h => by
    have ih := idxTo_bit own s k j
    unfold idxTo at h ⊢
    split
    · rename_i hb
      rw [if_pos hb, List.length_append, List.length_singleton] at h
      by_cases c : j < (idxTo own s k).length
      · rw [gi_snl c]; exact ih c
      · rw [gi_sne (by omega), Int.toNat_natCast]; exact hb
    · rename_i hb
      rw [if_neg hb] at h
      exact ih h
theorem idxTo_hit (own : List Int) (s : Nat) : ∀ k i, i < k → bitN s (gi own i).toNat = 1 → ∃ j, j < (idxTo own s k).length ∧ gi (idxTo own s k) j = i
  | 0, i, h, _ => by omega
  | k + 1, i, h, hb => by
    unfold idxTo
    by_cases e : i = k
    · subst e
      rw [if_pos hb]
      exact ⟨(idxTo own s i).length, by rw [List.length_append, List.length_singleton]; omega, gi_sne rfl⟩
    · obtain ⟨j, hj, he⟩ := idxTo_hit own s k i (by omega) hb
      split
      · exact ⟨j, by rw [List.length_append]; omega, by rw [gi_snl hj]; exact he⟩
      · exact ⟨j, hj, he⟩
section
variable {q : Nat} [NeZero q] {n : Nat} {rows : List (List Int)} {own : List Int}
/-- More owners know no less. -/
theorem KnowsQ.mono {s s' : Nat} (h : KnowsQ q n rows own s) (hs : ∀ x, x < 5 → bitN s x = 1 → bitN s' x = 1) (ho : ∀ j, j < rows.length → 0 ≤ gi own j ∧ gi own j ≤ 4) : KnowsQ q n rows own s' := by
  unfold KnowsQ at h ⊢
  refine Span.mono h (fun j hj => ?_)
  rw [grpTo_length] at hj
  have hb := idxTo_bit own s rows.length j hj
  have hbd := idxTo_bound own s rows.length j hj
  have hox := ho (gi (idxTo own s rows.length) j).toNat (by omega)
  obtain ⟨j', hj', e'⟩ := idxTo_hit own s' rows.length (gi (idxTo own s rows.length) j).toNat (by omega) (hs _ (by omega) hb)
  have hj2 : j' < (grpTo rows own s' rows.length).length := by rw [grpTo_length]; exact hj'
  have := Span.row (mat q (grpTo rows own s' rows.length)) hj2
  refine this.congr (fun c => ?_)
  show vec q (gr (grpTo rows own s rows.length) j) c = vec q (gr (grpTo rows own s' rows.length) j') c
  rw [grpTo_get _ _ _ _ _ hj, grpTo_get _ _ _ _ _ hj', e', Int.toNat_natCast]
end

theorem grp_less1 : ∀ s : Nat, s < 32 → ∀ x : Nat, x < 5 → bitN s x = 1 → 2 ^ x ≤ s := by decide +kernel
theorem grp_less2 : ∀ (s : Fin 32) (x : Fin 5) (t : Fin 32), bitN s.val x.val = 1 → t.val &&& (s.val - 2 ^ x.val) = t.val → t.val &&& s.val = t.val ∧ t.val ≠ s.val := by decide +kernel
theorem grp_apart : ∀ g : Nat, g < 32 → ∀ t : Nat, t < 32 → g &&& t = 0 → ∀ x : Nat, x < 5 → bitN g x = 1 → bitN (31 - t) x = 1 := by decide +kernel
theorem sub_zero' : ∀ t : Nat, t < 32 → Sub t 0 → t = 0 := by unfold Sub; decide +kernel
theorem zero_sub' : ∀ t : Nat, t < 32 → Sub 0 t := by unfold Sub; decide +kernel
theorem sub_and {t s : Nat} (h : Sub t s) : t &&& s = t := h

/-- Least groups know, and no less. -/
theorem least_less {H : Nat → Prop} {out : List Int} (h : LeastTo 32 H 192 out) {j : Nat} (hj : j < out.length) :
    ∃ s : Nat, gi out j = s ∧ s < 32 ∧ H s ∧ ∀ x, x < 5 → bitN s x = 1 → 2 ^ x ≤ s ∧ ¬ H (s - 2 ^ x) := by
  obtain ⟨h1, h2, h3⟩ := LeastTo.sets (n := 5) (by omega) h
  obtain ⟨s, e, hs, hH⟩ := h1 j hj
  refine ⟨s, e, hs, hH, fun x hx hb => ?_⟩
  have hle := grp_less1 s hs x hx hb
  have hl : ∀ t : Nat, t < 32 → Sub t (s - 2 ^ x) → Sub t s ∧ t ≠ s := fun t ht h => grp_less2 ⟨s, hs⟩ ⟨x, hx⟩ ⟨t, ht⟩ hb h
  refine ⟨hle, fun hH2 => ?_⟩
  obtain ⟨i, hi, hsub⟩ := h3 (s - 2 ^ x) (Nat.lt_of_le_of_lt (Nat.sub_le _ _) hs) hH2
  obtain ⟨t, e2, ht, _⟩ := h1 i hi
  rw [e2, Int.toNat_natCast] at hsub
  obtain ⟨hs1, hs2⟩ := hl t ht hsub
  have hij : i ≠ j := fun c => by subst c; rw [e2] at e; omega
  exact h2 i j hi hj hij (by rw [e2, e, Int.toNat_natCast, Int.toNat_natCast]; exact hs1)

/-- Groups meet turned groups. -/
theorem groups_meet {q : Nat} [NeZero q] {n : Nat} {rows : List (List Int)} {own out list : List Int} (hq : 2 ≤ q) (hn : 1 ≤ n) (ho : ∀ j, j < rows.length → 0 ≤ gi own j ∧ gi own j ≤ 4)
    (h : LeastTo 32 (fun s => ¬ KnowsQ q n rows own (31 - s)) 192 out) (hl : LeastTo 32 (KnowsQ q n rows own) 192 list) :
    (∀ i, i < out.length → ∃ t : Nat, gi out i = t ∧ t < 32 ∧ ¬ KnowsQ q n rows own (31 - t) ∧ ∀ k, k < list.length → ∃ g : Nat, gi list k = g ∧ g < 32 ∧ g &&& t ≠ 0) ∧ 0 < out.length ∧ (0 < list.length ∨ out = [0]) := by
  obtain ⟨h1, h2, h3⟩ := LeastTo.sets (n := 5) (by omega) h
  obtain ⟨l1, l2, l3⟩ := LeastTo.sets (n := 5) (by omega) hl
  refine ⟨fun i hi => ?_, ?_, ?_⟩
  · obtain ⟨t, e, ht, hH⟩ := h1 i hi
    refine ⟨t, e, ht, hH, fun k hk => ?_⟩
    obtain ⟨g, e2, hg, hG⟩ := l1 k hk
    exact ⟨g, e2, hg, fun c => hH (KnowsQ.mono hG (grp_apart g hg t ht c) ho)⟩
  · obtain ⟨j, hj, _⟩ := h3 31 (by decide) (by
      have hz : (idxTo own (31 - 31) rows.length).length = 0 := by
        apply Classical.byContradiction
        intro c
        have := idxTo_bit own 0 rows.length 0 (by show 0 < (idxTo own 0 rows.length).length; exact Nat.pos_of_ne_zero c)
        unfold bitN at this
        simp at this
      exact knows_none hq hn hz)
    omega
  · by_cases c : 0 < list.length
    · exact .inl c
    · refine .inr ?_
      have hno : ¬ KnowsQ q n rows own 31 := fun hK => by
        obtain ⟨j, hj, _⟩ := l3 31 (by decide) hK
        omega
      obtain ⟨j, hj, hs⟩ := h3 0 (by decide) hno
      obtain ⟨t, e, ht, _⟩ := h1 j hj
      rw [e, Int.toNat_natCast] at hs
      obtain rfl := sub_zero' t ht hs
      have hlen : out.length = 1 := by
        apply Classical.byContradiction
        intro c2
        obtain ⟨i, hi, hij⟩ : ∃ i, i < out.length ∧ j ≠ i := by
          by_cases cj : j = 0
          · exact ⟨1, by omega, by omega⟩
          · exact ⟨0, by omega, by omega⟩
        obtain ⟨t', e', ht', _⟩ := h1 i hi
        exact h2 j i hj hi hij (by rw [e, e', Int.toNat_natCast, Int.toNat_natCast]; exact zero_sub' t' ht')
      refine ext_gi (by rw [hlen]; rfl) (fun i hi => ?_)
      obtain rfl : i = j := by omega
      rw [e]
      obtain rfl : i = 0 := by omega
      rfl
end Go.Proofs.Ytaaajekibfaoeaa
