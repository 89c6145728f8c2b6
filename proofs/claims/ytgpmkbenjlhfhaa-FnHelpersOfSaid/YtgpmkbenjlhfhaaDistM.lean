/- Words of messages as sums; some word is not all noughts. Plain. -/
import Derived.Test.YtgpmkbenjlhfhaaWtsM
import Derived.Test.YtgpmkbenjlhfhaaPlaM
namespace Go.Proofs.Ytgpmkbenjlhfhaa
open Go.RowKit Mat
set_option linter.unusedVariables false

section
variable {q : Nat} [NeZero q]

theorem encZ_vec {n : Nat} {rows : List (List Int)} (m : List Int) (hr : GoodRows q n rows) : ∀ k, k ≤ rows.length → ∀ j, vec q (encZ q n rows m k) j = sm (fun i => vec q m i * mat q rows i j) k
  | 0, _, j => by
    show phi q (gi (encZ q n rows m 0) j) = _
    rw [encZ, gi_replicate, phi_zero]; rfl
  | k + 1, hk, j => by
    rw [encZ, vec_add (by rw [encZ_length]; exact (hr k (by omega)).1.symm), encZ_vec m hr k (by omega) j]
    rfl
theorem wordT_vec {n : Nat} {rows : List (List Int)} (hr : GoodRows q n rows) (t j : Nat) : vec q (wordT q n rows t) j = sm (fun i => vec q (msg q rows.length t) i * mat q rows i j) rows.length :=
  encZ_vec _ hr _ (Nat.le_refl _) j
omit [NeZero q] in
theorem wordT_good (hq : Pr q) {n : Nat} {rows : List (List Int)} (hr : GoodRows q n rows) (t : Nat) : GoodRow q n (wordT q n rows t) :=
  ⟨wordT_length _ _ _ _, fun i hi => encZ_range (p := q) (by have := hq.pos; omega) _ (Nat.le_refl _) (fun i hi => ⟨(hr i hi).1, fun k hk => by have := (hr i hi).2 k hk; omega⟩) hi⟩

/-- Some word has a number that is not 0. -/
theorem some_word (hq : Pr q) {n : Nat} {rows : List (List Int)} (hr : GoodRows q n rows) (h1 : 1 ≤ rows.length) (hi : Ind (mat q rows) rows.length) : ∃ t, t < q ^ rows.length ∧ 1 ≤ wtT q n rows t := by
  have hq0 : 0 < q := by have := hq.pos; omega
  have hx : GoodRow q rows.length (tab rows.length (fun i => if i = 0 then 1 else 0)) := ⟨tab_length _ _, fun i hi => by
    rw [tab_get hi]
    have := hq.pos
    split <;> omega⟩
  obtain ⟨t, ht, he⟩ := msg_onto hq0 hx
  refine ⟨t, ht, ?_⟩
  apply Classical.byContradiction
  intro hno
  have h0 : hvTo (wordT q n rows t) n = 0 := by show wtT q n rows t = 0; omega
  have hz := (hvTo_zero _ _).1 h0
  have hv : ∀ i, i < rows.length → vec q (msg q rows.length t) i = if i = 0 then 1 else 0 := fun i hi => by
    show phi q (gi (msg q rows.length t) i) = _
    rw [he, tab_get hi]
    split
    · exact phi_one
    · exact phi_zero
  have h2 := hi (fun i => vec q (msg q rows.length t) i) (fun j => by
    by_cases hj : j < n
    · have h3 := wordT_vec hr t j
      rw [← h3]
      show phi q (gi (wordT q n rows t) j) = 0
      rw [hz j hj, phi_zero]
    · exact sm_zero (fun i hi => by
        have : mat q rows i j = 0 := vec_ge (by rw [(hr i hi).1]; omega)
        rw [this]; grind)) 0 (by omega)
  rw [hv 0 (by omega), if_pos rfl] at h2
  exact one_ne_zero hq.pos.1 h2
end

theorem wtsTo_pos (q n : Nat) (rows : List (List Int)) {t : Nat} : ∀ T, t < T → 1 ≤ gi (wtsTo q n rows T) (wtT q n rows t)
  | 0, h => by omega
  | T + 1, h => by
    have hl : wtT q n rows t < (wtsTo q n rows T).length := by rw [wtsTo_length]; have := wtT_le q n rows t; omega
    rw [wtsTo, bump_get hl]
    split
    · have h2 := (wtsTo_range q n rows T (wtT q n rows T) (by have := wtT_le q n rows T; omega)).1
      omega
    · rename_i hne
      exact wtsTo_pos q n rows T (by
        by_cases e : t = T
        · subst e; exact absurd rfl hne
        · omega)

theorem ValidC.ind {q : Nat} [NeZero q] {rows : List (List Int)} (h : ValidC q rows) : Ind (mat q rows) rows.length := by
  obtain ⟨_, _, out, ⟨q', i2, e, hq, hr⟩, hl⟩ := h
  obtain rfl : q' = q := by omega
  exact ind_of_rank hq hr hl

/-- The counts of all messages. -/
def wtsOf (p : Int) (rows : List (List Int)) : List Int := wtsTo p.toNat (gr rows 0).length rows (p.toNat ^ rows.length)
theorem wtsOf_some {p : Int} {rows : List (List Int)} (h : ValidC p rows) : ∃ d, 1 ≤ d ∧ d ≤ (gr rows 0).length ∧ 0 < gi (wtsOf p rows) d := by
  obtain ⟨q, rfl, hq⟩ := prime_nat (vtB_pr h.1)
  haveI := hq.nz
  have hf := h.few
  obtain ⟨t, ht, hw⟩ := some_word hq (vtB_good h.1) hf.1 h.ind
  refine ⟨_, hw, wtT_le _ _ _ _, ?_⟩
  have := wtsTo_pos q (gr rows 0).length rows _ ht
  unfold wtsOf
  rw [Int.toNat_natCast]
  omega

/-- What DistanceOf answers. -/
def DistR (p : Int) (rows : List (List Int)) (x : Int) : Prop :=
  (ValidC p rows → ∃ d : Nat, x = d ∧ 1 ≤ d ∧ d ≤ (gr rows 0).length ∧ 0 < gi (wtsOf p rows) d ∧ ∀ w, 1 ≤ w → w < d → gi (wtsOf p rows) w ≤ 0) ∧ (¬ ValidC p rows → x = -1)
theorem DistR.unique {p : Int} {rows : List (List Int)} {a b : Int} (h : DistR p rows a) (h' : DistR p rows b) : a = b := by
  by_cases c : ValidC p rows
  · obtain ⟨d, rfl, h1, h2, h3, h4⟩ := h.1 c
    obtain ⟨e, rfl, k1, k2, k3, k4⟩ := h'.1 c
    rcases Nat.lt_trichotomy d e with hh | hh | hh
    · have := k4 d h1 hh; omega
    · rw [hh]
    · have := h4 e k1 hh; omega
  · rw [h.2 c, h'.2 c]
theorem WtsR.eq {p : Int} {rows : List (List Int)} {out : List Int} (h : WtsR p rows out) (hv : ValidC p rows) : out = wtsOf p rows := h.1 hv
theorem wtsOf_length {p : Int} (rows : List (List Int)) : (wtsOf p rows).length = (gr rows 0).length + 1 := wtsTo_length _ _ _ _
end Go.Proofs.Ytgpmkbenjlhfhaa
