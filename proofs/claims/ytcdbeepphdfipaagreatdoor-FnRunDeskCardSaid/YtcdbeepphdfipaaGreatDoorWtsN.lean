/- How many messages have words of each weight. Plain. Words of messages as sums; some word is not all noughts. Plain. Words of which some numbers are lost; how many messages have one. Plain. -/
import Derived.Test.YtcdbeepphdfipaaGreatDoorPlaM
import Derived.Test.YtcdbeepphdfipaaGreatDoorHelp
import Derived.Test.YtcdbeepphdfipaaGreatDoorEnco
namespace Go.Proofs.YtcdbeepphdfipaaGreatDoor
open Go.RowKit Mat
set_option linter.unusedVariables false

/-- The word of the t-th message. -/
def wordT (q n : Nat) (rows : List (List Int)) (t : Nat) : List Int := encZ q n rows (msg q rows.length t) rows.length
/-- Its weight. -/
def wtT (q n : Nat) (rows : List (List Int)) (t : Nat) : Nat := hvTo (wordT q n rows t) n
theorem wordT_length (q n : Nat) (rows : List (List Int)) (t : Nat) : (wordT q n rows t).length = n := encZ_length _ _ _ _ _
theorem wtT_le (q n : Nat) (rows : List (List Int)) (t : Nat) : wtT q n rows t ≤ n := hvTo_le _ _
def bump (l : List Int) (i : Nat) : List Int := l.set i (gi l i + 1)
theorem bump_length (l : List Int) (i : Nat) : (bump l i).length = l.length := List.length_set
theorem bump_get {l : List Int} {i j : Nat} (hj : j < l.length) : gi (bump l i) j = if i = j then gi l i + 1 else gi l j := by
  unfold bump
  rw [gi_lt (by rw [List.length_set]; exact hj), List.getElem_set]
  split
  · rfl
  · rw [gi_lt hj]
/-- The counts of the first t messages. -/
def wtsTo (q n : Nat) (rows : List (List Int)) : Nat → List Int
  | 0 => List.replicate (n + 1) 0
  | t + 1 => bump (wtsTo q n rows t) (wtT q n rows t)
theorem wtsTo_length (q n : Nat) (rows : List (List Int)) : ∀ t, (wtsTo q n rows t).length = n + 1
  | 0 => by simp [wtsTo]
  | t + 1 => by rw [wtsTo, bump_length, wtsTo_length q n rows t]
theorem wtsTo_range (q n : Nat) (rows : List (List Int)) : ∀ t i, i < n + 1 → 0 ≤ gi (wtsTo q n rows t) i ∧ gi (wtsTo q n rows t) i ≤ t
  | 0, i, hi => by rw [wtsTo, gi_replicate]; simp
  | t + 1, i, hi => by
    have h := wtsTo_range q n rows t
    have h1 := h i hi
    have h2 := h (wtT q n rows t) (by have := wtT_le q n rows t; omega)
    rw [wtsTo, bump_get (by rw [wtsTo_length]; exact hi)]
    split <;> omega

/-- What WeightsOf answers. -/
def WtsR (p : Int) (rows : List (List Int)) (out : List Int) : Prop :=
  (ValidC p rows → out = wtsTo p.toNat (gr rows 0).length rows (p.toNat ^ rows.length)) ∧ (¬ ValidC p rows → out = [])
theorem WtsR.unique {p : Int} {rows : List (List Int)} {a b : List Int} (h : WtsR p rows a) (h' : WtsR p rows b) : a = b := by
  by_cases c : ValidC p rows
  · rw [h.1 c, h'.1 c]
  · rw [h.2 c, h'.2 c]
theorem WtsR.small {p : Int} {rows : List (List Int)} {a : List Int} (h : WtsR p rows a) : a.length ≤ 1048576 := by
  by_cases c : ValidC p rows
  · rw [h.1 c, wtsTo_length]; have := c.few; omega
  · rw [h.2 c]; simp
theorem pow_all {q k : Nat} (hq : q ≤ 7) (hk : k ≤ 4) : q ^ k ≤ 2401 :=
  Nat.le_trans (Nat.pow_le_pow_left hq k) (Nat.pow_le_pow_right (by omega) hk : 7 ^ k ≤ 7 ^ 4)
end Go.Proofs.YtcdbeepphdfipaaGreatDoor

namespace Go.Proofs.YtcdbeepphdfipaaGreatDoor
open Go.RowKit Mat
set_option linter.unusedVariables false

section
variable {q : Nat} [NeZero q]

theorem encZ_vec {n : Nat} {rows : List (List Int)} (m : List Int) (hr : GoodRows q n rows) : ∀ k, k ≤ rows.length → ∀ j, vec q (encZ q n rows m k) j = sm (fun i => vec q m i * mat q rows i j) k
  | 0, _, j => by
    show phi q (gi (encZ q n rows m 0) j) = _
    rw [encZ, gi_replicate, phi_zero]; rfl
  | k + 1, hk, j => by
    rw [encZ, vec_add (by rw [encZ_length]; exact (hr k (by omega)).1.symm), encZ_vec m hr k (by omega) j]
    rfl
theorem wordT_vec {n : Nat} {rows : List (List Int)} (hr : GoodRows q n rows) (t j : Nat) : vec q (wordT q n rows t) j = sm (fun i => vec q (msg q rows.length t) i * mat q rows i j) rows.length :=
  encZ_vec _ hr _ (Nat.le_refl _) j
omit [NeZero q] in
theorem wordT_good (hq : Pr q) {n : Nat} {rows : List (List Int)} (hr : GoodRows q n rows) (t : Nat) : GoodRow q n (wordT q n rows t) :=
  ⟨wordT_length _ _ _ _, fun i hi => encZ_range (p := q) (by have := hq.pos; omega) _ (Nat.le_refl _) (fun i hi => ⟨(hr i hi).1, fun k hk => by have := (hr i hi).2 k hk; omega⟩) hi⟩

/-- Some word has a number that is not 0. -/
theorem some_word (hq : Pr q) {n : Nat} {rows : List (List Int)} (hr : GoodRows q n rows) (h1 : 1 ≤ rows.length) (hi : Ind (mat q rows) rows.length) : ∃ t, t < q ^ rows.length ∧ 1 ≤ wtT q n rows t := by
  have hq0 : 0 < q := by have := hq.pos; omega
  have hx : GoodRow q rows.length (tab rows.length (fun i => if i = 0 then 1 else 0)) := ⟨tab_length _ _, fun i hi => by
    rw [tab_get hi]
    have := hq.pos
    split <;> omega⟩
  obtain ⟨t, ht, he⟩ := msg_onto hq0 hx
  refine ⟨t, ht, ?_⟩
  apply Classical.byContradiction
  intro hno
  have h0 : hvTo (wordT q n rows t) n = 0 := by show wtT q n rows t = 0; omega
  have hz := (hvTo_zero _ _).1 h0
  have hv : ∀ i, i < rows.length → vec q (msg q rows.length t) i = if i = 0 then 1 else 0 := fun i hi => by
    show phi q (gi (msg q rows.length t) i) = _
    rw [he, tab_get hi]
    split
    · exact phi_one
    · exact phi_zero
  have h2 := hi (fun i => vec q (msg q rows.length t) i) (fun j => by
    by_cases hj : j < n
    · have h3 := wordT_vec hr t j
      rw [← h3]
      show phi q (gi (wordT q n rows t) j) = 0
      rw [hz j hj, phi_zero]
    · exact sm_zero (fun i hi => by
        have : mat q rows i j = 0 := vec_ge (by rw [(hr i hi).1]; omega)
        rw [this]; grind)) 0 (by omega)
  rw [hv 0 (by omega), if_pos rfl] at h2
  exact one_ne_zero hq.pos.1 h2
end

theorem wtsTo_pos (q n : Nat) (rows : List (List Int)) {t : Nat} : ∀ T, t < T → 1 ≤ gi (wtsTo q n rows T) (wtT q n rows t)
  | 0, h => by omega
  | T + 1, h => by
    have hl : wtT q n rows t < (wtsTo q n rows T).length := by rw [wtsTo_length]; have := wtT_le q n rows t; omega
    rw [wtsTo, bump_get hl]
    split
    · have h2 := (wtsTo_range q n rows T (wtT q n rows T) (by have := wtT_le q n rows T; omega)).1
      omega
    · rename_i hne
      exact wtsTo_pos q n rows T (by
        by_cases e : t = T
        · subst e; exact absurd rfl hne
        · omega)

theorem ValidC.ind {q : Nat} [NeZero q] {rows : List (List Int)} (h : ValidC q rows) : Ind (mat q rows) rows.length := by
  obtain ⟨_, _, out, ⟨q', i2, e, hq, hr⟩, hl⟩ := h
  obtain rfl : q' = q := by omega
  exact ind_of_rank hq hr hl

/-- The counts of all messages. -/
def wtsOf (p : Int) (rows : List (List Int)) : List Int := wtsTo p.toNat (gr rows 0).length rows (p.toNat ^ rows.length)
theorem wtsOf_some {p : Int} {rows : List (List Int)} (h : ValidC p rows) : ∃ d, 1 ≤ d ∧ d ≤ (gr rows 0).length ∧ 0 < gi (wtsOf p rows) d := by
  obtain ⟨q, rfl, hq⟩ := prime_nat (vtB_pr h.1)
  haveI := hq.nz
  have hf := h.few
  obtain ⟨t, ht, hw⟩ := some_word hq (vtB_good h.1) hf.1 h.ind
  refine ⟨_, hw, wtT_le _ _ _ _, ?_⟩
  have := wtsTo_pos q (gr rows 0).length rows _ ht
  unfold wtsOf
  rw [Int.toNat_natCast]
  omega

/-- What DistanceOf answers. -/
def DistR (p : Int) (rows : List (List Int)) (x : Int) : Prop :=
  (ValidC p rows → ∃ d : Nat, x = d ∧ 1 ≤ d ∧ d ≤ (gr rows 0).length ∧ 0 < gi (wtsOf p rows) d ∧ ∀ w, 1 ≤ w → w < d → gi (wtsOf p rows) w ≤ 0) ∧ (¬ ValidC p rows → x = -1)
theorem DistR.unique {p : Int} {rows : List (List Int)} {a b : Int} (h : DistR p rows a) (h' : DistR p rows b) : a = b := by
  by_cases c : ValidC p rows
  · obtain ⟨d, rfl, h1, h2, h3, h4⟩ := h.1 c
    obtain ⟨e, rfl, k1, k2, k3, k4⟩ := h'.1 c
    rcases Nat.lt_trichotomy d e with hh | hh | hh
    · have := k4 d h1 hh; omega
    · rw [hh]
    · have := h4 e k1 hh; omega
  · rw [h.2 c, h'.2 c]
theorem WtsR.eq {p : Int} {rows : List (List Int)} {out : List Int} (h : WtsR p rows out) (hv : ValidC p rows) : out = wtsOf p rows := h.1 hv
theorem wtsOf_length {p : Int} (rows : List (List Int)) : (wtsOf p rows).length = (gr rows 0).length + 1 := wtsTo_length _ _ _ _
end Go.Proofs.YtcdbeepphdfipaaGreatDoor

namespace Go.Proofs.YtcdbeepphdfipaaGreatDoor
open Go.RowKit Mat
set_option linter.unusedVariables false

/-- Whether a word has the first k known numbers. -/
def fitB (x kn : List Int) : Nat → Bool
  | 0 => true
  | k + 1 => fitB x kn k && (decide (gi kn k < 0) || decide (gi kn k = gi x k))
theorem fitB_iff {x kn : List Int} : ∀ {k : Nat}, fitB x kn k = true ↔ ∀ i, i < k → gi kn i < 0 ∨ gi kn i = gi x i
  | 0 => ⟨fun _ i hi => by omega, fun _ => rfl⟩
  | k + 1 => by
    rw [fitB, Bool.and_eq_true, fitB_iff, Bool.or_eq_true, decide_eq_true_eq, decide_eq_true_eq]
    constructor
    · rintro ⟨h1, h2⟩ i hi
      by_cases e : i = k
      · rw [e]; exact h2
      · exact h1 i (by omega)
    · intro h
      exact ⟨fun i hi => h i (by omega), h k (by omega)⟩
/-- How many of the first t messages have it. -/
def cntF (q n : Nat) (rows : List (List Int)) (kn : List Int) : Nat → Nat
  | 0 => 0
  | t + 1 => if fitB (wordT q n rows t) kn n = true then cntF q n rows kn t + 1 else cntF q n rows kn t
theorem cntF_le (q n : Nat) (rows : List (List Int)) (kn : List Int) : ∀ t, cntF q n rows kn t ≤ t
  | 0 => Nat.le_refl _
  | t + 1 => by have := cntF_le q n rows kn t; rw [cntF]; split <;> omega
theorem cntF_pos {q n : Nat} {rows : List (List Int)} {kn : List Int} {t : Nat} (hf : fitB (wordT q n rows t) kn n = true) : ∀ {T}, t < T → 1 ≤ cntF q n rows kn T
  | 0, h => by omega
  | T + 1, h => by
    rw [cntF]
    by_cases e : t = T
    · subst e; rw [if_pos hf]; omega
    · have := cntF_pos hf (T := T) (by omega)
      split <;> omega
theorem cntF_two {q n : Nat} {rows : List (List Int)} {kn : List Int} {t u : Nat} (htu : t < u) (hf : fitB (wordT q n rows t) kn n = true) (hg : fitB (wordT q n rows u) kn n = true) : ∀ {T}, u < T → 2 ≤ cntF q n rows kn T
  | 0, h => by omega
  | T + 1, h => by
    rw [cntF]
    by_cases e : u = T
    · subst e; rw [if_pos hg]; have := cntF_pos hf htu; omega
    · have := cntF_two htu hf hg (T := T) (by omega)
      split <;> omega

/-- A valid code and a word of it of which some numbers are lost. -/
def LostC (p : Int) (rows : List (List Int)) (kn : List Int) : Prop := ValidC p rows ∧ kn.length = (gr rows 0).length ∧ ∀ i, i < kn.length → -1 ≤ gi kn i ∧ gi kn i ≤ p - 1
/-- How many messages have it. -/
def cntOf (p : Int) (rows : List (List Int)) (kn : List Int) : Nat := cntF p.toNat (gr rows 0).length rows kn (p.toNat ^ rows.length)
/-- What CountMends answers. -/
def CountR (p : Int) (rows : List (List Int)) (kn : List Int) (x : Int) : Prop := (LostC p rows kn → x = cntOf p rows kn) ∧ (¬ LostC p rows kn → x = -1)
theorem CountR.unique {p : Int} {rows : List (List Int)} {kn : List Int} {a b : Int} (h : CountR p rows kn a) (h' : CountR p rows kn b) : a = b := by
  by_cases c : LostC p rows kn
  · rw [h.1 c, h'.1 c]
  · rw [h.2 c, h'.2 c]
/-- What MendWord answers. -/
def MendR (p : Int) (rows : List (List Int)) (kn : List Int) (out : List Int) (ok : Bool) : Prop :=
  ((LostC p rows kn ∧ cntOf p rows kn = 1) → ok = true ∧ ∃ t, t < p.toNat ^ rows.length ∧ fitB (wordT p.toNat (gr rows 0).length rows t) kn (gr rows 0).length = true ∧ out = msg p.toNat rows.length t) ∧
  (¬ (LostC p rows kn ∧ cntOf p rows kn = 1) → ok = false ∧ out = [])
theorem MendR.unique {p : Int} {rows : List (List Int)} {kn : List Int} {a b : List Int} {x y : Bool} (h : MendR p rows kn a x) (h' : MendR p rows kn b y) : a = b ∧ x = y := by
  by_cases c : LostC p rows kn ∧ cntOf p rows kn = 1
  · obtain ⟨h1, t, ht, hf, ha⟩ := h.1 c
    obtain ⟨k1, u, hu, hg, hb⟩ := h'.1 c
    refine ⟨?_, by rw [h1, k1]⟩
    have : t = u := by
      rcases Nat.lt_trichotomy t u with e | e | e
      · have := cntF_two e hf hg hu; have := c.2; unfold cntOf at this; omega
      · exact e
      · have := cntF_two e hg hf ht; have := c.2; unfold cntOf at this; omega
    rw [ha, hb, this]
  · rw [(h.2 c).1, (h.2 c).2, (h'.2 c).1, (h'.2 c).2]; exact ⟨rfl, rfl⟩
theorem MendR.small {p : Int} {rows : List (List Int)} {kn a : List Int} {x : Bool} (h : MendR p rows kn a x) : a.length ≤ 1048576 := by
  by_cases c : LostC p rows kn ∧ cntOf p rows kn = 1
  · obtain ⟨_, t, _, _, ha⟩ := h.1 c
    rw [ha, msg_length]; have := c.1.1.few; omega
  · rw [(h.2 c).2]; simp
end Go.Proofs.YtcdbeepphdfipaaGreatDoor
