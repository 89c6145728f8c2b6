/- Words of which some numbers are lost; how many messages have one. Plain. -/
import Derived.Test.YtgpmkbenjlhfhaaDistM
namespace Go.Proofs.Ytgpmkbenjlhfhaa
open Go.RowKit Mat
set_option linter.unusedVariables false

/-- Whether a word has the first k known numbers. -/
def fitB (x kn : List Int) : Nat → Bool
  | 0 => true
  | k + 1 => fitB x kn k && (decide (gi kn k < 0) || decide (gi kn k = gi x k))
theorem fitB_iff {x kn : List Int} : ∀ {k : Nat}, fitB x kn k = true ↔ ∀ i, i < k → gi kn i < 0 ∨ gi kn i = gi x i
  | 0 => ⟨fun _ i hi => by omega, fun _ => rfl⟩
  | k + 1 => by
    rw [fitB, Bool.and_eq_true, fitB_iff, Bool.or_eq_true, decide_eq_true_eq, decide_eq_true_eq]
    constructor
    · rintro ⟨h1, h2⟩ i hi
      by_cases e : i = k
      · rw [e]; exact h2
      · exact h1 i (by omega)
    · intro h
      exact ⟨fun i hi => h i (by omega), h k (by omega)⟩
/-- How many of the first t messages have it. -/
def cntF (q n : Nat) (rows : List (List Int)) (kn : List Int) : Nat → Nat
  | 0 => 0
  | t + 1 => if fitB (wordT q n rows t) kn n = true then cntF q n rows kn t + 1 else cntF q n rows kn t
theorem cntF_le (q n : Nat) (rows : List (List Int)) (kn : List Int) : ∀ t, cntF q n rows kn t ≤ t
  | 0 => Nat.le_refl _
  | t + 1 => by have := cntF_le q n rows kn t; rw [cntF]; split <;> omega
theorem cntF_pos {q n : Nat} {rows : List (List Int)} {kn : List Int} {t : Nat} (hf : fitB (wordT q n rows t) kn n = true) : ∀ {T}, t < T → 1 ≤ cntF q n rows kn T
  | 0, h => by omega
  | T + 1, h => by
    rw [cntF]
    by_cases e : t = T
    · subst e; rw [if_pos hf]; omega
    · have := cntF_pos hf (T := T) (by omega)
      split <;> omega
theorem cntF_two {q n : Nat} {rows : List (List Int)} {kn : List Int} {t u : Nat} (htu : t < u) (hf : fitB (wordT q n rows t) kn n = true) (hg : fitB (wordT q n rows u) kn n = true) : ∀ {T}, u < T → 2 ≤ cntF q n rows kn T
  | 0, h => by omega
  | T + 1, h => by
    rw [cntF]
    by_cases e : u = T
    · subst e; rw [if_pos hg]; have := cntF_pos hf htu; omega
    · have := cntF_two htu hf hg (T := T) (by omega)
      split <;> omega

/-- A valid code and a word of it of which some numbers are lost. -/
def LostC (p : Int) (rows : List (List Int)) (kn : List Int) : Prop := ValidC p rows ∧ kn.length = (gr rows 0).length ∧ ∀ i, i < kn.length → -1 ≤ gi kn i ∧ gi kn i ≤ p - 1
/-- How many messages have it. -/
def cntOf (p : Int) (rows : List (List Int)) (kn : List Int) : Nat := cntF p.toNat (gr rows 0).length rows kn (p.toNat ^ rows.length)
/-- What CountMends answers. -/
def CountR (p : Int) (rows : List (List Int)) (kn : List Int) (x : Int) : Prop := (LostC p rows kn → x = cntOf p rows kn) ∧ (¬ LostC p rows kn → x = -1)
theorem CountR.unique {p : Int} {rows : List (List Int)} {kn : List Int} {a b : Int} (h : CountR p rows kn a) (h' : CountR p rows kn b) : a = b := by
  by_cases c : LostC p rows kn
  · rw [h.1 c, h'.1 c]
  · rw [h.2 c, h'.2 c]
/-- What MendWord answers. -/
def MendR (p : Int) (rows : List (List Int)) (kn : List Int) (out : List Int) (ok : Bool) : Prop :=
  ((LostC p rows kn ∧ cntOf p rows kn = 1) → ok = true ∧ ∃ t, t < p.toNat ^ rows.length ∧ fitB (wordT p.toNat (gr rows 0).length rows t) kn (gr rows 0).length = true ∧ out = msg p.toNat rows.length t) ∧
  (¬ (LostC p rows kn ∧ cntOf p rows kn = 1) → ok = false ∧ out = [])
theorem MendR.unique {p : Int} {rows : List (List Int)} {kn : List Int} {a b : List Int} {x y : Bool} (h : MendR p rows kn a x) (h' : MendR p rows kn b y) : a = b ∧ x = y := by
  by_cases c : LostC p rows kn ∧ cntOf p rows kn = 1
  · obtain ⟨h1, t, ht, hf, ha⟩ := h.1 c
    obtain ⟨k1, u, hu, hg, hb⟩ := h'.1 c
    refine ⟨?_, by rw [h1, k1]⟩
    have : t = u := by
      rcases Nat.lt_trichotomy t u with e | e | e
      · have := cntF_two e hf hg hu; have := c.2; unfold cntOf at this; omega
      · exact e
      · have := cntF_two e hg hf ht; have := c.2; unfold cntOf at this; omega
    rw [ha, hb, this]
  · rw [(h.2 c).1, (h.2 c).2, (h'.2 c).1, (h'.2 c).2]; exact ⟨rfl, rfl⟩
theorem MendR.small {p : Int} {rows : List (List Int)} {kn a : List Int} {x : Bool} (h : MendR p rows kn a x) : a.length ≤ 1048576 := by
  by_cases c : LostC p rows kn ∧ cntOf p rows kn = 1
  · obtain ⟨_, t, _, _, ha⟩ := h.1 c
    rw [ha, msg_length]; have := c.1.1.few; omega
  · rw [(h.2 c).2]; simp
end Go.Proofs.Ytgpmkbenjlhfhaa
