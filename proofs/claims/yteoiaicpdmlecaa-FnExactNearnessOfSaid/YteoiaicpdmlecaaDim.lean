/- Independent vectors: no more of them than of those that span. Plain. -/
import Derived.Test.YteoiaicpdmlecaaSolM
namespace Go.Proofs.Yteoiaicpdmlecaa
open Go.RowKit Mat
set_option linter.unusedVariables false

section
variable {p : Nat} [NeZero p]

/-- How many below m are picked. -/
def cntB (P : Nat → Bool) : Nat → Nat
  | 0 => 0
  | m + 1 => if P m then cntB P m + 1 else cntB P m
theorem cntB_drop {P : Nat → Bool} {m t : Nat} (ht : t < m) (hp : P t = true) : cntB P m = cntB (fun i => P i && decide (i ≠ t)) m + 1 := by
  induction m with
  | zero => omega
  | succ m ih =>
    have hsame : ∀ k, k ≤ t → cntB (fun i => P i && decide (i ≠ t)) k = cntB P k := by
      intro k
      induction k with
      | zero => intro _; rfl
      | succ k ihk =>
        intro hk
        simp only [cntB]
        rw [ihk (by omega)]
        have : decide (k ≠ t) = true := by simp; omega
        simp only [this, Bool.and_true]
    simp only [cntB]
    by_cases e : t = m
    · subst e
      rw [hsame t (Nat.le_refl _)]
      simp [hp]
    · have := ih (by omega)
      have h2 : decide (m ≠ t) = true := by simp; omega
      simp only [h2, Bool.and_true]
      split <;> omega
theorem cntB_all (m : Nat) : cntB (fun _ => true) m = m := by
  induction m with
  | zero => rfl
  | succ m ih => simp [cntB, ih]

/-- The picked ones of R are independent. -/
def IndB (R : Nat → Nat → Fin p) (P : Nat → Bool) (m : Nat) : Prop :=
  ∀ c : Nat → Fin p, (∀ k, sm (fun i => if P i then c i * R i k else 0) m = 0) → ∀ i, i < m → P i = true → c i = 0
/-- R is independent. -/
def Ind (R : Nat → Nat → Fin p) (m : Nat) : Prop := ∀ c : Nat → Fin p, (∀ k, sm (fun i => c i * R i k) m = 0) → ∀ i, i < m → c i = 0
theorem Ind.pick {R : Nat → Nat → Fin p} {m : Nat} (h : Ind R m) : IndB R (fun _ => true) m := fun c hc i hi _ => h c (fun k => by simpa using hc k) i hi
theorem RR.ind {R : Nat → Nat → Fin p} {m : Nat} {ld : Nat → Nat} (h : RR R m ld) : Ind R m := fun c hc i hi => by
  have h1 := hc (ld i)
  rw [sm_single i hi (fun j hj hne => by rw [h.unit j i hj hi, if_neg hne]; grind), h.unit i i hi hi, if_pos rfl] at h1
  grind

theorem dim_pick (hp : Pr p) : ∀ (n : Nat) {m : Nat} {R S : Nat → Nat → Fin p} {P : Nat → Bool}, (∀ i, i < m → P i = true → Span S n (R i)) → IndB R P m → cntB P m ≤ n
  | 0, m, R, S, P, hs, hi => by
    apply Classical.byContradiction
    intro hc
    have hex : ∃ i, i < m ∧ P i = true := by
      apply Classical.byContradiction
      intro hno
      apply hc
      have : ∀ k, k ≤ m → cntB P k = 0 := by
        intro k
        induction k with
        | zero => intro _; rfl
        | succ k ih =>
          intro hk
          have : P k = false := by rw [Bool.eq_false_iff]; intro h; exact hno ⟨k, by omega, h⟩
          simp [cntB, this, ih (by omega)]
      rw [this m (Nat.le_refl _)]; exact Nat.le_refl _
    obtain ⟨t, ht, hpt⟩ := hex
    have h0 : ∀ i, i < m → P i = true → ∀ k, R i k = 0 := fun i hi' hpi k => by
      obtain ⟨c, hc⟩ := hs i hi' hpi
      rw [hc k]; rfl
    have := hi (fun _ => 1) (fun k => sm_zero (fun i hi' => by
      by_cases hpi : P i = true
      · simp only [hpi, if_true]; rw [h0 i hi' hpi k]; grind
      · simp only [hpi]; rfl)) t ht hpt
    exact one_ne_zero hp.pos.1 this
  | n + 1, m, R, S, P, hs, hi => by
    -- the factors at the last spanning vector
    have hch : ∀ i, ∃ c : Nat → Fin p, i < m → P i = true → ∀ k, R i k = sm (fun j => c j * S j k) (n + 1) := fun i => by
      by_cases h : i < m ∧ P i = true
      · obtain ⟨c, hc⟩ := hs i h.1 h.2
        exact ⟨c, fun _ _ => hc⟩
      · exact ⟨fun _ => 0, fun h1 h2 => absurd ⟨h1, h2⟩ h⟩
    obtain ⟨C, hC⟩ := Classical.axiomOfChoice hch
    by_cases hex : ∃ t, t < m ∧ P t = true ∧ C t n ≠ 0
    · obtain ⟨t, ht, hpt, hct⟩ := hex
      obtain ⟨b, hb⟩ := fin_inv hp hct
      rw [cntB_drop ht hpt]
      have := dim_pick hp n (m := m) (R := fun i k => R i k - (C i n * b) * R t k) (S := S) (P := fun i => P i && decide (i ≠ t)) (fun i hi' hpi => by
        rw [Bool.and_eq_true] at hpi
        refine ⟨fun j => C i j - (C i n * b) * C t j, fun k => ?_⟩
        show R i k - _ = _
        rw [hC i hi' hpi.1 k, hC t ht hpt k]
        simp only [sm]
        have e : sm (fun j => (C i j - C i n * b * C t j) * S j k) n = sm (fun j => C i j * S j k) n + (-(C i n * b)) * sm (fun j => C t j * S j k) n := by
          rw [← sm_mul, ← sm_add]; exact sm_congr (fun j _ => by grind)
        rw [e]
        have e2 : C i n * b * (C t n * S n k) = (C t n * b) * (C i n * S n k) := by grind
        have e3 : C i n * b * (sm (fun j => C t j * S j k) n + C t n * S n k) = C i n * b * sm (fun j => C t j * S j k) n + C i n * b * (C t n * S n k) := by grind
        rw [e3, e2, hb]
        grind) (fun c hc i hi' hpi => by
        rw [Bool.and_eq_true] at hpi
        have hne : i ≠ t := by simpa using hpi.2
        obtain ⟨s, hsd⟩ : ∃ s, s = sm (fun i => if (P i && decide (i ≠ t)) = true then c i * (C i n * b) else 0) m := ⟨_, rfl⟩
        have := hi (fun j => if j = t then -s else c j) (fun k => by
          have h1 := hc k
          have e1 : sm (fun i => if (P i && decide (i ≠ t)) = true then c i * (R i k - C i n * b * R t k) else 0) m = sm (fun i => if (P i && decide (i ≠ t)) = true then c i * R i k else 0) m + (-(R t k)) * sm (fun i => if (P i && decide (i ≠ t)) = true then c i * (C i n * b) else 0) m := by
            rw [← sm_mul, ← sm_add]
            refine sm_congr (fun j _ => ?_)
            by_cases h : (P j && decide (j ≠ t)) = true
            · simp only [if_pos h]; grind
            · simp only [if_neg h]; grind
          rw [e1, ← hsd] at h1
          have e2 : sm (fun i => if P i = true then (if i = t then -s else c i) * R i k else 0) m = sm (fun i => (if (P i && decide (i ≠ t)) = true then c i * R i k else 0) + (if i = t then -s * R t k else 0)) m := by
            refine sm_congr (fun j _ => ?_)
            by_cases e : j = t
            · subst e
              have : (P j && decide (j ≠ j)) = false := by simp
              simp only [hpt, if_true]
              grind
            · have : decide (j ≠ t) = true := by simpa using e
              simp only [this, Bool.and_true, if_neg e]
              split <;> grind
          rw [e2, sm_add, sm_single (f := fun i => if i = t then -s * R t k else 0) t ht (fun j _ hne => by simp only [if_neg hne])]
          simp only [if_true]
          grind) i hi' hpi.1
        simp only [if_neg hne] at this
        exact this)
      omega
    · have := dim_pick hp n (m := m) (R := R) (S := S) (P := P) (fun i hi' hpi => ⟨C i, fun k => by
        have h0 : C i n = 0 := by
          apply Classical.byContradiction
          intro h
          exact hex ⟨i, hi', hpi, h⟩
        rw [hC i hi' hpi k]
        simp only [sm]
        rw [h0]; grind⟩) hi
      omega

/-- Independent vectors in a span: no more than the spanning ones. -/
theorem dim_le (hp : Pr p) {m n : Nat} {R S : Nat → Nat → Fin p} (hs : ∀ i, i < m → Span S n (R i)) (hi : Ind R m) : m ≤ n := by
  have := dim_pick hp n (P := fun _ => true) (fun i h _ => hs i h) hi.pick
  rwa [cntB_all] at this
end
end Go.Proofs.Yteoiaicpdmlecaa
