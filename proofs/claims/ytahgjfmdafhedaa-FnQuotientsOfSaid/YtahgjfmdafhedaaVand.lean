/- Codes of powers are best. Plain. -/
import Derived.Test.YtahgjfmdafhedaaCodU
namespace Go.Proofs.Ytahgjfmdafhedaa
open Go.RowKit Mat
set_option linter.unusedVariables false

section
variable {p : Nat} [NeZero p]
/-- The power of a rest. -/
def pwF (x : Fin p) : Nat → Fin p
  | 0 => 1
  | i + 1 => pwF x i * x
/-- A polynomial with k numbers, at x. -/
def ev (c : Nat → Fin p) (k : Nat) (x : Fin p) : Fin p := sm (fun i => c i * pwF x i) k
theorem ev_front (c : Nat → Fin p) (x : Fin p) : ∀ k, ev c (k + 1) x = c 0 + x * ev (fun i => c (i + 1)) k x
  | 0 => by simp only [ev, sm, pwF]; grind
  | k + 1 => by
    have ih := ev_front c x k
    show ev c (k + 1) x + c (k + 1) * pwF x (k + 1) = _
    rw [ih]
    show c 0 + x * ev (fun i => c (i + 1)) k x + c (k + 1) * (pwF x k * x) = c 0 + x * (ev (fun i => c (i + 1)) k x + c (k + 1) * pwF x k)
    grind
/-- Division by what is 0 at r. -/
theorem ev_div (r : Fin p) : ∀ (k : Nat) (c : Nat → Fin p), ∃ d : Nat → Fin p, (∀ x, ev c (k + 1) x = (x - r) * ev d k x + ev c (k + 1) r) ∧ ((∀ i, i < k → d i = 0) → ∀ i, 1 ≤ i → i ≤ k → c i = 0)
  | 0, c => ⟨fun _ => 0, fun x => by simp only [ev, sm, pwF]; grind, fun _ i h1 h2 => by omega⟩
  | k + 1, c => by
    obtain ⟨d', h1, h2⟩ := ev_div r k (fun i => c (i + 1))
    refine ⟨fun i => match i with | 0 => ev (fun i => c (i + 1)) (k + 1) r | i + 1 => d' i, fun x => ?_, fun hd i hi1 hik => ?_⟩
    · rw [ev_front c x (k + 1), ev_front c r (k + 1), h1 x, ev_front _ x k]
      show c 0 + x * ((x - r) * ev d' k x + ev (fun i => c (i + 1)) (k + 1) r) = (x - r) * (ev (fun i => c (i + 1)) (k + 1) r + x * ev d' k x) + (c 0 + r * ev (fun i => c (i + 1)) (k + 1) r)
      grind
    · have hd' : ∀ i, i < k → d' i = 0 := fun i hi => hd (i + 1) (by omega)
      have h3 := h2 hd'
      have hE : ev (fun i => c (i + 1)) (k + 1) r = 0 := hd 0 (by omega)
      by_cases e : i = 1
      · subst e
        rw [ev_front] at hE
        have hz : ev (fun i => (fun i => c (i + 1)) (i + 1)) k r = 0 := by
          unfold ev
          refine sm_zero (fun i hi => ?_)
          have := h3 (i + 1) (by omega) (by omega)
          show c (i + 1 + 1) * _ = 0
          rw [this]; grind
        rw [hz] at hE
        have hE' : c 1 + r * 0 = 0 := hE
        grind
      · obtain ⟨j, rfl⟩ : ∃ j, i = j + 1 := ⟨i - 1, by omega⟩
        exact h3 j (by omega) (by omega)
theorem fin_mul_zero (hp : Pr p) {a b : Fin p} (h : a * b = 0) (ha : a ≠ 0) : b = 0 := by
  obtain ⟨c, hc⟩ := fin_inv hp ha
  have : c * (a * b) = 0 := by rw [h]; grind
  have h2 : (a * c) * b = 0 := by grind
  rw [hc] at h2
  grind
/-- k roots, k numbers: all are 0. -/
theorem ev_roots (hp : Pr p) : ∀ (k : Nat) (c : Nat → Fin p) (r : Nat → Fin p), (∀ i j, i < j → j < k → r i ≠ r j) → (∀ j, j < k → ev c k (r j) = 0) → ∀ i, i < k → c i = 0
  | 0, c, r, _, _, i, hi => by omega
  | k + 1, c, r, hr, h0, i, hi => by
    obtain ⟨d, h1, h2⟩ := ev_div (r k) k c
    have hk0 := h0 k (by omega)
    have hd := ev_roots hp k d r (fun i j hij hj => hr i j hij (by omega)) (fun j hj => by
      have h3 := h1 (r j)
      rw [h0 j (by omega), hk0] at h3
      have hne : r j - r k ≠ 0 := fun e => hr j k hj (by omega) (by grind)
      exact fin_mul_zero hp (by grind) hne)
    have h4 := h2 hd
    by_cases e : i = 0
    · subst e
      rw [ev_front] at hk0
      have hz : ev (fun i => c (i + 1)) k (r k) = 0 := by
        unfold ev
        refine sm_zero (fun i hi => ?_)
        show c (i + 1) * _ = 0
        rw [h4 (i + 1) (by omega) (by omega)]; grind
      rw [hz] at hk0
      grind
    · exact h4 i (by omega) (by omega)
end
end Go.Proofs.Ytahgjfmdafhedaa
