/- What the laws hold: rows. -/
import Derived.Test.YteoiaicpdmlecaaOb
namespace Go.Proofs.Yteoiaicpdmlecaa
open Go.RowKit
set_option linter.unusedVariables false

theorem eqR (va vb : Value) (rows : List (List Int)) (b e b' e' : Nat) (w : World) (hm : SmR rows) (hx : ObR w va rows b e) (hy : ObR w vb rows b' e') :
    Calls Try.prog 40 #[va, vb] w fun e w' => e = .returned (.bool true) ∧ New w w' := by
  refine (eqIntSS_any _ _ rows rows _ (hx.isR hm) (hy.isR hm)).mono ?_
  rintro e w' ⟨rfl, m, rfl⟩
  rw [eqLL_self]
  exact ⟨rfl, New.drewN _ _⟩

theorem toR_any (v : Value) (rows : List (List Int)) (w : World) (hx : IsR w v rows) :
    Calls Try.prog 38 #[v] w fun e w' => ∃ u, e = .returned u ∧ ObR w' u rows w.heap.size w'.heap.size ∧ New w w' := by
  refine (toIntSS_any v rows w hx).mono ?_
  rintro e w' ⟨u, vs, rfl, ho, hf, hn⟩
  exact ⟨u, rfl, ObR.of ho hf, hn⟩

theorem offR_small {rows : List (List Int)} (h : SmR rows) : 0 ≤ offR rows rows.length ∧ offR rows rows.length ≤ 1099511627776 := by
  have := offR_bounds rows 1048576 (by omega) (fun i hi => by have := h.2 i hi; omega) rows.length (Nat.le_refl _)
  have := h.1
  omega

theorem SmR.mk' {rows : List (List Int)} (h : SmR rows) (k : Int) (j : Nat) : SmR (mkR rows k j) :=
  ⟨by rw [mkR_length]; exact h.1, fun i hi => by
    rw [mkR_length] at hi
    rw [mkR_get _ _ _ hi]
    split
    · rw [markL_length]; exact h.2 i hi
    · exact h.2 i hi⟩

/-- Rows are marked. -/
theorem markR (v : Value) (rows : List (List Int)) (k : Int) (b e : Nat) (w : World) (hm : SmR rows) (hx : ObR w v rows b e) (hk : 0 ≤ k ∧ k ≤ 4503599627370496) :
    Calls Try.prog 41 #[v, .int .i64 k] w fun e' w' => ∃ M, e' = .returned (.int .i64 M) ∧ M = k + offR rows rows.length ∧ k ≤ M ∧ M ≤ k + 1099512676352 ∧ ObR w' v (mkR rows k rows.length) b e ∧ Chg (Iv b e) w w' := by
  obtain ⟨vs, h1, h2, h3⟩ := hx
  have hs := offR_small hm
  refine (markIntSS_any v vs rows k w h1 hm.1 hm.2 hk).mono ?_
  rintro e' w' ⟨rfl, ho, hc⟩
  exact ⟨_, rfl, rfl, by omega, by omega, ⟨vs, ho, h2, fun i hi => h3 i (by rw [mkR_length] at hi; exact hi)⟩, hc.mono (fun g _ ⟨i, hi, hg⟩ => h3 i hi g hg)⟩

theorem heldR (v : Value) (rows : List (List Int)) (k M : Int) (b e : Nat) (w : World) (hm : SmR rows) (hM : M = k + offR rows rows.length) (hx : ObR w v (mkR rows k rows.length) b e) (hk : 0 ≤ k ∧ k ≤ 4503599627370496) :
    Calls Try.prog 42 #[v, .int .i64 k] w fun e' w' => e' = .returned (.int .i64 M) ∧ New w w' := by
  refine (heldIntSS_any v rows k w (hx.isR (hm.mk' _ _)) hm.1 hm.2 hk).mono ?_
  rintro e' w' ⟨rfl, rfl⟩
  exact ⟨by rw [hM], Chg.refl _ _⟩
end Go.Proofs.Yteoiaicpdmlecaa
