/- What the laws hold: lists and rows of their own, each in its own stretch of the heap. -/
import Derived.Test.YteoiaicpdmlecaaBlk
namespace Go.Proofs.Yteoiaicpdmlecaa
open Go.RowKit
set_option linter.unusedVariables false

/-- The blocks from b up to e. -/
def Iv (b e : Nat) (g : Nat) : Prop := b ≤ g ∧ g < e
/-- A list, rows, whose blocks lie from b up to e. -/
def ObI (w : World) (v : Value) (xs : List Int) (b e : Nat) : Prop := Own w 3 v (xs.map (Value.int .i64)) ∧ ∀ g, v.ownBlock = some g → b ≤ g ∧ g < e
def ObR (w : World) (v : Value) (rows : List (List Int)) (b e : Nat) : Prop :=
  ∃ vs, OwnR w 31 3 v vs rows ∧ (∀ g, v.ownBlock = some g → b ≤ g ∧ g < e) ∧ ∀ i, i < rows.length → ∀ g, (gv vs i).ownBlock = some g → b ≤ g ∧ g < e
/-- Few rows of few numbers. -/
def SmR (rows : List (List Int)) : Prop := rows.length ≤ 1048576 ∧ ∀ i, i < rows.length → (gr rows i).length ≤ 1048576

theorem ObI.new {w w' : World} {v : Value} {xs : List Int} {b e : Nat} (h : ObI w v xs b e) (hn : New w w') : ObI w' v xs b e := ⟨h.1.new hn, h.2⟩
theorem ObR.new {w w' : World} {v : Value} {rows : List (List Int)} {b e : Nat} (h : ObR w v rows b e) (hn : New w w') : ObR w' v rows b e := by
  obtain ⟨vs, h1, h2, h3⟩ := h
  exact ⟨vs, h1.new hn, h2, h3⟩
theorem ObI.chg {w w' : World} {v : Value} {xs : List Int} {b e b' e' : Nat} (h : ObI w v xs b e) (hc : Chg (Iv b' e') w w') (hd : e ≤ b' ∨ e' ≤ b) : ObI w' v xs b e :=
  ⟨h.1.chg hc (fun g hg hs => by have := h.2 g hg; unfold Iv at hs; omega), h.2⟩
theorem ObR.chg {w w' : World} {v : Value} {rows : List (List Int)} {b e b' e' : Nat} (h : ObR w v rows b e) (hc : Chg (Iv b' e') w w') (hd : e ≤ b' ∨ e' ≤ b) : ObR w' v rows b e := by
  obtain ⟨vs, h1, h2, h3⟩ := h
  exact ⟨vs, h1.chg hc (fun g hg hs => by have := h2 g hg; unfold Iv at hs; omega) (fun i hi g hg hs => by have := h3 i hi g hg; unfold Iv at hs; omega), h2, h3⟩
theorem Blk2.iv {w w' : World} {g : Nat} {a c : Value} {t : TypeId} {b e : Nat} (h : Blk2 w g a c t) (hc : Chg (Iv b e) w w') (hd : g < b ∨ e ≤ g) : Blk2 w' g a c t :=
  h.chg hc (fun hs => by unfold Iv at hs; omega)
theorem Chg.ivNew {w0 w w' : World} {b e : Nat} (h : New w0 w) (hc : Chg (Iv b e) w w') (hd : w0.heap.size ≤ b) : New w0 w' :=
  h.then hc (fun g hs => by unfold Iv at hs; omega)
theorem ObI.of {w w' : World} {v : Value} {xs : List Int} (h : Own w' 3 v (xs.map (Value.int .i64))) (hf : From w.heap.size v) : ObI w' v xs w.heap.size w'.heap.size :=
  ⟨h, fun g hg => ⟨hf g hg, h.lt hg⟩⟩
theorem ObR.of {w w' : World} {v : Value} {vs : List Value} {rows : List (List Int)} (h : OwnR w' 31 3 v vs rows) (hf : FromR w.heap.size v vs rows) : ObR w' v rows w.heap.size w'.heap.size :=
  ⟨vs, h, fun g hg => ⟨hf.1 g hg, h.outer.lt hg⟩, fun i hi g hg => ⟨hf.2 i hi g hg, (h.inner i hi).lt hg⟩⟩
theorem ObI.isI {w : World} {v : Value} {xs : List Int} {b e : Nat} (h : ObI w v xs b e) (hm : xs.length ≤ 1048576) : IsI w v xs := h.1.isI (by unfold Mid; omega)
theorem ObR.isR {w : World} {v : Value} {rows : List (List Int)} {b e : Nat} (h : ObR w v rows b e) (hm : SmR rows) : IsR w v rows := by
  obtain ⟨vs, h1, _⟩ := h
  exact h1.isR (by have := hm.1; unfold Mid; omega) (fun i hi => by have := hm.2 i hi; unfold Mid; omega)
theorem ObI.shape {w : World} {v : Value} {xs : List Int} {b e : Nat} (h : ObI w v xs b e) (hm : xs.length ≤ 1048576) : ∃ ao n cap, v = .slice ao n cap := by
  obtain ⟨ao, n, cap, h, _⟩ := (h.isI hm).shape
  exact ⟨ao, n, cap, h⟩
theorem ObR.shape {w : World} {v : Value} {rows : List (List Int)} {b e : Nat} (h : ObR w v rows b e) (hm : SmR rows) : ∃ ao n cap, v = .slice ao n cap := by
  obtain ⟨ao, n, cap, h, _⟩ := (h.isR hm).shape
  exact ⟨ao, n, cap, h⟩

theorem eqI (va vb : Value) (xs : List Int) (b e b' e' : Nat) (w : World) (hm : xs.length ≤ 1048576) (hx : ObI w va xs b e) (hy : ObI w vb xs b' e') :
    Calls Try.prog 22 #[va, vb] w fun e w' => e = .returned (.bool true) ∧ New w w' := by
  refine (eqIntS_any _ _ xs xs _ (hx.isI hm) (hy.isI hm)).mono ?_
  rintro e w' ⟨rfl, m, rfl⟩
  rw [eqL_self]
  exact ⟨rfl, New.drewN _ _⟩

theorem toI_any (v : Value) (xs : List Int) (w : World) (hx : IsI w v xs) :
    Calls Try.prog 20 #[v] w fun e w' => ∃ u, e = .returned u ∧ ObI w' u xs w.heap.size w'.heap.size ∧ New w w' := by
  refine (toIntS_any v xs w hx).mono ?_
  rintro e w' ⟨u, rfl, ho, hf, hn⟩
  exact ⟨u, rfl, ObI.of ho hf, hn⟩

/-- A list is marked. -/
theorem markI (v : Value) (xs : List Int) (k : Int) (b e : Nat) (w : World) (hm : xs.length ≤ 1048576) (hx : ObI w v xs b e) (hk : 0 ≤ k ∧ k ≤ 4503599627370496) :
    Calls Try.prog 26 #[v, .int .i64 k] w fun e' w' => ∃ M, e' = .returned (.int .i64 M) ∧ M = k + xs.length ∧ k ≤ M ∧ M ≤ k + 1099512676352 ∧ ObI w' v (markL xs.length k) b e ∧ Chg (Iv b e) w w' := by
  refine (markIntS_any v xs k w hx.1 (by unfold Mid; omega) (by omega)).mono ?_
  rintro e' w' ⟨rfl, ho, hc⟩
  exact ⟨_, rfl, rfl, by omega, by omega, ⟨ho, hx.2⟩, hc.mono (fun g _ hg => hx.2 g hg)⟩

theorem heldI (v : Value) (n : Nat) (k M : Int) (b e : Nat) (w : World) (hm : n ≤ 1048576) (hM : M = k + n) (hx : ObI w v (markL n k) b e) (hk : 0 ≤ k ∧ k ≤ 4503599627370496) :
    Calls Try.prog 27 #[v, .int .i64 k] w fun e' w' => e' = .returned (.int .i64 M) ∧ New w w' := by
  refine (heldIntS_any v n k w (hx.isI (by rw [markL_length]; exact hm)) (by omega)).mono ?_
  rintro e' w' ⟨rfl, rfl⟩
  exact ⟨by rw [hM], Chg.refl _ _⟩
end Go.Proofs.Yteoiaicpdmlecaa
