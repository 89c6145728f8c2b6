/- Words of messages, parts of lists: what the laws on codes need besides. Plain, and readings of memory. -/
import Derived.Test.YtgpmkbenjlhfhaaCodB
import Derived.Test.YtgpmkbenjlhfhaaLawE
namespace Go.Proofs.Ytgpmkbenjlhfhaa
open Go.RowKit Mat
set_option linter.unusedVariables false

/-- What a bool tells. -/
def Told (b : Bool) (P : Prop) : Prop := b = true ↔ P

/-- The first numbers of a slice. -/
theorem IsI.take {w : World} {ao : Option Addr} {n cap k : Nat} {xs : List Int} (h : IsI w (.slice ao n cap) xs) (hk : k ≤ n) : IsI w (.slice ao k cap) (xs.take k) := by
  have hl := h.len
  obtain ⟨ao', cap', e, h1, h2, hm, h3⟩ := h
  simp at e
  obtain ⟨rfl, rfl, rfl⟩ := e
  have hlen : (xs.take k).length = k := by rw [List.length_take]; omega
  refine ⟨ao, cap, by rw [hlen], ⟨by rw [hlen]; omega, h1.2⟩, h2, by rw [hlen]; unfold Mid at hm ⊢; omega, fun i hi => ?_⟩
  rw [hlen] at hi
  obtain ⟨b, o, e1, e2⟩ := h3 i (by omega)
  refine ⟨b, o, e1, ?_⟩
  rw [gi_lt (by rw [hlen]; exact hi), List.getElem_take, ← gi_lt (by omega)]
  exact e2

theorem GoodRow.hasB {q n : Nat} {x : List Int} (h : GoodRow q n x) : hasB q x = true := hasB_iff.2 (fun i hi => by have := h.2 i (by rw [← h.1]; exact hi); omega)
theorem good_of_hasB {q : Nat} {x : List Int} (h : hasB q x = true) : GoodRow q x.length x := ⟨rfl, fun i hi => by have := hasB_iff.1 h i hi; omega⟩
section
variable {q : Nat} [NeZero q]
theorem EncR.word {rows : List (List Int)} {m out : List Int} (h : EncR q rows m out) (hm : MsgC q rows m) : GoodRow q (gr rows 0).length out ∧ ∀ j, vec q out j = sm (fun i => vec q m i * mat q rows i j) rows.length := by
  have e := h.1 hm
  rw [hm.2.1] at e
  have hg := vtB_good hm.1.1
  have hp := hm.1.prime
  subst e
  exact ⟨⟨encZ_length _ _ _ _ _, fun i hi => encZ_range (by omega) _ (Nat.le_refl _) hm.1.rowsOk hi⟩, fun j => encZ_vec m hg _ (Nat.le_refl _) j⟩
/-- The message of one 1. -/
def unitL (k i : Nat) : List Int := (List.replicate k (0 : Int)).set i 1
theorem unitL_length (k i : Nat) : (unitL k i).length = k := by simp [unitL]
theorem unitL_get {k i j : Nat} (hj : j < k) : gi (unitL k i) j = if i = j then 1 else 0 := by
  unfold unitL
  rw [gi_set (by simpa using hj), gi_replicate]
omit [NeZero q] in
theorem unitL_good (hq : Pr q) (k i : Nat) : GoodRow q k (unitL k i) := ⟨unitL_length k i, fun j hj => by
  rw [unitL_get hj]
  have := hq.pos
  split <;> omega⟩
theorem enc_unit {rows : List (List Int)} {out : List Int} (hv : ValidC q rows) {i : Nat} (hi : i < rows.length) (h : EncR q rows (unitL rows.length i) out) : out = gr rows i := by
  have hq : Pr q := (vtB_ok hv.1).pr
  have hm : MsgC q rows (unitL rows.length i) := ⟨hv, unitL_length _ _, (unitL_good hq _ _).hasB⟩
  obtain ⟨h1, h2⟩ := h.word hm
  refine vec_inj h1 (vtB_good hv.1 i hi) (fun k _ => ?_)
  rw [h2, sm_single i hi (fun j hj hne => by
    have : vec q (unitL rows.length i) j = 0 := by unfold vec; rw [unitL_get hj, if_neg (fun e => hne e.symm), phi_zero]
    rw [this]; grind)]
  have : vec q (unitL rows.length i) i = 1 := by unfold vec; rw [unitL_get hi, if_pos rfl, phi_one]
  rw [this]
  show 1 * vec q (gr rows i) k = _
  grind
end
theorem gi_take {xs : List Int} {k i : Nat} (hk : k ≤ xs.length) (hi : i < k) : gi (xs.take k) i = gi xs i := by
  rw [gi_lt (by rw [List.length_take]; omega), List.getElem_take, ← gi_lt (by omega)]
theorem eqL_iff {xs ys : List Int} (hl : xs.length = ys.length) : eqL xs ys = true ↔ ∀ i, i < xs.length → gi xs i = gi ys i := by
  constructor
  · intro h i hi
    have : xs = ys := by simpa [eqL] using h
    rw [this]
  · intro h; exact eqL_yes hl h
end Go.Proofs.Ytgpmkbenjlhfhaa
