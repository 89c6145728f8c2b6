/- strconv.Atoi at every text: what it says of a digit. -/
import Derived.Test.YtcdbeepphdfipaaGreatDoorCut
import Derived.Lib.SmallJoins
namespace Go.Proofs.YtcdbeepphdfipaaGreatDoor
open Go.RowKit Go.Joins
set_option linter.unusedVariables false

/-- The two errors' variables hold something. -/
def ErrV (w : World) : Prop := ∀ g, g = 1 ∨ g = 2 → ∃ ev, w.cell? ⟨g, 0, none⟩ = some ev ∧ (ev = .nilIface ∨ ∃ te pe, ev = .iface te pe)
theorem ErrV.new {w w' : World} (h : ErrV w) (hn : New w w') : ErrV w' := fun g hg => by
  obtain ⟨ev, h1, h2⟩ := h g hg
  exact ⟨ev, hn.cellNew h1, h2⟩
/-- It ends with a number that is a digit's where the text is a digit, or with an error and the text is no digit. -/
def EndA (a : List UInt8) (w : World) (e : Ending) (w' : World) : Prop :=
  (∃ v : Int, e = .returned (.tuple #[.int .i64 v, .nilIface]) ∧ (∀ q : Int, 0 ≤ q → q ≤ 9 → a = [digB q] → v = q) ∧ New w w') ∨
  (∃ (v : Int) (t : TypeId) (x : Value), e = .returned (.tuple #[.int .i64 v, .iface t x]) ∧ (∀ q : Int, 0 ≤ q → q ≤ 9 → a ≠ [digB q]) ∧ New w w')

theorem atoi_any (a : List UInt8) (w : World) (ha : a.length ≤ 2000000) (hv : ErrV w) :
    Calls Tryz.prog 28 #[.string (bs a)] w fun e w' => EndA a w e w' := by
  have hs := bs_size a
  cases h : Lib.atoiAll a with
  | ok v =>
    refine (Tryz.strconv_Atoi_ok (bs a) (by omega) v (by rw [bs_list]; exact h) w).mono ?_
    rintro e w' ⟨rfl, hw⟩
    refine .inl ⟨v, rfl, fun q h0 h9 e => ?_, ?_⟩
    · rw [e, atoi_dig q h0 h9] at h
      cases h
      rfl
    · rcases hw with rfl | ⟨t, rfl⟩
      · exact Chg.refl _ _
      · exact Chg.of_below (below_bytesWorld _ _ _ _ (Nat.le_refl _))
  | «syntax» =>
    obtain ⟨ev, h1, h2⟩ := hv 1 (.inl rfl)
    refine (Tryz.strconv_Atoi_syntax (bs a) (by omega) (by rw [bs_list]; exact h) ev w h1 h2).mono ?_
    rintro e w' ⟨N, rfl, _, _, hb⟩
    exact .inr ⟨_, _, _, rfl, (fun q h0 h9 e => by rw [e, atoi_dig q h0 h9] at h; cases h), Chg.of_below hb⟩
  | range =>
    obtain ⟨ev, h1, h2⟩ := hv 2 (.inr rfl)
    refine (Tryz.strconv_Atoi_range (bs a) (by omega) (by rw [bs_list]; exact h) ev w h1 h2).mono ?_
    rintro e w' ⟨N, rfl, _, _, hb⟩
    exact .inr ⟨_, _, _, rfl, (fun q h0 h9 e => by rw [e, atoi_dig q h0 h9] at h; cases h), Chg.of_below hb⟩
end Go.Proofs.YtcdbeepphdfipaaGreatDoor
