/- The generators of schemes; impl.ValidScheme and impl.DoesKnow. -/
import Derived.Test.YtahgjfmdafhedaaSchE
import Derived.Test.YtahgjfmdafhedaaSchG
import Derived.Test.YtahgjfmdafhedaaGens
namespace Go.Proofs.Ytahgjfmdafhedaa
open Go.RowKit Mat
set_option linter.unusedVariables false

theorem RawB.newS {w w' : World} {v : Value} {n : Nat} (h : RawB w v n) (hc : New w w') : RawB w' v n := by
  obtain ⟨ao, cap, e, h1, h2, h3⟩ := h
  refine ⟨ao, cap, e, h1, h2, fun i hi => ?_⟩
  obtain ⟨b, o, x, hb, rfl, hcell, hx⟩ := h3 i hi
  exact ⟨b, o, x, Nat.lt_of_lt_of_le hb hc.size, rfl, hc.cellNew hcell, hx⟩
/-- It ends with a scheme, that may be invalid. -/
def DrawsS (w : World) (e : Ending) (w' : World) : Prop :=
  ∃ (p : Int) (a : Option Addr) (l c : Nat) (a' : Option Addr) (l' c' : Nat) (rows : List (List Int)) (own : List Int), e = .returned (.agg #[.int .i64 p, .slice a l c, .slice a' l' c']) ∧ IsR w' (.slice a l c) rows ∧ IsI w' (.slice a' l' c') own ∧ ((1 ≤ rows.length ∧ rows.length ≤ 8) ∧ ∀ i, i < rows.length → 1 ≤ (gr rows i).length ∧ (gr rows i).length ≤ 8) ∧ own.length ≤ 10 ∧ (0 ≤ p ∧ p ≤ 7) ∧ New w w'

theorem groupOk_any (g : Int) (w : World) : Calls Try.prog 71 #[.int .i64 g] w fun e w' => e = .returned (.bool (inB g 0 31)) ∧ w = w' := by
  go_enter Try.func71, Try.ntmps71
  go_wp2_with fail
  refine (within_any _ _ _ _).mono ?_
  rintro e w'' ⟨rfl, rfl⟩
  go_wp2_with fail
  go_ret
  exact ⟨rfl, rfl⟩

/-- Of a valid scheme, and of a group. -/
theorem doesKnow_valid (q : Nat) [NeZero q] (v o : Value) (rows : List (List Int)) (own : List Int) (s : Nat) (w : World) (hr : IsR w v rows) (ho : IsI w o own) (hv : ValidS q rows own) (hs : s < 32) :
    Calls Try.prog 22 #[.agg #[.int .i64 q, v, o], .int .i64 s] w fun e w' => TellsB w e w' (KnowsQ q (gr rows 0).length rows own s) := by
  obtain ⟨ao, n, cap, rfl, HN, hn⟩ := hr.shape
  obtain ⟨ay, m, cay, rfl, HM, hm⟩ := ho.shape
  have h1 : New w (w.alloc (.cells #[.int .i64 q, .slice ao n cap, .slice ay m cay] 38)) := New.alloc _ _
  have b1 := Blk3.alloc w (.int .i64 q) (.slice ao n cap) (.slice ay m cay) 38
  have HR := Lib.hid hr
  have HO := Lib.hid ho
  have HV := Lib.hid hv
  clear hr ho hv
  go_enter Try.func22, Try.ntmps22
  go_wp2_with fail
  refine (schKnown_any q _ _ rows own _ (HR.out.new h1) (HO.out.new h1)).mono ?_
  rintro e w2 ⟨⟨b, rfl, hb⟩, hn2⟩
  obtain rfl : b = true := hb.2 HV.out
  have H2 := Lib.hid (And.intro (h1.trans hn2) (b1.new hn2))
  clear hb hn2 h1 b1
  obtain ⟨c0, c1, c2, _, _, _⟩ := H2.out.2.cells
  go_wp2_with (go_at_call 71; refine (groupOk_any _ _).mono ?_; rintro e w' ⟨rfl, rfl⟩; rw [inB_iff.2 (show (0 : Int) ≤ (s : Int) ∧ (s : Int) ≤ 31 by omega)])
  refine (implKnows_any q (gr rows 0).length _ _ rows own s _ (HR.out.new H2.out.1) (HO.out.new H2.out.1) (vtB_ok HV.out.1) HV.out.2 hs).mono ?_
  rintro e w3 ⟨b, rfl, hb, hn3⟩
  have H3 := Lib.hid (And.intro hb (H2.out.1.trans hn3))
  clear hb hn3
  go_wp2_with fail
  go_ret
  exact ⟨b, rfl, H3.out.1, H3.out.2⟩
end Go.Proofs.Ytahgjfmdafhedaa
