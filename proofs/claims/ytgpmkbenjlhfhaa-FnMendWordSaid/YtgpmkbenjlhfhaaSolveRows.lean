/- impl.SolveRows, impl.ValidTable. -/
import Derived.Test.YtgpmkbenjlhfhaaSolveI
import Derived.Test.YtgpmkbenjlhfhaaKnow
namespace Go.Proofs.Ytgpmkbenjlhfhaa
open Go.RowKit Mat
set_option linter.unusedVariables false

/-- A table and a goal. -/
def GoalC (p : Int) (rows : List (List Int)) (goal : List Int) : Prop := vtB p rows = true ∧ goal.length = (gr rows 0).length ∧ hasB p goal = true
/-- What SolveRows answers. -/
structure SolveQ (p : Int) (rows : List (List Int)) (goal out : List Int) (ok : Bool) : Prop where
  yes : GoalC p rows goal → ∃ (q : Nat) (_ : NeZero q), p = q ∧ SolB q rows goal out ok
  no : ¬ GoalC p rows goal → out = [] ∧ ok = false
/-- It ends with numbers of its own and an answer. -/
def GivesIB (w : World) (e : Ending) (w' : World) (Q : List Int → Bool → Prop) : Prop :=
  ∃ u out ok, e = .returned (.tuple #[u, .bool ok]) ∧ Own w' 3 u (out.map (Value.int .i64)) ∧ From w.heap.size u ∧ Q out ok ∧ New w w'
theorem givesIBno {w w' : World} {Q : List Int → Bool → Prop} (h : New w w') (hq : Q [] false) : GivesIB w (.returned (.tuple #[.slice none 0 0, .bool false])) w' Q :=
  ⟨_, [], false, rfl, Own.nil _ _, From.nil _, hq, h⟩

set_option maxRecDepth 100000 in
set_option maxHeartbeats 1000000 in
theorem implSolveRows_any (p : Int) (v vg : Value) (rows : List (List Int)) (goal : List Int) (w : World) (hr : IsR w v rows) (hg : IsI w vg goal) :
    Calls Try.prog 25 #[.int .i64 p, v, vg] w fun e w' => GivesIB w e w' (SolveQ p rows goal) := by
  have HR := Lib.hid hr
  have HG := Lib.hid hg
  obtain ⟨ao, n, cap, rfl, HN, hn⟩ := hr.shape
  obtain ⟨ag, m, cg, rfl, HM, hm⟩ := hg.shape
  clear hr hg
  go_enter Try.func25, Try.ntmps25
  go_wp2_with fail
  refine (tableOf_any _ _ _ _ HR.out).mono ?_
  rintro e w1 ⟨rfl, hn1⟩
  have H1 := Lib.hid hn1
  clear hn1
  cases hv : vtB p rows with
  | false =>
    have HV := Lib.hid hv
    clear hv
    go_wp2_with fail
    go_ret2
    exact givesIBno H1.out ⟨fun h => by (have h1 := h.1; rw [HV.out] at h1; cases h1), fun _ => ⟨rfl, rfl⟩⟩
  | true =>
    have HV := Lib.hid hv
    have hpb := vtB_pr hv
    have hp7 : -1000 ≤ p ∧ p ≤ 1000 := by have := prB_bounds hpb; omega
    obtain ⟨q, rfl, hq⟩ := prime_nat hpb
    haveI := hq.nz
    have HQ := Lib.hid hq
    have ht := vtB_ok hv
    have hn0 : 0 < n := by rw [HN.out]; exact ht.r1
    obtain ⟨b0, o0, u0, rfl, ck0, hu0⟩ := (HR.out.new H1.out).at (i := 0) hn0
    rw [Nat.add_zero] at ck0
    obtain ⟨a0, l, cc0, rfl, HL, hl⟩ := hu0.shape
    have HT := Lib.hid ht
    clear hv hpb hq ht hu0
    by_cases hml : m = l
    · subst hml
      cases hb : hasB q goal with
      | false =>
        have HB := Lib.hid hb
        clear hb
        go_wp2_with fail
        refine (has_any _ _ goal _ (HG.out.new H1.out) hp7).mono ?_
        rintro e w2 ⟨rfl, hn2⟩
        rw [HB.out]
        have H2 := Lib.hid (H1.out.trans hn2)
        clear hn2
        go_wp2_with fail
        go_ret2
        exact givesIBno H2.out ⟨fun h => by (have h1 := h.2.2; rw [HB.out] at h1; cases h1), fun _ => ⟨rfl, rfl⟩⟩
      | true =>
        have HB := Lib.hid hb
        clear hb
        go_wp2_with fail
        refine (has_any _ _ goal _ (HG.out.new H1.out) hp7).mono ?_
        rintro e w2 ⟨rfl, hn2⟩
        rw [HB.out]
        have H2 := Lib.hid (H1.out.trans hn2)
        clear hn2
        go_wp2_with fail
        have hgl : goal.length = (gr rows 0).length := by rw [← HM.out, ← HL.out]
        have hgg : GoodRow q (gr rows 0).length goal := ⟨hgl, fun i hi => by have := hasB_iff.1 HB.out i (by omega); omega⟩
        refine (implSolve_any q HQ.out _ _ _ rows goal _ (HR.out.new H2.out) (HG.out.new H2.out) HT.out.good hgg HT.out.r6 HT.out.n7).mono ?_
        rintro e w3 ⟨u, out, ok, rfl, ho, hf, hs, hn3⟩
        have HE := Lib.hid (And.intro ho (And.intro hf (And.intro hs hn3)))
        clear ho hf hs hn3
        go_wp2_with fail
        go_ret2
        exact ⟨u, out, ok, rfl, HE.out.1, (fun g hg => Nat.le_trans H2.out.size (HE.out.2.1 g hg)), ⟨fun _ => ⟨q, this, rfl, HE.out.2.2.1⟩, fun h => absurd ⟨HV.out, hgl, HB.out⟩ h⟩, H2.out.trans HE.out.2.2.2⟩
    · have hd : ((m : Int) != (l : Int)) = true := by simp; omega
      go_wp2_with fail
      go_ret2
      exact givesIBno H1.out ⟨fun h => absurd (by rw [HM.out, HL.out]; exact h.2.1) hml, fun _ => ⟨rfl, rfl⟩⟩
end Go.Proofs.Ytgpmkbenjlhfhaa
