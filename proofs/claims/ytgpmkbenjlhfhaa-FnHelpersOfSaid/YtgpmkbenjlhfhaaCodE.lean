/- Words and checks, words and factors. Plain. -/
import Derived.Test.YtgpmkbenjlhfhaaCodD
import Derived.Test.YtgpmkbenjlhfhaaSolveRows
namespace Go.Proofs.Ytgpmkbenjlhfhaa
open Go.RowKit Mat
set_option linter.unusedVariables false

theorem TabOk.goal {q n : Nat} {rows : List (List Int)} {x : List Int} (h : TabOk q n rows) (hx : GoodRow q n x) : GoalC q rows x := ⟨h.vtB, by rw [h.cols]; exact hx.1, hx.hasB⟩
section
variable {q : Nat} [NeZero q]
/-- An independent row is no sum of those ahead. -/
theorem Ind.no_span (hq : Pr q) {R : Nat → Nat → Fin q} {m i : Nat} (h : Ind R m) (hi : i < m) : ¬ Span R i (R i) := by
  rintro ⟨c, hc⟩
  have h2 := h (fun j => if j < i then c j else if j = i then -1 else 0) (fun k => by
    rw [sm_cut (i := i + 1) (by omega) (fun j h1 h2 => by
      show (if j < i then c j else if j = i then -1 else 0) * R j k = 0
      rw [if_neg (by omega), if_neg (by omega)]; grind)]
    simp only [sm]
    rw [sm_congr (g := fun j => c j * R j k) (fun j hj => by simp only [if_pos hj]), ← hc k]
    simp only [Nat.lt_irrefl, if_false, if_true]
    grind) i hi
  simp only [Nat.lt_irrefl, if_false, if_true] at h2
  exact one_ne_zero hq.pos.1 (by grind)
omit [NeZero q] in
theorem MsgC.good {rows : List (List Int)} {m : List Int} (h : MsgC q rows m) : GoodRow q rows.length m := by
  have h2 := good_of_hasB h.2.2
  rw [h.2.1] at h2; exact h2
/-- A word is orthogonal to all checks. -/
theorem word_null {rows checks : List (List Int)} {m out : List Int} (hm : MsgC q rows m) (h : EncR q rows m out) (hc : NulC q rows checks) {i : Nat} (hi : i < checks.length) : dotTo q (gr checks i) out (gr rows 0).length = 0 := by
  have ht := vtB_ok hm.1.1
  obtain ⟨a, hra, rfl⟩ := hc.at ht
  rw [dotTo_zero]
  exact dt_span (R := mat q rows) (n := rows.length) ⟨vec q m, (h.word hm).2⟩ (fun k hk => nulls_orth ht.pr hra hi hk)
/-- The factors of a word are its message. -/
theorem word_sol {rows : List (List Int)} {m out : List Int} (hm : MsgC q rows m) (h : EncR q rows m out) : SolR q rows out (some m) :=
  ⟨hm.good, (h.word hm).2, fun i hi hs => absurd hs (hm.1.ind.no_span (vtB_ok hm.1.1).pr hi)⟩
theorem word_goal {rows : List (List Int)} {m out : List Int} (hm : MsgC q rows m) (h : EncR q rows m out) : GoalC q rows out := ⟨hm.1.1, (h.word hm).1.1, (h.word hm).1.hasB⟩
theorem word_back {rows : List (List Int)} {m out back : List Int} {ok : Bool} (hm : MsgC q rows m) (h : EncR q rows m out) (hs : SolB q rows out back ok) : ok = true ∧ back = m := by
  have h1 := word_sol hm h
  cases ok with
  | true =>
    have h2 := SolR.unique (vtB_ok hm.1.1).pr (hs.1 rfl) h1
    exact ⟨rfl, Option.some.inj h2⟩
  | false => exact absurd h1.spans (hs.2 rfl).2
end
end Go.Proofs.Ytgpmkbenjlhfhaa
