/- NullsOf of both. -/
import Derived.Test.YtgpmkbenjlhfhaaNulk
namespace Go.Proofs.Ytgpmkbenjlhfhaa
open Go.RowKit Mat
set_option linter.unusedVariables false

/-- It ends with rows of its own. -/
def GivesR (w : World) (e : Ending) (w' : World) (Q : List (List Int) → Prop) : Prop :=
  ∃ u vs out, e = .returned u ∧ OwnR w' 28 3 u vs out ∧ FromR w.heap.size u vs out ∧ Q out ∧ New w w'
theorem givesRNil {w w' : World} {Q : List (List Int) → Prop} (h : New w w') (hq : Q []) : GivesR w (.returned (.slice none 0 0)) w' Q :=
  ⟨_, [], [], rfl, ⟨Own.nil _ _, rfl, fun i hi => by simp at hi, fun i j hi => by simp at hi⟩, ⟨From.nil _, fun i hi => by simp at hi⟩, hq, h⟩

/-- What NullsOf answers. -/
structure NullsQ (p : Int) (rows out : List (List Int)) : Prop where
  yes : vtB p rows = true → NulC p rows out
  no : vtB p rows = false → out = []
theorem NullsQ.unique {p : Int} {rows a b : List (List Int)} (h : NullsQ p rows a) (h' : NullsQ p rows b) : a = b := by
  cases hv : vtB p rows with
  | false => rw [h.no hv, h'.no hv]
  | true => exact (h.yes hv).unique (h'.yes hv)
theorem NullsQ.small {p : Int} {rows a : List (List Int)} (h : NullsQ p rows a) : a.length ≤ 1048576 ∧ ∀ i, i < a.length → (gr a i).length ≤ 1048576 := by
  cases hv : vtB p rows with
  | false => rw [h.no hv]; simp
  | true =>
    have := (h.yes hv).bounds
    have h7 := (vtB_iff.1 hv).2.2.1.2
    exact ⟨by omega, fun i hi => by have := this.2 i hi; omega⟩

theorem implNullsOf_any (p : Int) (v : Value) (rows : List (List Int)) (w : World) (hr : IsR w v rows) :
    Calls Try.prog 28 #[.int .i64 p, v] w fun e w' => GivesR w e w' (NullsQ p rows) := by
  have HR := Lib.hid hr
  obtain ⟨ao, n, cap, rfl, HN, hn⟩ := hr.shape
  clear hr
  cases hv : vtB p rows with
  | false =>
    have HV := Lib.hid hv
    clear hv
    go_enter Try.func28, Try.ntmps28
    go_wp2_with fail
    refine (tableOf_any _ _ _ _ HR.out).mono ?_
    rintro e w1 ⟨rfl, hn1⟩
    rw [HV.out]
    go_wp2_with fail
    go_ret
    exact givesRNil hn1 ⟨(fun h => by have h2 := HV.out; rw [h2] at h; cases h), fun _ => rfl⟩
  | true =>
    have HV := Lib.hid hv
    obtain ⟨q, rfl, hq⟩ := prime_nat (vtB_pr hv)
    haveI := hq.nz
    clear hv hq
    go_enter Try.func28, Try.ntmps28
    go_wp2_with fail
    refine (tableOf_any _ _ _ _ HR.out).mono ?_
    rintro e w1 ⟨rfl, hn1⟩
    rw [HV.out]
    go_wp2_with fail
    refine (implNulls_c q _ _ rows _ (HR.out.new hn1) (vtB_ok HV.out)).mono ?_
    rintro e w2 ⟨u, vs, out, rfl, hnul, ho, hf, hn2⟩
    have HK := Lib.hid (And.intro ho (And.intro hf hnul))
    clear ho hf hnul
    go_wp2_with fail
    go_ret
    exact ⟨_, vs, out, rfl, HK.out.1, ⟨HK.out.2.1.1.mono hn1.size, fun i hi => (HK.out.2.1.2 i hi).mono hn1.size⟩, ⟨fun _ => HK.out.2.2, (fun h => by have h2 := HV.out; rw [h2] at h; cases h)⟩, hn1.trans hn2⟩

end Go.Proofs.Ytgpmkbenjlhfhaa
