/- What the laws hold: codes. -/
import Derived.Test.YteoiaicpdmlecaaObR
import Derived.Test.YteoiaicpdmlecaaCode
namespace Go.Proofs.Yteoiaicpdmlecaa
open Go.RowKit
set_option linter.unusedVariables false

theorem eqC (p : Int) (va vb : Value) (rows : List (List Int)) (b e b' e' : Nat) (w : World) (hm : SmR rows) (hx : ObR w va rows b e) (hy : ObR w vb rows b' e') :
    Calls Try.prog 18 #[.agg #[.int .i64 p, va], .agg #[.int .i64 p, vb]] w fun e w' => e = .returned (.bool true) ∧ New w w' :=
  eqCode_any p _ _ rows _ (hx.isR hm) (hy.isR hm)

theorem toC_any (p : Int) (v : Value) (rows : List (List Int)) (w : World) (hx : IsR w v rows) :
    Calls Try.prog 16 #[.agg #[.int .i64 p, v]] w fun e w' => ∃ u, e = .returned (.agg #[.int .i64 p, u]) ∧ ObR w' u rows w.heap.size w'.heap.size ∧ New w w' := by
  refine (toCode_any p v rows w hx).mono ?_
  rintro e w' ⟨u, vs, rfl, ho, hf, hn⟩
  exact ⟨u, rfl, ObR.of ho hf, hn⟩

/-- A code is marked. -/
theorem markC (p : Int) (v : Value) (rows : List (List Int)) (k : Int) (b e : Nat) (w : World) (hm : SmR rows) (hx : ObR w v rows b e) (hk : 0 ≤ k ∧ k ≤ 4503599627370496) :
    Calls Try.prog 25 #[.agg #[.int .i64 p, v], .int .i64 k] w fun e' w' => ∃ M, e' = .returned (.int .i64 M) ∧ M = k + offR rows rows.length ∧ k ≤ M ∧ M ≤ k + 1099512676352 ∧ ObR w' v (mkR rows k rows.length) b e ∧ Chg (Iv b e) w w' := by
  obtain ⟨ao, n, cap, rfl⟩ := hx.shape hm
  have HX := Lib.hid hx
  clear hx
  have h1 : New w (w.alloc (.cells #[.int .i64 p, .slice ao n cap] 27)) := New.alloc _ _
  go_enter Try.func25, Try.ntmps25
  go_wp2_with fail
  refine (markR _ rows k b e _ hm (HX.out.new h1) hk).mono ?_
  rintro e' w' ⟨M, rfl, hM, h2, h3, ho, hc⟩
  have HO := Lib.hid (And.intro ho (Chg.trans h1 hc (U := Iv b e) (fun _ _ x => x.elim) (fun _ _ x => x)))
  have HM := Lib.hid hM
  clear ho hc hM
  go_wp2_with fail
  go_ret
  exact ⟨M, rfl, HM.out, h2, h3, HO.out.1, HO.out.2⟩
end Go.Proofs.Yteoiaicpdmlecaa
