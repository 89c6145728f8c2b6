/- The laws' helpers on codes. -/
import Derived.Test.YteoiaicpdmlecaaBlk
namespace Go.Proofs.Yteoiaicpdmlecaa
open Go.RowKit
set_option linter.unusedVariables false

theorem szCode_any (p : Int) (v : Value) (rows : List (List Int)) (left : Int) (w : World) (hx : RawR w v rows) (hl : 0 ≤ left ∧ left ≤ 1048576) :
    Calls Try.prog 14 #[.agg #[.int .i64 p, v], .int .i64 left] w fun e w' => ∃ r : Int, e = .returned (.int .i64 r) ∧ New w w' ∧ r ≤ left ∧ (r < 0 ∨ ((rows.length : Int) ≤ left ∧ ∀ i, i < rows.length → ((gr rows i).length : Int) ≤ left)) := by
  obtain ⟨ao, cap, ev, _⟩ := id hx
  obtain ⟨n, hn⟩ : ∃ n, n = rows.length := ⟨_, rfl⟩
  rw [← hn] at ev
  subst ev
  have HX := Lib.hid hx
  clear hx hn
  obtain ⟨b0, b1⟩ := box2 w 24 (.int .i64 p) (.slice ao n cap)
  have hnew : New w (w.alloc (.cells #[.int .i64 p, .slice ao n cap] 24)) := New.alloc _ _
  go_enter Try.func14, Try.ntmps14
  go_wp2_with fail
  refine (szIntSS_any _ _ _ _ (HX.out.new hnew) hl).mono ?_
  rintro e w1 ⟨r, rfl, rfl, hr1, hr2⟩
  have HR := Lib.hid hr2
  clear hr2
  by_cases hneg : r < 0
  · go_wp2_with fail
    go_ret
    exact ⟨_, rfl, hnew, by omega, .inl (by omega)⟩
  · go_wp2_with fail
    go_ret
    exact ⟨_, rfl, hnew, hr1, .inr (HR.out.resolve_left (by omega))⟩

theorem eqCode_any (p : Int) (v v' : Value) (rows : List (List Int)) (w : World) (hx : IsR w v rows) (hy : IsR w v' rows) :
    Calls Try.prog 18 #[.agg #[.int .i64 p, v], .agg #[.int .i64 p, v']] w fun e w' => e = .returned (.bool true) ∧ New w w' := by
  obtain ⟨ao, n, cap, rfl, _, hn⟩ := hx.shape
  obtain ⟨ao', n', cap', rfl, _, hn'⟩ := hy.shape
  have HX := Lib.hid hx
  have HY := Lib.hid hy
  clear hx hy
  have h1 : New w ((w.alloc (.cells #[.int .i64 p, .slice ao n cap] 27)).alloc (.cells #[.int .i64 p, .slice ao' n' cap'] 27)) := (New.alloc _ _).trans (New.alloc _ _)
  go_enter Try.func18, Try.ntmps18
  go_wp2_with fail
  refine (eqIntSS_any _ _ rows rows _ (HX.out.new h1) (HY.out.new h1)).mono ?_
  rintro e w2 ⟨rfl, m, rfl⟩
  rw [eqLL_self]
  go_wp2_with fail
  go_ret
  exact ⟨rfl, h1.trans (New.drewN _ _)⟩

set_option maxHeartbeats 1000000 in
theorem toCode_any (p : Int) (v : Value) (rows : List (List Int)) (w : World) (hx : IsR w v rows) :
    Calls Try.prog 16 #[.agg #[.int .i64 p, v]] w fun e w' => ∃ u vs, e = .returned (.agg #[.int .i64 p, u]) ∧ OwnR w' 31 3 u vs rows ∧ FromR w.heap.size u vs rows ∧ New w w' := by
  obtain ⟨ao, n, cap, rfl, HN, hn⟩ := hx.shape
  have HX := Lib.hid hx
  clear hx
  go_enter Try.func16, Try.ntmps16
  go_wp2_with fail
  obtain ⟨wa, hwa⟩ : ∃ wa : World, wa = (w.alloc (.cells #[.int .i64 p, .slice ao n cap] 24)).alloc (.cells #[.int .i64 0, .slice none 0 0] 27) := ⟨_, rfl⟩
  have hna : New w wa := by rw [hwa]; exact (New.alloc _ _).trans (New.alloc _ _)
  have hsa : wa.heap.size = w.heap.size + 1 + 1 := by rw [hwa, World.size_alloc, World.size_alloc]
  have hba : Blk2 wa (w.heap.size + 1) (.int .i64 0) (.slice none 0 0) 27 := by rw [hwa, ← World.size_alloc w (.cells #[.int .i64 p, .slice ao n cap] 24)]; exact Blk2.alloc _ _ _ _
  rw [← hwa]
  refine (toIntSS_any _ _ _ (HX.out.new (hna.trans (New.alloc _ _)))).mono ?_
  rintro e w2 ⟨u, vs, rfl, ho, hf, hn2⟩
  have hbb := (Blk2.alloc wa (.int .i64 p) (.slice none 0 0) 27).new hn2
  rw [hsa] at hbb
  have hba2 := hba.new ((New.alloc _ _).trans hn2)
  obtain ⟨ba0, ba1, fa0, fa1⟩ := hba2.cells
  obtain ⟨bb0, bb1, fb0, fb1⟩ := hbb.cells
  have HO := Lib.hid ho
  have hf' : FromR (w.heap.size + 1 + 1 + 1) u vs rows := by rw [World.size_alloc, hsa] at hf; exact hf
  have HF := Lib.hid hf'
  have HN2 := Lib.hid (hna.trans ((New.alloc _ _).trans hn2))
  obtain ⟨au, nu, cu, rfl, _, _, _⟩ := ho.outer.opened (by rw [ho.len, ← HN.out]; exact hn)
  clear ho hf hf' hn2 hba hbb hba2 hwa hna hsa
  go_wp2_with fail
  have hc0 : (((w2.setCell ⟨w.heap.size + 1 + 1, 1, none⟩ (.slice au nu cu)).setCell ⟨w.heap.size + 1, 0, none⟩ (.int .i64 p)).setCell ⟨w.heap.size + 1, 1, none⟩ (.slice au nu cu)).cell? ⟨w.heap.size + 1, 0, none⟩ = some (.int .i64 p) := by
    rw [World.cell?_setCell_other _ _ _ _ (by simp)]
    exact World.cell?_setCell_same _ _ _ (u := .int .i64 0) (by rw [World.cell?_setCell_other _ _ _ _ (by simp)]; exact ba0)
  have hc1 : (((w2.setCell ⟨w.heap.size + 1 + 1, 1, none⟩ (.slice au nu cu)).setCell ⟨w.heap.size + 1, 0, none⟩ (.int .i64 p)).setCell ⟨w.heap.size + 1, 1, none⟩ (.slice au nu cu)).cell? ⟨w.heap.size + 1, 1, none⟩ = some (.slice au nu cu) :=
    World.cell?_setCell_same _ _ _ (u := .slice none 0 0) (by rw [World.cell?_setCell_other _ _ _ _ (by simp), World.cell?_setCell_other _ _ _ _ (by simp)]; exact ba1)
  refine bodyPost_ret (v := .agg #[.int .i64 p, .slice au nu cu]) (by simp [results, go_sem, hc0, hc1]) rfl ?_
  have hc : Chg (fun k => k = w.heap.size + 1 + 1 ∨ k = w.heap.size + 1) w2 (((w2.setCell ⟨w.heap.size + 1 + 1, 1, none⟩ (.slice au nu cu)).setCell ⟨w.heap.size + 1, 0, none⟩ (.int .i64 p)).setCell ⟨w.heap.size + 1, 1, none⟩ (.slice au nu cu)) :=
    (Chg.trans (Chg.trans (Chg.setCell _ _ _) (Chg.setCell _ _ _) (U := fun k => k = w.heap.size + 1 + 1 ∨ k = w.heap.size + 1) (fun i _ h => .inl h) (fun i _ h => .inr h)) (Chg.setCell _ _ _) (fun i _ h => h) (fun i _ h => .inr h))
  have hF := HF.out
  refine ⟨_, vs, rfl, HO.out.chg hc (fun g hg => by have := hF.1 g hg; omega) (fun i hi g hg => by have := hF.2 i hi g hg; omega), ⟨fun g hg => by have := hF.1 g hg; omega, fun i hi g hg => by have := hF.2 i hi g hg; omega⟩, HN2.out.then hc (fun i hi => by omega)⟩
end Go.Proofs.Yteoiaicpdmlecaa
