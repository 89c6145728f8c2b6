/- What the laws hold: schemes. -/
import Derived.Test.YtaaajekibfaoeaaLawK
import Derived.Test.YtaaajekibfaoeaaSchA
namespace Go.Proofs.Ytaaajekibfaoeaa
open Go.RowKit
set_option linter.unusedVariables false

/-- A scheme whose blocks lie from b up to e: those of the rows ahead of those of the owners. -/
def ObS (w : World) (u o : Value) (rows : List (List Int)) (own : List Int) (b e : Nat) : Prop := ∃ m, (b ≤ m ∧ m ≤ e) ∧ ObR w u rows b m ∧ ObI w o own m e
theorem ObS.new {w w' : World} {u o : Value} {rows : List (List Int)} {own : List Int} {b e : Nat} (h : ObS w u o rows own b e) (hn : New w w') : ObS w' u o rows own b e := by
  obtain ⟨m, hm, h1, h2⟩ := h
  exact ⟨m, hm, h1.new hn, h2.new hn⟩
theorem ObS.chg {w w' : World} {u o : Value} {rows : List (List Int)} {own : List Int} {b e b' e' : Nat} (h : ObS w u o rows own b e) (hc : Chg (Iv b' e') w w') (hd : e ≤ b' ∨ e' ≤ b) : ObS w' u o rows own b e := by
  obtain ⟨m, hm, h1, h2⟩ := h
  exact ⟨m, hm, h1.chg hc (by omega), h2.chg hc (by omega)⟩
theorem ObS.isR {w : World} {u o : Value} {rows : List (List Int)} {own : List Int} {b e : Nat} (h : ObS w u o rows own b e) (hm : SmR rows) : IsR w u rows := by
  obtain ⟨m, _, h1, _⟩ := h
  exact h1.isR hm
theorem ObS.isI {w : World} {u o : Value} {rows : List (List Int)} {own : List Int} {b e : Nat} (h : ObS w u o rows own b e) (hm : own.length ≤ 1048576) : IsI w o own := by
  obtain ⟨m, _, _, h2⟩ := h
  exact h2.isI hm
theorem ObS.shape {w : World} {u o : Value} {rows : List (List Int)} {own : List Int} {b e : Nat} (h : ObS w u o rows own b e) (hm : SmR rows) (hm2 : own.length ≤ 1048576) : (∃ ao n cap, u = .slice ao n cap) ∧ ∃ ao n cap, o = .slice ao n cap := by
  obtain ⟨m, _, h1, h2⟩ := h
  exact ⟨h1.shape hm, h2.shape hm2⟩
theorem Blk3.iv {w w' : World} {g : Nat} {a c d : Value} {t : TypeId} {b e : Nat} (h : Blk3 w g a c d t) (hc : Chg (Iv b e) w w') (hd : g < b ∨ e ≤ g) : Blk3 w' g a c d t :=
  h.chg hc (fun hs => by unfold Iv at hs; omega)

theorem szS_any (p : Int) (v o : Value) (rows : List (List Int)) (own : List Int) (left : Int) (w : World) (hx : RawR w v rows) (hy : RawI w o own) (hl : 0 ≤ left ∧ left ≤ 1048576) :
    Calls Try.prog 36 #[.agg #[.int .i64 p, v, o], .int .i64 left] w fun e w' => ∃ r : Int, e = .returned (.int .i64 r) ∧ New w w' ∧ r ≤ left ∧ (r < 0 ∨ ((rows.length : Int) ≤ left ∧ (∀ i, i < rows.length → ((gr rows i).length : Int) ≤ left) ∧ (own.length : Int) ≤ left)) := by
  obtain ⟨ao, cap, ev, _⟩ := id hx
  obtain ⟨ay, cay, ey, _⟩ := id hy
  obtain ⟨n, hn⟩ : ∃ n, n = rows.length := ⟨_, rfl⟩
  obtain ⟨m, hm⟩ : ∃ n, n = own.length := ⟨_, rfl⟩
  rw [← hn] at ev
  rw [← hm] at ey
  subst ev ey
  have HX := Lib.hid hx
  have HY := Lib.hid hy
  clear hx hn hy hm
  obtain ⟨b0, b1, b2, _, _, _⟩ := (Blk3.alloc w (.int .i64 p) (.slice ao n cap) (.slice ay m cay) 50).cells
  have hnew : New w (w.alloc (.cells #[.int .i64 p, .slice ao n cap, .slice ay m cay] 50)) := New.alloc _ _
  go_enter Try.func36, Try.ntmps36
  go_wp2_with fail
  refine (szIntSS_any _ rows _ _ (HX.out.new hnew) hl).mono ?_
  rintro e w1 ⟨r, rfl, rfl, hr1, hr2⟩
  have HR := Lib.hid hr2
  clear hr2
  by_cases hneg : r < 0
  · go_wp2_with fail
    go_ret
    exact ⟨_, rfl, hnew, by omega, .inl (by omega)⟩
  · go_wp2_with fail
    refine (szIntS_any _ own _ _ (HY.out.new hnew) (by omega)).mono ?_
    rintro e w1 ⟨r2, rfl, rfl, hr3, hr4⟩
    have HR4 := Lib.hid hr4
    clear hr4
    by_cases hneg2 : r2 < 0
    · go_wp2_with fail
      go_ret
      exact ⟨_, rfl, hnew, by omega, .inl (by omega)⟩
    · go_wp2_with fail
      go_ret
      have h4 := HR4.out.resolve_left (by omega)
      have h5 := HR.out.resolve_left (by omega)
      exact ⟨_, rfl, hnew, by omega, .inr ⟨h5.1, h5.2, by omega⟩⟩

theorem eqS (p : Int) (v o v' o' : Value) (rows : List (List Int)) (own : List Int) (b e b' e' : Nat) (w : World) (hm : SmR rows) (hm2 : own.length ≤ 1048576) (hx : ObS w v o rows own b e) (hy : ObS w v' o' rows own b' e') :
    Calls Try.prog 39 #[.agg #[.int .i64 p, v, o], .agg #[.int .i64 p, v', o']] w fun e w' => e = .returned (.bool true) ∧ New w w' := by
  obtain ⟨⟨ao, n, cap, rfl⟩, ⟨ay, m, cay, rfl⟩⟩ := hx.shape hm hm2
  obtain ⟨⟨ao', n', cap', rfl⟩, ⟨ay', m', cay', rfl⟩⟩ := hy.shape hm hm2
  have HX := Lib.hid (And.intro (hx.isR hm) (hx.isI hm2))
  have HY := Lib.hid (And.intro (hy.isR hm) (hy.isI hm2))
  clear hx hy
  have h1 : New w ((w.alloc (.cells #[.int .i64 p, .slice ao n cap, .slice ay m cay] 43)).alloc (.cells #[.int .i64 p, .slice ao' n' cap', .slice ay' m' cay'] 43)) := (New.alloc _ _).trans (New.alloc _ _)
  have k1 := (Blk3.alloc w (.int .i64 p) (.slice ao n cap) (.slice ay m cay) 43).new (New.alloc _ (.cells #[.int .i64 p, .slice ao' n' cap', .slice ay' m' cay'] 43))
  have k2 := Blk3.alloc (w.alloc (.cells #[.int .i64 p, .slice ao n cap, .slice ay m cay] 43)) (.int .i64 p) (.slice ao' n' cap') (.slice ay' m' cay') 43
  rw [World.size_alloc] at k2
  go_enter Try.func39, Try.ntmps39
  go_wp2_with fail
  refine (eqIntSS_any _ _ rows rows _ (HX.out.1.new h1) (HY.out.1.new h1)).mono ?_
  rintro e w2 ⟨rfl, m, rfl⟩
  rw [eqLL_self]
  obtain ⟨a0, a1, a2, _, _, _⟩ := (k1.new (New.drewN _ m)).cells
  obtain ⟨c0, c1, c2, _, _, _⟩ := (k2.new (New.drewN _ m)).cells
  have h2 := h1.trans (New.drewN _ m)
  clear k1 k2
  go_wp2_with fail
  refine (eqIntS_any _ _ own own _ (HX.out.2.new h2) (HY.out.2.new h2)).mono ?_
  rintro e w2 ⟨rfl, m, rfl⟩
  rw [eqL_self]
  go_wp2_with fail
  go_ret
  exact ⟨rfl, h1.trans (New.drewN _ _)⟩

/-- A scheme is marked. -/
theorem markS (p : Int) (v o : Value) (rows : List (List Int)) (own : List Int) (k : Int) (b e : Nat) (w : World) (hm : SmR rows) (hm2 : own.length ≤ 1048576) (hx : ObS w v o rows own b e) (hk : 0 ≤ k ∧ k ≤ 1125899906842624) (he : e ≤ w.heap.size) :
    Calls Try.prog 40 #[.agg #[.int .i64 p, v, o], .int .i64 k] w fun e' w' => ∃ M, e' = .returned (.int .i64 M) ∧ True ∧ k ≤ M ∧ M ≤ k + 2199025352704 ∧ True ∧ Chg (Iv b e) w w' := by
  obtain ⟨⟨ao, n, cap, rfl⟩, ⟨ay, m, cay, rfl⟩⟩ := hx.shape hm hm2
  obtain ⟨mid, hmid, hx1, hx2⟩ := hx
  have h1 : New w (w.alloc (.cells #[.int .i64 p, .slice ao n cap, .slice ay m cay] 43)) := New.alloc _ _
  have k1 := Blk3.alloc w (.int .i64 p) (.slice ao n cap) (.slice ay m cay) 43
  obtain ⟨a0, a1, a2, _, _, _⟩ := k1.cells
  have HX := Lib.hid (And.intro (hx1.new h1) (And.intro (hx2.new h1) (And.intro h1 k1)))
  clear hx1 hx2 k1 h1
  go_enter Try.func40, Try.ntmps40
  go_wp2_with fail
  refine (markR _ rows k b mid _ hm HX.out.1 (by omega)).mono ?_
  rintro e' w2 ⟨M, rfl, hM, h2, h3, ho, hc⟩
  have HC := Lib.hid (And.intro ho hc)
  obtain ⟨c0, c1, c2, _, _, _⟩ := (HX.out.2.2.2.iv hc (by omega)).cells
  clear a0 a1 a2 ho hc hM
  go_wp2_with fail
  refine (markI _ own M mid e _ hm2 (HX.out.2.1.chg HC.out.2 (by omega)) (by omega)).mono ?_
  rintro e' w3 ⟨M2, rfl, hM2, h4, h5, ho2, hc2⟩
  have HC2 := Lib.hid hc2
  clear ho2 hc2 hM2
  go_wp2_with fail
  go_ret
  refine ⟨M2, rfl, trivial, by omega, by omega, trivial, ?_⟩
  exact Chg.trans (Chg.trans HX.out.2.2.1 HC.out.2 (U := Iv b e) (fun _ _ x => x.elim) (fun g _ x => ⟨x.1, by have := x.2; omega⟩)) HC2.out (fun _ _ x => x) (fun g _ x => ⟨by have := x.1; omega, x.2⟩)

theorem toS_any (p : Int) (v o : Value) (rows : List (List Int)) (own : List Int) (w : World) (hx : IsR w v rows) (hy : IsI w o own) :
    Calls Try.prog 37 #[.agg #[.int .i64 p, v, o]] w fun e w' => ∃ u t, e = .returned (.agg #[.int .i64 p, u, t]) ∧ ObS w' u t rows own w.heap.size w'.heap.size ∧ New w w' := by
  obtain ⟨ao, n, cap, rfl, HN, hn⟩ := hx.shape
  obtain ⟨ay, m, cay, rfl, HM, hm⟩ := hy.shape
  have HX := Lib.hid hx
  have HY := Lib.hid hy
  clear hx hy
  go_enter Try.func37, Try.ntmps37
  go_wp2_with fail
  obtain ⟨w3, hw3⟩ : ∃ w3 : World, w3 = ((w.alloc (.cells #[.int .i64 p, .slice ao n cap, .slice ay m cay] 50)).alloc (.cells #[.int .i64 0, .slice none 0 0, .slice none 0 0] 43)).alloc (.cells #[.int .i64 p, .slice none 0 0, .slice none 0 0] 43) := ⟨_, rfl⟩
  have hn3 : New w w3 := by rw [hw3]; exact ((New.alloc _ _).trans (New.alloc _ _)).trans (New.alloc _ _)
  have hs3 : w3.heap.size = w.heap.size + 1 + 1 + 1 := by rw [hw3, World.size_alloc, World.size_alloc, World.size_alloc]
  have k1 : Blk3 w3 w.heap.size (.int .i64 p) (.slice ao n cap) (.slice ay m cay) 50 := by rw [hw3]; exact ((Blk3.alloc _ _ _ _ _).new (New.alloc _ _)).new (New.alloc _ _)
  have k2 : Blk3 w3 (w.heap.size + 1) (.int .i64 0) (.slice none 0 0) (.slice none 0 0) 43 := by
    have := (Blk3.alloc (w.alloc (.cells #[.int .i64 p, .slice ao n cap, .slice ay m cay] 50)) (.int .i64 0) (.slice none 0 0) (.slice none 0 0) 43).new (New.alloc _ (.cells #[.int .i64 p, .slice none 0 0, .slice none 0 0] 43))
    rw [World.size_alloc] at this
    rw [hw3]; exact this
  have k3 : Blk3 w3 (w.heap.size + 1 + 1) (.int .i64 p) (.slice none 0 0) (.slice none 0 0) 43 := by
    have := Blk3.alloc ((w.alloc (.cells #[.int .i64 p, .slice ao n cap, .slice ay m cay] 50)).alloc (.cells #[.int .i64 0, .slice none 0 0, .slice none 0 0] 43)) (.int .i64 p) (.slice none 0 0) (.slice none 0 0) 43
    rw [World.size_alloc, World.size_alloc] at this
    rw [hw3]; exact this
  rw [← hw3]
  have H3 := Lib.hid (And.intro hn3 (And.intro k1 (And.intro k2 k3)))
  clear hw3 hn3 k1 k2 k3
  refine (toR_any _ rows _ (HX.out.new H3.out.1)).mono ?_
  rintro e w4 ⟨u, rfl, hob, hn4⟩
  obtain ⟨au, nu, cu, rfl⟩ : ∃ au nu cu, u = .slice au nu cu := by
    obtain ⟨vs, h1, _⟩ := id hob
    obtain ⟨au, cu, e, _⟩ := h1.outer.shape'
    exact ⟨au, _, cu, e⟩
  have hs4 : w.heap.size + 1 + 1 + 1 ≤ w4.heap.size := by have := hn4.size; omega
  obtain ⟨c0, c1, c2, f0, f1, f2⟩ := (H3.out.2.2.2.new hn4).cells
  obtain ⟨d0, d1, d2, _, _, _⟩ := (H3.out.2.1.new hn4).cells
  have hsc : Chg (· = w.heap.size + 1 + 1) w4 (w4.setCell ⟨w.heap.size + 1 + 1, 1, none⟩ (.slice au nu cu)) := Chg.setCell w4 ⟨w.heap.size + 1 + 1, 1, none⟩ _
  rw [hs3] at hob
  have hob5 : ObR (w4.setCell ⟨w.heap.size + 1 + 1, 1, none⟩ (.slice au nu cu)) (.slice au nu cu) rows (w.heap.size + 1 + 1 + 1) w4.heap.size := hob.chg (b' := w.heap.size + 1 + 1) (e' := w.heap.size + 1 + 1 + 1) (hsc.mono (fun g _ h => by have h9 : g = w.heap.size + 1 + 1 := h; exact ⟨by omega, by omega⟩)) (by omega)
  have hn5 : New w (w4.setCell ⟨w.heap.size + 1 + 1, 1, none⟩ (.slice au nu cu)) := (H3.out.1.trans hn4).then hsc (fun g h => by omega)
  have k4 : Blk3 w4 _ _ _ _ _ := H3.out.2.2.2.new hn4
  have k5 := k4.set1 (.slice au nu cu)
  have j5 := (H3.out.2.2.1.new hn4).chg hsc (fun h => by have h9 : w.heap.size + 1 = w.heap.size + 1 + 1 := h; omega)
  clear k4
  go_wp2_with fail
  obtain ⟨w5, hw5⟩ : ∃ w5 : World, w5 = w4.setCell ⟨w.heap.size + 1 + 1, 1, none⟩ (.slice au nu cu) := ⟨_, rfl⟩
  have hs5 : w5.heap.size = w4.heap.size := by rw [hw5]; simp
  rw [← hw5] at hob5 hn5 k5 j5
  rw [← hw5]
  have H5 := Lib.hid (And.intro hob5 (And.intro hn5 (And.intro k5 j5)))
  clear hw5 hob5 hn5 k5 j5 hsc hob hn4 c0 c1 c2 f0 f1 f2 d0 d1 d2
  refine (toI_any _ own _ (HY.out.new H5.out.2.1)).mono ?_
  rintro e w6 ⟨t, rfl, hoi, hn6⟩
  obtain ⟨aj, nj, cj, rfl⟩ : ∃ au nu cu, t = .slice au nu cu := by
    obtain ⟨au, cu, e, _⟩ := hoi.1.shape'
    exact ⟨au, _, cu, e⟩
  have H6 := Lib.hid (And.intro hoi hn6)
  have hs6 := hn6.size
  have k6 : Blk3 w6 _ _ _ _ _ := H5.out.2.2.1.new hn6
  have k7 := k6.set2 (.slice aj nj cj)
  have j7 := (H5.out.2.2.2.new hn6).chg (Chg.setCell w6 ⟨w.heap.size + 1 + 1, 2, none⟩ (.slice aj nj cj)) (fun h => by have h9 : w.heap.size + 1 = w.heap.size + 1 + 1 := h; omega)
  obtain ⟨c0, c1, c2, f0, f1, f2⟩ := k6.cells
  obtain ⟨d0, d1, d2, _, _, _⟩ := k7.cells
  obtain ⟨e0, e1, e2, g0, g1, g2⟩ := j7.cells
  go_wp2_with fail
  have k8 := ((j7.set0 (.int .i64 p)).set1 (.slice au nu cu)).set2 (.slice aj nj cj)
  obtain ⟨x0, x1, x2, _, _, _⟩ := k8.cells
  refine bodyPost_ret (v := .agg #[.int .i64 p, .slice au nu cu, .slice aj nj cj]) (by simp [results, go_sem, x0, x1, x2]) rfl ?_
  have hc : Chg (fun k => k = w.heap.size + 1 + 1 ∨ k = w.heap.size + 1) w6 ((((w6.setCell ⟨w.heap.size + 1 + 1, 2, none⟩ (.slice aj nj cj)).setCell ⟨w.heap.size + 1, 0, none⟩ (.int .i64 p)).setCell ⟨w.heap.size + 1, 1, none⟩ (.slice au nu cu)).setCell ⟨w.heap.size + 1, 2, none⟩ (.slice aj nj cj)) :=
    Chg.trans (Chg.trans (Chg.trans (Chg.setCell _ _ _) (Chg.setCell _ _ _) (U := fun k => k = w.heap.size + 1 + 1 ∨ k = w.heap.size + 1) (fun i _ h => .inl h) (fun i _ h => .inr h)) (Chg.setCell _ _ _) (fun i _ h => h) (fun i _ h => .inr h)) (Chg.setCell _ _ _) (fun i _ h => h) (fun i _ h => .inr h)
  have hci := hc.mono (T := Iv (w.heap.size + 1) (w.heap.size + 1 + 1 + 1)) (fun g _ h => by rcases h with h | h <;> exact ⟨by omega, by omega⟩)
  have h1 := ((H5.out.1.new H6.out.2).chg hci (by omega))
  have h2 := H6.out.1.chg hci (by omega)
  obtain ⟨vs, e1, e2, e3⟩ := h1
  obtain ⟨e4, e5⟩ := h2
  refine ⟨_, _, rfl, ⟨w4.heap.size, by have := hci.size; omega, ⟨vs, e1, fun g hg => by have := e2 g hg; omega, fun i hi g hg => by have := e3 i hi g hg; omega⟩, ⟨e4, fun g hg => by have := e5 g hg; have := hci.size; omega⟩⟩, (H5.out.2.1.trans H6.out.2).then hc (fun g h => by omega)⟩
end Go.Proofs.Ytaaajekibfaoeaa
