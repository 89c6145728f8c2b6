/- The generators' codes that may be invalid. -/
import Derived.Test.YtcdbeepphdfipaaGreatDoorGenS
import Derived.Test.YtcdbeepphdfipaaGreatDoorStay
import Derived.Deep.RegionHeld3
namespace Go.Proofs.YtcdbeepphdfipaaGreatDoor
open Go.RowKit
set_option linter.unusedVariables false

/-- Rows, few, with some numbers each. -/
def RowsK (out : List (List Int)) : Prop := (1 ≤ out.length ∧ out.length ≤ 8) ∧ ∀ i, i < out.length → 1 ≤ (gr out i).length ∧ (gr out i).length ≤ 8
/-- It ends with a code of its own, that may be invalid, and the reader has gone on. -/
def PicksK (g N : Nat) (w : World) (e : Ending) (w' : World) : Prop :=
  ∃ a l c vs out p, e = .returned (.agg #[.int .i64 p, .slice a l c]) ∧ OwnR w' 53 3 (.slice a l c) vs out ∧ FromR w.heap.size (.slice a l c) vs out ∧ RowsK out ∧ (0 ≤ p ∧ p ≤ 7) ∧ Rd w' g N ∧ Chg (· = g) w w'

theorem picksK_done {w w8 : World} {g N M l c : Nat} {a : Option Addr} {vs : List Value} {out : List (List Int)} {p : Int} {x y : Value} (hg : g < w.heap.size) (ho : OwnR w8 53 3 (.slice a l c) vs out) (hf : FromR w.heap.size (.slice a l c) vs out) (hq : RowsK out) (hp : 0 ≤ p ∧ p ≤ 7) (hr : Rd w8 g M) (hM : M ≤ N) (hc : Chg (· = g) w w8) (ha : Blk2 w8 w.heap.size x y 24) :
    PicksK g N w (.returned (.agg #[.int .i64 p, .slice a l c])) ((w8.setCell ⟨w.heap.size, 0, none⟩ (.int .i64 p)).setCell ⟨w.heap.size, 1, none⟩ (.slice a l c)) := by
  obtain ⟨x0, x1, hx⟩ := ha.put (.int .i64 p) (.slice a l c)
  exact ⟨a, l, c, vs, out, p, rfl, ho.chg hx (own_ne_blk2 ho.outer ha (by decide)) (fun i hi => own_ne_blk2 (ho.inner i hi) ha (by decide)), hf, hq, hp, (hr.chg hx (fun b hb => by omega)).mono hM, Chg.trans hc hx (fun _ _ x => x) (fun i hi h => by omega)⟩

set_option maxRecDepth 100000 in
set_option maxHeartbeats 8000000 in
theorem someCode_any (g N : Nat) (w : World) (hr : Rd w g N) (hN : N ≤ 600000) :
    Calls Tryz.prog 34 #[.pointer (some ⟨g, 0, none⟩)] w fun e w' => PicksK g (N + 4000) w e w' := by
  have hg := hr.lt
  have HR := Lib.hid hr
  have HG := Lib.hid hg
  clear hr hg
  have r0 := Blk2.alloc w (.int .i64 0) (.slice none 0 0) 24
  have n0 := New.alloc w (.cells #[.int .i64 0, .slice none 0 0] 24)
  obtain ⟨w0, hw0⟩ : ∃ w0, w0 = w.alloc (.cells #[.int .i64 0, .slice none 0 0] 24) := ⟨_, rfl⟩
  rw [← hw0] at r0 n0
  have hs0 : w.heap.size < w0.heap.size := Blk2.lt r0
  go_enter Tryz.func34, Tryz.ntmps34
  go_upto_region 1 with fail
  rw [← hw0]
  have H0 := Lib.hid (And.intro r0 (And.intro n0 hs0))
  clear r0 n0 hw0 hs0
  go_wp2_with fail
  refine (goodCode_any g N _ (HR.out.new H0.out.2.1) (by omega)).mono ?_
  rintro e w1 ⟨a, l, c, vs, out, p, rfl, ho, hf, hq, hp, hr1, hc1⟩
  have H1 := Lib.hid (And.intro hr1 (And.intro (Chg.trans H0.out.2.1 hc1 (fun _ _ x => x.elim) (fun _ _ x => x) (U := (· = g))) (And.intro (H0.out.1.chg hc1 (fun e => by have := HG.out; omega)) (And.intro ho (And.intro hf hq)))))
  have hw1 : w0.heap.size ≤ w1.heap.size := hc1.size
  clear hr1 hc1 ho hf hq
  have hw0 := H0.out.2.2
  go_upto_region 2 with fail
  have n2 := New.alloc w1 (.cells #[.int .i64 p, .slice a l c] 24)
  have b2 := Blk2.alloc w1 (.int .i64 p) (.slice a l c) 24
  obtain ⟨w2, hw2⟩ : ∃ w2, w2 = w1.alloc (.cells #[.int .i64 p, .slice a l c] 24) := ⟨_, rfl⟩
  rw [← hw2] at n2 b2
  rw [← hw2]
  clear hw2
  have H2 := Lib.hid (And.intro n2 b2)
  clear n2 b2
  go_wp2_with fail
  refine (pick_any g (N + 3000) 12 _ (H1.out.1.new H2.out.1) (by omega) (by omega)).mono ?_
  rintro e w3 ⟨z, rfl, hz, hr3, hc3⟩
  have hz0 := hz.1
  have H3 := Lib.hid (And.intro hr3 (And.intro (Chg.trans (Chg.trans H1.out.2.1 H2.out.1 (fun _ _ x => x) (fun _ _ x => x.elim) (U := (· = g))) hc3 (fun _ _ x => x) (fun _ _ x => x)) (And.intro ((H1.out.2.2.1.new H2.out.1).chg hc3 (fun e => by have := HG.out; omega)) (And.intro (H2.out.2.chg hc3 (fun e => by have := HG.out; omega)) ((H1.out.2.2.2.1.new H2.out.1).chg hc3 (fun b hb e => by have := H1.out.2.2.2.2.1.1 b hb; have := HG.out; omega) (fun i hi b hb e => by have := H1.out.2.2.2.2.1.2 i hi b hb; have := HG.out; omega))))))
  clear hr3 hc3 hz
  obtain ⟨q0, q1, q2, q3⟩ := H3.out.2.2.1.cells
  obtain ⟨p0, p1, p2, p3⟩ := H3.out.2.2.2.1.cells
  by_cases hz1 : 0 < z
  · go_wp2_with fail
    obtain ⟨x0, x1, hx⟩ := H3.out.2.2.1.put (.int .i64 p) (.slice a l c)
    refine bodyPost_ret (v := .agg #[.int .i64 p, .slice a l c]) (by simp [results, go_sem, x0, x1]) rfl ?_
    obtain ⟨hq1, hq2⟩ := H1.out.2.2.2.2.2
    have ho := H3.out.2.2.2.2
    exact ⟨a, l, c, vs, out, p, rfl, ho.chg hx (own_ne_blk2 ho.outer H3.out.2.2.1 (by decide)) (fun i hi => own_ne_blk2 (ho.inner i hi) H3.out.2.2.1 (by decide)), ⟨H1.out.2.2.2.2.1.1.mono (by omega), fun i hi => (H1.out.2.2.2.2.1.2 i hi).mono (by omega)⟩, ⟨by omega, fun i hi => by have := hq2 i hi; omega⟩, by omega, (H3.out.1.chg hx (fun b hb => by have := HG.out; omega)).mono (by omega), Chg.trans H3.out.2.1 hx (fun _ _ x => x) (fun i hi h => by omega)⟩
  · go_wp2_with fail
    have hbd := H1.out.2.2.2.2.2
    have hio := H3.out.2.2.2.2.isR (by have := hbd.1; unfold Mid; omega) (fun i hi => by have := hbd.2 i hi; unfold Mid; omega)
    refine (copyRows_any _ out _ hio).mono ?_
    rintro e w4 ⟨u, vs4, rfl, ho4, hf4, hn4⟩
    obtain ⟨a4, l4, c4, rfl, HL4, hl4, _⟩ := ho4.outer.opened (by rw [ho4.len]; have := hbd.1; unfold Mid; omega)
    obtain rfl : l4 = out.length := by rw [HL4.out, ho4.len]
    obtain ⟨g4, rfl⟩ := ho4.outer.head (i := 0) (by rw [ho4.len]; have := hbd.1; omega)
    have hb4 := H3.out.2.2.2.1.new hn4
    have ha4 := H3.out.2.2.1.new hn4
    have hw3 : w1.heap.size < w3.heap.size := Blk2.lt H3.out.2.2.2.1
    have hw4 : w3.heap.size ≤ w4.heap.size := hn4.size
    have hs5 : Chg (· = w1.heap.size) w4 (w4.setCell ⟨w1.heap.size, 1, none⟩ (.slice (some ⟨g4, 0, none⟩) out.length c4)) := Chg.setCell w4 ⟨w1.heap.size, 1, none⟩ _
    have hb5 := hb4.set1 (.slice (some ⟨g4, 0, none⟩) out.length c4)
    have ha5 := ha4.chg hs5 (fun e => by omega)
    have ho5 := ho4.chg hs5 (own_ne_blk2 ho4.outer hb4 (by decide)) (fun i hi => own_ne_blk2 (ho4.inner i hi) hb4 (by decide))
    have hr5 := (H3.out.1.new hn4).chg hs5 (fun b hb => by have := HG.out; omega)
    have hc5 := Chg.trans (Chg.trans H3.out.2.1 hn4 (fun _ _ x => x) (fun _ _ x => x.elim) (U := (· = g))) hs5 (fun _ _ x => x) (fun i hi h => by omega) (U := (· = g))
    obtain ⟨q0, q1, q2, q3⟩ := ha4.cells
    obtain ⟨p0, p1, p2, p3⟩ := hb4.cells
    go_upto_region 5 with fail
    obtain ⟨w5, hw5⟩ : ∃ w5, w5 = w4.setCell ⟨w1.heap.size, 1, none⟩ (.slice (some ⟨g4, 0, none⟩) out.length c4) := ⟨_, rfl⟩
    rw [← hw5] at hs5 hb5 ha5 ho5 hr5 hc5
    rw [← hw5]
    have H5 := Lib.hid (And.intro hr5 (And.intro hc5 (And.intro ha5 (And.intro hb5 (And.intro ho5 hf4)))))
    have hw45 : w5.heap.size = w4.heap.size := by rw [hw5]; simp
    clear hw5 hs5 hb5 ha5 ho5 hr5 hc5 hb4 ha4 ho4 hf4 hn4 hio q0 q1 q2 q3 p0 p1 p2 p3
    go_wp2_with fail
    refine (pick_any g (N + 3001) 4 _ H5.out.1 (by omega) (by omega)).mono ?_
    rintro e w6 ⟨y, rfl, hy, hr6, hc6⟩
    have hy0 := hy.1
    have H6 := Lib.hid (And.intro hr6 (And.intro (Chg.trans H5.out.2.1 hc6 (fun _ _ x => x) (fun _ _ x => x) (U := (· = g))) (And.intro (H5.out.2.2.1.chg hc6 (fun e => by have := HG.out; omega)) (And.intro (H5.out.2.2.2.1.chg hc6 (fun e => by have := HG.out; omega)) (And.intro (H5.out.2.2.2.2.1.chg hc6 (fun b hb e => by have := H5.out.2.2.2.2.2.1 b hb; have := HG.out; omega) (fun i hi b hb e => by have := H5.out.2.2.2.2.2.2 i hi b hb; have := HG.out; omega)) H5.out.2.2.2.2.2)))))
    have HBD := Lib.hid hbd
    clear hr6 hc6 hy hbd hl4
    obtain ⟨q0, q1, q2, q3⟩ := H6.out.2.2.1.cells
    obtain ⟨p0, p1, p2, p3⟩ := H6.out.2.2.2.1.cells
    by_cases hy1 : y = 0
    · subst hy1
      go_wp2_with fail
      refine (one_lit g (N + 3002) (fun p => 0 ≤ p ∧ p ≤ 7) [4, 0, 2] _ _ _ _ rfl rfl H6.out.1 (by omega) (by simp) (by simp) (by decide)).mono ?_
      rintro e w7 ⟨p', rfl, hp', hr7, hc7⟩
      have hb7 := H6.out.2.2.2.1.chg hc7 (fun e => by have := HG.out; omega)
      have ha7 := H6.out.2.2.1.chg hc7 (fun e => by have := HG.out; omega)
      have ho7 := H6.out.2.2.2.2.1.chg hc7 (fun b hb e => by have := H6.out.2.2.2.2.2.1 b hb; have := HG.out; omega) (fun i hi b hb e => by have := H6.out.2.2.2.2.2.2 i hi b hb; have := HG.out; omega)
      have hs8 : Chg (· = w1.heap.size) w7 (w7.setCell ⟨w1.heap.size, 0, none⟩ (.int .i64 p')) := Chg.setCell w7 ⟨w1.heap.size, 0, none⟩ _
      have H7 := Lib.hid (And.intro hr7 (And.intro (Chg.trans H6.out.2.1 hc7 (fun _ _ x => x) (fun _ _ x => x) (U := (· = g))) (And.intro (ha7.chg hs8 (fun e => by omega)) (And.intro (hb7.set0 (.int .i64 p')) (And.intro (ho7.chg hs8 (own_ne_blk2 ho7.outer hb7 (by decide)) (fun i hi => own_ne_blk2 (ho7.inner i hi) hb7 (by decide))) hs8)))))
      obtain ⟨s0, s1, s2, s3⟩ := hb7.cells
      obtain ⟨m0, m1, m2, m3⟩ := ha7.cells
      obtain ⟨d0, d1, d2, d3⟩ := H7.out.2.2.1.cells
      obtain ⟨e0, e1, e2, e3⟩ := H7.out.2.2.2.1.cells
      clear hb7 ha7 ho7 hs8 hr7 hc7 q0 q1 q2 q3 p0 p1 p2 p3
      go_wp2_with fail
      obtain ⟨x0, x1, hx⟩ := H7.out.2.2.1.put (.int .i64 p') (.slice (some ⟨g4, 0, none⟩) out.length c4)
      refine bodyPost_ret (v := .agg #[.int .i64 p', .slice (some ⟨g4, 0, none⟩) out.length c4]) (by simp [results, go_sem, x0, x1]) rfl ?_
      exact picksK_done HG.out H7.out.2.2.2.2.1 ⟨H6.out.2.2.2.2.2.1.mono (by omega), fun i hi => (H6.out.2.2.2.2.2.2 i hi).mono (by omega)⟩ ⟨by have := HBD.out.1; omega, fun i hi => by have := HBD.out.2 i hi; omega⟩ hp' (H7.out.1.chg H7.out.2.2.2.2.2 (fun b hb => by have := HG.out; omega)) (by omega) (Chg.trans H7.out.2.1 H7.out.2.2.2.2.2 (fun _ _ x => x) (fun i hi h => by omega)) H7.out.2.2.1
    · have hd0 : (y == 0) = false := beq_eq_false_iff_ne.2 hy1
      have h0 : 0 < out.length := by have := HBD.out.1; omega
      have hin := H6.out.2.2.2.2.1.inner 0 h0
      have hlen0 : 1 ≤ (gr out 0).length ∧ (gr out 0).length ≤ 7 := (HBD.out.2 0 h0).1
      obtain ⟨au, nu, cu, hgv, HLU, hlu, _⟩ := hin.opened (by rw [List.length_map]; unfold Mid; omega)
      have hnu : nu = (gr out 0).length := by rw [HLU.out, List.length_map]
      obtain ⟨ck, fk⟩ := H6.out.2.2.2.2.1.outer.cell (i := 0) (by rw [H6.out.2.2.2.2.1.len]; exact h0)
      rw [hgv] at ck hin
      have HIN := Lib.hid (And.intro hin (And.intro hgv (And.intro hnu hlen0)))
      have H00 := Lib.hid h0
      clear hin hgv hlen0 hnu
      obtain ⟨g0, rfl⟩ := HIN.out.1.head (i := 0) (by rw [List.length_map]; have := HIN.out.2.2.2; omega)
      have hne : g4 ≠ g0 := fun e => H6.out.2.2.2.2.1.outer_apart row_ne H00.out g4 rfl (by rw [HIN.out.2.1, e]; rfl)
      have hne1 : w1.heap.size ≠ g0 := fun e => own_ne_blk2 HIN.out.1 H6.out.2.2.2.1 (by decide) g0 rfl e.symm
      have hne2 : w.heap.size ≠ g0 := fun e => own_ne_blk2 HIN.out.1 H6.out.2.2.1 (by decide) g0 rfl e.symm
      have hne3 : w1.heap.size ≠ g4 := fun e => own_ne_blk2 H6.out.2.2.2.2.1.outer H6.out.2.2.2.1 (by decide) g4 rfl e.symm
      have hne4 : w.heap.size ≠ g4 := fun e => own_ne_blk2 H6.out.2.2.2.2.1.outer H6.out.2.2.1 (by decide) g4 rfl e.symm
      have hgn : g ≠ g0 := fun e => by have := H6.out.2.2.2.2.2.2 0 H00.out g0 (by rw [HIN.out.2.1]; rfl); have := HG.out; omega
      have hgn4 : g ≠ g4 := fun e => by have := H6.out.2.2.2.2.2.1 g4 rfl; have := HG.out; omega
      have HNE := Lib.hid (And.intro hne (And.intro hne1 (And.intro hne2 (And.intro hne3 (And.intro hne4 (And.intro hgn hgn4))))))
      clear hne hne1 hne2 hne3 hne4 hgn hgn4
      by_cases hy2 : y = 1
      · subst hy2
        have hl1 : (1 : Int) ≤ out.length := by omega
        have hnu8 : nu ≤ 7 := by have := HIN.out.2.2; omega
        have HN1 := Lib.hid (show New w6 (w6.alloc (.cells #[] 3)).drew from (New.alloc _ _).trans (New.drew _))
        have HS := Lib.hid (((HIN.out.1.isI (by have := HIN.out.2.2; unfold Mid; omega)).new HN1.out).src)
        have pA := (New.alloc w6 (.cells #[] 3)).cellNew p1
        have ckA := (New.alloc w6 (.cells #[] 3)).cellNew ck
        go_wp2_with fail
        go_region_law (first
          | (refine step_app (by rfl) (.tmp 35) (.tmp 39) _ (by rfl) tyInt ((Own.empty w6 3).new (New.drew _)) (by rfl) (some ⟨g0, 0, none⟩) nu cu ((gr out 0).map (Value.int .i64)) (by rfl) HS.out.1 HS.out.2.1 HS.out.2.2.1 HS.out.2.2.2 (by simp; have := HIN.out.2.2; omega) ?_
             intro v7 w7 k1 k2 k3
             obtain ⟨a7, l7, c7, rfl, HL7, hl7, _⟩ := k1.opened (by rw [List.length_append, List.length_map]; have := HIN.out.2.2; unfold Mid; simp; omega)
             have N7 : New w6 w7 := New.then HN1.out k2 (fun i hi => Nat.le_of_eq (Option.some.inj hi))
             have F7 : From w6.heap.size (.slice a7 l7 c7) := fun b hb => by
               rcases k3 b hb with h | h
               · exact Nat.le_of_eq (Option.some.inj h)
               · simp at h; omega
             have p17 := N7.cellNew p1
             have p1B := (New.alloc w7 (.cells #[.slice a7 l7 c7] 53)).cellNew p17
             have K7 := Lib.hid (And.intro (show Own w7 3 (.slice a7 l7 c7) ((gr out 0).map (Value.int .i64)) by simpa using k1) (And.intro N7 F7))
             clear k1 k2 k3 N7 F7)
          | (refine step_app (by rfl) (.tmp 34) (.tmp 41) _ (by rfl) tyRow ((H6.out.2.2.2.2.1.outer.new K7.out.2.1).new (New.alloc w7 (.cells #[.slice a7 l7 c7] 53))) (by rfl) (some ⟨w7.heap.size, 0, none⟩) 1 1 [.slice a7 l7 c7] (by rfl) (by rfl) (fun h => by cases h) (cell_one (heap_alloc_new w7 _)) (fun u hu => by simp at hu; subst hu; rfl) (by rw [H6.out.2.2.2.2.1.len]; have := HBD.out.1; omega) ?_
             intro v8 w8 k1 k2 k3
             obtain ⟨a8, l8, c8, rfl, HL8, hl8, _⟩ := k1.opened (by rw [List.length_append, H6.out.2.2.2.2.1.len]; have := HBD.out.1; unfold Mid; simp; omega)
             have hch : Chg (fun b => (Value.slice (some ⟨g4, 0, none⟩) out.length c4).ownBlock = some b) w7 w8 := Chg.trans (New.alloc w7 (.cells #[.slice a7 l7 c7] 53)) k2 (fun _ _ x => x.elim) (fun _ _ x => x)
             obtain ⟨t0, t1, t2, t3⟩ := ((H6.out.2.2.2.1.new K7.out.2.1).chg hch (fun e => HNE.out.2.2.2.1 (Option.some.inj e).symm)).cells
             have K8 := Lib.hid (And.intro k1 (And.intro hch k3))
             clear k1 k2 k3 hch))
        all_goals
          obtain ⟨m1, m2, m3⟩ := OwnR.push (B := w.heap.size) H6.out.2.2.2.2.1 ⟨H6.out.2.2.2.2.2.1.mono (by omega), fun i hi => (H6.out.2.2.2.2.2.2 i hi).mono (by omega)⟩ H6.out.2.1.size K7.out.2.1 K7.out.1 K7.out.2.2 K8.out.1 K8.out.2.1 (fun g' h => by
            rcases K8.out.2.2 g' h with h | h
            · exact .inl h
            · exact .inr (by simp at h; omega))
          have hb8 := (H6.out.2.2.2.1.new K7.out.2.1).chg K8.out.2.1 (fun e => HNE.out.2.2.2.1 (Option.some.inj e).symm)
          have ha8 := (H6.out.2.2.1.new K7.out.2.1).chg K8.out.2.1 (fun e => HNE.out.2.2.2.2.1 (Option.some.inj e).symm)
          have hs9 : Chg (· = w1.heap.size) w8 (w8.setCell ⟨w1.heap.size, 1, none⟩ (.slice a8 l8 c8)) := Chg.setCell w8 ⟨w1.heap.size, 1, none⟩ _
          have ha9 := ha8.chg hs9 (fun e => by omega)
          obtain ⟨d0, d1, d2, d3⟩ := ha9.cells
          obtain ⟨e0, e1, e2, e3⟩ := (hb8.set1 (.slice a8 l8 c8)).cells
          have H9 := Lib.hid (And.intro (m1.chg hs9 (own_ne_blk2 m1.outer hb8 (by decide)) (fun i hi => own_ne_blk2 (m1.inner i hi) hb8 (by decide))) (And.intro m2 (And.intro ((((H6.out.1.new K7.out.2.1).chg K8.out.2.1 (fun b hb => by have := H6.out.2.2.2.2.2.1 b hb; have := HG.out; omega))).chg hs9 (fun b hb => by have := HG.out; omega)) (And.intro (Chg.trans (Chg.trans H6.out.2.1 m3 (fun _ _ x => x) (fun i hi h => by have := H6.out.2.2.2.2.2.1 i h; omega) (U := (· = g))) hs9 (fun _ _ x => x) (fun i hi h => by omega) (U := (· = g))) ha9))))
          clear m1 m2 m3 hs9 ha8 hb8 ha9
          go_wp2_with fail
          obtain ⟨x0, x1, hx⟩ := H9.out.2.2.2.2.put (.int .i64 p) (.slice a8 l8 c8)
          refine bodyPost_ret (v := .agg #[.int .i64 p, .slice a8 l8 c8]) (by simp [results, go_sem, x0, x1]) rfl ?_
          exact picksK_done HG.out H9.out.1 H9.out.2.1 ⟨by rw [List.length_append, List.length_singleton]; have := HBD.out.1; omega, fun i hi => by
            rw [List.length_append, List.length_singleton] at hi
            by_cases e : i < out.length
            · rw [gr_snoc_lt e]; have := HBD.out.2 i e; omega
            · rw [gr_snoc_eq (by omega)]; have := HBD.out.2 0 H00.out; omega⟩ (by omega) H9.out.2.2.1 (by omega) H9.out.2.2.2.1 H9.out.2.2.2.2
      · have hd1 : (y == 1) = false := beq_eq_false_iff_ne.2 hy2
        by_cases hy3 : y = 2
        · subst hy3
          have hnu1 : 0 < nu := by have := HIN.out.2.2; omega
          go_wp2_with fail
          go_region_held3 (fun w' => w'.cell? ⟨w1.heap.size, 1, none⟩ = some (.slice (some ⟨g4, 0, none⟩) out.length c4) ∧ w'.cell? ⟨g4, 0, none⟩ = some (.slice (some ⟨g0, 0, none⟩) nu cu)) (first | exact ⟨KC.out.1, KC.out.2⟩ | exact ⟨(World.cell?_setCell_other _ _ _ _ (fun e => by simp at e)).trans KC.out.1, (World.cell?_setCell_other _ _ _ _ (fun e => by simp at e; first | exact HNE.out.1 e | exact HNE.out.1 e.symm)).trans KC.out.2⟩ | go_keep) (first
            | (go_at_call 52
               refine (one_any g (N + 3002) _ [-1, 7, 0] _ (H6.out.1.new ((New.alloc _ _).trans (New.drew _))) (by omega) ((IsI.lit w6 3 [-1, 7, 0] (by simp)).new (New.drew _)) (by simp) (by simp) (fun b hb => by have := H6.out.1.lt; simp [Value.ownBlock] at hb; omega)).mono ?_
               rintro e w7 ⟨q, rfl, -, hr2, hc2⟩
               have hc3 : Chg (· = g) w6 w7 := Chg.trans ((New.alloc w6 (.cells #[.int .i64 (-1), .int .i64 7, .int .i64 0] 3)).trans (New.drew _)) hc2 (fun _ _ x => x.elim) (fun _ _ x => x)
               have hi7 := HIN.out.1.chg hc3 (fun g' h e => HNE.out.2.2.2.2.2.1 ((Option.some.inj h).trans e).symm)
               obtain ⟨ck7, fk7⟩ := hi7.cell (i := 0) (by rw [List.length_map]; have := HIN.out.2.2.2; omega)
               have KC := Lib.hid (And.intro (hc3.cell p1 (fun h => by have := HG.out; simp at h; omega)) (hc3.cell ck (fun h => HNE.out.2.2.2.2.2.2 h.symm)))
               have K7 := Lib.hid (And.intro hi7 (And.intro hc3 hr2))
               clear hi7 hc3 hr2 hc2))
          have hcs : Chg (· = g0) w7 (w7.setCell ⟨g0, 0, none⟩ (.int .i64 q)) := Chg.setCell w7 ⟨g0, 0, none⟩ _
          have h7 := H6.out.2.2.2.2.1.chg K7.out.2.1 (fun b hb e => by have := H6.out.2.2.2.2.2.1 b hb; have := HG.out; omega) (fun i hi b hb e => by have := H6.out.2.2.2.2.2.2 i hi b hb; have := HG.out; omega)
          have hset := K7.out.1.set 0 (.int .i64 q)
          rw [set_map_int] at hset
          have ht := h7.turn row_ne H00.out hcs (fun g' e => by rw [HIN.out.2.1, e]; rfl) (xs := (gr out 0).set 0 q) (by rw [HIN.out.2.1]; exact hset)
          have ha8 := (H6.out.2.2.1.chg K7.out.2.1 (fun e => by have := HG.out; omega)).chg hcs (fun e => HNE.out.2.2.1 e)
          have hb8 := (H6.out.2.2.2.1.chg K7.out.2.1 (fun e => by have := HG.out; omega)).chg hcs (fun e => HNE.out.2.1 e)
          obtain ⟨d0, d1, d2, d3⟩ := ha8.cells
          obtain ⟨e0, e1, e2, e3⟩ := hb8.cells
          have H8 := Lib.hid (And.intro ht (And.intro (K7.out.2.2.chg hcs (fun b hb => by have := H6.out.2.2.2.2.2.2 0 H00.out g0 (by rw [HIN.out.2.1]; rfl); have := HG.out; omega)) (And.intro (Chg.trans (Chg.trans H6.out.2.1 K7.out.2.1 (fun _ _ x => x) (fun _ _ x => x) (U := (· = g))) hcs (fun _ _ x => x) (fun i hi h => by have := H6.out.2.2.2.2.2.2 0 H00.out g0 (by rw [HIN.out.2.1]; rfl); omega) (U := (· = g))) ha8)))
          clear ht ha8 hb8 hcs h7 hset
          go_wp2_with fail
          obtain ⟨x0, x1, hx⟩ := H8.out.2.2.2.put (.int .i64 p) (.slice (some ⟨g4, 0, none⟩) out.length c4)
          refine bodyPost_ret (v := .agg #[.int .i64 p, .slice (some ⟨g4, 0, none⟩) out.length c4]) (by simp [results, go_sem, x0, x1]) rfl ?_
          exact picksK_done HG.out H8.out.1 ⟨H6.out.2.2.2.2.2.1.mono (by omega), fun i hi => (H6.out.2.2.2.2.2.2 i (by rw [List.length_set] at hi; exact hi)).mono (by omega)⟩ ⟨by rw [List.length_set]; have := HBD.out.1; omega, fun i hi => by
              rw [List.length_set] at hi
              rw [gr_set hi]
              split
              · rw [List.length_set]; have := HIN.out.2.2.2; omega
              · have := HBD.out.2 i hi; omega⟩ (by omega) H8.out.2.1 (by omega) H8.out.2.2.1 H8.out.2.2.2
        · have hd2 : (y == 2) = false := beq_eq_false_iff_ne.2 hy3
          go_wp2_with fail
          have pA := (New.alloc w6 (.cells #[.int .i64 0] 3)).cellNew p1
          have ckA := (New.alloc w6 (.cells #[.int .i64 0] 3)).cellNew ck
          have HN1 := Lib.hid (show New w6 (w6.alloc (.cells #[.int .i64 0] 3)).drew from (New.alloc _ _).trans (New.drew _))
          go_region_law (first
            | (refine step_app (by rfl) (.tmp 21) (.tmp 22) _ (by rfl) tyInt (HIN.out.1.new HN1.out) (by rfl) (some ⟨w6.heap.size, 0, none⟩) 1 1 [.int .i64 0] (by rfl) (by rfl) (fun h => by cases h) (cell_one (heap_alloc_new w6 _)) (fun u hu => by simp at hu; subst hu; rfl) (by rw [List.length_map]; have := HIN.out.2.2.2; omega) ?_
               intro v7 w7 k1 k2 k3
               obtain ⟨a7, l7, c7, rfl, HL7, hl7, _⟩ := k1.opened (by rw [List.length_append, List.length_map]; have := HIN.out.2.2.2; unfold Mid; simp; omega)
               have hch : Chg (fun b => (Value.slice (some ⟨g0, 0, none⟩) nu cu).ownBlock = some b) w6 w7 := Chg.trans HN1.out k2 (fun _ _ x => x.elim) (fun _ _ x => x)
               have p17 := hch.cell p1 (fun h => HNE.out.2.1 (Option.some.inj h).symm)
               obtain ⟨ck7, fk7⟩ := (H6.out.2.2.2.2.1.outer.chg hch (fun b hb hs => HNE.out.1 ((Option.some.inj hb).trans (Option.some.inj hs).symm))).cell (i := 0) (by rw [H6.out.2.2.2.2.1.len]; exact H00.out)
               rw [HIN.out.2.1] at ck7
               have K7 := Lib.hid (And.intro k1 (And.intro hch k3))
               clear k1 k2 k3 hch))
          all_goals
            obtain ⟨m1, m2, m3, m4⟩ := rows_put (xs := gr out 0 ++ [0]) HG.out H6.out.2.2.2.2.1 ⟨H6.out.2.2.2.2.2.1.mono (by omega), fun i hi => (H6.out.2.2.2.2.2.2 i hi).mono (by omega)⟩ H00.out H6.out.2.1 (H6.out.1.chg K7.out.2.1 (fun b hb => by have := H6.out.2.2.2.2.2.2 0 H00.out b (by rw [HIN.out.2.1]; exact hb); have := HG.out; omega)) K7.out.2.1 (fun b hb => .inr (by rw [HIN.out.2.1]; exact hb)) (by rw [List.map_append]; exact K7.out.1) (fun g' h => by
              rw [HIN.out.2.1]
              rcases K7.out.2.2 g' h with h | h
              · exact .inl h
              · exact .inr (by simp at h; omega))
            have hs8 : Chg (· = g4) w7 (w7.setCell ⟨g4, 0, none⟩ (.slice a7 l7 c7)) := Chg.setCell w7 ⟨g4, 0, none⟩ _
            have ha8 := (H6.out.2.2.1.chg K7.out.2.1 (fun e => HNE.out.2.2.1 (Option.some.inj e).symm)).chg hs8 (fun e => HNE.out.2.2.2.2.1 e)
            have hb8 := (H6.out.2.2.2.1.chg K7.out.2.1 (fun e => HNE.out.2.1 (Option.some.inj e).symm)).chg hs8 (fun e => HNE.out.2.2.2.1 e)
            obtain ⟨d0, d1, d2, d3⟩ := ha8.cells
            obtain ⟨e0, e1, e2, e3⟩ := hb8.cells
            have H8 := Lib.hid (And.intro m1 (And.intro m2 (And.intro m3 (And.intro m4 ha8))))
            clear m1 m2 m3 m4 hs8 ha8 hb8
            go_wp2_with fail
            obtain ⟨x0, x1, hx⟩ := H8.out.2.2.2.2.put (.int .i64 p) (.slice (some ⟨g4, 0, none⟩) out.length c4)
            refine bodyPost_ret (v := .agg #[.int .i64 p, .slice (some ⟨g4, 0, none⟩) out.length c4]) (by simp [results, go_sem, x0, x1]) rfl ?_
            exact picksK_done HG.out H8.out.1 H8.out.2.1 ⟨by rw [List.length_set]; have := HBD.out.1; omega, fun i hi => by
              rw [List.length_set] at hi
              rw [gr_set hi]
              split
              · rw [List.length_append, List.length_singleton]; have := HIN.out.2.2.2; omega
              · have := HBD.out.2 i hi; omega⟩ (by omega) H8.out.2.2.1 (by omega) H8.out.2.2.2.1 H8.out.2.2.2.2
end Go.Proofs.YtcdbeepphdfipaaGreatDoor
