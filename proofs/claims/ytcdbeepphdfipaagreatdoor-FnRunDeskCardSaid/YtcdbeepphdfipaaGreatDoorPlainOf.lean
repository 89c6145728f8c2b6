/- PlainOf of both. -/
import Derived.Test.YtcdbeepphdfipaaGreatDoorKnow
import Derived.Test.YtcdbeepphdfipaaGreatDoorLawK
import Derived.Deep.RegionHeld3
namespace Go.Proofs.YtcdbeepphdfipaaGreatDoor
open Go.RowKit Mat
set_option linter.unusedVariables false

/-- It ends with a code of its own. -/
def GivesC (w : World) (e : Ending) (w' : World) (Q : Int → List (List Int) → Prop) : Prop :=
  ∃ u vs out p, e = .returned (.agg #[.int .i64 p, u]) ∧ OwnR w' 53 3 u vs out ∧ FromR w.heap.size u vs out ∧ Q p out ∧ New w w'

/-- What PlainOf answers. -/
def PlainR (p : Int) (rows : List (List Int)) (p' : Int) (out : List (List Int)) : Prop :=
  (ValidC p rows → p' = p ∧ RedOf p rows out) ∧ (¬ ValidC p rows → p' = 0 ∧ out = [])

/-- The reference's answer and the program's are one. -/
structure PlainQ (p : Int) (rows : List (List Int)) (p' : Int) (out : List (List Int)) : Prop where
  told : PlainR p rows p' out
theorem PlainQ.unique {p : Int} {rows : List (List Int)} {p1 p2 : Int} {a b : List (List Int)} (h : PlainQ p rows p1 a) (h' : PlainQ p rows p2 b) : p1 = p2 ∧ a = b := by
  by_cases c : ValidC p rows
  · exact ⟨(h.told.1 c).1.trans (h'.told.1 c).1.symm, (h.told.1 c).2.unique (h'.told.1 c).2⟩
  · exact ⟨(h.told.2 c).1.trans (h'.told.2 c).1.symm, (h.told.2 c).2.trans (h'.told.2 c).2.symm⟩
theorem PlainQ.small {p : Int} {rows : List (List Int)} {p1 : Int} {a : List (List Int)} (h : PlainQ p rows p1 a) : a.length ≤ 1048576 ∧ ∀ i, i < a.length → (gr a i).length ≤ 1048576 := by
  by_cases c : ValidC p rows
  · have := (h.told.1 c).2.bounds c.1
    exact ⟨by omega, fun i hi => by have := this.2 i hi; omega⟩
  · rw [(h.told.2 c).2]; simp

set_option maxHeartbeats 1000000 in
theorem implPlainOf_any (p : Int) (v : Value) (rows : List (List Int)) (w : World) (hr : IsR w v rows) :
    Calls Tryz.prog 90 #[.agg #[.int .i64 p, v]] w fun e w' => GivesC w e w' (PlainQ p rows) := by
  obtain ⟨ao, n, cap, rfl, HN, hn⟩ := hr.shape
  have HR := Lib.hid hr
  clear hr
  obtain ⟨w1, hw1⟩ : ∃ w1 : World, w1 = w.alloc (.cells #[.int .i64 p, .slice ao n cap] 24) := ⟨_, rfl⟩
  have b1 := Blk2.alloc w (.int .i64 p) (.slice ao n cap) 24
  have h1 : New w w1 := by rw [hw1]; exact New.alloc _ _
  have hs1 : w1.heap.size = w.heap.size + 1 := by rw [hw1, World.size_alloc]
  have r1 := Blk2.alloc w1 (.int .i64 0) (.slice none 0 0) 24
  rw [hs1] at r1
  rw [← hw1] at b1
  go_enter Tryz.func90, Tryz.ntmps90
  go_wp2_with fail
  rw [← hw1]
  have h2 := h1.trans (New.alloc w1 (.cells #[.int .i64 0, .slice none 0 0] 24))
  replace b1 := b1.new (New.alloc w1 (.cells #[.int .i64 0, .slice none 0 0] 24))
  refine (known_any _ _ rows _ (HR.out.new h2)).mono ?_
  rintro e w2 ⟨⟨b, rfl, hb⟩, hn2⟩
  replace b1 := b1.new hn2
  replace r1 := r1.new hn2
  replace h2 := h2.trans hn2
  have HB := Lib.hid hb
  clear hb hn2 hw1 h1 hs1
  obtain ⟨c0, c1, _, _⟩ := b1.cells
  obtain ⟨d0, d1, f0, f1⟩ := r1.cells
  have hsz : w.heap.size + 1 < w2.heap.size := (Array.getElem?_eq_some_iff.1 r1).1
  cases b with
  | false =>
    go_wp2_with fail
    obtain ⟨x0, x1, hx⟩ := r1.put (.int .i64 0) (.slice none 0 0)
    refine bodyPost_ret (v := .agg #[.int .i64 0, .slice none 0 0]) (by simp [results, go_sem, x0, x1]) rfl ?_
    exact ⟨_, [], [], 0, rfl, ⟨Own.nil _ _, rfl, (fun i hi => by simp at hi), (fun i j hi => by simp at hi)⟩, ⟨(fun g hg => by simp [Value.ownBlock] at hg), (fun i hi => by simp at hi)⟩,
      ⟨⟨(fun h => by have := HB.out.2 h; cases this), fun _ => ⟨rfl, rfl⟩⟩⟩, h2.then hx (fun i hi => by omega)⟩
  | true =>
    have hv := HB.out.1 rfl
    have hf := hv.few
    obtain ⟨q, rfl, hq⟩ := prime_nat (vtB_pr hv.1)
    haveI := hq.nz
    have HV := Lib.hid hv
    have HQ := Lib.hid hq
    have hb6 : (1 ≤ rows.length ∧ rows.length ≤ 6) ∧ (gr rows 0).length ≤ 7 := by omega
    have HB6 := Lib.hid hb6
    clear hv hf hq HB hb6
    go_wp2_with fail
    go_region_held3 (fun w' => w'.cell? ⟨w.heap.size, 0, none⟩ = some (.int .i64 q) ∧ w'.cell? ⟨w.heap.size, 1, none⟩ = some (.slice ao n cap)) (first | exact ⟨(HK.out.2.2.2).cellNew c0, (HK.out.2.2.2).cellNew c1⟩ | go_keep)
      (first | (go_at_call 71; refine (reduced_any q HQ.out _ HB6.out.2 _ rows _ (HR.out.new (h2.trans (New.drew _))) (vtB_good HV.out.1) (by have := HB6.out.1; omega)).mono ?_; rintro e w3 ⟨u, vs, out, rfl, ho, hf, hred, hn3⟩; obtain ⟨a, l, c, rfl, HL, hl, _⟩ := ho.outer.opened (by rw [ho.len]; unfold Mid; have := (RedOf.bounds ⟨q, this, rfl, HQ.out, hred⟩ HV.out.1).1; omega); have HK := Lib.hid (And.intro ho (And.intro hf (And.intro hred ((New.drew w2).trans hn3)))); have r3 := r1.new ((New.drew w2).trans hn3); obtain ⟨g0, g1, k0, k1⟩ := r3.cells; clear ho hf hred hn3))
    go_wp2_with fail
    obtain ⟨x0, x1, hx⟩ := r3.put (.int .i64 q) (.slice a l c)
    refine bodyPost_ret (v := .agg #[.int .i64 q, .slice a l c]) (by simp [results, go_sem, x0, x1]) rfl ?_
    obtain ⟨ho, hf, hred, hn⟩ := HK.out
    have hf1 : ∀ g, (Value.slice a l c).ownBlock = some g → w2.heap.size ≤ g := hf.1
    have hf2 : ∀ i, i < out.length → ∀ g, (gv vs i).ownBlock = some g → w2.heap.size ≤ g := hf.2
    exact ⟨_, vs, out, q, rfl, ho.chg hx (fun g hg e => by have := hf1 g hg; omega) (fun i hi g hg e => by have := hf2 i hi g hg; omega),
      ⟨fun g hg => by have := hf1 g hg; omega, fun i hi g hg => by have := hf2 i hi g hg; omega⟩,
      ⟨⟨fun _ => ⟨rfl, ⟨q, this, rfl, HQ.out, hred⟩⟩, fun h => absurd HV.out h⟩⟩, (h2.trans hn).then hx (fun i hi => by omega)⟩
set_option maxHeartbeats 1000000 in
theorem specPlainOf_any (p : Int) (v : Value) (rows : List (List Int)) (w : World) (hr : IsR w v rows) :
    Calls Tryz.prog 78 #[.agg #[.int .i64 p, v]] w fun e w' => GivesC w e w' (PlainQ p rows) := by
  obtain ⟨ao, n, cap, rfl, HN, hn⟩ := hr.shape
  have HR := Lib.hid hr
  clear hr
  obtain ⟨w1, hw1⟩ : ∃ w1 : World, w1 = w.alloc (.cells #[.int .i64 p, .slice ao n cap] 24) := ⟨_, rfl⟩
  have b1 := Blk2.alloc w (.int .i64 p) (.slice ao n cap) 24
  have h1 : New w w1 := by rw [hw1]; exact New.alloc _ _
  have hs1 : w1.heap.size = w.heap.size + 1 := by rw [hw1, World.size_alloc]
  have r1 := Blk2.alloc w1 (.int .i64 0) (.slice none 0 0) 24
  rw [hs1] at r1
  rw [← hw1] at b1
  go_enter Tryz.func78, Tryz.ntmps78
  go_wp2_with fail
  rw [← hw1]
  have h2 := h1.trans (New.alloc w1 (.cells #[.int .i64 0, .slice none 0 0] 24))
  replace b1 := b1.new (New.alloc w1 (.cells #[.int .i64 0, .slice none 0 0] 24))
  refine (validCode_any _ _ rows _ (HR.out.new h2)).mono ?_
  rintro e w2 ⟨⟨b, rfl, hb⟩, hn2⟩
  replace b1 := b1.new hn2
  replace r1 := r1.new hn2
  replace h2 := h2.trans hn2
  have HB := Lib.hid hb
  clear hb hn2 hw1 h1 hs1
  obtain ⟨c0, c1, _, _⟩ := b1.cells
  obtain ⟨d0, d1, f0, f1⟩ := r1.cells
  have hsz : w.heap.size + 1 < w2.heap.size := (Array.getElem?_eq_some_iff.1 r1).1
  cases b with
  | false =>
    go_wp2_with fail
    obtain ⟨x0, x1, hx⟩ := r1.put (.int .i64 0) (.slice none 0 0)
    refine bodyPost_ret (v := .agg #[.int .i64 0, .slice none 0 0]) (by simp [results, go_sem, x0, x1]) rfl ?_
    exact ⟨_, [], [], 0, rfl, ⟨Own.nil _ _, rfl, (fun i hi => by simp at hi), (fun i j hi => by simp at hi)⟩, ⟨(fun g hg => by simp [Value.ownBlock] at hg), (fun i hi => by simp at hi)⟩,
      ⟨⟨(fun h => by have := HB.out.2 h; cases this), fun _ => ⟨rfl, rfl⟩⟩⟩, h2.then hx (fun i hi => by omega)⟩
  | true =>
    have hv := HB.out.1 rfl
    have hf := hv.few
    obtain ⟨q, rfl, hq⟩ := prime_nat (vtB_pr hv.1)
    haveI := hq.nz
    have HV := Lib.hid hv
    have HQ := Lib.hid hq
    have hb6 : (1 ≤ rows.length ∧ rows.length ≤ 6) ∧ (gr rows 0).length ≤ 7 := by omega
    have HB6 := Lib.hid hb6
    clear hv hf hq HB hb6
    go_wp2_with fail
    go_region_held3 (fun w' => w'.cell? ⟨w.heap.size, 0, none⟩ = some (.int .i64 q) ∧ w'.cell? ⟨w.heap.size, 1, none⟩ = some (.slice ao n cap)) (first | exact ⟨(HK.out.2.2.2).cellNew c0, (HK.out.2.2.2).cellNew c1⟩ | exact ⟨(HK4.out.2.2).cellNew c0, (HK4.out.2.2).cellNew c1⟩ | go_keep)
      (first | (go_at_call 69; refine (reduce_any q HQ.out _ HB6.out.2 _ rows _ (HR.out.new (h2.trans (New.drew _))) (vtB_good HV.out.1) (by have := HB6.out.1; omega)).mono ?_; rintro e w4 ⟨u4, vs4, out, rfl, ho4, hf4, hred, hn4⟩; obtain ⟨a4, l4, c4, rfl, HL4, hl4, _⟩ := ho4.outer.opened (by rw [ho4.len]; unfold Mid; have := (RedOf.bounds ⟨q, this, rfl, HQ.out, hred⟩ HV.out.1).1; omega); have HK4 := Lib.hid (And.intro ho4 (And.intro hred ((New.drew w2).trans hn4))); clear ho4 hf4 hred hn4) | (go_at_call 65; refine (copyRows_any _ out _ (HK4.out.1.isR (by have := (RedOf.bounds ⟨q, this, rfl, HQ.out, HK4.out.2.1⟩ HV.out.1).1; unfold Mid; omega) (fun i hi => by have := (RedOf.bounds ⟨q, this, rfl, HQ.out, HK4.out.2.1⟩ HV.out.1).2 i hi; unfold Mid; omega))).mono ?_; rintro e w3 ⟨u, vs, rfl, ho, hf, hn3⟩; obtain ⟨a, l, c, rfl, HL, hl, _⟩ := ho.outer.opened (by rw [ho.len]; unfold Mid; have := (RedOf.bounds ⟨q, this, rfl, HQ.out, HK4.out.2.1⟩ HV.out.1).1; omega); have HK := Lib.hid (And.intro ho (And.intro (And.intro (fun g hg => Nat.le_trans HK4.out.2.2.size (hf.1 g hg)) (fun i hi g hg => Nat.le_trans HK4.out.2.2.size (hf.2 i hi g hg)) : FromR w2.heap.size _ vs out) (And.intro HK4.out.2.1 (HK4.out.2.2.trans hn3)))); have r3 := r1.new (HK4.out.2.2.trans hn3); obtain ⟨g0, g1, k0, k1⟩ := r3.cells; clear ho hf hn3))
    go_wp2_with fail
    obtain ⟨x0, x1, hx⟩ := r3.put (.int .i64 q) (.slice a l c)
    refine bodyPost_ret (v := .agg #[.int .i64 q, .slice a l c]) (by simp [results, go_sem, x0, x1]) rfl ?_
    obtain ⟨ho, hf, hred, hn⟩ := HK.out
    have hf1 : ∀ g, (Value.slice a l c).ownBlock = some g → w2.heap.size ≤ g := hf.1
    have hf2 : ∀ i, i < out.length → ∀ g, (gv vs i).ownBlock = some g → w2.heap.size ≤ g := hf.2
    exact ⟨_, vs, out, q, rfl, ho.chg hx (fun g hg e => by have := hf1 g hg; omega) (fun i hi g hg e => by have := hf2 i hi g hg; omega),
      ⟨fun g hg => by have := hf1 g hg; omega, fun i hi g hg => by have := hf2 i hi g hg; omega⟩,
      ⟨⟨fun _ => ⟨rfl, ⟨q, this, rfl, HQ.out, hred⟩⟩, fun h => absurd HV.out h⟩⟩, (h2.trans hn).then hx (fun i hi => by omega)⟩
end Go.Proofs.YtcdbeepphdfipaaGreatDoor
