/- The generators' tables and words: some rows, some numbers. -/
import Derived.Test.YtahgjfmdafhedaaGen
import Derived.Test.YtahgjfmdafhedaaLeaf
namespace Go.Proofs.Ytahgjfmdafhedaa
open Go.RowKit
set_option linter.unusedVariables false

/-- Slices of elements of two types have two blocks. -/
theorem Own.apart_ty {w : World} {e e' : TypeId} {u v : Value} {xs ys : List Value} (h1 : Own w e u xs) (h2 : Own w e' v ys) (hne : e ≠ e') : Apart u v := by
  intro g hg hg'
  rcases h1 with ⟨rfl, _⟩ | ⟨g1, c1, cur1, rfl, hh1, _⟩
  · simp [Value.ownBlock] at hg
  · rcases h2 with ⟨h2, _⟩ | ⟨g2, c2, cur2, h2, hh2, _⟩
    · rw [h2] at hg'; simp [Value.ownBlock] at hg'
    · rw [h2] at hg'
      simp [Value.ownBlock] at hg hg'
      subst hg; subst hg'
      rw [hh1] at hh2
      simp at hh2
      exact hne hh2.2
theorem row_ne : (23 : Nat) ≠ 3 := by decide

/-- A row of one's own is laid behind the others. -/
theorem OwnR.push' {w1 w2 : World} {v v' u : Value} {vs : List Value} {rows : List (List Int)} {xs : List Int}
    (h : OwnR w1 23 3 v vs rows) (hu : Own w1 3 u (xs.map (Value.int .i64))) (ha : ∀ i, i < rows.length → Apart (gv vs i) u)
    (hv' : Own w2 23 v' (vs ++ [u])) (h2 : Chg (fun k => v.ownBlock = some k) w1 w2) : OwnR w2 23 3 v' (vs ++ [u]) (rows ++ [xs]) :=
  OwnR.snoc hv' h.len (fun i hi => (h.inner i hi).chg h2 (fun g hg hs => h.outer_apart row_ne hi g hs hg)) h.apart (hu.chg h2 (fun g hg hs => h.outer.apart_ty hu row_ne g hs hg)) ha
theorem FromR.push {B C : Nat} {v v' u : Value} {vs : List Value} {rows : List (List Int)} {xs : List Int} (hf : FromR B v vs rows) (hl : vs.length = rows.length) (hu : From B u) (hn : ∀ g, v'.ownBlock = some g → v.ownBlock = some g ∨ C ≤ g) (hC : B ≤ C) : FromR B v' (vs ++ [u]) (rows ++ [xs]) :=
  ⟨fun g hg => by
    rcases hn g hg with k | k
    · exact hf.1 g k
    · omega, fun i hi => by
    simp at hi
    by_cases e : i < rows.length
    · rw [gv_snoc_lt (by rw [hl]; exact e)]; exact hf.2 i e
    · rw [gv_snoc_eq (by rw [hl]; omega)]; exact hu⟩
theorem gv_set {vs : List Value} {k i : Nat} {y : Value} (hi : i < vs.length) : gv (vs.set k y) i = if k = i then y else gv vs i := by
  rw [gv_lt (by simpa using hi), List.getElem_set, gv_lt hi]
/-- Another row is laid at one's place. -/
theorem OwnR.lay {w : World} {g n cap : Nat} {u : Value} {vs : List Value} {rows : List (List Int)} {xs : List Int} {k : Nat} (ho : Own w 23 (.slice (some ⟨g, 0, none⟩) n cap) vs) (hl : vs.length = rows.length)
    (hin : ∀ i, i < rows.length → i ≠ k → Own w 3 (gv vs i) ((gr rows i).map (Value.int .i64))) (hap : ∀ i j, i < rows.length → j < rows.length → i ≠ j → Apart (gv vs i) (gv vs j))
    (hk : k < rows.length) (hu : Own w 3 u (xs.map (Value.int .i64))) (ha : ∀ i, i < rows.length → i ≠ k → Apart (gv vs i) u) :
    OwnR (w.setCell ⟨g, k, none⟩ u) 23 3 (.slice (some ⟨g, 0, none⟩) n cap) (vs.set k u) (rows.set k xs) := by
  have hc : Chg (· = g) w (w.setCell ⟨g, k, none⟩ u) := Chg.setCell w ⟨g, k, none⟩ u
  refine ⟨ho.set k u, by simp [hl], fun i hi => ?_, fun i j hi hj hne => ?_⟩
  · rw [List.length_set] at hi
    rw [gv_set (by omega), gr_lt (by rw [List.length_set]; exact hi), List.getElem_set, ← gr_lt hi]
    by_cases e : k = i
    · rw [if_pos e, if_pos e]
      exact hu.chg hc (fun g' hg' e => by subst e; exact ho.apart_ty hu row_ne g' rfl hg')
    · rw [if_neg e, if_neg e]
      exact (hin i hi (fun h => e h.symm)).chg hc (fun g' hg' e2 => by subst e2; exact ho.apart_ty (hin i hi (fun h => e h.symm)) row_ne g' rfl hg')
  · rw [List.length_set] at hi hj
    rw [gv_set (by omega), gv_set (by omega)]
    by_cases e : k = i
    · rw [if_pos e, if_neg (by omega)]
      exact (ha j hj (by omega)).symm
    · rw [if_neg e]
      by_cases e2 : k = j
      · rw [if_pos e2]; exact ha i hi (by omega)
      · rw [if_neg e2]; exact hap i j hi hj hne
/-- A row is laid anew at its place, while the reader has gone on. -/
theorem rows_put {w wz w5 : World} {S : Nat → Prop} {g gb N n cap k : Nat} {u : Value} {vs : List Value} {rows : List (List Int)} {xs : List Int} (hg : g < w.heap.size) (h : OwnR wz 23 3 (.slice (some ⟨gb, 0, none⟩) n cap) vs rows) (hF : FromR w.heap.size (.slice (some ⟨gb, 0, none⟩) n cap) vs rows)
    (hk : k < rows.length) (hC : Chg (· = g) w wz) (hR : Rd w5 g N) (hc : Chg S wz w5) (hS : ∀ b, S b → b = g ∨ (gv vs k).ownBlock = some b) (hu : Own w5 3 u (xs.map (Value.int .i64))) (hu3 : ∀ g', u.ownBlock = some g' → (gv vs k).ownBlock = some g' ∨ wz.heap.size ≤ g') :
    OwnR (w5.setCell ⟨gb, k, none⟩ u) 23 3 (.slice (some ⟨gb, 0, none⟩) n cap) (vs.set k u) (rows.set k xs) ∧ FromR w.heap.size (.slice (some ⟨gb, 0, none⟩) n cap) (vs.set k u) (rows.set k xs) ∧ Rd (w5.setCell ⟨gb, k, none⟩ u) g N ∧ Chg (· = g) w (w5.setCell ⟨gb, k, none⟩ u) := by
  have hgb : w.heap.size ≤ gb := hF.1 gb rfl
  have hs : Chg (· = gb) w5 (w5.setCell ⟨gb, k, none⟩ u) := Chg.setCell w5 ⟨gb, k, none⟩ u
  refine ⟨OwnR.lay (h.outer.chg hc (fun g' hg' hs => ?_)) h.len (fun i hi hne => (h.inner i hi).chg hc (fun g' hg' hs => ?_)) h.apart hk hu (fun i hi hne g' hg' hg2 => ?_), ⟨hF.1, fun i hi => ?_⟩, hR.chg hs (fun b hb => by omega), Chg.trans hC (Chg.trans hc hs (fun _ _ x => Or.inl x) (fun _ _ x => Or.inr x)) (fun _ _ x => x) (fun i hi hx => ?_)⟩
  · rcases hS g' hs with e | e
    · have := hF.1 g' hg'; omega
    · exact h.outer_apart row_ne hk g' hg' e
  · rcases hS g' hs with e | e
    · have := hF.2 i hi g' hg'; omega
    · exact h.apart i k hi hk hne g' hg' e
  · rcases hu3 g' hg2 with e | e
    · exact h.apart i k hi hk hne g' hg' e
    · have := (h.inner i hi).lt hg'; omega
  · rw [List.length_set] at hi
    rw [gv_set (by rw [h.len]; exact hi)]
    split
    · intro g' hg'
      rcases hu3 g' hg' with e | e
      · exact hF.2 k hk g' e
      · exact Nat.le_trans hC.size e
    · exact hF.2 i hi
  · rcases hx with e | e
    · rcases hS i e with e | e
      · exact e
      · have := hF.2 k hk i e; omega
    · omega

/-- A number is laid behind those of a list of one's own. -/
theorem grow1 {w w1 w2 : World} {g N : Nat} {v v2 : Value} {xs : List Int} {x : Int} (hg : g < w.heap.size) (hf : From w.heap.size v) (hR : Rd w1 g N) (hC : Chg (· = g) w w1)
    (k1 : Own w2 3 v2 (xs.map (Value.int .i64) ++ [Value.int .i64 x])) (k2 : Chg (fun k => v.ownBlock = some k) w1 w2) (k3 : ∀ g', v2.ownBlock = some g' → v.ownBlock = some g' ∨ w1.heap.size ≤ g') :
    Own w2 3 v2 ((xs ++ [x]).map (Value.int .i64)) ∧ From w.heap.size v2 ∧ Rd w2 g N ∧ Chg (· = g) w w2 :=
  ⟨by rw [List.map_append]; exact k1, fun g' h => by
    rcases k3 g' h with c | c
    · exact hf g' c
    · exact Nat.le_trans hC.size c, hR.chg k2 (fun k hk => by have := hf k hk; omega), Chg.trans hC k2 (fun _ _ x => x) (fun i hi h => by have := hf i h; omega)⟩

/-- It ends with some rows of its own, few, and the reader has gone on. -/
def PicksR (g N : Nat) (w : World) (e : Ending) (w' : World) (a b : Nat) : Prop :=
  ∃ u vs rows, e = .returned u ∧ OwnR w' 23 3 u vs rows ∧ FromR w.heap.size u vs rows ∧ rows.length ≤ a ∧ (∀ i, i < rows.length → (gr rows i).length ≤ b) ∧ Rd w' g N ∧ Chg (· = g) w w'
/-- It ends with some numbers of its own, few, and the reader has gone on. -/
def PicksI (g N : Nat) (w : World) (e : Ending) (w' : World) (Q : List Int → Prop) : Prop :=
  ∃ u xs, e = .returned u ∧ Own w' 3 u (xs.map (Value.int .i64)) ∧ From w.heap.size u ∧ Q xs ∧ Rd w' g N ∧ Chg (· = g) w w'

set_option maxRecDepth 100000 in
set_option maxHeartbeats 2000000 in
theorem aWord_any (g N : Nat) (p n : Int) (w : World) (hr : Rd w g N) (hN : N ≤ 900000) (hp : -1000 ≤ p ∧ p ≤ 1000) (hn : n ≤ 1000) :
    Calls Try.prog 90 #[.pointer (some ⟨g, 0, none⟩), .int .i64 p, .int .i64 n] w fun e w' => PicksI g (N + 1002) w e w' (fun xs => n ≤ xs.length ∧ xs.length ≤ 1001 ∧ (0 ≤ n → (xs.length : Int) ≤ n + 1)) := by
  have hg := hr.lt
  have HR := Lib.hid hr
  have HG := Lib.hid hg
  clear hr hg
  obtain ⟨P, hP⟩ : ∃ P, P = max p 1 := ⟨_, rfl⟩
  have hP1 : 1 ≤ P ∧ P ≤ 1000 := by omega
  have HP := Lib.hid hP
  clear hP
  go_enter Try.func90, Try.ntmps90
  go_wp2_with fail
  go_loopw [7] (fun t wr => ∃ (k : Nat) (xs : List Int), xs.length = k ∧ k ≤ 1000 ∧ (k : Int) ≤ max n 0 ∧ Own wr 3 t (xs.map (Value.int .i64)) ∧ From w.heap.size t ∧ Hid (Rd wr g (N + k) ∧ Chg (· = g) w wr)) (fun t _ => match t with | .slice _ l _ => (n - l).toNat | _ => 0)
  case atStart => exact ⟨0, [], rfl, Nat.zero_le _, by omega, Own.empty _ _, From.new _ _ _, HR.out.new (New.alloc _ _), Chg.trans (New.alloc _ _) (Chg.refl (· = g) _) (fun _ _ x => x.elim) (fun _ _ x => x)⟩
  case round =>
    obtain ⟨k, xs, hxk, hk, hkn, hown, hfrom, HD⟩ := hrel
    obtain ⟨wz, hwz⟩ : ∃ wz : World, wz = wr := ⟨_, rfl⟩
    rw [← hwz] at hown HD
    rw [← hwz]
    clear hwz
    obtain ⟨a, l, c, rfl, HL, hl, _⟩ := hown.opened (by rw [List.length_map]; unfold Mid; omega)
    have hlk : l = k := by rw [HL.out, List.length_map, hxk]
    subst hlk
    have HX := Lib.hid hxk
    have HO := Lib.hid (And.intro hown hfrom)
    clear hown hfrom hxk
    have hnotg : ∀ g', (Value.slice a l c).ownBlock = some g' → ¬ g' = g := fun g' h e => by have := HO.out.2 g' h; have := HG.out; omega
    have HNG := Lib.hid hnotg
    clear hnotg
    by_cases hln : (l : Int) < n
    · by_cases hp1 : p < 1
      · obtain rfl : P = 1 := by have := HP.out; omega
        go_wp2_with fail
        refine (pick_any g (N + l) 1 _ HD.out.1 (by omega) (by omega)).mono ?_
        rintro e w1 ⟨x, rfl, -, hr1, hc1⟩
        have H1 := Lib.hid (And.intro hr1 (And.intro (Chg.trans HD.out.2 hc1 (fun _ _ x => x) (fun _ _ x => x)) (HO.out.1.chg hc1 (fun g' h e => HNG.out g' h e))))
        clear hr1 hc1
        go_wp2_with (at_builtin; refine wpList_app1 rfl _ _ _ rfl tyInt w1 H1.out.2.2 rfl _ _ rfl rfl rfl (by rw [List.length_map, HX.out]; omega) ?_; intro v2 w2 k1 k2 k3; obtain ⟨a2, l2, c2, rfl, HL2, hl2, _⟩ := k1.opened (by rw [List.length_append, List.length_map, HX.out]; unfold Mid; simp; omega); have K2 := Lib.hid (And.intro k1 (And.intro k2 k3)); clear k1 k2 k3)
        obtain rfl : l2 = l + 1 := by rw [HL2.out, List.length_append, List.length_map, HX.out]; rfl
        obtain ⟨m1, m2, m3, m4⟩ := grow1 HG.out HO.out.2 H1.out.1 H1.out.2.1 K2.out.1 K2.out.2.1 K2.out.2.2
        go_roundw
        case rel => exact ⟨l + 1, xs ++ [x], by rw [List.length_append, HX.out]; rfl, by omega, by omega, m1, m2, m3, m4⟩
        case measure => simp; omega
      · obtain rfl : P = p := by have := HP.out; omega
        go_wp2_with fail
        refine (pick_any g (N + l) P _ HD.out.1 (by omega) (by omega)).mono ?_
        rintro e w1 ⟨x, rfl, -, hr1, hc1⟩
        have H1 := Lib.hid (And.intro hr1 (And.intro (Chg.trans HD.out.2 hc1 (fun _ _ x => x) (fun _ _ x => x)) (HO.out.1.chg hc1 (fun g' h e => HNG.out g' h e))))
        clear hr1 hc1
        go_wp2_with (at_builtin; refine wpList_app1 rfl _ _ _ rfl tyInt w1 H1.out.2.2 rfl _ _ rfl rfl rfl (by rw [List.length_map, HX.out]; omega) ?_; intro v2 w2 k1 k2 k3; obtain ⟨a2, l2, c2, rfl, HL2, hl2, _⟩ := k1.opened (by rw [List.length_append, List.length_map, HX.out]; unfold Mid; simp; omega); have K2 := Lib.hid (And.intro k1 (And.intro k2 k3)); clear k1 k2 k3)
        obtain rfl : l2 = l + 1 := by rw [HL2.out, List.length_append, List.length_map, HX.out]; rfl
        obtain ⟨m1, m2, m3, m4⟩ := grow1 HG.out HO.out.2 H1.out.1 H1.out.2.1 K2.out.1 K2.out.2.1 K2.out.2.2
        go_roundw
        case rel => exact ⟨l + 1, xs ++ [x], by rw [List.length_append, HX.out]; rfl, by omega, by omega, m1, m2, m3, m4⟩
        case measure => simp; omega
    · go_wp2_with fail
      refine (pick_any g (N + l) 40 _ HD.out.1 (by omega) (by omega)).mono ?_
      rintro e w1 ⟨x, rfl, -, hr1, hc1⟩
      have H1 := Lib.hid (And.intro hr1 (And.intro (Chg.trans HD.out.2 hc1 (fun _ _ x => x) (fun _ _ x => x)) (HO.out.1.chg hc1 (fun g' h e => HNG.out g' h e))))
      clear hr1 hc1
      by_cases hx0 : x = 0
      · subst hx0
        go_wp2_with (at_builtin; refine wpList_app1 rfl _ _ _ rfl tyInt w1 H1.out.2.2 rfl _ _ rfl rfl rfl (by rw [List.length_map, HX.out]; omega) ?_; intro v2 w2 k1 k2 k3; have K2 := Lib.hid (And.intro k1 (And.intro k2 k3)); clear k1 k2 k3)
        obtain ⟨m1, m2, m3, m4⟩ := grow1 HG.out HO.out.2 H1.out.1 H1.out.2.1 K2.out.1 K2.out.2.1 K2.out.2.2
        go_ret
        exact ⟨v2, xs ++ [0], rfl, m1, m2, ⟨by rw [List.length_append, HX.out]; simp; omega, by rw [List.length_append, HX.out]; simp; omega, fun h => by rw [List.length_append, HX.out]; simp; omega⟩, m3.mono (by omega), m4⟩
      · have hd0 : (x == 0) = false := by simp; omega
        by_cases hx1 : x = 1
        · subst hx1
          by_cases hl0 : l = 0
          · subst hl0
            go_wp2_with fail
            go_ret
            exact ⟨_, xs, rfl, H1.out.2.2, HO.out.2, ⟨by rw [HX.out]; omega, by rw [HX.out]; omega, fun h => by rw [HX.out]; omega⟩, H1.out.1.mono (by omega), H1.out.2.1⟩
          · have hl1 : 0 < l := by omega
            obtain ⟨gb, rfl⟩ := HO.out.1.head (i := 0) (by rw [List.length_map, HX.out]; exact hl1)
            go_wp2_with fail
            refine (one_lit g (N + l + 1) (fun _ => True) [-1, p] _ _ _ _ rfl rfl H1.out.1 (by omega) (by simp) (by simp) (fun _ _ => trivial)).mono ?_
            rintro e w2 ⟨y, rfl, -, hr2, hc2⟩
            have ho2 := H1.out.2.2.chg hc2 (fun g' h e => HNG.out g' h e)
            obtain ⟨cl, fl⟩ := ho2.cell (i := 0) (by rw [List.length_map, HX.out]; exact hl1)
            have H2 := Lib.hid (And.intro hr2 (And.intro (Chg.trans H1.out.2.1 hc2 (fun _ _ x => x) (fun _ _ x => x)) ho2))
            clear hr2 hc2 ho2
            go_wp2_with fail
            go_ret
            have hgb : w.heap.size ≤ gb := HO.out.2 gb rfl
            have hst := H2.out.2.2.set 0 (.int .i64 y)
            rw [set_map_int] at hst
            exact ⟨_, xs.set 0 y, rfl, hst, HO.out.2, ⟨by rw [List.length_set, HX.out]; omega, by rw [List.length_set, HX.out]; omega, fun h => by rw [List.length_set, HX.out]; omega⟩, (H2.out.1.chg (Chg.setCell w2 ⟨gb, 0, none⟩ _) (fun k hk => by have := HG.out; simp at hk; omega)).mono (by omega), Chg.trans H2.out.2.1 (Chg.setCell w2 ⟨gb, 0, none⟩ _) (fun _ _ x => x) (fun i hi h => by simp at h; omega)⟩
        · have hd1 : (x == 1) = false := by simp; omega
          go_wp2_with fail
          go_ret
          exact ⟨_, xs, rfl, H1.out.2.2, HO.out.2, ⟨by rw [HX.out]; omega, by rw [HX.out]; omega, fun h => by rw [HX.out]; omega⟩, H1.out.1.mono (by omega), H1.out.2.1⟩
end Go.Proofs.Ytahgjfmdafhedaa
