/- The generators of codes. The generators of a code and a set, a column, or a word. The generators' words, with bounds of their numbers; a word of a code of which some numbers are lost. -/
import Derived.Test.YtcdbeepphdfipaaGreatDoorGenD
import Derived.Test.YtcdbeepphdfipaaGreatDoorEnco
import Derived.Test.YtcdbeepphdfipaaGreatDoorBitL
namespace Go.Proofs.YtcdbeepphdfipaaGreatDoor
open Go.RowKit
set_option linter.unusedVariables false

theorem RawB.new {w w' : World} {v : Value} {n : Nat} (h : RawB w v n) (hc : New w w') : RawB w' v n := by
  obtain ⟨ao, cap, e, h1, h2, h3⟩ := h
  refine ⟨ao, cap, e, h1, h2, fun i hi => ?_⟩
  obtain ⟨b, o, x, hb, rfl, hcell, hx⟩ := h3 i hi
  exact ⟨b, o, x, Nat.lt_of_lt_of_le hb hc.size, rfl, hc.cellNew hcell, hx⟩
/-- It ends with a code of its own, that may be invalid. -/
def DrawsK (w : World) (e : Ending) (w' : World) : Prop :=
  ∃ a l c out p, e = .returned (.agg #[.int .i64 p, .slice a l c]) ∧ IsR w' (.slice a l c) out ∧ RowsK out ∧ (0 ≤ p ∧ p ≤ 7) ∧ New w w'
theorem RowsK.mid {out : List (List Int)} (h : RowsK out) : Mid out.length ∧ ∀ i, i < out.length → Mid (gr out i).length := ⟨by have := h.1; unfold Mid; omega, fun i hi => by have := h.2 i hi; unfold Mid; omega⟩

set_option maxHeartbeats 2000000 in
theorem drawCodeText_any (v : Value) (n : Nat) (w : World) (hb : RawB w v n) :
    Calls Tryz.prog 13 #[v] w fun e w' => DrawsK w e w' := by
  obtain ⟨ao, cap, rfl, -⟩ := id hb
  have r0 := Blk2.alloc w (.int .i64 0) (.slice none 0 0) 24
  have n0 := New.alloc w (.cells #[.int .i64 0, .slice none 0 0] 24)
  have hb0 := hb.new n0
  obtain ⟨w0, hw0⟩ : ∃ w0, w0 = w.alloc (.cells #[.int .i64 0, .slice none 0 0] 24) := ⟨_, rfl⟩
  rw [← hw0] at r0 n0 hb0
  have hs0 : w.heap.size < w0.heap.size := Blk2.lt r0
  clear hb
  go_enter Tryz.func13, Tryz.ntmps13
  go_upto_region 1 with fail
  rw [← hw0]
  have H0 := Lib.hid (And.intro r0 (And.intro n0 (And.intro hs0 hb0)))
  clear r0 n0 hw0 hs0 hb0
  go_wp2_with fail
  refine (newReader_any _ _ _ H0.out.2.2.2).mono ?_
  rintro e w1 ⟨rfl, hr1, hn1⟩
  have H1 := Lib.hid (And.intro hr1 hn1)
  clear hr1 hn1
  go_wp2_with fail
  refine (someCode_any w0.heap.size 0 _ H1.out.1 (by omega)).mono ?_
  rintro e w2 ⟨a, l, c, vs, out, p, rfl, ho, hf, hq, hp, hr2, hc2⟩
  have hn2 := H1.out.2.of_chg hc2 (fun k hk => Nat.le_of_eq hk.symm)
  have b2 := H0.out.1.new hn2
  obtain ⟨q0, q1, q2, q3⟩ := b2.cells
  have H2 := Lib.hid (And.intro ho (And.intro hq (And.intro hn2 b2)))
  clear ho hf hq hr2 hc2 hn2 b2
  go_wp2_with fail
  obtain ⟨x0, x1, hx⟩ := H2.out.2.2.2.put (.int .i64 p) (.slice a l c)
  refine bodyPost_ret (v := .agg #[.int .i64 p, .slice a l c]) (by simp [results, go_sem, x0, x1]) rfl ?_
  exact ⟨a, l, c, out, p, rfl, (H2.out.1.chg hx (own_ne_blk2 H2.out.1.outer H2.out.2.2.2 (by decide)) (fun i hi => own_ne_blk2 (H2.out.1.inner i hi) H2.out.2.2.2 (by decide))).isR H2.out.2.1.mid.1 H2.out.2.1.mid.2, H2.out.2.1, hp, (H0.out.2.1.trans H2.out.2.2.1).then hx (fun i hi => Nat.le_of_eq hi.symm)⟩

end Go.Proofs.YtcdbeepphdfipaaGreatDoor

namespace Go.Proofs.YtcdbeepphdfipaaGreatDoor
open Go.RowKit
set_option linter.unusedVariables false

theorem ite_any {c : Prop} {inst : Decidable c} {a b x : Int} (h1 : c → a = x) (h2 : ¬ c → b = x) : @ite Int c inst a b = x := by
  split
  · rename_i h; exact h1 h
  · rename_i h; exact h2 h

/-- A block of a code's cells holds no bytes. -/
theorem Rd.code {w w' : World} {g G N : Nat} {p : Int} {ao : Option Addr} {l c : Nat} {t : TypeId} (h : Rd w g N) (hb : Blk2 w G (.int .i64 p) (.slice ao l c) t) (hne : G ≠ g) (hc : Chg (· = G) w w') : Rd w' g N := by
  obtain ⟨v, k, n, h1, h2, h3, ⟨a', cap, e, h4, h5, h6⟩⟩ := h
  refine ⟨v, k, n, h1.chg hc (fun e => hne e.symm), h2, h3, a', cap, e, h4, h5, fun i hi => ?_⟩
  obtain ⟨b, o, x, hbg, rfl, hcell, hx⟩ := h6 i hi
  refine ⟨b, o, x, hbg, rfl, hc.cell hcell (fun e => ?_), hx⟩
  have e' : b = G := e
  rw [e', cell_of_heap (show w.heap[G]? = some (.cells #[.int .i64 p, .slice ao l c] t (0, 0)) from hb)] at hcell
  match o + i, hcell with
  | 0, hcell => simp at hcell
  | 1, hcell => simp at hcell
  | j + 2, hcell => simp at hcell

/-- It ends with a code of its own, that may be invalid, and a number. -/
def DrawsKN (w : World) (e : Ending) (w' : World) : Prop :=
  ∃ a l c vs out p x, e = .returned (.tuple #[.agg #[.int .i64 p, .slice a l c], .int .i64 x]) ∧ OwnR w' 53 3 (.slice a l c) vs out ∧ RowsK out ∧ (0 ≤ p ∧ p ≤ 7) ∧ New w w'

/-- It ends with a code of its own, that may be invalid, and a list of numbers. -/
def DrawsKI (w : World) (e : Ending) (w' : World) : Prop :=
  ∃ a l c vs out p a5 l5 c5, ∃ xs : List Int, e = .returned (.tuple #[.agg #[.int .i64 p, .slice a l c], .slice a5 l5 c5]) ∧ OwnR w' 53 3 (.slice a l c) vs out ∧ RowsK out ∧ (0 ≤ p ∧ p ≤ 7) ∧ Own w' 3 (.slice a5 l5 c5) (xs.map (Value.int .i64)) ∧ xs.length ≤ 1001 ∧ New w w'

/-- A code's block is none of rows or of numbers. -/
theorem OwnR.code2 {w w' : World} {G : Nat} {x y v : Value} {vs : List Value} {rows : List (List Int)} (h : OwnR w 53 3 v vs rows) (hb : Blk2 w G x y 24) (hc : Chg (· = G) w w') : OwnR w' 53 3 v vs rows :=
  h.chg hc (own_ne_blk2 h.outer hb (by decide)) (fun i hi => own_ne_blk2 (h.inner i hi) hb (by decide))
theorem Own.code2 {w w' : World} {G : Nat} {x y v : Value} {xs : List Value} (h : Own w 3 v xs) (hb : Blk2 w G x y 24) (hc : Chg (· = G) w w') : Own w' 3 v xs := h.chg hc (own_ne_blk2 h hb (by decide))
end Go.Proofs.YtcdbeepphdfipaaGreatDoor

namespace Go.Proofs.YtcdbeepphdfipaaGreatDoor
open Go.RowKit Mat
set_option linter.unusedVariables false

/-- Small numbers. -/
def Sml (xs : List Int) : Prop := ∀ i, i < xs.length → -1000 ≤ gi xs i ∧ gi xs i ≤ 1000
theorem Sml.snoc {xs : List Int} {x : Int} (h : Sml xs) (hx : -1000 ≤ x ∧ x ≤ 1000) : Sml (xs ++ [x]) := fun i hi => by
  rw [List.length_append, List.length_singleton] at hi
  rw [gi_snoc]
  by_cases c : i < xs.length
  · rw [if_pos c]; exact h i c
  · rw [if_neg c, if_pos (by omega)]; exact hx
theorem Sml.set {xs : List Int} {x : Int} {k : Nat} (h : Sml xs) (hx : -1000 ≤ x ∧ x ≤ 1000) : Sml (xs.set k x) := fun i hi => by
  rw [List.length_set] at hi
  rw [gi_set hi]
  split
  · exact hx
  · exact h i hi
theorem Sml.take {xs : List Int} {k : Nat} (h : Sml xs) : Sml (xs.take k) := fun i hi => by
  rw [List.length_take] at hi
  rw [gi_lt (by rw [List.length_take]; exact hi), List.getElem_take, ← gi_lt (by omega)]
  exact h i (by omega)

set_option maxRecDepth 100000 in
set_option maxHeartbeats 2000000 in
theorem aWordV_any (g N : Nat) (p n : Int) (w : World) (hr : Rd w g N) (hN : N ≤ 900000) (hp : -1000 ≤ p ∧ p ≤ 1000) (hn : n ≤ 1000) :
    Calls Tryz.prog 54 #[.pointer (some ⟨g, 0, none⟩), .int .i64 p, .int .i64 n] w fun e w' => PicksI g (N + 1002) w e w' (fun xs => (n ≤ xs.length ∧ xs.length ≤ 1001 ∧ (0 ≤ n → (xs.length : Int) ≤ n + 1)) ∧ Sml xs) := by
  have hg := hr.lt
  have HR := Lib.hid hr
  have HG := Lib.hid hg
  clear hr hg
  obtain ⟨P, hP⟩ : ∃ P, P = max p 1 := ⟨_, rfl⟩
  have hP1 : 1 ≤ P ∧ P ≤ 1000 := by omega
  have HP := Lib.hid hP
  clear hP
  go_enter Tryz.func54, Tryz.ntmps54
  go_wp2_with fail
  go_loopw [7] (fun t wr => ∃ (k : Nat) (xs : List Int), xs.length = k ∧ k ≤ 1000 ∧ (k : Int) ≤ max n 0 ∧ Own wr 3 t (xs.map (Value.int .i64)) ∧ From w.heap.size t ∧ Hid (Rd wr g (N + k) ∧ Chg (· = g) w wr ∧ Sml xs)) (fun t _ => match t with | .slice _ l _ => (n - l).toNat | _ => 0)
  case atStart => exact ⟨0, [], rfl, Nat.zero_le _, by omega, Own.empty _ _, From.new _ _ _, HR.out.new (New.alloc _ _), Chg.trans (New.alloc _ _) (Chg.refl (· = g) _) (fun _ _ x => x.elim) (fun _ _ x => x), fun i hi => by simp at hi⟩
  case round =>
    obtain ⟨k, xs, hxk, hk, hkn, hown, hfrom, HD⟩ := hrel
    obtain ⟨wz, hwz⟩ : ∃ wz : World, wz = wr := ⟨_, rfl⟩
    rw [← hwz] at hown HD
    rw [← hwz]
    clear hwz
    obtain ⟨a, l, c, rfl, HL, hl, _⟩ := hown.opened (by rw [List.length_map]; unfold Mid; omega)
    have hlk : l = k := by rw [HL.out, List.length_map, hxk]
    subst hlk
    have HX := Lib.hid hxk
    have HO := Lib.hid (And.intro hown hfrom)
    clear hown hfrom hxk
    have hnotg : ∀ g', (Value.slice a l c).ownBlock = some g' → ¬ g' = g := fun g' h e => by have := HO.out.2 g' h; have := HG.out; omega
    have HNG := Lib.hid hnotg
    clear hnotg
    by_cases hln : (l : Int) < n
    · by_cases hp1 : p < 1
      · obtain rfl : P = 1 := by have := HP.out; omega
        go_wp2_with fail
        refine (pick_any g (N + l) 1 _ HD.out.1 (by omega) (by omega)).mono ?_
        rintro e w1 ⟨x, rfl, hpx, hr1, hc1⟩
        have HPX := Lib.hid (show -1000 ≤ x ∧ x ≤ 1000 from ⟨by have := hpx.1; omega, by have := hpx.2.1 (by omega); omega⟩)
        clear hpx
        have H1 := Lib.hid (And.intro hr1 (And.intro (Chg.trans HD.out.2.1 hc1 (fun _ _ x => x) (fun _ _ x => x)) (HO.out.1.chg hc1 (fun g' h e => HNG.out g' h e))))
        clear hr1 hc1
        go_wp2_with (at_builtin; refine wpList_app1 rfl _ _ _ rfl tyInt w1 H1.out.2.2 rfl _ _ rfl rfl rfl (by rw [List.length_map, HX.out]; omega) ?_; intro v2 w2 k1 k2 k3; obtain ⟨a2, l2, c2, rfl, HL2, hl2, _⟩ := k1.opened (by rw [List.length_append, List.length_map, HX.out]; unfold Mid; simp; omega); have K2 := Lib.hid (And.intro k1 (And.intro k2 k3)); clear k1 k2 k3)
        obtain rfl : l2 = l + 1 := by rw [HL2.out, List.length_append, List.length_map, HX.out]; rfl
        obtain ⟨m1, m2, m3, m4⟩ := grow1 HG.out HO.out.2 H1.out.1 H1.out.2.1 K2.out.1 K2.out.2.1 K2.out.2.2
        go_roundw
        case rel => exact ⟨l + 1, xs ++ [x], by rw [List.length_append, HX.out]; rfl, by omega, by omega, m1, m2, m3, m4, HD.out.2.2.snoc HPX.out⟩
        case measure => simp; omega
      · obtain rfl : P = p := by have := HP.out; omega
        go_wp2_with fail
        refine (pick_any g (N + l) P _ HD.out.1 (by omega) (by omega)).mono ?_
        rintro e w1 ⟨x, rfl, hpx, hr1, hc1⟩
        have HPX := Lib.hid (show -1000 ≤ x ∧ x ≤ 1000 from ⟨by have := hpx.1; omega, by have := hpx.2.1 (by omega); omega⟩)
        clear hpx
        have H1 := Lib.hid (And.intro hr1 (And.intro (Chg.trans HD.out.2.1 hc1 (fun _ _ x => x) (fun _ _ x => x)) (HO.out.1.chg hc1 (fun g' h e => HNG.out g' h e))))
        clear hr1 hc1
        go_wp2_with (at_builtin; refine wpList_app1 rfl _ _ _ rfl tyInt w1 H1.out.2.2 rfl _ _ rfl rfl rfl (by rw [List.length_map, HX.out]; omega) ?_; intro v2 w2 k1 k2 k3; obtain ⟨a2, l2, c2, rfl, HL2, hl2, _⟩ := k1.opened (by rw [List.length_append, List.length_map, HX.out]; unfold Mid; simp; omega); have K2 := Lib.hid (And.intro k1 (And.intro k2 k3)); clear k1 k2 k3)
        obtain rfl : l2 = l + 1 := by rw [HL2.out, List.length_append, List.length_map, HX.out]; rfl
        obtain ⟨m1, m2, m3, m4⟩ := grow1 HG.out HO.out.2 H1.out.1 H1.out.2.1 K2.out.1 K2.out.2.1 K2.out.2.2
        go_roundw
        case rel => exact ⟨l + 1, xs ++ [x], by rw [List.length_append, HX.out]; rfl, by omega, by omega, m1, m2, m3, m4, HD.out.2.2.snoc HPX.out⟩
        case measure => simp; omega
    · go_wp2_with fail
      refine (pick_any g (N + l) 40 _ HD.out.1 (by omega) (by omega)).mono ?_
      rintro e w1 ⟨x, rfl, -, hr1, hc1⟩
      have H1 := Lib.hid (And.intro hr1 (And.intro (Chg.trans HD.out.2.1 hc1 (fun _ _ x => x) (fun _ _ x => x)) (HO.out.1.chg hc1 (fun g' h e => HNG.out g' h e))))
      clear hr1 hc1
      by_cases hx0 : x = 0
      · subst hx0
        go_wp2_with (at_builtin; refine wpList_app1 rfl _ _ _ rfl tyInt w1 H1.out.2.2 rfl _ _ rfl rfl rfl (by rw [List.length_map, HX.out]; omega) ?_; intro v2 w2 k1 k2 k3; have K2 := Lib.hid (And.intro k1 (And.intro k2 k3)); clear k1 k2 k3)
        obtain ⟨m1, m2, m3, m4⟩ := grow1 HG.out HO.out.2 H1.out.1 H1.out.2.1 K2.out.1 K2.out.2.1 K2.out.2.2
        go_ret
        exact ⟨v2, xs ++ [0], rfl, m1, m2, ⟨⟨by rw [List.length_append, HX.out]; simp; omega, by rw [List.length_append, HX.out]; simp; omega, fun h => by rw [List.length_append, HX.out]; simp; omega⟩, HD.out.2.2.snoc (by omega)⟩, m3.mono (by omega), m4⟩
      · have hd0 : (x == 0) = false := by simp; omega
        by_cases hx1 : x = 1
        · subst hx1
          by_cases hl0 : l = 0
          · subst hl0
            go_wp2_with fail
            go_ret
            exact ⟨_, xs, rfl, H1.out.2.2, HO.out.2, ⟨⟨by rw [HX.out]; omega, by rw [HX.out]; omega, fun h => by rw [HX.out]; omega⟩, HD.out.2.2⟩, H1.out.1.mono (by omega), H1.out.2.1⟩
          · have hl1 : 0 < l := by omega
            obtain ⟨gb, rfl⟩ := HO.out.1.head (i := 0) (by rw [List.length_map, HX.out]; exact hl1)
            go_wp2_with fail
            refine (one_lit g (N + l + 1) (fun y => -1000 ≤ y ∧ y ≤ 1000) [-1, p] _ _ _ _ rfl rfl H1.out.1 (by omega) (by simp) (by simp) (fun y hy => by simp at hy; omega)).mono ?_
            rintro e w2 ⟨y, rfl, hpy, hr2, hc2⟩
            have HPY := Lib.hid hpy
            clear hpy
            have ho2 := H1.out.2.2.chg hc2 (fun g' h e => HNG.out g' h e)
            obtain ⟨cl, fl⟩ := ho2.cell (i := 0) (by rw [List.length_map, HX.out]; exact hl1)
            have H2 := Lib.hid (And.intro hr2 (And.intro (Chg.trans H1.out.2.1 hc2 (fun _ _ x => x) (fun _ _ x => x)) ho2))
            clear hr2 hc2 ho2
            go_wp2_with fail
            go_ret
            have hgb : w.heap.size ≤ gb := HO.out.2 gb rfl
            have hst := H2.out.2.2.set 0 (.int .i64 y)
            rw [set_map_int] at hst
            exact ⟨_, xs.set 0 y, rfl, hst, HO.out.2, ⟨⟨by rw [List.length_set, HX.out]; omega, by rw [List.length_set, HX.out]; omega, fun h => by rw [List.length_set, HX.out]; omega⟩, HD.out.2.2.set HPY.out⟩, (H2.out.1.chg (Chg.setCell w2 ⟨gb, 0, none⟩ _) (fun k hk => by have := HG.out; simp at hk; omega)).mono (by omega), Chg.trans H2.out.2.1 (Chg.setCell w2 ⟨gb, 0, none⟩ _) (fun _ _ x => x) (fun i hi h => by simp at h; omega)⟩
        · have hd1 : (x == 1) = false := by simp; omega
          go_wp2_with fail
          go_ret
          exact ⟨_, xs, rfl, H1.out.2.2, HO.out.2, ⟨⟨by rw [HX.out]; omega, by rw [HX.out]; omega, fun h => by rw [HX.out]; omega⟩, HD.out.2.2⟩, H1.out.1.mono (by omega), H1.out.2.1⟩
set_option maxHeartbeats 4000000 in
theorem specEncode_some (p : Int) (n : Nat) (vr vm : Value) (rows : List (List Int)) (m : List Int) (w : World) (hp : 2 ≤ p ∧ p ≤ 7) (hn : 1 ≤ n ∧ n ≤ 7) (hr : IsR w vr rows) (hm : IsI w vm m)
    (hok : RowsOk p n rows) (h1 : 1 ≤ rows.length) (hl : m.length ≤ rows.length) (hmr : Sml m) :
    Calls Tryz.prog 55 #[.agg #[.int .i64 p, vr], vm] w fun e w' => GivesI w e w' (fun xs => xs.length = n ∧ Sml xs) := by
  obtain ⟨ar, nr, cr, rfl, HNR, hnr⟩ := hr.shape
  obtain ⟨am, nm, cm, rfl, HNM, hnm⟩ := hm.shape
  obtain ⟨b0, o0, u0, rfl, ck0, hu0⟩ := hr.at (i := 0) (by rw [HNR.out]; exact h1)
  rw [Nat.add_zero] at ck0
  obtain ⟨a0, n0, c0, rfl, HN0, hn0⟩ := hu0.shape
  obtain rfl : n0 = n := by rw [HN0.out]; exact (hok 0 (by omega)).1
  have hle : nm ≤ nr := by rw [HNR.out, HNM.out]; exact hl
  have h1' : 0 < nr := by rw [HNR.out]; omega
  have HR := Lib.hid hr
  have HM := Lib.hid hm
  have HOK := Lib.hid hok
  have HMR := Lib.hid hmr
  clear hr hm hok hmr hl h1 hu0
  have b1 := Blk2.alloc w (.int .i64 p) (.slice (some ⟨b0, o0, none⟩) nr cr) 24
  have hn1 : New w (w.alloc (.cells #[.int .i64 p, .slice (some ⟨b0, o0, none⟩) nr cr] 24)) := New.alloc _ _
  have hs1 : (w.alloc (.cells #[.int .i64 p, .slice (some ⟨b0, o0, none⟩) nr cr] 24)).heap.size = w.heap.size + 1 := by rw [World.size_alloc]
  have ck01 := hn1.cellNew ck0
  go_enter Tryz.func55, Tryz.ntmps55
  go_wp2_with (at_make; refine wpList_mk rfl _ _ _ rfl tyInt _ _ _ _ n0 n0 rfl rfl rfl rfl (Nat.le_refl _) hn0 ?_; intro v3 w3 hv3 ho3 hn3 hs3; rw [hs1] at hv3; subst hv3; have HO3 := Lib.hid ho3; have HN3 := Lib.hid hn3; clear ho3 hn3 hs3)
  have h3 := hn1.trans HN3.out
  have b3 := b1.new HN3.out
  clear b1 hn1 hs1 ck01 HN3
  go_loopw [6] (fun i wr => ∃ (k : Nat) (xs : List Int), i = .int .i64 k ∧ k ≤ nm ∧ xs.length = n0 ∧ Hid (∀ j, j < n0 → -7 ≤ gi xs j ∧ gi xs j ≤ 7) ∧ Own wr 3 (.slice (some ⟨w.heap.size + 1, 0, none⟩) n0 n0) (xs.map (Value.int .i64)) ∧ New w wr ∧ Blk2 wr w.heap.size (.int .i64 p) (.slice (some ⟨b0, o0, none⟩) nr cr) 24) (fun i _ => nm - (intOf i).toNat)
  case atStart => exact ⟨0, List.replicate n0 0, rfl, Nat.zero_le _, by simp, fun j hj => by rw [gi_replicate]; omega, by rw [List.map_replicate]; exact HO3.out, h3, b3⟩
  case round =>
    obtain ⟨k, xs, rfl, hk, hxl, HS, hown, hnew, hblk⟩ := hrel
    obtain ⟨wo, hwo⟩ : ∃ wo : World, wo = wr := ⟨_, rfl⟩
    rw [← hwo] at hown hnew hblk
    rw [← hwo]
    clear hwo
    have HO := Lib.hid (And.intro hown hxl)
    have HW := Lib.hid hnew
    have HB := Lib.hid hblk
    clear hown hnew hblk hxl
    by_cases hkm : k < nm
    · have hkm' : k < m.length := by rw [← HNM.out]; exact hkm
      have hkr : k < nr := by omega
      have hkr' : k < rows.length := by rw [← HNR.out]; exact hkr
      obtain ⟨bm, om, rfl, cm0⟩ := HM.out.at hkm
      have hbm := World.block_lt_of_cell? w _ cm0
      obtain ⟨b', o', u, e, ck, hu⟩ := HR.out.at hkr
      simp at e
      obtain ⟨rfl, rfl⟩ := e
      obtain ⟨au, nu, cu, rfl, HNU, hnu⟩ := hu.shape
      have hrk := HOK.out k hkr'
      have hnun : nu = n0 := by rw [HNU.out]; exact hrk.1
      subst hnun
      have hmk := HMR.out k hkm'
      obtain ⟨y, hy⟩ : ∃ y, y = gi m k := ⟨_, rfl⟩
      rw [← hy] at hmk cm0
      have HU := Lib.hid hu
      have HRK := Lib.hid hrk
      clear hu hrk hy
      go_wp2_with fail
      go_loopw [7] (fun i wr => ∃ (j : Nat) (zs : List Int), i = .int .i64 j ∧ j ≤ nu ∧ zs.length = nu ∧ Hid (∀ j, j < nu → -7 ≤ gi zs j ∧ gi zs j ≤ 7) ∧ Own wr 3 (.slice (some ⟨w.heap.size + 1, 0, none⟩) nu nu) (zs.map (Value.int .i64)) ∧ Chg (· = w.heap.size + 1) wo wr) (fun i _ => nu - (intOf i).toNat)
      case atStart => exact ⟨0, xs, rfl, Nat.zero_le _, HO.out.2, HS.out, HO.out.1, Chg.refl _ _⟩
      case round =>
        obtain ⟨j, zs, rfl, hj, hzl, HZ, hown, hchg⟩ := hrel
        have HY := Lib.hid (And.intro hown hzl)
        have HC := Lib.hid hchg
        clear hown hchg hzl
        have hbl := (HB.out.chg HC.out (by omega))
        obtain ⟨d0, d1, _, _⟩ := hbl.cells
        clear hbl
        have ck' := HC.out.cell (HW.out.cellNew ck) (by have := World.block_lt_of_cell? w _ ck; simp only at this ⊢; omega)
        have cm' := HC.out.cell (HW.out.cellNew cm0) (by simp only at hbm ⊢; omega)
        by_cases hjn : j < nu
        · obtain ⟨bx, ox, rfl, cx0⟩ := HU.out.at hjn
          have cx := HC.out.cell (HW.out.cellNew cx0) (by have := World.block_lt_of_cell? w _ cx0; simp only at this ⊢; omega)
          obtain ⟨cy, fy⟩ := HY.out.1.cell (i := j) (by rw [List.length_map, HY.out.2]; exact hjn)
          rw [gv_map_int (by rw [HY.out.2]; exact hjn)] at cy
          have hz1 := HZ.out j hjn
          have hx1 := HRK.out.2 j hjn
          obtain ⟨z, hz⟩ : ∃ z, z = gi zs j := ⟨_, rfl⟩
          obtain ⟨x, hx⟩ : ∃ x, x = gi (gr rows k) j := ⟨_, rfl⟩
          rw [← hz] at hz1 cy
          rw [← hx] at hx1 cx
          have hxy : -6000 ≤ y * x ∧ y * x ≤ 6000 := by
            have h1 : 0 ≤ x ∧ x ≤ 6 := by omega
            have h2 := Int.mul_le_mul_of_nonneg_right hmk.1 h1.1
            have h3 := Int.mul_le_mul_of_nonneg_right hmk.2 h1.1
            omega
          have htb := tmod_bounds (z + y * x) p (by omega)
          obtain ⟨r, hr⟩ : ∃ r, (z + y * x).tmod p = r := ⟨_, rfl⟩
          rw [hr] at htb
          have hpz : p ≠ 0 := by omega
          have hw1 : IntKind.i64.wrap (y * x) = y * x := IntWalk.i64_in _ (by omega)
          have hw2 : IntKind.i64.wrap (z + y * x) = z + y * x := IntWalk.i64_in _ (by omega)
          have hw3 : IntKind.i64.wrap r = r := IntWalk.i64_in _ (by omega)
          clear hz hx
          go_wp2_with fail
          go_region
          all_goals go_wp2_with fail
          all_goals go_roundw
          case rel =>
            have hst := (HY.out.1.set j (.int .i64 r)).new (New.drew _)
            rw [set_map_int] at hst
            exact ⟨j + 1, zs.set j r, by go_num, by omega, by rw [List.length_set]; exact HY.out.2, fun i hi => by
              rw [gi_set (by rw [HY.out.2]; exact hi)]
              split
              · omega
              · exact HZ.out i hi, hst, Chg.trans (Chg.trans HC.out (Chg.setCell _ _ _) (U := (· = w.heap.size + 1)) (fun _ _ x => x) (fun _ _ x => x)) (New.drew _) (fun _ _ x => x) (fun _ _ x => x.elim)⟩
          case measure => simp [intOf]; omega
        · obtain rfl : j = nu := by omega
          go_wp2_with fail
          go_roundw
          case rel => exact ⟨k + 1, zs, by go_num, by omega, HY.out.2, HZ.out, HY.out.1, HW.out.then HC.out (fun i hi => by omega), HB.out.chg HC.out (by omega)⟩
          case measure => simp [intOf]; omega
    · obtain rfl : k = nm := by omega
      go_wp2_with fail
      go_ret
      exact ⟨_, xs, rfl, HO.out.1, (fun g hg => by simp [Value.ownBlock] at hg; omega), ⟨HO.out.2, fun i hi => by have := HS.out i (by rw [← HO.out.2]; exact hi); omega⟩, HW.out⟩
end Go.Proofs.YtcdbeepphdfipaaGreatDoor
