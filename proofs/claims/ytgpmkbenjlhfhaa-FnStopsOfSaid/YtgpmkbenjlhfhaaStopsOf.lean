/- StopsOf of both. -/
import Derived.Test.YtgpmkbenjlhfhaaPeelOf
import Derived.Test.YtgpmkbenjlhfhaaLossesOf
namespace Go.Proofs.Ytgpmkbenjlhfhaa
open Go.RowKit Mat
set_option linter.unusedVariables false

/-- The sets below k, but that of none, that stop. -/
def StopsTo (checks : List (List Int)) : Nat → List Int → Prop
  | 0, out => out = []
  | k + 1, out => ∃ prev, StopsTo checks k prev ∧ (((1 ≤ k ∧ Stop checks k) ∧ out = prev ++ [(k : Int)]) ∨ (¬ (1 ≤ k ∧ Stop checks k) ∧ out = prev))
theorem StopsTo.one (checks : List (List Int)) : StopsTo checks 1 [] := ⟨[], rfl, .inr ⟨(fun h => absurd h.1 (by decide)), rfl⟩⟩
theorem StopsTo.unique {checks : List (List Int)} {k : Nat} : ∀ {a b : List Int}, StopsTo checks k a → StopsTo checks k b → a = b := by
  induction k with
  | zero => intro a b h h'; rw [show a = _ from h, show b = _ from h']
  | succ k ih =>
    rintro a b ⟨x, hx, h⟩ ⟨y, hy, h'⟩
    obtain rfl := ih hx hy
    rcases h with ⟨m, rfl⟩ | ⟨m, rfl⟩ <;> rcases h' with ⟨m', rfl⟩ | ⟨m', rfl⟩
    · rfl
    · exact absurd m m'
    · exact absurd m' m
    · rfl
theorem StopsTo.length {checks : List (List Int)} {k : Nat} : ∀ {a : List Int}, StopsTo checks k a → a.length ≤ k := by
  induction k with
  | zero => intro a h; rw [show a = _ from h]; simp
  | succ k ih =>
    rintro a ⟨x, hx, h⟩
    have := ih hx
    rcases h with ⟨m, rfl⟩ | ⟨m, rfl⟩
    · simp; omega
    · omega

/-- What StopsOf answers. -/
structure StopsR (p : Int) (rows : List (List Int)) (out : List Int) : Prop where
  yes : ValidC p rows → ∃ checks, NulC p rows checks ∧ StopsTo checks (2 ^ (gr rows 0).length) out
  no : ¬ ValidC p rows → out = []
theorem StopsR.unique {p : Int} {rows : List (List Int)} {a b : List Int} (h : StopsR p rows a) (h' : StopsR p rows b) : a = b := by
  by_cases c : ValidC p rows
  · obtain ⟨k, hk, ho⟩ := h.yes c
    obtain ⟨k', hk', ho'⟩ := h'.yes c
    obtain rfl := hk.unique hk'
    exact ho.unique ho'
  · rw [h.no c, h'.no c]
theorem StopsR.small {p : Int} {rows : List (List Int)} {a : List Int} (h : StopsR p rows a) : a.length ≤ 1048576 := by
  by_cases c : ValidC p rows
  · obtain ⟨k, hk, ho⟩ := h.yes c
    have := ho.length
    have := pow_lt c.few.2.2.2.1
    omega
  · rw [h.no c]; simp

set_option maxRecDepth 100000 in
set_option maxHeartbeats 2000000 in
theorem specStopsOf_any (p : Int) (v : Value) (rows : List (List Int)) (w : World) (hr : IsR w v rows) :
    Calls Try.prog 49 #[.agg #[.int .i64 p, v]] w fun e w' => GivesI w e w' (StopsR p rows) := by
  obtain ⟨ao, m, cap, rfl, HN, hn⟩ := hr.shape
  have HR := Lib.hid hr
  clear hr
  have h1 : New w (w.alloc (.cells #[.int .i64 p, .slice ao m cap] 25)) := New.alloc _ _
  have b1 := Blk2.alloc w (.int .i64 p) (.slice ao m cap) 25
  go_enter Try.func49, Try.ntmps49
  go_wp2_with fail
  refine (validCode_any _ _ rows _ (HR.out.new h1)).mono ?_
  rintro e w2 ⟨⟨b, rfl, hb⟩, hn2⟩
  have h2 := h1.trans hn2
  have b2 := b1.new hn2
  have HB := Lib.hid hb
  clear hb hn2 b1 h1
  obtain ⟨c0, c1, _, _⟩ := b2.cells
  cases b with
  | false =>
    go_wp2_with fail
    go_ret
    exact givesNil h2 ⟨(fun h => by have := HB.out.2 h; cases this), fun _ => rfl⟩
  | true =>
    have hv := HB.out.1 rfl
    have hf := hv.few
    obtain ⟨q, rfl, hq⟩ := prime_nat (vtB_pr hv.1)
    haveI := hq.nz
    obtain ⟨n, hne⟩ : ∃ n, n = (gr rows 0).length := ⟨_, rfl⟩
    have ht : TabOk q n rows := by rw [hne]; exact vtB_ok hv.1
    have hn7 := ht.n7
    have hm1 : 1 ≤ rows.length := hf.1
    have hp := pow_lt hn7
    have hp0 : 0 < 2 ^ n := Nat.two_pow_pos _
    obtain ⟨N, hNN⟩ : ∃ N, N = 2 ^ n := ⟨_, rfl⟩
    rw [← hNN] at hp hp0
    have HV := Lib.hid hv
    have HT := Lib.hid ht
    have HNE := Lib.hid hne
    have HNN := Lib.hid hNN
    clear hv hf hq HB ht hNN
    have hm0 : 0 < m := by rw [HN.out]; exact hm1
    obtain ⟨b0, o0, u0, rfl, ck0, hu0⟩ := (HR.out.new h2).at (i := 0) hm0
    rw [Nat.add_zero] at ck0
    obtain ⟨a0, mc, cc0, rfl, HM, hm⟩ := hu0.shape
    have hmc : n = mc := by rw [HM.out, hne]
    subst hmc
    clear hu0 hne
    have hsz : w.heap.size < w2.heap.size := (Array.getElem?_eq_some_iff.1 b2).1
    have hal : New w2 (w2.alloc (.cells #[] 3)) := New.alloc _ _
    have ho3 : Own (w2.alloc (.cells #[] 3)) 3 (.slice (some ⟨w2.heap.size, 0, none⟩) 0 0) [] := Own.empty _ _
    obtain ⟨w3, hw3⟩ : ∃ w3 : World, w3 = w2.alloc (.cells #[] 3) := ⟨_, rfl⟩
    have b3 := b2.new hal
    rw [← hw3] at hal b3 ho3
    have HW3 := Lib.hid hw3
    have HO3 := Lib.hid ho3
    clear hw3 ho3 c0 c1
    obtain ⟨d0, d1, _, _⟩ := b3.cells
    rw [HW3.out] at d0 d1
    go_wp2_with fail
    rw [← HW3.out]
    refine (specNulls_c q n _ rows _ (HR.out.new (h2.trans hal)) HT.out).mono ?_
    rintro e w4 ⟨u, vs, out, rfl, hnul, ho, hf, hn4⟩
    have hb := hnul.bounds
    have hc7 := HT.out.cols
    obtain ⟨au, nu, cu, rfl, _, _, _⟩ := ho.outer.opened (by rw [ho.len]; unfold Mid; omega)
    have hbb : out.length ≤ 7 ∧ ∀ i, i < out.length → (gr out i).length ≤ 7 := ⟨by omega, fun i hi => by have := hb.2 i hi; omega⟩
    have hs23 : w2.heap.size < w3.heap.size := by rw [HW3.out, World.size_alloc]; omega
    have hs24 : w2.heap.size < w4.heap.size := Nat.lt_of_lt_of_le hs23 hn4.size
    have HI := Lib.hid (And.intro ho (And.intro hf hbb))
    have HNUL := Lib.hid hnul
    have h24 := hal.trans hn4
    have hb0 : b0 < w2.heap.size := World.block_lt_of_cell? _ _ ck0
    have b4 := b2.new h24
    have HO4 := Lib.hid (HO3.out.new hn4)
    have H24 := Lib.hid (And.intro h24 (h2.trans h24))
    clear ho hf hnul hn4 hb hbb hc7 b3 d0 d1 HW3 h2 b2 h24 hal HO3
    go_wp2_with fail
    go_loopw [3, 5] (fun t i wr => ∃ (s : Nat) (res : List Int), i = .int .i64 s ∧ 1 ≤ s ∧ s ≤ N ∧ res.length ≤ s ∧ Chg (· = w2.heap.size) w4 wr ∧ Own wr 3 t (res.map (Value.int .i64)) ∧ (∀ g, t.ownBlock = some g → g = w2.heap.size ∨ w4.heap.size ≤ g) ∧ Hid (StopsTo out s res)) (fun _ i _ => N - (intOf i).toNat)
    case atStart => exact ⟨1, [], rfl, by omega, by omega, by simp, Chg.refl _ _, HO4.out, (fun g hg => by simp [Value.ownBlock] at hg; omega), StopsTo.one out⟩
    case round =>
      obtain ⟨s, res, rfl, hs1, hs, hrl, hnew, hown, hfrom, HD⟩ := hrel
      obtain ⟨wz, hwz⟩ : ∃ wz : World, wz = wr := ⟨_, rfl⟩
      rw [← hwz] at hnew hown
      rw [← hwz]
      clear hwz
      have hbr := b4.chg hnew (by omega)
      obtain ⟨d0, d1, _, _⟩ := hbr.cells
      have ckr := hnew.cell (H24.out.1.cellNew ck0) (by simp only; omega)
      have hir : IsR wz (.slice au nu cu) out := (HI.out.1.chg hnew (fun g hg hs => by have := HI.out.2.1.1 g hg; omega) (fun i hi g hg hs => by have := HI.out.2.1.2 i hi g hg; omega)).isR (by have := HI.out.2.2.1; unfold Mid; omega) (fun i hi => by have := HI.out.2.2.2 i hi; unfold Mid; omega)
      have HIR := Lib.hid hir
      have hlen : (res.map (Value.int .i64)).length + 1 ≤ 1099511627776 := by rw [List.length_map]; omega
      obtain ⟨a3, l3, c3, rfl, _, _, _⟩ := hown.opened (by unfold Mid; omega)
      have HO := Lib.hid (And.intro hown (And.intro hfrom hnew))
      clear hown hfrom hnew hbr hir
      by_cases hsN : s < N
      · have hs128 : s < 128 := by omega
        go_wp2_with (go_at_call 88; refine (power_any n _ (by omega)).mono ?_; rintro e w' ⟨rfl, rfl⟩; rw [← HNN.out])
        refine (specPeel_any _ out s _ HIR.out HI.out.2.2.1 HI.out.2.2.2 hs128).mono ?_
        rintro e w' ⟨o, rfl, ho, rfl⟩
        have hself := ho.self
        have HSELF := Lib.hid hself
        clear ho hself
        by_cases he : o = s
        · have hst := HSELF.out.1 he
          have HST := Lib.hid hst
          clear hst HSELF
          subst he
          go_wp2_with (at_builtin; refine wpList_app1 rfl _ _ _ rfl tyInt _ HO.out.1 rfl _ _ rfl rfl rfl hlen ?_; intro v2 w6 k1 k2 k3; have K2 := Lib.hid (And.intro k1 (And.intro k2 k3)); clear k1 k2 k3)
          go_roundw
          case rel =>
            obtain ⟨k1, k2, k3⟩ := K2.out
            exact ⟨o + 1, res ++ [(o : Int)], by go_num, by omega, by omega, by simp; omega, Chg.trans HO.out.2.2 k2 (fun _ _ x => x) (fun i hi x => by have := HO.out.2.1 i x; omega), by rw [List.map_append]; exact k1, (fun g hg => by
              rcases k3 g hg with x | x
              · exact HO.out.2.1 g x
              · exact .inr (Nat.le_trans HO.out.2.2.size x)), ⟨res, HD.out, .inl ⟨⟨hs1, HST.out⟩, rfl⟩⟩⟩
          case measure => simp [intOf]; omega
        · have hst : ¬ (1 ≤ s ∧ Stop out s) := fun h => he (HSELF.out.2 h.2)
          have HST := Lib.hid hst
          have hd : ((o : Int) == (s : Int)) = false := by simp; omega
          clear hst HSELF
          go_wp2_with fail
          go_roundw
          case rel => exact ⟨s + 1, res, by go_num, by omega, by omega, by omega, HO.out.2.2, HO.out.1, HO.out.2.1, ⟨res, HD.out, .inr ⟨HST.out, rfl⟩⟩⟩
          case measure => simp [intOf]; omega
      · obtain rfl : s = N := by omega
        go_wp2_with (go_at_call 88; refine (power_any n _ (by omega)).mono ?_; rintro e w' ⟨rfl, rfl⟩; rw [← HNN.out])
        go_ret
        exact ⟨_, res, rfl, HO.out.1, (fun g hg => by have := HO.out.2.1 g hg; omega), ⟨fun _ => ⟨out, HNUL.out, by rw [← HNE.out, ← HNN.out]; exact HD.out⟩, fun h => absurd HV.out h⟩, H24.out.2.then HO.out.2.2 (fun i hi => by omega)⟩

set_option maxRecDepth 100000 in
set_option maxHeartbeats 2000000 in
theorem implStopsOf_any (p : Int) (v : Value) (rows : List (List Int)) (w : World) (hr : IsR w v rows) :
    Calls Try.prog 46 #[.agg #[.int .i64 p, v]] w fun e w' => GivesI w e w' (StopsR p rows) := by
  obtain ⟨ao, m, cap, rfl, HN, hn⟩ := hr.shape
  have HR := Lib.hid hr
  clear hr
  have h1 : New w (w.alloc (.cells #[.int .i64 p, .slice ao m cap] 25)) := New.alloc _ _
  have b1 := Blk2.alloc w (.int .i64 p) (.slice ao m cap) 25
  go_enter Try.func46, Try.ntmps46
  go_wp2_with fail
  refine (known_any _ _ rows _ (HR.out.new h1)).mono ?_
  rintro e w2 ⟨⟨b, rfl, hb⟩, hn2⟩
  have h2 := h1.trans hn2
  have b2 := b1.new hn2
  have HB := Lib.hid hb
  clear hb hn2 b1 h1
  obtain ⟨c0, c1, _, _⟩ := b2.cells
  cases b with
  | false =>
    go_wp2_with fail
    go_ret
    exact givesNil h2 ⟨(fun h => by have := HB.out.2 h; cases this), fun _ => rfl⟩
  | true =>
    have hv := HB.out.1 rfl
    have hf := hv.few
    obtain ⟨q, rfl, hq⟩ := prime_nat (vtB_pr hv.1)
    haveI := hq.nz
    obtain ⟨n, hne⟩ : ∃ n, n = (gr rows 0).length := ⟨_, rfl⟩
    have ht : TabOk q n rows := by rw [hne]; exact vtB_ok hv.1
    have hn7 := ht.n7
    have hm1 : 1 ≤ rows.length := hf.1
    have hp := pow_lt hn7
    have hp0 : 0 < 2 ^ n := Nat.two_pow_pos _
    have hw12 := wrap_pow n (by omega)
    obtain ⟨N, hNN⟩ : ∃ N, N = 2 ^ n := ⟨_, rfl⟩
    rw [← hNN] at hp hp0 hw12
    have HV := Lib.hid hv
    have HT := Lib.hid ht
    have HNE := Lib.hid hne
    have HNN := Lib.hid hNN
    clear hv hf hq HB ht hNN hne
    go_wp2_with fail
    refine (implNulls_c q n _ rows _ (HR.out.new h2) HT.out).mono ?_
    rintro e w4 ⟨u, vs, out, rfl, hnul, ho, hf, hn4⟩
    have hb := hnul.bounds
    have hc7 := HT.out.cols
    obtain ⟨au, nu, cu, rfl, _, _, _⟩ := ho.outer.opened (by rw [ho.len]; unfold Mid; omega)
    have hio := ho.isR (by unfold Mid; omega) (fun i hi => by have := hb.2 i hi; unfold Mid; omega)
    have hbb : out.length ≤ 7 ∧ ∀ i, i < out.length → (gr out i).length ≤ 7 := ⟨by omega, fun i hi => by have := hb.2 i hi; omega⟩
    have HI := Lib.hid (And.intro hio hbb)
    have HNUL := Lib.hid hnul
    have b4 := b2.new hn4
    have H4 := Lib.hid (h2.trans hn4)
    clear ho hf hnul hn4 hio hb hbb hc7 h2 b2 c0 c1
    go_wp2_with fail
    go_loopw [6, 7] (fun t i wr => ∃ (s : Nat) (res : List Int), i = .int .i64 s ∧ 1 ≤ s ∧ s ≤ N ∧ res.length ≤ s ∧ New w4 wr ∧ Own wr 3 t (res.map (Value.int .i64)) ∧ From w4.heap.size t ∧ Hid (StopsTo out s res)) (fun _ i _ => N - (intOf i).toNat)
    case atStart => exact ⟨1, [], rfl, by omega, by omega, by simp, New.alloc _ _, Own.empty _ _, From.new _ _ _, StopsTo.one out⟩
    case round =>
      obtain ⟨s, res, rfl, hs1, hs, hrl, hnew, hown, hfrom, HD⟩ := hrel
      obtain ⟨wz, hwz⟩ : ∃ wz : World, wz = wr := ⟨_, rfl⟩
      rw [← hwz] at hnew hown
      rw [← hwz]
      clear hwz
      have hbr := b4.new hnew
      obtain ⟨d0, d1, _, _⟩ := hbr.cells
      have hlen : (res.map (Value.int .i64)).length + 1 ≤ 1099511627776 := by rw [List.length_map]; omega
      obtain ⟨a3, l3, c3, rfl, _, _, _⟩ := hown.opened (by unfold Mid; omega)
      have HO := Lib.hid (And.intro hown (And.intro hfrom hnew))
      clear hown hfrom hnew hbr
      go_wp2_with fail
      refine (columnsOf_any _ _ rows _ (HR.out.new (H4.out.trans HO.out.2.2)) hm1).mono ?_
      rintro e w5 ⟨rfl, hn5⟩
      rw [← HNE.out]
      have HO5 := Lib.hid (And.intro (HO.out.1.new hn5) (And.intro HO.out.2.1 (HO.out.2.2.trans hn5)))
      clear HO hn5 d0 d1
      by_cases hsN : s < N
      · have hs128 : s < 128 := by omega
        go_wp2_with fail
        refine (implPeel_any _ out s _ (HI.out.1.new HO5.out.2.2) HI.out.2.1 HI.out.2.2 hs128).mono ?_
        rintro e w' ⟨o, rfl, ho, rfl⟩
        have hself := ho.self
        have HSELF := Lib.hid hself
        clear ho hself
        by_cases he : o = s
        · have hst := HSELF.out.1 he
          have HST := Lib.hid hst
          clear hst HSELF
          subst he
          go_wp2_with (at_builtin; refine wpList_app1 rfl _ _ _ rfl tyInt _ HO5.out.1 rfl _ _ rfl rfl rfl hlen ?_; intro v2 w6 k1 k2 k3; have K2 := Lib.hid (And.intro k1 (And.intro k2 k3)); clear k1 k2 k3)
          go_roundw
          case rel =>
            obtain ⟨k1, k2, k3⟩ := K2.out
            exact ⟨o + 1, res ++ [(o : Int)], by go_num, by omega, by omega, by simp; omega, HO5.out.2.2.then k2 (fun i hi => HO5.out.2.1 i hi), by rw [List.map_append]; exact k1, (fun g hg => by
              rcases k3 g hg with x | x
              · exact HO5.out.2.1 g x
              · exact Nat.le_trans HO5.out.2.2.size x), ⟨res, HD.out, .inl ⟨⟨hs1, HST.out⟩, rfl⟩⟩⟩
          case measure => simp [intOf]; omega
        · have hst : ¬ (1 ≤ s ∧ Stop out s) := fun h => he (HSELF.out.2 h.2)
          have HST := Lib.hid hst
          have hd : ((o : Int) == (s : Int)) = false := by simp; omega
          clear hst HSELF
          go_wp2_with fail
          go_roundw
          case rel => exact ⟨s + 1, res, by go_num, by omega, by omega, by omega, HO5.out.2.2, HO5.out.1, HO5.out.2.1, ⟨res, HD.out, .inr ⟨HST.out, rfl⟩⟩⟩
          case measure => simp [intOf]; omega
      · obtain rfl : s = N := by omega
        have hlm : Mid (res.map (Value.int .i64)).length := by unfold Mid; omega
        go_wp2_with fail
        refine (clip_any _ _ _ HO5.out.1 hlm).mono ?_
        rintro e w' ⟨u6, rfl, ho, hub, rfl⟩
        have HU := Lib.hid (And.intro ho hub)
        clear ho hub
        go_wp2_with fail
        go_ret
        exact ⟨u6, res, rfl, HU.out.1, (fun g hg => by have := HO5.out.2.1 g (by rw [← HU.out.2]; exact hg); have := H4.out.size; omega), ⟨fun _ => ⟨out, HNUL.out, by rw [← HNE.out, ← HNN.out]; exact HD.out⟩, fun h => absurd HV.out h⟩, H4.out.trans HO5.out.2.2⟩
end Go.Proofs.Ytgpmkbenjlhfhaa
