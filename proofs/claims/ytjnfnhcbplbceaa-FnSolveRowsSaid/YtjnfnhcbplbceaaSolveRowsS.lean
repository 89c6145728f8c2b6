/- spec.SolveRows; rows and one more; the generator of SolveRows. -/
import Derived.Test.YtjnfnhcbplbceaaSolveRows
import Derived.Test.YtjnfnhcbplbceaaSolS
import Derived.Test.YtjnfnhcbplbceaaEnco
import Derived.Test.YtjnfnhcbplbceaaDrawT
import Derived.BigRegion
namespace Go.Proofs.Ytjnfnhcbplbceaa
open Go.RowKit Mat
set_option linter.unusedVariables false

theorem SolveQ.unique {p : Int} {rows : List (List Int)} {goal a b : List Int} {x y : Bool} (h : SolveQ p rows goal a x) (h' : SolveQ p rows goal b y) : a = b ∧ x = y := by
  by_cases c : GoalC p rows goal
  · obtain ⟨q, i1, e, h1⟩ := h.yes c
    obtain ⟨q', i2, e', h2⟩ := h'.yes c
    obtain rfl : q = q' := by omega
    have hpr := vtB_pr c.1
    rw [e] at hpr
    obtain ⟨q2, e2, hq⟩ := prime_nat hpr
    obtain rfl : q2 = q := by omega
    exact h1.unique hq h2
  · rw [(h.no c).1, (h.no c).2, (h'.no c).1, (h'.no c).2]; exact ⟨rfl, rfl⟩
theorem SolveQ.len {p : Int} {rows : List (List Int)} {goal a : List Int} {x : Bool} (h : SolveQ p rows goal a x) : a.length ≤ 6 := by
  by_cases c : GoalC p rows goal
  · obtain ⟨q, i1, e, h1⟩ := h.yes c
    have := h1.len
    have := (vtB_iff.1 c.1).2.1.2
    omega
  · rw [(h.no c).1]; simp

set_option maxHeartbeats 1000000 in
theorem specSolveRows_any (p : Int) (v vg : Value) (rows : List (List Int)) (goal : List Int) (w : World) (hr : IsR w v rows) (hg : IsI w vg goal) :
    Calls Try.prog 57 #[.int .i64 p, v, vg] w fun e w' => GivesIB w e w' (SolveQ p rows goal) := by
  have HR := Lib.hid hr
  have HG := Lib.hid hg
  obtain ⟨ao, n, cap, rfl, HN, hn⟩ := hr.shape
  obtain ⟨ag, m, cg, rfl, HM, hm⟩ := hg.shape
  clear hr hg
  go_enter Try.func57, Try.ntmps57
  go_wp2_with fail
  refine (validTable_any _ _ _ _ HR.out).mono ?_
  rintro e w1 ⟨rfl, hn1⟩
  have H1 := Lib.hid hn1
  clear hn1
  cases hv : vtB p rows with
  | false =>
    have HV := Lib.hid hv
    clear hv
    go_wp2_with fail
    go_ret2
    exact givesIBno H1.out ⟨fun h => by (have h1 := h.1; rw [HV.out] at h1; cases h1), fun _ => ⟨rfl, rfl⟩⟩
  | true =>
    have HV := Lib.hid hv
    have hpb := vtB_pr hv
    have hp7 : -1000 ≤ p ∧ p ≤ 1000 := by have := prB_bounds hpb; omega
    obtain ⟨q, rfl, hq⟩ := prime_nat hpb
    haveI := hq.nz
    have HQ := Lib.hid hq
    have ht := vtB_ok hv
    have hn0 : 0 < n := by rw [HN.out]; exact ht.r1
    obtain ⟨b0, o0, u0, rfl, ck0, hu0⟩ := (HR.out.new H1.out).at (i := 0) hn0
    rw [Nat.add_zero] at ck0
    obtain ⟨a0, l, cc0, rfl, HL, hl⟩ := hu0.shape
    have hl7 : l ≤ 7 := by rw [HL.out]; exact ht.n7
    have HT := Lib.hid ht
    clear hv hpb hq ht hu0
    go_wp2_with fail
    refine (validWord_any q _ goal l _ (HG.out.new H1.out) hp7 (by omega)).mono ?_
    rintro e w2 ⟨rfl, rfl⟩
    cases hw : (hasB q goal && decide (goal.length = l)) with
    | false =>
      have HW := Lib.hid hw
      clear hw
      go_wp2_with fail
      go_ret2
      exact givesIBno H1.out ⟨fun h => by (have h1 := HW.out; rw [h.2.2, h.2.1, HL.out] at h1; simp at h1), fun _ => ⟨rfl, rfl⟩⟩
    | true =>
      have hw2 : hasB q goal = true ∧ goal.length = (gr rows 0).length := by rw [Bool.and_eq_true, decide_eq_true_eq] at hw; exact ⟨hw.1, by rw [hw.2]; exact HL.out⟩
      have HW := Lib.hid hw2
      clear hw hw2
      go_wp2_with fail
      have hgg : GoodRow q (gr rows 0).length goal := ⟨HW.out.2, fun i hi => by have := hasB_iff.1 HW.out.1 i (by rw [HW.out.2]; exact hi); omega⟩
      refine (specSolve_any q HQ.out (gr rows 0).length _ _ rows goal _ (HR.out.new H1.out) (HG.out.new H1.out) HT.out.good hgg HT.out.r6 HT.out.n1 HT.out.n7).mono ?_
      rintro e w3 ⟨u, out, ok, rfl, ho, hf, hs, hn3⟩
      have HE := Lib.hid (And.intro ho (And.intro hf (And.intro hs hn3)))
      clear ho hf hs hn3
      go_wp2_with fail
      go_ret2
      exact ⟨u, out, ok, rfl, HE.out.1, (fun g hg => Nat.le_trans H1.out.size (HE.out.2.1 g hg)), ⟨fun _ => ⟨q, this, rfl, HE.out.2.2.1⟩, fun h => absurd ⟨HV.out, HW.out.2, HW.out.1⟩ h⟩, H1.out.trans HE.out.2.2.2⟩

/-- The slices of rows that are read. -/
theorem IsR.srcs {w : World} {so : Option Addr} {n c : Nat} {rows : List (List Int)} (h : IsR w (.slice so n c) rows) :
    ∃ vs : List Value, vs.length = n ∧ (so = none → n = 0 ∧ c = 0) ∧ (∀ ad, so = some ad → ∀ j u, vs[j]? = some u → w.cell? (ad.add j) = some u) ∧ (∀ u ∈ vs, u.oneCell' = true) ∧ ∀ i, i < n → IsI w (gv vs i) (gr rows i) := by
  have hch : ∀ i, ∃ u : Value, i < n → (∀ ad, so = some ad → w.cell? (ad.add i) = some u) ∧ u.oneCell' = true ∧ IsI w u (gr rows i) := fun i => by
    by_cases hi : i < n
    · obtain ⟨b, o, u, rfl, hc, hu⟩ := h.at hi
      refine ⟨u, fun _ => ⟨fun ad had => ?_, ?_, hu⟩⟩
      · obtain rfl := Option.some.inj had
        rw [Addr.add_lit]; exact hc
      · obtain ⟨a, m, k, rfl, _, _⟩ := hu.shape
        rfl
    · exact ⟨undef, fun h => absurd h hi⟩
  obtain ⟨f, hf⟩ := Classical.axiomOfChoice hch
  refine ⟨(List.range n).map f, by simp, fun e => ?_, fun ad had j u hj => ?_, fun u hu => ?_, fun i hi => ?_⟩
  · subst e; exact h.nilCap
  · simp at hj
    obtain ⟨x, hx, rfl⟩ := hj
    have hjn : j < n := by
      have := (List.getElem?_eq_some_iff.1 hx).1
      simpa using this
    rw [List.getElem?_range hjn] at hx
    obtain rfl := Option.some.inj hx
    exact (hf j hjn).1 ad had
  · simp at hu
    obtain ⟨j, hj, rfl⟩ := hu
    exact (hf j hj).2.1
  · rw [gv_lt (by simpa using hi)]
    simp
    exact (hf i hi).2.2
theorem isR_of_own {w : World} {v : Value} {vs : List Value} {rows : List (List Int)} (ho : Own w 31 v vs) (hl : vs.length = rows.length) (hm : Mid rows.length) (hi : ∀ i, i < rows.length → IsI w (gv vs i) (gr rows i)) : IsR w v rows := by
  rcases ho with ⟨rfl, h⟩ | ⟨g, cap, cur, rfl, hh, ha, hb, hc, ht⟩
  · subst h
    have h0 : rows.length = 0 := by simpa using hl.symm
    exact ⟨none, 0, by rw [h0], ⟨by omega, by simp⟩, by simp [maxLen], hm, fun i hi => by omega⟩
  · refine ⟨_, cap, by rw [hl], ⟨by omega, by simp⟩, hb, hm, fun i h => ⟨g, 0, gv vs i, rfl, ?_, hi i h⟩⟩
    rw [Nat.zero_add, cell_of_heap hh]
    exact take_get ht (by omega)

/-- It ends with a number, rows and a goal, all few. -/
def DrawsTG (w : World) (e : Ending) (w' : World) : Prop := ∃ (p : Int) (u g : Value) (rows : List (List Int)) (goal : List Int), e = .returned (.tuple #[.int .i64 p, u, g]) ∧ (-1 ≤ p ∧ p ≤ 11) ∧ IsR w' u rows ∧ (rows.length ≤ 100 ∧ ∀ i, i < rows.length → (gr rows i).length ≤ 7) ∧ IsI w' g goal ∧ goal.length ≤ 1001 ∧ New w w'

set_option maxRecDepth 100000 in
set_option maxHeartbeats 4000000 in
theorem drawSolveRows_any (v : Value) (n : Nat) (w : World) (hb : RawB w v n) :
    Calls Try.prog 56 #[v] w fun e w' => DrawsTG w e w' := by
  obtain ⟨ao, cap, rfl, -⟩ := id hb
  have HB := Lib.hid hb
  clear hb
  obtain ⟨g, hg⟩ : ∃ g, g = w.heap.size := ⟨_, rfl⟩
  go_enter Try.func56, Try.ntmps56
  go_wp2_with fail
  refine (newReader_any _ _ _ HB.out).mono ?_
  rintro e w1 ⟨rfl, hr1, hn1⟩
  rw [← hg] at hr1 ⊢
  have hgl : g < w1.heap.size := hr1.lt
  have HG := Lib.hid (And.intro hg hgl)
  have H1 := Lib.hid (And.intro hr1 hn1)
  clear hr1 hn1 hg hgl
  go_wp2_with fail
  refine (aPrime_any g 0 _ H1.out.1 (by omega)).mono ?_
  rintro e w2 ⟨p, rfl, hp, hr2, hc2⟩
  have H2 := Lib.hid (And.intro hr2 (H1.out.2.then hc2 (fun k hk => by have := HG.out; omega)))
  clear hr2 hc2
  go_wp2_with fail
  refine (aTable_any g 2 p 6 _ H2.out.1 (by omega) (by omega) (by omega)).mono ?_
  rintro e w3 ⟨u, vs, rows, rfl, ho, hf, h1, h2, hr3, hc3⟩
  have hms : Mid rows.length := by unfold Mid; omega
  have hmi : ∀ i, i < rows.length → Mid (gr rows i).length := fun i hi => by have := h2 i hi; unfold Mid; omega
  obtain ⟨au, m, cu, rfl, HM, hm⟩ := (ho.isR hms hmi).shape
  have hm100 : m ≤ 100 := by rw [HM.out]; exact h1
  have hw23 := H2.out.1.lt
  have H3 := Lib.hid (And.intro ho (And.intro (show FromR (g + 1) (.slice au m cu) vs rows from ⟨hf.1.mono hw23, fun i hi => (hf.2 i hi).mono hw23⟩) (And.intro (And.intro h1 h2) (And.intro hr3 (H2.out.2.then hc3 (fun k hk => by have := HG.out; omega))))))
  have HMS := Lib.hid (And.intro hms hmi)
  clear ho hf h1 h2 hr3 hc3 hms hmi hw23
  go_wp2_with fail
  refine (validTable_any p _ rows _ (H3.out.1.isR HMS.out.1 HMS.out.2)).mono ?_
  rintro e w4 ⟨rfl, hn4⟩
  have H4 := Lib.hid (And.intro (H3.out.1.new hn4) (And.intro (H3.out.2.2.2.1.new hn4) (H3.out.2.2.2.2.trans hn4)))
  clear hn4
  cases hv : vtB p rows with
  | false =>
    clear hv
    by_cases hm0 : 0 < m
    · have hlt : 0 < rows.length := by rw [← HM.out]; exact hm0
      obtain ⟨gb, rfl⟩ := H4.out.1.outer.head (i := 0) (by rw [H4.out.1.len]; exact hlt)
      obtain ⟨ck, fk⟩ := H4.out.1.outer.cell (i := 0) (by rw [H4.out.1.len]; exact hlt)
      have hin := (H4.out.1.inner 0 hlt).isI (HMS.out.2 0 hlt)
      obtain ⟨a0, l, c0, hgv, HL, hl⟩ := hin.shape
      rw [hgv] at ck
      have hl7 : l ≤ 7 := by rw [HL.out]; exact H3.out.2.2.1.2 0 hlt
      clear hin hgv hlt
      go_wp2_with fail
      refine (aWord_any g 1002 p l _ H4.out.2.1 (by omega) (by omega) (by omega)).mono ?_
      rintro e w5 ⟨u5, xs, rfl, ho5, hf5, ⟨hx1, hx2, -⟩, hr5, hc5⟩
      have hi5 := ho5.isI (by unfold Mid; omega)
      have hrw := (H4.out.1.chg hc5 (fun b hb e => by have := H3.out.2.1.1 b hb; omega) (fun i hi b hb e => by have := H3.out.2.1.2 i hi b hb; omega)).isR HMS.out.1 HMS.out.2
      have H5 := Lib.hid (And.intro hi5 (And.intro hrw (And.intro hx2 (H4.out.2.2.then hc5 (fun k hk => by have := HG.out; omega)))))
      clear ho5 hf5 hx1 hx2 hr5 hc5 hi5 hrw
      go_wp2_with fail
      go_ret3
      exact ⟨p, _, u5, rows, xs, rfl, hp, H5.out.2.1, H3.out.2.2.1, H5.out.1, H5.out.2.2.1, H5.out.2.2.2⟩
    · obtain rfl : m = 0 := by omega
      go_wp2_with fail
      refine (aWord_any g 1002 p 0 _ H4.out.2.1 (by omega) (by omega) (by omega)).mono ?_
      rintro e w5 ⟨u5, xs, rfl, ho5, hf5, ⟨hx1, hx2, -⟩, hr5, hc5⟩
      have hi5 := ho5.isI (by unfold Mid; omega)
      have hrw := (H4.out.1.chg hc5 (fun b hb e => by have := H3.out.2.1.1 b hb; omega) (fun i hi b hb e => by have := H3.out.2.1.2 i hi b hb; omega)).isR HMS.out.1 HMS.out.2
      have H5 := Lib.hid (And.intro hi5 (And.intro hrw (And.intro hx2 (H4.out.2.2.then hc5 (fun k hk => by have := HG.out; omega)))))
      clear ho5 hf5 hx1 hx2 hr5 hc5 hi5 hrw
      go_wp2_with fail
      go_ret3
      exact ⟨p, _, u5, rows, xs, rfl, hp, H5.out.2.1, H3.out.2.2.1, H5.out.1, H5.out.2.2.1, H5.out.2.2.2⟩
  | true =>
    obtain ⟨q, rfl, hq⟩ := prime_nat (vtB_pr hv)
    have ht := vtB_ok hv
    have hq2 := hq.pos
    have hm0 : 0 < m := by rw [HM.out]; exact ht.r1
    have hlt : 0 < rows.length := ht.r1
    obtain ⟨gb, rfl⟩ := H4.out.1.outer.head (i := 0) (by rw [H4.out.1.len]; exact hlt)
    have hin := (H4.out.1.inner 0 hlt).isI (HMS.out.2 0 hlt)
    obtain ⟨a0, l, c0, hgv, HL, hl⟩ := hin.shape
    have hl7 : l ≤ 7 := by rw [HL.out]; exact ht.n7
    have HT := Lib.hid (And.intro ht hgv)
    clear hv hq ht hin hgv hlt
    go_wp2_with fail
    refine (pick_any g 1002 2 _ H4.out.2.1 (by omega) (by omega)).mono ?_
    rintro e w5 ⟨x, rfl, -, hr5, hc5⟩
    have ho5 := H4.out.1.chg hc5 (fun b hb e => by have := H3.out.2.1.1 b hb; omega) (fun i hi b hb e => by have := H3.out.2.1.2 i hi b hb; omega)
    obtain ⟨ck, fk⟩ := ho5.outer.cell (i := 0) (by rw [ho5.len]; exact HT.out.1.r1)
    rw [HT.out.2] at ck
    have H5 := Lib.hid (And.intro ho5 (And.intro hr5 (H4.out.2.2.then hc5 (fun k hk => by have := HG.out; omega))))
    clear ho5 hr5 hc5
    by_cases hx0 : x = 0
    · subst hx0
      go_wp2_with (at_make; refine wpList_mk rfl _ _ _ rfl tyInt _ _ _ _ l l rfl rfl rfl rfl (Nat.le_refl _) (by omega) ?_; intro v6 w6 hv6 ho6 hn6 hs6; subst hv6; have H6 := Lib.hid (And.intro ho6 (And.intro hn6 hs6)); clear ho6 hn6 hs6)
      have hgw5 : g < w5.heap.size := H5.out.2.1.lt
      have HLC := Lib.hid (show l = (gr rows 0).length from HL.out)
      have hbl5 : gb < w5.heap.size := World.block_lt_of_cell? _ _ ck
      go_loopw [9] (fun t9 wr => ∃ (i N : Nat) (xs : List Int), t9 = .int .i64 i ∧ i ≤ m ∧ N = 1003 + i ∧ Hid (Own wr 3 (.slice (some ⟨w5.heap.size, 0, none⟩) l l) (xs.map (Value.int .i64)) ∧ GoodRow q l xs ∧ Rd wr g N ∧ Chg (fun k => k = g ∨ w5.heap.size ≤ k) w5 wr)) (fun t9 _ => m - (intOf t9).toNat)
      case atStart => exact ⟨0, 1003, List.replicate l 0, rfl, Nat.zero_le _, rfl, by rw [List.map_replicate]; exact H6.out.1, ⟨by simp, fun i hi => by rw [gi_replicate]; omega⟩, H5.out.2.1.new H6.out.2.1, H6.out.2.1.mono (fun _ _ x => x.elim)⟩
      case round =>
        obtain ⟨i, N, xs, rfl, hi, hN, HD⟩ := hrel
        obtain ⟨wz, hwz⟩ : ∃ wz : World, wz = wr := ⟨_, rfl⟩
        rw [← hwz] at HD
        rw [← hwz]
        clear hwz
        by_cases him : i < m
        · have hir : i < rows.length := by rw [← HM.out]; exact him
          go_wp2_with fail
          refine (pick_any g N q _ HD.out.2.2.1 (by omega) (by omega)).mono ?_
          rintro e w7 ⟨f, rfl, hpf, hr7, hc7⟩
          have hf0 := hpf.1
          have hf1 := hpf.2.1 (by omega)
          have hc57 : Chg (fun k => k = g ∨ w5.heap.size ≤ k) w5 w7 := Chg.trans HD.out.2.2.2 hc7 (fun _ _ x => x) (fun _ _ x => .inl x)
          have H7 := Lib.hid (And.intro (HD.out.1.chg hc7 (fun b hb e => by simp [Value.ownBlock] at hb; omega)) (And.intro hr7 hc57))
          clear hpf hr7 hc7 hc57
          go_wp2_with fail
          go_loopw [11] (fun t11 wr => ∃ (k : Nat) (xs : List Int), t11 = .int .i64 k ∧ k ≤ l ∧ Hid (Own wr 3 (.slice (some ⟨w5.heap.size, 0, none⟩) l l) (xs.map (Value.int .i64)) ∧ GoodRow q l xs ∧ Rd wr g (N + 1) ∧ Chg (fun k => k = g ∨ w5.heap.size ≤ k) w5 wr)) (fun t11 _ => l - (intOf t11).toNat)
          case atStart => exact ⟨0, xs, rfl, Nat.zero_le _, H7.out.1, HD.out.2.1, H7.out.2.1, H7.out.2.2⟩
          case round =>
            clear HD H7
            clear xs
            obtain ⟨k, xs, rfl, hk, HD⟩ := hrel
            obtain ⟨wy, hwy⟩ : ∃ wy : World, wy = wr := ⟨_, rfl⟩
            rw [← hwy] at HD
            rw [← hwy]
            clear hwy
            by_cases hkl : k < l
            · have hoy := H5.out.1.chg HD.out.2.2.2 (fun b hb e => by have := H3.out.2.1.1 b hb; have := H5.out.1.outer.lt hb; omega) (fun i hi b hb e => by have := H3.out.2.1.2 i hi b hb; have := (H5.out.1.inner i hi).lt hb; omega)
              obtain ⟨cr, _⟩ := hoy.outer.cell (i := i) (by rw [hoy.len]; exact hir)
              have hri := (hoy.inner i hir).isI (HMS.out.2 i hir)
              obtain ⟨ai, li, ci, hgv, HLI, _⟩ := hri.shape
              rw [hgv] at cr hri
              have hkli : k < li := by rw [HLI.out, (HT.out.1.good i hir).1, ← HLC.out]; exact hkl
              obtain ⟨bx, ox, rfl, cx⟩ := hri.at hkli
              obtain ⟨x, hx⟩ : ∃ x, x = gi (gr rows i) k := ⟨_, rfl⟩
              rw [← hx] at cx
              have hxr : 0 ≤ x ∧ x < q := by rw [hx]; exact (HT.out.1.good i hir).2 k (by rw [← HLC.out]; exact hkl)
              have hkx : k < xs.length := by rw [HD.out.2.1.1]; exact hkl
              obtain ⟨cy, fy⟩ := HD.out.1.cell (i := k) (by rw [List.length_map]; exact hkx)
              rw [gv_map_int hkx] at cy
              obtain ⟨y, hy⟩ : ∃ y, y = gi xs k := ⟨_, rfl⟩
              rw [← hy] at cy
              have hyr : 0 ≤ y ∧ y < q := by rw [hy]; exact HD.out.2.1.2 k hkl
              have hms := mul_small (x := f) (y := x) (by omega) (by omega) (by omega) (by omega)
              have hb0 := Int.emod_nonneg (y + f * x) (show (q : Int) ≠ 0 by omega)
              have hb1 := Int.emod_lt_of_pos (y + f * x) (show 0 < (q : Int) by omega)
              have HB := Lib.hid (And.intro hb0 hb1)
              clear hoy hri hgv hx hy hkx
              go_wp2_with fail
              go_region
              all_goals go_wp2_with fail
              all_goals go_roundw
              case rel =>
                have hst := (HD.out.1.set k (.int .i64 ((y + f * x) % q))).new (New.drew _)
                rw [set_map_int] at hst
                have hch : Chg (· = w5.heap.size) wy ((wy.setCell ⟨w5.heap.size, k, none⟩ (.int .i64 ((y + f * x) % q))).drew) := Chg.trans (Chg.setCell _ _ _) (New.drew _) (fun _ _ x => x) (fun _ _ x => x.elim)
                refine ⟨k + 1, xs.set k ((y + f * x) % q), by go_num, by omega, hst, ⟨by rw [List.length_set]; exact HD.out.2.1.1, fun j hj => ?_⟩, HD.out.2.2.1.chg hch (fun b hb => by omega), Chg.trans HD.out.2.2.2 hch (fun _ _ x => x) (fun _ _ x => .inr (Nat.le_of_eq x.symm))⟩
                rw [gi_lt (by rw [List.length_set, HD.out.2.1.1]; exact hj), List.getElem_set]
                split
                · exact HB.out
                · rw [← gi_lt (by rw [HD.out.2.1.1]; exact hj)]; exact HD.out.2.1.2 j hj
              case measure => simp [intOf]; omega
            · obtain rfl : k = l := by omega
              go_wp2_with fail
              go_roundw
              case rel => exact ⟨i + 1, N + 1, xs, by go_num, by omega, by omega, HD.out⟩
              case measure => simp [intOf]; omega
        · obtain rfl : i = m := by omega
          have hoy := H5.out.1.chg HD.out.2.2.2 (fun b hb e => by have := H3.out.2.1.1 b hb; have := H5.out.1.outer.lt hb; omega) (fun i hi b hb e => by have := H3.out.2.1.2 i hi b hb; have := (H5.out.1.inner i hi).lt hb; omega)
          have HF := Lib.hid (And.intro (hoy.isR HMS.out.1 HMS.out.2) (And.intro (HD.out.1.isI (by rw [HD.out.2.1.1]; unfold Mid; omega)) (H5.out.2.2.then HD.out.2.2.2 (fun b hb => by have := HG.out; have := H5.out.2.2.size; omega))))
          clear hoy
          go_wp2_with fail
          go_ret3
          exact ⟨q, _, _, rows, xs, rfl, hp, HF.out.1, H3.out.2.2.1, HF.out.2.1, by rw [HD.out.2.1.1]; omega, HF.out.2.2⟩
    · have hd0 : (x == 0) = false := by simp; exact hx0
      go_wp2_with fail
      refine (aWord_any g 1003 q l _ H5.out.2.1 (by omega) (by omega) (by omega)).mono ?_
      rintro e w6 ⟨u5, xs, rfl, ho5, hf5, ⟨hx1, hx2, -⟩, hr5, hc5⟩
      have hi5 := ho5.isI (by unfold Mid; omega)
      have hrw := (H5.out.1.chg hc5 (fun b hb e => by have := H3.out.2.1.1 b hb; omega) (fun i hi b hb e => by have := H3.out.2.1.2 i hi b hb; omega)).isR HMS.out.1 HMS.out.2
      have H6 := Lib.hid (And.intro hi5 (And.intro hrw (And.intro hx2 (H5.out.2.2.then hc5 (fun k hk => by have := HG.out; omega)))))
      clear ho5 hf5 hx1 hx2 hr5 hc5 hi5 hrw
      go_wp2_with fail
      go_ret3
      exact ⟨q, _, u5, rows, xs, rfl, hp, H6.out.2.1, H3.out.2.2.1, H6.out.1, H6.out.2.2.1, H6.out.2.2.2⟩
end Go.Proofs.Ytjnfnhcbplbceaa
