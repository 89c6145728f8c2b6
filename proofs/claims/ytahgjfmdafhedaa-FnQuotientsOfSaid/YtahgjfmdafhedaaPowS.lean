/- PowersOf of the reference. -/
import Derived.Test.YtahgjfmdafhedaaPowM
import Derived.Test.YtahgjfmdafhedaaGenM
import Derived.Test.YtahgjfmdafhedaaDualOf
import Derived.Test.YtahgjfmdafhedaaSolS
namespace Go.Proofs.Ytahgjfmdafhedaa
open Go.RowKit Mat
set_option linter.unusedVariables false

/-- What PowersOf asks. -/
def PowOk (p : Int) (xs : List Int) (k : Int) : Prop := prB p = true ∧ (1 ≤ k ∧ k ≤ 4) ∧ (k ≤ xs.length ∧ (xs.length : Int) ≤ 7) ∧ DiffP p xs
/-- What PowersOf answers. -/
def PowQ (p : Int) (xs : List Int) (k : Int) (p' : Int) (out : List (List Int)) (ok : Bool) : Prop :=
  (ok = true → PowOk p xs k ∧ p' = p ∧ out = powR p xs k.toNat) ∧ (ok = false → ¬ PowOk p xs k ∧ p' = 0 ∧ out = [])
theorem PowQ.unique {p : Int} {xs : List Int} {k : Int} {a b : Int} {x y : List (List Int)} {o o' : Bool} (h : PowQ p xs k a x o) (h' : PowQ p xs k b y o') : a = b ∧ x = y ∧ o = o' := by
  cases o with
  | true =>
    cases o' with
    | true => exact ⟨by rw [(h.1 rfl).2.1, (h'.1 rfl).2.1], by rw [(h.1 rfl).2.2, (h'.1 rfl).2.2], rfl⟩
    | false => exact absurd (h.1 rfl).1 (h'.2 rfl).1
  | false =>
    cases o' with
    | true => exact absurd (h'.1 rfl).1 (h.2 rfl).1
    | false => exact ⟨by rw [(h.2 rfl).2.1, (h'.2 rfl).2.1], by rw [(h.2 rfl).2.2, (h'.2 rfl).2.2], rfl⟩
theorem PowQ.small {p : Int} {xs : List Int} {k a : Int} {x : List (List Int)} {o : Bool} (h : PowQ p xs k a x o) : x.length ≤ 7 ∧ ∀ i, i < x.length → (gr x i).length ≤ 7 := by
  cases o with
  | true =>
    obtain ⟨h1, _, h2⟩ := h.1 rfl
    have h3 := h1.2.1
    have h4 := h1.2.2.1
    rw [h2, powR_length]
    exact ⟨by omega, fun i hi => by rw [powR_get _ _ hi, powL_length]; omega⟩
  | false =>
    rw [(h.2 rfl).2.2]
    exact ⟨by simp, fun i hi => by simp at hi⟩
theorem powL_tab (p : Int) (xs : List Int) (i : Nat) : powL p xs i = tab xs.length (fun t => pwZ p (gi xs t) i) :=
  ext_gi (by rw [powL_length, tab_length]) (fun j hj => by
    rw [powL_length] at hj
    rw [powL_get hj, tab_get hj])

set_option maxHeartbeats 1000000 in
theorem powerByX_any (p x : Int) (i : Nat) (w : World) (hp : 2 ≤ p ∧ p ≤ 7) (hx : 0 ≤ x ∧ x < p) (hi : i ≤ 10) :
    Calls Try.prog 45 #[.int .i64 p, .int .i64 x, .int .i64 i] w fun e w' => e = .returned (.int .i64 (pwZ p x i)) ∧ w = w' := by
  go_enter Try.func45, Try.ntmps45
  go_wp2
  go_loop [2, 7] (fun t2 t7 => ∃ (d : Nat) (j y : Int), t2 = .int .i64 j ∧ t7 = .int .i64 y ∧ 0 ≤ j ∧ j ≤ i ∧ Hid (j = (i : Int) - d) ∧ (0 ≤ y ∧ y < p) ∧ Hid (y = pwZ p x d)) (fun t2 _ => (intOf t2).toNat)
  case atStart => exact ⟨0, i, 1, rfl, rfl, by omega, by omega, by show (i : Int) = i - ((0 : Nat) : Int); omega, by omega, rfl⟩
  case round =>
    obtain ⟨d, j, y, rfl, rfl, hj0, hji, HJ, hy, HY⟩ := hrel
    have hm := mul_small (x := y) (y := x) (by omega) (by omega) (by omega) (by omega)
    have h1 := Int.emod_nonneg (y * x) (show p ≠ 0 by omega)
    have h2 := Int.emod_lt_of_pos (y * x) (show 0 < p by omega)
    by_cases hj1 : 0 < j
    · go_wp2
      go_round
      case rel => exact ⟨d + 1, j - 1, y * x % p, by go_num, by go_num, by omega, by omega, by have := HJ.out; show j - 1 = (i : Int) - ((d + 1 : Nat) : Int); omega, ⟨h1, h2⟩, by show y * x % p = pwZ p x (d + 1); rw [pwZ, ← HY.out]⟩
      case measure => simp [intOf]; omega
    · have HE := Lib.hid (show y = pwZ p x i by rw [HY.out, show d = i by have := HJ.out; omega])
      go_wp2
      go_ret
      exact ⟨ret_int HE.out, rfl⟩

set_option maxHeartbeats 2000000 in
theorem differentX_any (p : Int) (v : Value) (xs : List Int) (w : World) (hp : -1000 ≤ p ∧ p ≤ 1000) (hx : IsI w v xs) :
    Calls Try.prog 44 #[.int .i64 p, v] w fun e w' => TellsB w e w' (DiffP p xs) := by
  obtain ⟨ao, n, cap, rfl, HN, hn⟩ := hx.shape
  have HX := Lib.hid hx
  clear hx
  go_enter Try.func44, Try.ntmps44
  go_wp2
  go_loopw [5] (fun t wr => ∃ k : Nat, t = .int .i64 k ∧ k ≤ n ∧ Hid (New w wr ∧ (∀ j, j < k → 0 ≤ gi xs j ∧ gi xs j < p) ∧ ∀ i j, i < j → j < k → gi xs i ≠ gi xs j)) (fun t _ => n - (intOf t).toNat)
  case atStart => exact ⟨0, rfl, Nat.zero_le _, Chg.refl _ _, fun j hj => by omega, fun i j _ hj => by omega⟩
  case round =>
    obtain ⟨k, rfl, hk, HD⟩ := hrel
    by_cases hkn : k < n
    · obtain ⟨b, o, rfl, ck⟩ := (HX.out.new HD.out.1).at hkn
      cases hin : inB (gi xs k) 0 (p - 1) with
      | false =>
        have HI := Lib.hid hin
        clear hin
        go_wp2_with (go_at_call 43; refine (inRange_any _ _ _ _).mono ?_; rintro e w' ⟨rfl, rfl⟩; rw [HI.out])
        go_ret
        exact ⟨false, rfl, ⟨(fun h => by cases h), fun h => by
          have h9 := h.1 k (by rw [← HN.out]; exact hkn)
          have h8 := inB_iff.2 (show (0 : Int) ≤ gi xs k ∧ gi xs k ≤ p - 1 by omega)
          rw [HI.out] at h8; cases h8⟩, HD.out.1⟩
      | true =>
        have HI := Lib.hid hin
        clear hin
        obtain ⟨wo, hwo⟩ : ∃ wo : World, wo = wr := ⟨_, rfl⟩
        rw [← hwo] at HD ck
        rw [← hwo]
        clear hwo
        go_wp2_with (go_at_call 43; refine (inRange_any _ _ _ _).mono ?_; rintro e w' ⟨rfl, rfl⟩; rw [HI.out])
        go_loopw [6] (fun t wr => ∃ j : Nat, t = .int .i64 j ∧ j ≤ k ∧ New wo wr ∧ Hid (∀ i, i < j → gi xs i ≠ gi xs k)) (fun t _ => k - (intOf t).toNat)
        case atStart => exact ⟨0, rfl, Nat.zero_le _, Chg.refl _ _, fun i hi => by omega⟩
        case round =>
          obtain ⟨j, rfl, hj, hnew, HNE⟩ := hrel
          have hn2 := HD.out.1.trans hnew
          by_cases hjk : j < k
          · obtain ⟨b1, o1, e1, cj⟩ := (HX.out.new hn2).at (show j < n by omega)
            simp only [Option.some.injEq, Addr.mk.injEq, and_true] at e1
            obtain ⟨rfl, rfl⟩ := e1
            have ck' := hnew.cellNew ck
            have HN2 := Lib.hid (And.intro hn2 hnew)
            clear hn2 hnew ck
            by_cases he : gi xs j = gi xs k
            · have HEQ := Lib.hid he
              go_wp2
              go_quiet (fail)
              go_wp2
              go_ret
              exact ⟨false, rfl, ⟨(fun h => by cases h), fun h => absurd HEQ.out (h.2 j k hjk (by rw [← HN.out]; exact hkn))⟩, HN2.out.1.trans (New.drewN _ _)⟩
            · go_wp2
              go_quiet (fail)
              go_wp2
              go_roundw
              case rel => exact ⟨j + 1, by go_num, by omega, HN2.out.2.trans (New.drewN _ _), fun i hi => by
                by_cases e : i = j
                · rw [e]; exact he
                · exact HNE.out i (by omega)⟩
              case measure => simp [intOf]; omega
          · obtain rfl : j = k := by omega
            have HN2 := Lib.hid hn2
            clear hnew hn2
            go_wp2
            go_roundw
            case rel => exact ⟨j + 1, by go_num, by omega, HN2.out, fun i hi => by
              by_cases e : i < j
              · exact HD.out.2.1 i e
              · obtain rfl : i = j := by omega
                have := inB_iff.1 HI.out
                omega, fun i i' hii hi => by
              by_cases e : i' < j
              · exact HD.out.2.2 i i' hii e
              · obtain rfl : i' = j := by omega
                exact HNE.out i hii⟩
            case measure => simp [intOf]; omega
    · obtain rfl : k = n := by omega
      go_wp2
      go_ret
      exact ⟨true, rfl, ⟨fun _ => ⟨fun i hi => HD.out.2.1 i (by rw [HN.out]; exact hi), fun i j hij hj => HD.out.2.2 i j hij (by rw [HN.out]; exact hj)⟩, fun _ => rfl⟩, HD.out.1⟩

set_option maxRecDepth 100000 in
set_option maxHeartbeats 4000000 in
theorem specPowersOf_any (p k : Int) (v : Value) (xs : List Int) (w : World) (hx : IsI w v xs) :
    Calls Try.prog 10 #[.int .i64 p, v, .int .i64 k] w fun e w' => GivesCB w e w' (PowQ p xs k) := by
  obtain ⟨ao, n, cap, rfl, HN0, hn⟩ := hx.shape
  have HX := Lib.hid hx
  clear hx
  have r0 := Blk2.alloc w (.int .i64 0) (.slice none 0 0) 28
  have n0 := New.alloc w (.cells #[.int .i64 0, .slice none 0 0] 28)
  obtain ⟨w0, hw0⟩ : ∃ w0, w0 = w.alloc (.cells #[.int .i64 0, .slice none 0 0] 28) := ⟨_, rfl⟩
  rw [← hw0] at r0 n0
  have HW0 := Lib.hid hw0
  clear hw0
  have fin : ∀ wq : World, New w wq → Blk2 wq w.heap.size (.int .i64 0) (.slice none 0 0) 28 → ¬ PowOk p xs k → GivesCB w (.returned (.tuple #[.agg #[.int .i64 0, .slice none 0 0], .bool false])) ((wq.setCell ⟨w.heap.size, 0, none⟩ (.int .i64 0)).setCell ⟨w.heap.size, 1, none⟩ (.slice none 0 0)) (PowQ p xs k) := fun wq h1 h2 h3 =>
    ⟨.slice none 0 0, [], [], 0, false, rfl, ⟨Own.nil _ _, rfl, fun i hi => by simp at hi, fun i j hi => by simp at hi⟩, ⟨fun g hg => by simp [Value.ownBlock] at hg, fun i hi => by simp at hi⟩, ⟨(fun h => by cases h), fun _ => ⟨h3, rfl, rfl⟩⟩, h1.then (h2.put _ _).2.2 (fun i hi => by omega)⟩
  have FIN := Lib.hid fin
  clear fin
  obtain ⟨d0, d1, f0, f1⟩ := r0.cells
  go_enter Try.func10, Try.ntmps10
  cases hp : prB p with
  | false =>
    have HP := Lib.hid hp
    clear hp
    go_wp2_with (first | (go_at_call 42; refine (isPrime_any _ _).mono ?_; rintro e w' ⟨rfl, rfl⟩; rw [HP.out, ← HW0.out]))
    obtain ⟨x0, x1, hx⟩ := r0.put (.int .i64 0) (.slice none 0 0)
    refine bodyPost_ret (v := .tuple #[.agg #[.int .i64 0, .slice none 0 0], .bool false]) (by simp [results, go_sem, x0, x1]) rfl ?_
    exact FIN.out _ n0 r0 (fun h => by have := h.1; rw [HP.out] at this; cases this)
  | true =>
    have hpb := prB_bounds hp
    have HP := Lib.hid hp
    clear hp
    cases hi1 : inB k 1 4 with
    | false =>
      have HI1 := Lib.hid hi1
      have HI2 := HI1
      clear hi1
      go_wp2_with (first | (go_at_call 42; refine (isPrime_any _ _).mono ?_; rintro e w' ⟨rfl, rfl⟩; rw [HP.out, ← HW0.out]) | (go_at_call 43; refine (inRange_any _ _ _ _).mono ?_; rintro e w' ⟨rfl, rfl⟩; first | rw [HI1.out] | rw [HI2.out]))
      obtain ⟨x0, x1, hx⟩ := r0.put (.int .i64 0) (.slice none 0 0)
      refine bodyPost_ret (v := .tuple #[.agg #[.int .i64 0, .slice none 0 0], .bool false]) (by simp [results, go_sem, x0, x1]) rfl ?_
      exact FIN.out _ n0 r0 (fun h => by have := inB_iff.2 h.2.1; rw [HI1.out] at this; cases this)
    | true =>
      have hk := inB_iff.1 hi1
      have HI1 := Lib.hid hi1
      clear hi1
      cases hi2 : inB n k 7 with
      | false =>
        have HI2 := Lib.hid hi2
        clear hi2
        go_wp2_with (first | (go_at_call 42; refine (isPrime_any _ _).mono ?_; rintro e w' ⟨rfl, rfl⟩; rw [HP.out, ← HW0.out]) | (go_at_call 43; refine (inRange_any _ _ _ _).mono ?_; rintro e w' ⟨rfl, rfl⟩; first | rw [HI1.out] | rw [HI2.out]))
        obtain ⟨x0, x1, hx⟩ := r0.put (.int .i64 0) (.slice none 0 0)
        refine bodyPost_ret (v := .tuple #[.agg #[.int .i64 0, .slice none 0 0], .bool false]) (by simp [results, go_sem, x0, x1]) rfl ?_
        exact FIN.out _ n0 r0 (fun h => by have := inB_iff.2 h.2.2.1; rw [← HN0.out, HI2.out] at this; cases this)
      | true =>
        have hnk := inB_iff.1 hi2
        have HI2 := Lib.hid hi2
        clear hi2
        go_wp2_with (first | (go_at_call 42; refine (isPrime_any _ _).mono ?_; rintro e w' ⟨rfl, rfl⟩; rw [HP.out, ← HW0.out]) | (go_at_call 43; refine (inRange_any _ _ _ _).mono ?_; rintro e w' ⟨rfl, rfl⟩; first | rw [HI1.out] | rw [HI2.out]))
        refine (differentX_any p _ xs _ (by omega) (HX.out.new n0)).mono ?_
        rintro e w1 ⟨b, rfl, hb, hn1⟩
        have r1 := r0.new hn1
        have n1 := n0.trans hn1
        obtain ⟨g0, g1, k0, k1⟩ := r1.cells
        clear d0 d1 f0 f1 hn1 HI1 HI2
        cases b with
        | false =>
          have HNO : Hid (¬ DiffP p xs) := fun h => by have := hb.2 h; cases this
          clear hb
          go_wp2_with fail
          obtain ⟨x0, x1, hx⟩ := r1.put (.int .i64 0) (.slice none 0 0)
          refine bodyPost_ret (v := .tuple #[.agg #[.int .i64 0, .slice none 0 0], .bool false]) (by simp [results, go_sem, x0, x1]) rfl ?_
          exact FIN.out _ n1 r1 (fun h => HNO.out h.2.2.2)
        | true =>
          obtain ⟨k, rfl⟩ : ∃ i : Nat, k = i := ⟨k.toNat, by omega⟩
          have HDP := Lib.hid (hb.1 rfl)
          have HB := Lib.hid HDP.out.1
          have HR1 := Lib.hid (And.intro r1 n1)
          have hsz := Blk2.lt r1
          clear hb r1 n1 r0 n0 g0 g1 k0 k1
          go_wp2_with fail
          have r2 := HR1.out.1.new (New.alloc w1 (.cells #[.int .i64 p, .slice none 0 0] 28))
          have c2 := Blk2.alloc w1 (.int .i64 p) (.slice none 0 0) 28
          go_loopw [9] (fun t9 wr => ∃ (i : Nat) (a : Option Addr) (l c : Nat) (vs : List Value) (out : List (List Int)), t9 = .int .i64 i ∧ i ≤ k ∧ Hid (out = powR p xs i) ∧ Hid (OwnR wr 23 3 (.slice a l c) vs out ∧ FromR w.heap.size (.slice a l c) vs out ∧ New w wr) ∧ Hid (Blk2 wr w.heap.size (.int .i64 0) (.slice none 0 0) 28) ∧ Hid (Blk2 wr w1.heap.size (.int .i64 p) (.slice a l c) 28)) (fun t9 _ => k - (intOf t9).toNat)
          case atStart => exact ⟨0, none, 0, 0, [], [], rfl, Nat.zero_le _, rfl, ⟨⟨Own.nil _ _, rfl, fun i hi => by simp at hi, fun i j hi => by simp at hi⟩, ⟨fun g hg => by simp [Value.ownBlock] at hg, fun i hi => by simp at hi⟩, HR1.out.2.trans (New.alloc _ _)⟩, r2, c2⟩
          case round =>
            obtain ⟨i, a, l, c, vs, out, rfl, hi, HL, HO, HA, HC⟩ := hrel
            clear r2 c2
            obtain ⟨wz, hwz⟩ : ∃ wz : World, wz = wr := ⟨_, rfl⟩
            rw [← hwz] at HO HA HC
            rw [← hwz]
            clear hwz
            obtain ⟨p0, p1, p2, p3⟩ := HC.out.cells
            obtain ⟨q0, q1, q2, q3⟩ := HA.out.cells
            have HV := Lib.hid (show vs.length = i by rw [HO.out.1.len, HL.out, powR_length])
            by_cases hik : i < k
            · go_wp2_with fail
              go_loopw [10, 11] (fun t10 t11 wr => ∃ (j : Nat) (ys : List Int), t11 = .int .i64 j ∧ j ≤ n ∧ Hid (ys = tab j (fun t => pwZ p (gi xs t) i)) ∧ Own wr 3 t10 (ys.map (Value.int .i64)) ∧ From wz.heap.size t10 ∧ Hid (New wz wr)) (fun _ t11 _ => n - (intOf t11).toNat)
              case atStart => exact ⟨0, [], rfl, Nat.zero_le _, rfl, Own.empty _ _, From.new _ _ _, New.alloc _ _⟩
              case round =>
                obtain ⟨j, ys, rfl, hj, HY, hown, hfrom, HN⟩ := hrel
                obtain ⟨wy, hwy⟩ : ∃ wy : World, wy = wr := ⟨_, rfl⟩
                rw [← hwy] at hown HN
                rw [← hwy]
                clear hwy
                obtain ⟨a1, l1, c1, rfl, HL1, hl1, _⟩ := hown.opened (by rw [List.length_map, HY.out, tab_length]; unfold Mid; omega)
                have hlj : l1 = j := by rw [HL1.out, List.length_map, HY.out, tab_length]
                subst hlj
                have HOW := Lib.hid (And.intro hown hfrom)
                clear hown hfrom
                by_cases hjn : l1 < n
                · obtain ⟨b, o, rfl, ck⟩ := (HX.out.new (HO.out.2.2.trans HN.out)).at hjn
                  have HBJ := Lib.hid (HB.out l1 (by rw [← HN0.out]; exact hjn))
                  go_wp2_with fail
                  refine (powerByX_any p (gi xs l1) i _ (by omega) HBJ.out (by omega)).mono ?_
                  rintro e w' ⟨rfl, rfl⟩
                  obtain ⟨y, hy⟩ : ∃ y, y = pwZ p (gi xs l1) i := ⟨_, rfl⟩
                  rw [← hy]
                  have HYE := Lib.hid hy
                  clear hy
                  go_wp2_with (at_builtin; refine wpList_app1 rfl _ _ _ rfl tyInt wy HOW.out.1 rfl _ _ rfl rfl rfl (by rw [List.length_map, HY.out, tab_length]; omega) ?_; intro v4 w4 k1 k2 k3; have K4 := Lib.hid (And.intro k1 (And.intro k2 k3)); clear k1 k2 k3)
                  obtain ⟨m1, m2, m3⟩ := grow0 HOW.out.2 HN.out K4.out.1 K4.out.2.1 K4.out.2.2
                  go_roundw
                  case rel => exact ⟨l1 + 1, ys ++ [y], by go_num, by omega, by show ys ++ [y] = tab (l1 + 1) _; rw [tab_succ, HY.out, HYE.out], m1, m2, m3⟩
                  case measure => simp [intOf]; omega
                · obtain rfl : l1 = n := by omega
                  have HCY := Lib.hid (HC.out.new HN.out)
                  have HAY := Lib.hid (HA.out.new HN.out)
                  obtain ⟨p0, p1, p2, p3⟩ := HCY.out.cells
                  obtain ⟨q0, q1, q2, q3⟩ := HAY.out.cells
                  go_wp2_with (at_builtin; refine wpList_app1 rfl _ _ _ rfl tyRow wy (HO.out.1.outer.new HN.out) rfl _ _ rfl rfl rfl (by rw [HV.out]; omega) ?_; intro v5 w5 k1 k2 k3; obtain ⟨a5, l5, c5, rfl, HL5, _, _⟩ := k1.opened (by rw [List.length_append, HV.out]; unfold Mid; simp; omega); obtain ⟨u0, u1, u2, u3⟩ := (HCY.out.chg k2 (fun e => own_ne_blk2 HO.out.1.outer HC.out (by decide) _ e rfl)).cells; have K5 := Lib.hid (And.intro k1 (And.intro k2 k3)); clear k1 k2 k3)
                  obtain ⟨m1, m2, m3⟩ := OwnR.push HO.out.1 HO.out.2.1 HO.out.2.2.size HN.out HOW.out.1 HOW.out.2 K5.out.1 K5.out.2.1 K5.out.2.2
                  have hb5 := HCY.out.chg K5.out.2.1 (fun e => own_ne_blk2 HO.out.1.outer HC.out (by decide) _ e rfl)
                  have ha5 := HAY.out.chg K5.out.2.1 (fun e => own_ne_blk2 HO.out.1.outer HA.out (by decide) _ e rfl)
                  have hc5 : Chg (· = w1.heap.size) w5 (w5.setCell ⟨w1.heap.size, 1, none⟩ (.slice a5 l5 c5)) := Chg.setCell w5 ⟨w1.heap.size, 1, none⟩ _
                  go_roundw
                  case rel => exact ⟨i + 1, a5, l5, c5, _, out ++ [ys], by go_num, by omega, by show out ++ [ys] = powR p xs (i + 1); rw [powR, HL.out, HY.out, HN0.out, powL_tab],
                    ⟨m1.chg hc5 (own_ne_blk2 m1.outer hb5 (by decide)) (fun i hi => own_ne_blk2 (m1.inner i hi) hb5 (by decide)), m2, HO.out.2.2.then (Chg.trans m3 hc5 (fun i hi x => Or.inl x) (fun i hi x => Or.inr x) (U := fun i => (Value.slice a l c).ownBlock = some i ∨ i = w1.heap.size)) (fun i hi => by
                      rcases hi with h | h
                      · exact HO.out.2.1.1 i h
                      · have := HR1.out.2.size; omega)⟩, ha5.chg hc5 (fun e => by omega), hb5.set1 _⟩
                  case measure => simp [intOf]; omega
            · obtain rfl : i = k := by omega
              go_wp2_with fail
              obtain ⟨x0, x1, hx⟩ := HA.out.put (.int .i64 p) (.slice a l c)
              refine bodyPost_ret (v := .tuple #[.agg #[.int .i64 p, .slice a l c], .bool true]) (by simp [results, go_sem, x0, x1]) rfl ?_
              exact ⟨.slice a l c, vs, out, p, true, rfl, HO.out.1.chg hx (own_ne_blk2 HO.out.1.outer HA.out (by decide)) (fun i hi => own_ne_blk2 (HO.out.1.inner i hi) HA.out (by decide)), HO.out.2.1, ⟨fun _ => ⟨⟨HP.out, ⟨by omega, by omega⟩, ⟨by rw [← HN0.out]; omega, by rw [← HN0.out]; omega⟩, HDP.out⟩, rfl, by rw [Int.toNat_natCast]; exact HL.out⟩, fun h => by cases h⟩, HO.out.2.2.then hx (fun i hi => by omega)⟩
end Go.Proofs.Ytahgjfmdafhedaa
