/- QuotientsOf of the reference. -/
import Derived.Test.YtahgjfmdafhedaaQuoM
import Derived.Test.YtahgjfmdafhedaaPowS
import Derived.Test.YtahgjfmdafhedaaGenM
namespace Go.Proofs.Ytahgjfmdafhedaa
open Go.RowKit Mat
set_option linter.unusedVariables false

/-- What QuotientsOf asks. -/
def QuoOk (p : Int) (xs ys : List Int) : Prop := prB p = true ∧ (1 ≤ xs.length ∧ xs.length ≤ 4) ∧ (1 ≤ ys.length ∧ xs.length + ys.length ≤ 7) ∧ DiffP p (xs ++ ys)
/-- What QuotientsOf answers. -/
def QuoQ (p : Int) (xs ys : List Int) (p' : Int) (out : List (List Int)) (ok : Bool) : Prop :=
  (ok = true → QuoOk p xs ys ∧ p' = p ∧ out = quoR p xs ys xs.length) ∧ (ok = false → ¬ QuoOk p xs ys ∧ p' = 0 ∧ out = [])
theorem QuoQ.unique {p : Int} {xs ys : List Int} {a b : Int} {x y : List (List Int)} {o o' : Bool} (h : QuoQ p xs ys a x o) (h' : QuoQ p xs ys b y o') : a = b ∧ x = y ∧ o = o' := by
  cases o with
  | true =>
    cases o' with
    | true => exact ⟨by rw [(h.1 rfl).2.1, (h'.1 rfl).2.1], by rw [(h.1 rfl).2.2, (h'.1 rfl).2.2], rfl⟩
    | false => exact absurd (h.1 rfl).1 (h'.2 rfl).1
  | false =>
    cases o' with
    | true => exact absurd (h'.1 rfl).1 (h.2 rfl).1
    | false => exact ⟨by rw [(h.2 rfl).2.1, (h'.2 rfl).2.1], by rw [(h.2 rfl).2.2, (h'.2 rfl).2.2], rfl⟩
theorem QuoQ.small {p : Int} {xs ys : List Int} {a : Int} {x : List (List Int)} {o : Bool} (h : QuoQ p xs ys a x o) : x.length ≤ 7 ∧ ∀ i, i < x.length → (gr x i).length ≤ 7 := by
  cases o with
  | true =>
    obtain ⟨h1, _, h2⟩ := h.1 rfl
    have h3 := h1.2.1
    have h4 := h1.2.2.1
    rw [h2, quoR_length]
    exact ⟨by omega, fun i hi => by rw [quoR_get _ _ _ hi, quoL_length]; omega⟩
  | false =>
    rw [(h.2 rfl).2.2]
    exact ⟨by simp, fun i hi => by simp at hi⟩
/-- Row i of the quotients as far as k. -/
def quoT (p : Int) (xs ys : List Int) (i k : Nat) : List Int := unitL xs.length i ++ tab k (fun t => invZ p ((gi xs i - gi ys t) % p))
theorem quoT_length (p : Int) (xs ys : List Int) (i k : Nat) : (quoT p xs ys i k).length = xs.length + k := by unfold quoT; rw [List.length_append, unitL_length, tab_length]
theorem quoT_succ (p : Int) (xs ys : List Int) (i k : Nat) : quoT p xs ys i (k + 1) = quoT p xs ys i k ++ [invZ p ((gi xs i - gi ys k) % p)] := by unfold quoT; rw [tab_succ, List.append_assoc]
theorem quoT_all (p : Int) (xs ys : List Int) (i : Nat) : quoT p xs ys i ys.length = quoL p xs ys i := by
  unfold quoT quoL
  congr 1
  exact ext_gi (by rw [tab_length, List.length_map]) (fun j hj => by
    rw [tab_length] at hj
    rw [tab_get hj]
    conv => rhs; rw [gi_lt (by rw [List.length_map]; exact hj), List.getElem_map, ← gi_lt hj])
theorem quoT_zero {p : Int} {xs ys : List Int} {i : Nat} (hi : i < xs.length) : (List.replicate xs.length (0 : Int)).set i 1 = quoT p xs ys i 0 :=
  ext_gi (by rw [List.length_set, List.length_replicate, quoT_length]; rfl) (fun j hj => by
    rw [List.length_set, List.length_replicate] at hj
    unfold quoT
    rw [show tab 0 (fun t => invZ p ((gi xs i - gi ys t) % p)) = [] from rfl, List.append_nil, unitL_get hj, gi_set (by rw [List.length_replicate]; exact hj), gi_replicate])
theorem quo_rest {p x y : Int} (hp : prB p = true) (hx : 0 ≤ x ∧ x < p) (hy : 0 ≤ y ∧ y < p) (h : x ≠ y) : 1 ≤ (x + p - y) % p ∧ (x + p - y) % p = (x - y) % p := by
  obtain ⟨q, rfl, hq⟩ := prime_nat hp
  haveI := hq.nz
  have e : (x + q - y) % (q : Int) = (x - y) % q := by rw [show x + q - y = x - y + q by omega, Int.add_emod_right]
  exact ⟨by rw [e]; exact (phi_invD hq hx hy h).1.1, e⟩

set_option maxRecDepth 100000 in
set_option maxHeartbeats 4000000 in
theorem specQuotientsOf_any (p : Int) (v u : Value) (xs ys : List Int) (w : World) (hx : IsI w v xs) (hy : IsI w u ys) :
    Calls Try.prog 16 #[.int .i64 p, v, u] w fun e w' => GivesCB w e w' (QuoQ p xs ys) := by
  obtain ⟨ao, n, cap, rfl, HN0, hn⟩ := hx.shape
  obtain ⟨bo, m, cup, rfl, HM0, hm⟩ := hy.shape
  have HX := Lib.hid hx
  have HYY := Lib.hid hy
  clear hx hy
  have r0 := Blk2.alloc w (.int .i64 0) (.slice none 0 0) 28
  have n0 := New.alloc w (.cells #[.int .i64 0, .slice none 0 0] 28)
  obtain ⟨w0, hw0⟩ : ∃ w0, w0 = w.alloc (.cells #[.int .i64 0, .slice none 0 0] 28) := ⟨_, rfl⟩
  rw [← hw0] at r0 n0
  have HW0 := Lib.hid hw0
  clear hw0
  have fin : ∀ wq : World, New w wq → Blk2 wq w.heap.size (.int .i64 0) (.slice none 0 0) 28 → ¬ QuoOk p xs ys → GivesCB w (.returned (.tuple #[.agg #[.int .i64 0, .slice none 0 0], .bool false])) ((wq.setCell ⟨w.heap.size, 0, none⟩ (.int .i64 0)).setCell ⟨w.heap.size, 1, none⟩ (.slice none 0 0)) (QuoQ p xs ys) := fun wq h1 h2 h3 =>
    ⟨.slice none 0 0, [], [], 0, false, rfl, ⟨Own.nil _ _, rfl, fun i hi => by simp at hi, fun i j hi => by simp at hi⟩, ⟨fun g hg => by simp [Value.ownBlock] at hg, fun i hi => by simp at hi⟩, ⟨(fun h => by cases h), fun _ => ⟨h3, rfl, rfl⟩⟩, h1.then (h2.put _ _).2.2 (fun i hi => by omega)⟩
  have FIN := Lib.hid fin
  clear fin
  obtain ⟨d0, d1, f0, f1⟩ := r0.cells
  go_enter Try.func16, Try.ntmps16
  cases hp : prB p with
  | false =>
    have HP := Lib.hid hp
    clear hp
    go_wp2_with (first | (go_at_call 42; refine (isPrime_any _ _).mono ?_; rintro e w' ⟨rfl, rfl⟩; rw [HP.out, ← HW0.out]))
    obtain ⟨x0, x1, hx⟩ := r0.put (.int .i64 0) (.slice none 0 0)
    refine bodyPost_ret (v := .tuple #[.agg #[.int .i64 0, .slice none 0 0], .bool false]) (by simp [results, go_sem, x0, x1]) rfl ?_
    exact FIN.out _ n0 r0 (fun h => by have := h.1; rw [HP.out] at this; cases this)
  | true =>
    have hpb := prB_bounds hp
    have HP := Lib.hid hp
    clear hp
    cases hi1 : inB n 1 4 with
    | false =>
      have HI1 := Lib.hid hi1
      have HI2 := HI1
      clear hi1
      go_wp2_with (first | (go_at_call 42; refine (isPrime_any _ _).mono ?_; rintro e w' ⟨rfl, rfl⟩; rw [HP.out, ← HW0.out]) | (go_at_call 43; refine (inRange_any _ _ _ _).mono ?_; rintro e w' ⟨rfl, rfl⟩; first | rw [HI1.out] | rw [HI2.out]))
      obtain ⟨x0, x1, hx⟩ := r0.put (.int .i64 0) (.slice none 0 0)
      refine bodyPost_ret (v := .tuple #[.agg #[.int .i64 0, .slice none 0 0], .bool false]) (by simp [results, go_sem, x0, x1]) rfl ?_
      exact FIN.out _ n0 r0 (fun h => by have h2 := h.2.1; rw [← HN0.out] at h2; have := inB_iff.2 (show (1 : Int) ≤ n ∧ (n : Int) ≤ 4 by omega); rw [HI1.out] at this; cases this)
    | true =>
      have hk := inB_iff.1 hi1
      have HI1 := Lib.hid hi1
      clear hi1
      cases hi2 : inB m 1 (7 - n) with
      | false =>
        have HI2 := Lib.hid hi2
        clear hi2
        go_wp2_with (first | (go_at_call 42; refine (isPrime_any _ _).mono ?_; rintro e w' ⟨rfl, rfl⟩; rw [HP.out, ← HW0.out]) | (go_at_call 43; refine (inRange_any _ _ _ _).mono ?_; rintro e w' ⟨rfl, rfl⟩; first | rw [HI1.out] | rw [HI2.out]))
        obtain ⟨x0, x1, hx⟩ := r0.put (.int .i64 0) (.slice none 0 0)
        refine bodyPost_ret (v := .tuple #[.agg #[.int .i64 0, .slice none 0 0], .bool false]) (by simp [results, go_sem, x0, x1]) rfl ?_
        exact FIN.out _ n0 r0 (fun h => by have h2 := h.2.2.1; rw [← HN0.out, ← HM0.out] at h2; have := inB_iff.2 (show (1 : Int) ≤ m ∧ (m : Int) ≤ 7 - n by omega); rw [HI2.out] at this; cases this)
      | true =>
        have hnk := inB_iff.1 hi2
        have HI2 := Lib.hid hi2
        clear hi2
        have HS1 := Lib.hid (HX.out.new (n0.trans (New.alloc w0 (.cells #[] 3)))).src
        go_wp2_with (first
          | (at_builtin; refine wpList_appW rfl (.tmp 32) (.tmp 33) _ rfl tyInt (Own.empty w0 3) rfl ao n cap (xs.map (Value.int .i64)) rfl HS1.out.1 HS1.out.2.1 HS1.out.2.2.1 HS1.out.2.2.2 (by simp; omega) ?_; intro v1 w1 k1 k2 k3; obtain ⟨a1, l1, c1, rfl, _, _, _⟩ := k1.opened (by rw [List.length_append, HS1.out.1]; unfold Mid; simp; omega); have N1 := Lib.hid (New.then (New.alloc w0 _) k2 (fun i hi => Nat.le_of_eq (Option.some.inj hi))); have K1 := Lib.hid (And.intro k1 (And.intro k2 k3)); have HS2 := Lib.hid (HYY.out.new (n0.trans N1.out)).src; clear k1 k2 k3)
          | (at_builtin; refine wpList_appW rfl (.tmp 34) (.tmp 35) _ rfl tyInt K1.out.1 rfl bo m cup (ys.map (Value.int .i64)) rfl HS2.out.1 HS2.out.2.1 HS2.out.2.2.1 HS2.out.2.2.2 (by rw [List.length_append, HS1.out.1]; simp; omega) ?_; intro v2 w2 k1 k2 k3; obtain ⟨a2, l2, c2, rfl, _, _, _⟩ := k1.opened (by rw [List.length_append, List.length_append, HS1.out.1, HS2.out.1]; unfold Mid; simp; omega); have N2 := Lib.hid (New.then N1.out k2 (fun i hi => by
              rcases K1.out.2.2 i hi with h | h
              · exact Nat.le_of_eq (Option.some.inj h)
              · simp at h; omega)); have K2 := Lib.hid (And.intro k1 (And.intro k2 k3)); clear k1 k2 k3)
          | (first | (go_at_call 42; refine (isPrime_any _ _).mono ?_; rintro e w' ⟨rfl, rfl⟩; rw [HP.out, ← HW0.out]) | (go_at_call 43; refine (inRange_any _ _ _ _).mono ?_; rintro e w' ⟨rfl, rfl⟩; first | rw [HI1.out] | rw [HI2.out])))
        have hi2 : IsI w2 (.slice a2 l2 c2) (xs ++ ys) := Own.isI (e := 3) (by rw [List.map_append]; simpa using K2.out.1) (by have := HN0.out; have := HM0.out; unfold Mid; rw [List.length_append]; omega)
        refine (differentX_any p _ (xs ++ ys) _ (by omega) hi2).mono ?_
        rintro e w3 ⟨b, rfl, hb, hn1⟩
        have r1 := r0.new (N2.out.trans hn1)
        have n1 := n0.trans (N2.out.trans hn1)
        obtain ⟨g0, g1, k0, k1⟩ := r1.cells
        clear d0 d1 f0 f1 hn1 HI1 HI2 hi2 K1 K2 HS1 HS2
        cases b with
        | false =>
          have HNO : Hid (¬ DiffP p (xs ++ ys)) := fun h => by have := hb.2 h; cases this
          clear hb
          go_wp2_with fail
          obtain ⟨x0, x1, hx⟩ := r1.put (.int .i64 0) (.slice none 0 0)
          refine bodyPost_ret (v := .tuple #[.agg #[.int .i64 0, .slice none 0 0], .bool false]) (by simp [results, go_sem, x0, x1]) rfl ?_
          exact FIN.out _ n1 r1 (fun h => HNO.out h.2.2.2)
        | true =>
          have HDP := Lib.hid (hb.1 rfl)
          have HB := Lib.hid (show (∀ j, j < n → 0 ≤ gi xs j ∧ gi xs j < p) ∧ ∀ j, j < m → 0 ≤ gi ys j ∧ gi ys j < p from ⟨fun j hj => by
            have := HDP.out.1 j (by rw [List.length_append, ← HN0.out]; omega)
            rwa [gi_lt (by rw [List.length_append, ← HN0.out]; omega), List.getElem_append_left (by rw [← HN0.out]; exact hj), ← gi_lt] at this, fun j hj => by
            have := HDP.out.1 (xs.length + j) (by rw [List.length_append, ← HM0.out]; omega)
            rwa [gi_lt (by rw [List.length_append, ← HM0.out]; omega), List.getElem_append_right (by omega), ← gi_lt, Nat.add_sub_cancel_left] at this⟩)
          have HR1 := Lib.hid (And.intro r1 n1)
          have hsz := Blk2.lt r1
          clear hb r1 n1 r0 n0 g0 g1 k0 k1
          go_wp2_with fail
          have r2 := HR1.out.1.new (New.alloc w3 (.cells #[.int .i64 p, .slice none 0 0] 28))
          have c2 := Blk2.alloc w3 (.int .i64 p) (.slice none 0 0) 28
          go_loopw [9] (fun t9 wr => ∃ (i : Nat) (a : Option Addr) (l c : Nat) (vs : List Value) (out : List (List Int)), t9 = .int .i64 i ∧ i ≤ n ∧ Hid (out = quoR p xs ys i) ∧ Hid (OwnR wr 23 3 (.slice a l c) vs out ∧ FromR w.heap.size (.slice a l c) vs out ∧ New w wr) ∧ Hid (Blk2 wr w.heap.size (.int .i64 0) (.slice none 0 0) 28) ∧ Hid (Blk2 wr w3.heap.size (.int .i64 p) (.slice a l c) 28)) (fun t9 _ => n - (intOf t9).toNat)
          case atStart => exact ⟨0, none, 0, 0, [], [], rfl, Nat.zero_le _, rfl, ⟨⟨Own.nil _ _, rfl, fun i hi => by simp at hi, fun i j hi => by simp at hi⟩, ⟨fun g hg => by simp [Value.ownBlock] at hg, fun i hi => by simp at hi⟩, HR1.out.2.trans (New.alloc _ _)⟩, r2, c2⟩
          case round =>
            obtain ⟨i, a, l, c, vs, out, rfl, hi, HL, HO, HA, HC⟩ := hrel
            clear r2 c2
            obtain ⟨wz, hwz⟩ : ∃ wz : World, wz = wr := ⟨_, rfl⟩
            rw [← hwz] at HO HA HC
            rw [← hwz]
            clear hwz
            obtain ⟨p0, p1, p2, p3⟩ := HC.out.cells
            obtain ⟨q0, q1, q2, q3⟩ := HA.out.cells
            have HV := Lib.hid (show vs.length = i by rw [HO.out.1.len, HL.out, quoR_length])
            by_cases hik : i < n
            · go_wp2_with (at_make; refine wpList_mk rfl _ _ _ rfl tyInt _ _ _ _ n n rfl rfl rfl rfl (Nat.le_refl _) hn ?_; intro v4 w4 hv4 ho4 hn4 hs4; subst hv4; obtain ⟨u0, u1⟩ := ho4.cell (i := i) (by rw [List.length_replicate]; exact hik); have HO4 := Lib.hid ho4; have HN4 := Lib.hid hn4; clear ho4 hn4 hs4)
              go_loopw [10, 11] (fun t10 t11 wr => ∃ (j : Nat) (zs : List Int), t11 = .int .i64 j ∧ j ≤ m ∧ Hid (zs = quoT p xs ys i j) ∧ Own wr 3 t10 (zs.map (Value.int .i64)) ∧ From wz.heap.size t10 ∧ Hid (New wz wr)) (fun _ t11 _ => m - (intOf t11).toNat)
              case atStart =>
                have hst := HO4.out.set i (.int .i64 1)
                rw [show List.replicate n (Value.int .i64 0) = (List.replicate n (0 : Int)).map (Value.int .i64) by simp, set_map_int] at hst
                exact ⟨0, (List.replicate n (0 : Int)).set i 1, rfl, Nat.zero_le _, by show _ = quoT p xs ys i 0; rw [HN0.out, quoT_zero (by rw [← HN0.out]; exact hik)], hst, fun g hg => by simp [Value.ownBlock] at hg; omega, HN4.out.then (Chg.setCell _ _ _) (fun k hk => Nat.le_of_eq hk.symm)⟩
              case round =>
                obtain ⟨j, zs, rfl, hj, HY, hown, hfrom, HN⟩ := hrel
                clear u0 u1
                obtain ⟨wy, hwy⟩ : ∃ wy : World, wy = wr := ⟨_, rfl⟩
                rw [← hwy] at hown HN
                rw [← hwy]
                clear hwy
                obtain ⟨a1, l1, c1, rfl, HL1, hl1, _⟩ := hown.opened (by rw [List.length_map, HY.out, quoT_length, ← HN0.out]; unfold Mid; omega)
                have HOW := Lib.hid (And.intro hown hfrom)
                clear hown hfrom
                by_cases hjn : j < m
                · obtain ⟨b, o, rfl, ck⟩ := (HX.out.new HO.out.2.2).at hik
                  obtain ⟨b1, o1, rfl, cj⟩ := (HYY.out.new HO.out.2.2).at hjn
                  have hbx := HB.out.1 i hik
                  have hby := HB.out.2 j hjn
                  obtain ⟨X, hX⟩ : ∃ X, X = gi xs i := ⟨_, rfl⟩
                  obtain ⟨Y, hY⟩ : ∃ Y, Y = gi ys j := ⟨_, rfl⟩
                  rw [← hX] at hbx ck
                  rw [← hY] at hby cj
                  have CZ := Lib.hid (And.intro ck cj)
                  replace ck := HN.out.cellNew ck
                  replace cj := HN.out.cellNew cj
                  have hne : X ≠ Y := by
                    have h9 := HDP.out.2 i (xs.length + j) (by have := HN0.out; omega) (by rw [List.length_append, ← HM0.out]; omega)
                    rw [gi_app, gi_app, if_pos (by rw [← HN0.out]; exact hik), if_neg (by omega), Nat.add_sub_cancel_left, ← hX, ← hY] at h9
                    exact h9
                  have hinv := quo_rest HP.out hbx hby hne
                  have HXY := Lib.hid (And.intro hX hY)
                  clear hX hY hne
                  have hm1 := Int.emod_nonneg (X + p - Y) (show p ≠ 0 by omega)
                  have hm2 := Int.emod_lt_of_pos (X + p - Y) (show 0 < p by omega)
                  have hpz : p ≠ 0 := by omega
                  have htm : (X + p - Y).tmod p = (X + p - Y) % p := Int.tmod_eq_emod_of_nonneg (by omega)
                  have hw1 : IntKind.i64.wrap (X + p) = X + p := IntWalk.i64_in _ (by omega)
                  have hw2 : IntKind.i64.wrap (X + p - Y) = X + p - Y := IntWalk.i64_in _ (by omega)
                  have hw3 : IntKind.i64.wrap ((X + p - Y) % p) = (X + p - Y) % p := IntWalk.i64_in _ (by omega)
                  obtain ⟨y, hy⟩ : ∃ y, invZ p ((X + p - Y) % p) = y := ⟨_, rfl⟩
                  have HINV := Lib.hid (And.intro hinv.1 (And.intro hinv.2 hy))
                  clear hinv hy
                  go_wp2_with fail
                  go_region_held3 (fun w' => w'.cell? ⟨b, o + i, none⟩ = some (.int .i64 X) ∧ w'.cell? ⟨b1, o1 + j, none⟩ = some (.int .i64 Y)) (first | exact ⟨K5.out.2.2.cellNew CZ.out.1, K5.out.2.2.cellNew CZ.out.2⟩ | go_keep) (first
                    | (go_at_call 53; refine (specInverse_any p _ _ HP.out HINV.out.1 hm2).mono ?_; rintro e w' ⟨rfl, rfl⟩; rw [HINV.out.2.2])
                    | (refine step_app (by rfl) (.tmp 61) (.tmp 77) _ (by rfl) tyInt (HOW.out.1.new ((New.drew wy).trans (New.alloc wy.drew (.cells #[.int .i64 y] 3)))) (by rfl) (some ⟨wy.heap.size, 0, none⟩) 1 1 [.int .i64 y] (by rfl) (by rfl) (fun h => by cases h) (cell_one (heap_alloc_new wy.drew _)) (fun u hu => by simp at hu; subst hu; rfl) (by rw [List.length_map, HY.out, quoT_length, ← HN0.out]; omega) ?_; intro v5 w5 k1 k2 k3; have K5 := Lib.hid (grow0 (x := y) HOW.out.2 (HN.out.trans ((New.drew wy).trans (New.alloc wy.drew (.cells #[.int .i64 y] 3)))) k1 k2 k3); clear k1 k2 k3))
                  go_wp2_with fail
                  go_roundw
                  case rel => exact ⟨j + 1, zs ++ [y], by go_num, by omega, by show zs ++ [y] = quoT p xs ys i (j + 1); rw [quoT_succ, HY.out, ← HINV.out.2.2, HINV.out.2.1, HXY.out.1, HXY.out.2], K5.out.1, K5.out.2.1, K5.out.2.2⟩
                  case measure => simp [intOf]; omega
                · obtain rfl : j = m := by omega
                  have HCY := Lib.hid (HC.out.new HN.out)
                  have HAY := Lib.hid (HA.out.new HN.out)
                  obtain ⟨p0, p1, p2, p3⟩ := HCY.out.cells
                  obtain ⟨q0, q1, q2, q3⟩ := HAY.out.cells
                  go_wp2_with (at_builtin; refine wpList_app1 rfl _ _ _ rfl tyRow wy (HO.out.1.outer.new HN.out) rfl _ _ rfl rfl rfl (by rw [HV.out]; omega) ?_; intro v5 w5 k1 k2 k3; obtain ⟨a5, l5, c5, rfl, HL5, _, _⟩ := k1.opened (by rw [List.length_append, HV.out]; unfold Mid; simp; omega); obtain ⟨u0, u1, u2, u3⟩ := (HCY.out.chg k2 (fun e => own_ne_blk2 HO.out.1.outer HC.out (by decide) _ e rfl)).cells; have K5 := Lib.hid (And.intro k1 (And.intro k2 k3)); clear k1 k2 k3)
                  obtain ⟨m1, m2, m3⟩ := OwnR.push HO.out.1 HO.out.2.1 HO.out.2.2.size HN.out HOW.out.1 HOW.out.2 K5.out.1 K5.out.2.1 K5.out.2.2
                  have hb5 := HCY.out.chg K5.out.2.1 (fun e => own_ne_blk2 HO.out.1.outer HC.out (by decide) _ e rfl)
                  have ha5 := HAY.out.chg K5.out.2.1 (fun e => own_ne_blk2 HO.out.1.outer HA.out (by decide) _ e rfl)
                  have hc5 : Chg (· = w3.heap.size) w5 (w5.setCell ⟨w3.heap.size, 1, none⟩ (.slice a5 l5 c5)) := Chg.setCell w5 ⟨w3.heap.size, 1, none⟩ _
                  go_roundw
                  case rel => exact ⟨i + 1, a5, l5, c5, _, out ++ [zs], by go_num, by omega, by show out ++ [zs] = quoR p xs ys (i + 1); rw [quoR, HL.out, HY.out, HM0.out, quoT_all],
                    ⟨m1.chg hc5 (own_ne_blk2 m1.outer hb5 (by decide)) (fun i hi => own_ne_blk2 (m1.inner i hi) hb5 (by decide)), m2, HO.out.2.2.then (Chg.trans m3 hc5 (fun i hi x => Or.inl x) (fun i hi x => Or.inr x) (U := fun i => (Value.slice a l c).ownBlock = some i ∨ i = w3.heap.size)) (fun i hi => by
                      rcases hi with h | h
                      · exact HO.out.2.1.1 i h
                      · have := HR1.out.2.size; omega)⟩, ha5.chg hc5 (fun e => by omega), hb5.set1 _⟩
                  case measure => simp [intOf]; omega
            · obtain rfl : i = n := by omega
              go_wp2_with fail
              obtain ⟨x0, x1, hx⟩ := HA.out.put (.int .i64 p) (.slice a l c)
              refine bodyPost_ret (v := .tuple #[.agg #[.int .i64 p, .slice a l c], .bool true]) (by simp [results, go_sem, x0, x1]) rfl ?_
              exact ⟨.slice a l c, vs, out, p, true, rfl, HO.out.1.chg hx (own_ne_blk2 HO.out.1.outer HA.out (by decide)) (fun i hi => own_ne_blk2 (HO.out.1.inner i hi) HA.out (by decide)), HO.out.2.1, ⟨fun _ => ⟨⟨HP.out, by rw [← HN0.out]; omega, by rw [← HN0.out, ← HM0.out]; omega, HDP.out⟩, rfl, by rw [HL.out, HN0.out]⟩, fun h => by cases h⟩, HO.out.2.2.then hx (fun i hi => by omega)⟩
end Go.Proofs.Ytahgjfmdafhedaa
