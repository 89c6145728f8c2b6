/- (field).reduced hands back the reduced rows, in blocks of its own. -/
import Derived.Test.YteoiaicpdmlecaaSortB
namespace Go.Proofs.Yteoiaicpdmlecaa
open Go.RowKit Mat
set_option linter.unusedVariables false

/-- The first k rows have been turned by f. -/
def mapTo (f : List Int → List Int) (A : List (List Int)) (k : Nat) : List (List Int) := A.mapIdx (fun i r => if i < k then f r else r)
theorem mapTo_length (f : List Int → List Int) (A : List (List Int)) (k : Nat) : (mapTo f A k).length = A.length := by simp [mapTo]
theorem mapTo_get (f : List Int → List Int) (A : List (List Int)) (k : Nat) {i : Nat} (hi : i < A.length) : gr (mapTo f A k) i = if i < k then f (gr A i) else gr A i := by
  rw [gr_lt (by rw [mapTo_length]; exact hi), gr_lt hi]; simp [mapTo]
theorem mapTo_zero (f : List Int → List Int) (A : List (List Int)) : mapTo f A 0 = A :=
  ext_gr (mapTo_length _ _ _) (fun i hi => by rw [mapTo_length] at hi; rw [mapTo_get _ _ _ hi, if_neg (by omega)])
theorem mapTo_succ (f : List Int → List Int) (A : List (List Int)) (k : Nat) (hk : k < A.length) : (mapTo f A k).set k (f (gr A k)) = mapTo f A (k + 1) := by
  refine ext_gr (by simp [mapTo]) (fun i hi => ?_)
  rw [List.length_set, mapTo_length] at hi
  rw [gr_set (by rw [mapTo_length]; exact hi), mapTo_get _ _ _ hi, mapTo_get _ _ _ hi]
  by_cases e : k = i
  · subst e; rw [if_pos rfl, if_pos (by omega)]
  · rw [if_neg e]
    by_cases h : i < k
    · rw [if_pos h, if_pos (by omega)]
    · rw [if_neg h, if_neg (by omega)]
theorem mapTo_all (f : List Int → List Int) (A : List (List Int)) : mapTo f A A.length = A.map f :=
  ext_gr (by simp [mapTo]) (fun i hi => by rw [mapTo_length] at hi; rw [mapTo_get _ _ _ hi, if_pos hi, gr_map hi])

theorem redStep_length (q : Int) (out : List (List Int)) (row : List Int) : (redStep q out row).length ≤ out.length + 1 := by
  unfold redStep; split <;> simp
theorem redAll_length (q : Int) (rows : List (List Int)) (k : Nat) (hk : k ≤ rows.length) : (redAll q (rows.take k)).length ≤ k := by
  induction k with
  | zero => simp [redAll]
  | succ k ih =>
    rw [take_succ_gr (by omega), redAll_snoc]
    have := redStep_length q (redAll q (rows.take k)) (gr rows k)
    have := ih (by omega)
    omega

theorem GoodRow.sm {p : Int} {n : Nat} {x : List Int} (h : GoodRow p n x) (hp : p ≤ 1000) : Sm x := fun i hi => by
  have := h.2 i (by rw [← h.1]; exact hi); omega

theorem GoodRow.mid {p : Int} {n : Nat} {x : List Int} (h : GoodRow p n x) (hn : n ≤ 1000) : Mid x.length := by unfold Mid; rw [h.1]; omega

theorem lead_nat {x : List Int} (h : 0 ≤ leadZ x) : leadZ x = (ldN x : Int) := by unfold ldN; omega

/-- A number of an owned row. -/
theorem Own.num {w : World} {e : TypeId} {g n cap : Nat} {xs : List Int} (h : Own w e (.slice (some ⟨g, 0, none⟩) n cap) (xs.map (Value.int .i64))) {i : Nat} (hi : i < xs.length) : w.cell? ⟨g, i, none⟩ = some (.int .i64 (gi xs i)) := by
  have := (h.cell (i := i) (by simpa using hi)).1
  rwa [gv_map_int hi] at this

/-- What was owned stands while a newer row is written. -/
theorem OwnR.past {w w1 w2 : World} {eo ei : TypeId} {v u : Value} {vs : List Value} {rows : List (List Int)} (h : OwnR w eo ei v vs rows) (h1 : New w w1) (hf : From w.heap.size u) (hc : Chg (fun k => u.ownBlock = some k) w1 w2) : OwnR w2 eo ei v vs rows :=
  (h.new h1).chg hc (fun g hg hs => by have := h.outer.lt hg; have := hf g hs; omega) (fun i hi g hg hs => by have := (h.inner i hi).lt hg; have := hf g hs; omega)

set_option maxHeartbeats 8000000 in
theorem reduced_any (q : Nat) [NeZero q] (hq : Pr q) (n : Nat) (hn : n ≤ 7) (v : Value) (rows : List (List Int)) (w : World) (hr : IsR w v rows) (hg : GoodRows q n rows) (hl : rows.length ≤ 7) :
    Calls Try.prog 89 #[.int .i64 q, v] w fun e w' => ∃ u vs out, e = .returned u ∧ OwnR w' 31 3 u vs out ∧ FromR w.heap.size u vs out ∧ IsRed q n rows out ∧ New w w' := by
  obtain ⟨ao, m, cap, rfl, HN, hm⟩ := hr.shape
  have hqp := hq.pos
  have hq1 : (2 : Int) ≤ q ∧ (q : Int) ≤ 7 := by omega
  have hm7 : m ≤ 7 := by rw [HN.out]; exact hl
  have HR := Lib.hid hr
  have HQ := Lib.hid hq
  have HG := Lib.hid hg
  clear hr hq hg hqp
  go_enter Try.func89, Try.ntmps89
  go_wp2_with fail
  go_loopw [5, 16] (fun v5 i wr => ∃ (k : Nat) (vs : List Value), i = .int .i64 k ∧ k ≤ m ∧ OwnR wr 31 3 v5 vs (redAll q (rows.take k)) ∧ FromR w.heap.size v5 vs (redAll q (rows.take k)) ∧ New w wr) (fun _ i _ => m - (intOf i).toNat)
  case atStart =>
    exact ⟨0, [], rfl, Nat.zero_le _, ⟨Own.empty _ _, rfl, fun i hi => by simp [redAll] at hi, fun i j hi => by simp [redAll] at hi⟩, ⟨From.new _ _ _, fun i hi => by simp [redAll] at hi⟩, New.alloc _ _⟩
  case round =>
    obtain ⟨k, vs, rfl, hk, hown, hfrom, hnew⟩ := hrel
    have HO := Lib.hid hown
    have HF := Lib.hid hfrom
    have HW := Lib.hid hnew
    clear hown hfrom hnew
    by_cases hkm : k < m
    · have hkr : k < rows.length := by rw [← HN.out]; exact hkm
      have HI := Lib.hid (redAll_inv HQ.out HG.out k (by omega))
      obtain ⟨out, hout⟩ : ∃ out, out = redAll q (rows.take k) := ⟨_, rfl⟩
      rw [← hout] at HO HF HI
      have hol : out.length ≤ 7 := by rw [hout]; have := redAll_length q rows k (by omega); omega
      have HOUT := Lib.hid hout
      clear hout
      obtain ⟨b, o, u, rfl, ck, hu⟩ := (HR.out.new HW.out).at hkm
      obtain ⟨au, nu, cu, rfl, HNU, hnu⟩ := hu.shape
      have HU := Lib.hid hu
      have HGR := Lib.hid (HG.out k hkr)
      obtain ⟨row, hrow⟩ : ∃ row, row = gr rows k := ⟨_, rfl⟩
      rw [← hrow] at HU HGR HNU
      have HROW := Lib.hid hrow
      clear hrow hu
      have hnu' : nu = n := by rw [HNU.out]; exact HGR.out.1
      subst hnu'
      go_wp2_with fail
      refine (clone_any _ _ _ HU.out).mono ?_
      rintro e w1 ⟨u1, rfl, ho1, hf1, hn1⟩
      have HO1 := Lib.hid ho1
      have HF1 := Lib.hid hf1
      have HN1 := Lib.hid hn1
      clear ho1 hf1 hn1 ck
      obtain ⟨a1, l1, c1, rfl, HL1, hl1, _⟩ := HO1.out.opened (by rw [List.length_map]; exact HGR.out.mid (by omega))
      have e1 : l1 = nu := by rw [HL1.out, List.length_map]; exact HGR.out.1
      subst e1
      obtain ⟨a5, l5, c5, rfl, HL5, hl5, _⟩ := HO.out.outer.opened (by rw [HO.out.len]; unfold Mid; omega)
      have e5 : l5 = out.length := by rw [HL5.out, HO.out.len]
      subst e5
      go_wp2_with fail
      obtain ⟨wo, hwo⟩ : ∃ wo : World, wo = wr := ⟨_, rfl⟩
      rw [← hwo] at HO HW HU HF1 HN1
      clear hwo
      go_loopw [24] (fun i wx => ∃ (j : Nat), i = .int .i64 j ∧ j ≤ out.length ∧ Own wx 3 (.slice a1 l1 c1) ((elimL q row (out.take j)).map (Value.int .i64)) ∧ Chg (fun k => (Value.slice a1 l1 c1).ownBlock = some k) w1 wx) (fun i _ => out.length - (intOf i).toNat)
      case atStart => exact ⟨0, rfl, Nat.zero_le _, by rw [List.take_zero]; exact HO1.out, Chg.refl _ _⟩
      case round =>
        obtain ⟨j, rfl, hj, hown, hchg⟩ := hrel
        have HE := Lib.hid hown
        have HC := Lib.hid hchg
        clear hown hchg
        by_cases hjo : j < out.length
        · have hox := HO.out.past HN1.out HF1.out HC.out
          have HOX := Lib.hid hox
          clear hox
          obtain ⟨g5, rfl⟩ := HOX.out.outer.head (i := j) (by rw [HOX.out.len]; exact hjo)
          obtain ⟨c5', _⟩ := HOX.out.outer.cell (i := j) (by rw [HOX.out.len]; exact hjo)
          have hix := (HOX.out.inner j hjo).isI ((HI.out.good j hjo).mid (by omega))
          obtain ⟨ax, nx, cx, ex, _, _⟩ := hix.shape
          rw [ex] at c5' hix
          have HIX := Lib.hid hix
          have EX := Lib.hid ex
          clear hix ex
          have hlx := lead_nat (HI.out.lead j hjo)
          have HLX := Lib.hid hlx
          clear hlx
          obtain ⟨l, hld⟩ : ∃ l, l = ldN (gr out j) := ⟨_, rfl⟩
          have hln : l < l1 := by rw [hld]; exact (lead_some (HI.out.good j hjo) (HI.out.lead j hjo)).1
          rw [← hld] at HLX
          have HLD := Lib.hid hld
          clear hld
          have HGE := Lib.hid (elim_inv (by omega) HI.out HGR.out j (by omega)).1
          obtain ⟨r, hr⟩ : ∃ r, r = elimL q row (out.take j) := ⟨_, rfl⟩
          rw [← hr] at HE HGE
          have hlr : l < r.length := by rw [HGE.out.1]; exact hln
          obtain ⟨g1, rfl⟩ := HE.out.head (i := l) (by simpa using hlr)
          have cr := HE.out.num hlr
          have br := HGE.out.2 l hln
          have HRR := Lib.hid hr
          clear hr
          go_wp2_with fail
          refine (lead_any _ _ _ HIX.out).mono ?_
          rintro e w2 ⟨rfl, rfl⟩
          rw [HLX.out]
          go_wp2_with fail
          have hap : Apart (.slice (some ⟨g1, 0, none⟩) l1 c1) (.slice ax nx cx) := fun g hg hx => by
            have h1 := HF1.out g hg
            have h2 := (HO.out.inner j hjo).lt (g := g) (by rw [EX.out]; exact hx)
            omega
          refine (add_any _ _ _ _ r (gr out j) _ (by omega) (by omega) HE.out HIX.out hap (by rw [HGE.out.1, (HI.out.good j hjo).1]; omega) (HGE.out.sm (by omega)) ((HI.out.good j hjo).sm (by omega)) (HGE.out.mid (by omega))).mono ?_
          rintro e w3 ⟨rfl, ho3, hc3⟩
          have HO3 := Lib.hid ho3
          have HC3 := Lib.hid hc3
          clear ho3 hc3 hap
          go_wp2_with fail
          go_roundw
          case rel =>
            refine ⟨j + 1, by go_num, by omega, ?_, Chg.trans HC.out HC3.out (fun _ _ x => x) (fun _ _ x => x)⟩
            rw [take_succ_gr hjo, elimL_snoc, ← HRR.out, ← HLD.out]
            exact HO3.out
          case measure => simp [intOf]; omega
        · obtain rfl : j = out.length := by omega
          rw [List.take_length] at HE
          have HGE := Lib.hid (elim_inv (by omega) HI.out HGR.out out.length (Nat.le_refl _)).1
          rw [List.take_length] at HGE
          obtain ⟨r, hr⟩ : ∃ r, r = elimL q row out := ⟨_, rfl⟩
          rw [← hr] at HE HGE
          have HRR := Lib.hid hr
          clear hr
          have hir := HE.out.isI (HGE.out.mid (by omega))
          have HIR := Lib.hid hir
          clear hir
          go_wp2_with fail
          refine (lead_any _ _ _ HIR.out).mono ?_
          rintro e w2 ⟨rfl, rfl⟩
          by_cases hneg : leadZ r < 0
          · have HSTEP : Hid (redAll q (rows.take (k + 1)) = out) := by
              show _ = _
              rw [take_succ_gr hkr, redAll_snoc, ← HOUT.out, ← HROW.out, redStep, ← HRR.out, if_pos hneg]
            go_wp2_with fail
            go_roundw
            case rel =>
              refine ⟨k + 1, vs, by go_num, by omega, ?_, ?_, HW.out.trans (New.then HN1.out HC.out (fun i hi => HF1.out i hi))⟩
              · rw [HSTEP.out]; exact HO.out.past HN1.out HF1.out HC.out
              · rw [HSTEP.out]; exact HF.out
            case measure => simp [intOf]; omega
          · have hlx := lead_nat (show 0 ≤ leadZ r by omega)
            rw [hlx]
            obtain ⟨l, hld⟩ : ∃ l, l = ldN r := ⟨_, rfl⟩
            have hls := lead_some HGE.out (show 0 ≤ leadZ r by omega)
            rw [← hld]
            rw [← hld] at hls hlx
            have hln := hls.1
            have HLS := Lib.hid hls
            have HLD := Lib.hid hld
            have HLX := Lib.hid hlx
            clear hls hld hlx hneg
            have hlr : l < r.length := by rw [HGE.out.1]; exact hln
            obtain ⟨g1, rfl⟩ := HE.out.head (i := l) (by simpa using hlr)
            have cr := HE.out.num hlr
            have br := HGE.out.2 l hln
            have br1 : gi r l ≠ 0 := fun e => HLS.out.2.1 ((vec_zero HGE.out).2 e)
            go_wp2_with fail
            have hpb : prB q = true := by rw [prB_iff]; have := HQ.out; unfold Pr at this; omega
            have hiv := invZ_spec hpb (x := gi r l) (by omega) (by omega)
            refine (inverse_any _ _ _ hpb (by omega) (by omega)).mono ?_
            rintro e w2 ⟨rfl, rfl⟩
            have hiv1 := hiv.1
            have hiv2 := hiv.2.1
            clear hiv hpb
            go_wp2_with fail
            refine (clone_any _ _ _ HIR.out).mono ?_
            rintro e w2 ⟨u2, rfl, ho2, hf2, hn2⟩
            have HO2 := Lib.hid ho2
            have HF2 := Lib.hid hf2
            have HN2 := Lib.hid hn2
            clear ho2 hf2 hn2 cr
            go_wp2_with fail
            have hap : Apart (.slice (some ⟨g1, 0, none⟩) l1 c1) u2 := fun g hg hx => by
              have h1 := HE.out.lt hg
              have h2 := HF2.out g hx
              omega
            refine (add_any _ _ _ _ r r _ (by omega) (by omega) (HE.out.new HN2.out) (HO2.out.isI (HGE.out.mid (by omega))) hap (Nat.le_refl _) (HGE.out.sm (by omega)) (HGE.out.sm (by omega)) (HGE.out.mid (by omega))).mono ?_
            rintro e w3 ⟨rfl, ho3, hc3⟩
            have enorm : addZ q r (invZ q (gi r l) - 1) r = normZ q r := by rw [normZ, ← HLD.out]
            rw [enorm] at ho3
            have HO3 := Lib.hid ho3
            have HC3 := Lib.hid (Chg.trans (Chg.trans HC.out HN2.out (fun _ _ x => x) (fun _ _ x => x.elim)) hc3 (fun _ _ x => x) (fun _ _ x => x))
            clear ho3 hc3 hap enorm
            have hr0 : 0 ≤ leadZ r := by rw [HLX.out]; omega
            obtain ⟨r2, hr2⟩ : ∃ r2, r2 = normZ q r := ⟨_, rfl⟩
            rw [← hr2] at HO3
            have HR2 := Lib.hid hr2
            have HG2 : Hid (GoodRow q l1 r2) := by show GoodRow q l1 r2; rw [hr2]; exact (norm_facts HQ.out HGE.out hr0).1
            clear hr2 hr0
            go_wp2_with fail
            have hox := HO.out.past HN1.out HF1.out HC3.out
            have HOX := Lib.hid hox
            clear hox
            obtain ⟨wp, hwp⟩ : ∃ wp : World, wp = w3 := ⟨_, rfl⟩
            rw [← hwp] at HO3 HC3 HOX
            rw [← hwp]
            clear hwp
            go_loopw [57] (fun i wy => ∃ (j : Nat), i = .int .i64 j ∧ j ≤ out.length ∧ OwnR wy 31 3 (.slice a5 out.length c5) vs (mapTo (fun x => addZ q x (-(gi x l)) r2) out j) ∧ Chg (fun k => ∃ i, i < out.length ∧ (gv vs i).ownBlock = some k) wp wy) (fun i _ => out.length - (intOf i).toNat)
            case atStart => exact ⟨0, rfl, Nat.zero_le _, by rw [mapTo_zero]; exact HOX.out, Chg.refl _ _⟩
            case round =>
              obtain ⟨j, rfl, hj, hown, hchg⟩ := hrel
              have HY := Lib.hid hown
              have HCY := Lib.hid hchg
              clear hown hchg
              by_cases hjo : j < out.length
              · obtain ⟨g5, rfl⟩ := HY.out.outer.head (i := j) (by rw [HY.out.len, mapTo_length]; exact hjo)
                obtain ⟨c5', _⟩ := HY.out.outer.cell (i := j) (by rw [HY.out.len, mapTo_length]; exact hjo)
                have hxo := HY.out.inner j (by rw [mapTo_length]; exact hjo)
                rw [mapTo_get _ _ _ hjo, if_neg (by omega)] at hxo
                obtain ⟨x, hx⟩ : ∃ x, x = gr out j := ⟨_, rfl⟩
                have hgx := HI.out.good j hjo
                rw [← hx] at hxo hgx
                have HX := Lib.hid hx
                clear hx
                have hlx : l < x.length := by rw [hgx.1]; exact hln
                obtain ⟨ax, nx, cx, ex, HNX, _⟩ := (hxo.isI (hgx.mid (by omega))).shape
                have hlnx : l < nx := by rw [HNX.out]; exact hlx
                rw [ex] at c5' hxo
                obtain ⟨gx, rfl⟩ := hxo.head (i := l) (by simpa using hlx)
                have cx' := hxo.num hlx
                have bx := hgx.2 l hln
                have EX := Lib.hid ex
                have HXO := Lib.hid hxo
                have HGX := Lib.hid hgx
                have hu1 : Own wr 3 (.slice (some ⟨g1, 0, none⟩) l1 c1) (r2.map (Value.int .i64)) := HO3.out.chg HCY.out (fun g hg ⟨i, hi, e⟩ => by
                  have h1 := HF1.out g hg
                  have h2 := (HO.out.inner i hi).lt e
                  omega)
                have HU1 := Lib.hid hu1
                clear ex hxo hgx hu1
                go_wp2_with fail
                have hap : Apart (.slice (some ⟨gx, 0, none⟩) nx cx) (.slice (some ⟨g1, 0, none⟩) l1 c1) := fun g hg hx => by
                  have h1 := HF1.out g hx
                  have h2 := (HO.out.inner j hjo).lt (g := g) (by rw [EX.out]; exact hg)
                  omega
                refine (add_any _ _ _ _ x r2 _ (by omega) (by omega) HXO.out (HU1.out.isI (HG2.out.mid (by omega))) hap (by rw [HG2.out.1, HGX.out.1]; omega) (HGX.out.sm (by omega)) (HG2.out.sm (by omega)) (HGX.out.mid (by omega))).mono ?_
                rintro e w4 ⟨rfl, ho4, hc4⟩
                have HO4 := Lib.hid ho4
                have HC4 := Lib.hid hc4
                clear ho4 hc4 hap
                go_wp2_with fail
                go_roundw
                case rel =>
                  refine ⟨j + 1, by go_num, by omega, ?_, Chg.trans HCY.out HC4.out (fun _ _ x => x) (fun i _ x => ⟨j, hjo, by rw [EX.out]; exact x⟩)⟩
                  rw [← mapTo_succ _ _ _ hjo, ← HX.out]
                  exact HY.out.turn (by decide) (by rw [mapTo_length]; exact hjo) HC4.out (fun g hg => by rw [EX.out]; exact hg) (by rw [EX.out]; exact HO4.out)
                case measure => simp [intOf]; omega
              · obtain rfl : j = out.length := by omega
                rw [mapTo_all] at HY
                have hu1 : Own wr 3 (.slice (some ⟨g1, 0, none⟩) l1 c1) (r2.map (Value.int .i64)) := HO3.out.chg HCY.out (fun g hg ⟨i, hi, e⟩ => by
                  have h1 := HF1.out g hg
                  have h2 := (HO.out.inner i hi).lt e
                  omega)
                have HU1 := Lib.hid hu1
                clear hu1
                have HSTEP : Hid (redAll q (rows.take (k + 1)) = out.map (fun x => addZ q x (-(gi x l)) r2) ++ [r2]) := by
                  show _ = _
                  rw [take_succ_gr hkr, redAll_snoc, ← HOUT.out, ← HROW.out, redStep, ← HRR.out, if_neg (by rw [HLX.out]; omega), ← HLD.out, ← HR2.out]
                have hvl : vs.length ≤ 7 := by rw [HO.out.len]; exact hol
                go_wp2_with (at_builtin; refine wpList_app1 rfl _ _ _ rfl tyRow wr HY.out.outer rfl _ _ rfl rfl rfl (by omega) ?_; intro v2 w5 k1 k2 k3; have K2 := Lib.hid (And.intro k1 (And.intro k2 k3)); clear k1 k2 k3)
                go_roundw
                case rel =>
                  obtain ⟨m1, m2, m3⟩ := K2.out
                  have hfy : FromR w.heap.size (.slice a5 out.length c5) vs (out.map (fun x => addZ q x (-(gi x l)) r2)) := ⟨HF.out.1, fun i hi => HF.out.2 i (by simpa using hi)⟩
                  have hcw : New w wr := (HW.out.trans (New.then HN1.out HC3.out (fun i hi => HF1.out i hi))).then HCY.out (fun i ⟨x, hx, e⟩ => HF.out.2 x hx i e)
                  have hne : (31 : Nat) ≠ 3 := by decide
                  have hvu : ∀ g, (Value.slice a5 out.length c5).ownBlock = some g → (Value.slice (some ⟨g1, 0, none⟩) l1 c1).ownBlock ≠ some g := fun g hg hg' => by
                    have h1 := HO.out.outer.lt hg
                    have h2 := HF1.out g hg'
                    omega
                  refine ⟨k + 1, vs ++ [.slice (some ⟨g1, 0, none⟩) l1 c1], by go_num, by omega, ?_, ?_, hcw.then m2 (fun i hi => HF.out.1 i hi)⟩
                  · rw [HSTEP.out]
                    refine OwnR.snoc m1 HY.out.len (fun i hi => (HY.out.inner i hi).chg m2 (fun g hg hs => HY.out.outer_apart hne hi g hs hg)) HY.out.apart (HU1.out.chg m2 (fun g hg hs => hvu g hs hg)) (fun i hi => ?_)
                    exact From.apart HF1.out (HO.out.inner i (by simpa using hi))
                  · rw [HSTEP.out]
                    refine ⟨fun g hg => ?_, fun i hi => ?_⟩
                    · rcases m3 g hg with x | x
                      · exact HF.out.1 g x
                      · have := hcw.size; omega
                    · simp at hi
                      have hlen := HO.out.len
                      by_cases e : i < out.length
                      · rw [gv_snoc_lt (by omega)]; exact HF.out.2 i e
                      · rw [gv_snoc_eq (by omega)]; exact HF1.out.mono HW.out.size
                case measure => simp [intOf]; omega
    · obtain rfl : k = m := by omega
      have e : rows.take k = rows := List.take_of_length_le (by rw [← HN.out]; exact Nat.le_refl _)
      rw [e] at HO HF
      have hinv := redAll_inv HQ.out HG.out rows.length (Nat.le_refl _)
      rw [List.take_length] at hinv
      have hlen := redAll_length q rows rows.length (Nat.le_refl _)
      rw [List.take_length] at hlen
      have HINV := Lib.hid hinv
      have HLEN := Lib.hid (Nat.le_trans hlen hl)
      clear hinv hlen
      go_wp2_with fail
      refine (sortFunc_any _ vs (redAll q rows) _ w.heap.size (fun A => Inv q n rows A) (fun A j h0 hj h => h.swp h0 hj) HO.out HF.out HINV.out HLEN.out (fun A _ h i hi => (h.good i hi).mid (by omega))).mono ?_
      rintro e w1 ⟨rfl, vs', out, h1, h2, h3, h4, h5, h6⟩
      have hcl := HO.out
      go_wp2_with fail
      refine (clipR_any _ vs' _ h1.outer (by unfold Mid; rw [h1.len, h4]; have := HLEN.out; omega)).mono ?_
      rintro e w2 ⟨u, rfl, h7, h8, rfl⟩
      go_wp2_with fail
      go_ret
      have hasc : ∀ i j, i < j → j < out.length → ldN (gr out i) < ldN (gr out j) := fun i j hij hj => by
        have a1 := h5 i j hij hj
        have a2 := h3.lead_ne HQ.out (i := i) (j := j) (by omega) hj (by omega)
        have a3 := h3.lead i (by omega)
        have a4 := h3.lead j hj
        unfold ldN at a2 ⊢
        omega
      exact ⟨_, vs', out, rfl, ⟨h7, h1.len, h1.inner, h1.apart⟩, ⟨fun g hg => h2.1 g (by rw [← h8]; exact hg), h2.2⟩, ⟨h3, hasc⟩, HW.out.then h6 (fun i hi => HF.out.1 i hi)⟩
end Go.Proofs.Yteoiaicpdmlecaa
