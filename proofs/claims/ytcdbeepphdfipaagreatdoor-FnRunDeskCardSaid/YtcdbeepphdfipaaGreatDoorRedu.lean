/- slices.SortFunc of few rows by their leads: the insertion sort. slices.SortFunc of at most seven rows is the insertion sort. (field).reduced hands back the reduced rows, in blocks of its own. spec.reduce hands back the reduced rows, in blocks of its own. What reduced rows of a table are, whoever reckons them. -/
import Derived.Test.YtcdbeepphdfipaaGreatDoorLeaf
import Derived.Test.YtcdbeepphdfipaaGreatDoorRedP
import Derived.Deep.QuietTactic
import Derived.BigQuiet
import Derived.BigRegion
import Derived.Outline
namespace Go.Proofs.YtcdbeepphdfipaaGreatDoor
open Go.RowKit
set_option linter.unusedVariables false

theorem redCmp_any (va vb : Value) (xs ys : List Int) (w : World) (hx : IsI w va xs) (hy : IsI w vb ys) :
    Calls Tryz.prog 116 #[va, vb] w fun e w' => e = .returned (.int .i64 (leadZ xs - leadZ ys)) ∧ w = w' := by
  have h1 := fiZ_ge nzB xs
  have h2 := fiZ_ge nzB ys
  obtain ⟨a1, n1, c1, rfl, H1, b1⟩ := hx.shape
  obtain ⟨a2, n2, c2, rfl, H2, b2⟩ := hy.shape
  have g1 : -1 ≤ leadZ xs ∧ leadZ xs < n1 := by rw [H1.out]; exact h1
  have g2 : -1 ≤ leadZ ys ∧ leadZ ys < n2 := by rw [H2.out]; exact h2
  have HX := Lib.hid hx
  have HY := Lib.hid hy
  clear hx hy h1 h2
  go_enter Tryz.func116, Tryz.ntmps116
  go_wp2_with fail
  refine (lead_any _ _ _ HX.out).mono ?_
  rintro e w' ⟨rfl, rfl⟩
  go_wp2_with fail
  refine (lead_any _ _ _ HY.out).mono ?_
  rintro e w' ⟨rfl, rfl⟩
  go_wp2_with fail
  go_ret
  exact ⟨rfl, rfl⟩

/-- Two neighbours of the outer block change places. -/
theorem OwnR.swap {w : World} {eo ei : TypeId} {g n cap : Nat} {vs : List Value} {rows : List (List Int)} (h : OwnR w eo ei (.slice (some ⟨g, 0, none⟩) n cap) vs rows) (hne : eo ≠ ei) {j : Nat} (h0 : 0 < j) (hj : j < rows.length) :
    OwnR ((w.setCell ⟨g, j, none⟩ (gv vs (j - 1))).setCell ⟨g, j - 1, none⟩ (gv vs j)) eo ei (.slice (some ⟨g, 0, none⟩) n cap) ((vs.set j (gv vs (j - 1))).set (j - 1) (gv vs j)) (swp rows j) := by
  have hl := h.len
  have hc : Chg (· = g) w ((w.setCell ⟨g, j, none⟩ (gv vs (j - 1))).setCell ⟨g, j - 1, none⟩ (gv vs j)) := Chg.trans (Chg.setCell _ _ _) (Chg.setCell _ _ _) (fun _ _ x => x) (fun _ _ x => x)
  have gvs : ∀ i, i < rows.length → gv ((vs.set j (gv vs (j - 1))).set (j - 1) (gv vs j)) i = gv vs (if j - 1 = i then j else if j = i then j - 1 else i) := fun i hi => by
    rw [gv_lt (by simp; omega), List.getElem_set]
    split
    · rfl
    · rw [List.getElem_set]
      split
      · rfl
      · exact (gv_lt (by omega)).symm
  have grs : ∀ i, i < rows.length → gr (swp rows j) i = gr rows (if j - 1 = i then j else if j = i then j - 1 else i) := fun i hi => by
    rw [swp_get _ hi]; repeat' split
    all_goals rfl
  have hτ : ∀ i, i < rows.length → (if j - 1 = i then j else if j = i then j - 1 else i) < rows.length := fun i hi => by
    repeat' split
    all_goals omega
  refine ⟨(h.outer.set j _).set (j - 1) _, by simp [swp, hl], fun i hi => ?_, fun i k hi hk hne' => ?_⟩
  · rw [swp_length] at hi
    rw [gvs i hi, grs i hi]
    exact (h.inner _ (hτ i hi)).chg hc (fun x hx e => h.outer_apart hne (hτ i hi) g rfl (by rw [hx, e]))
  · rw [swp_length] at hi hk
    rw [gvs i hi, gvs k hk]
    refine h.apart _ _ (hτ i hi) (hτ k hk) (fun e => ?_)
    repeat' split at e
    all_goals omega

set_option maxHeartbeats 4000000 in
theorem insSort_any (v : Value) (vs : List Value) (rows : List (List Int)) (w : World) (B : Nat) (Φ : List (List Int) → Prop) (hΦ : ∀ A j, 0 < j → j < A.length → Φ A → Φ (swp A j))
    (ho : OwnR w 53 3 v vs rows) (hf : FromR B v vs rows) (hphi : Φ rows) (hm : rows.length ≤ 1000) (hms : ∀ A, A.length = rows.length → Φ A → ∀ i, i < A.length → Mid (gr A i).length) :
    Calls Tryz.prog 174 #[v, .int .i64 0, .int .i64 rows.length, .func (.func 116) #[] #[]] w fun e w' => ∃ vs' rows', e = .returned (.tuple #[]) ∧
      OwnR w' 53 3 v vs' rows' ∧ FromR B v vs' rows' ∧ Φ rows' ∧ rows'.length = rows.length ∧ (∀ a b, a < b → b < rows'.length → leadZ (gr rows' a) ≤ leadZ (gr rows' b)) ∧ Chg (fun k => v.ownBlock = some k) w w' := by
  obtain ⟨ao, n, cap, rfl, HN, hn, _⟩ := ho.outer.opened (by rw [ho.len]; unfold Mid; omega)
  have en : n = rows.length := by rw [HN.out, ho.len]
  have HE := Lib.hid en
  have hn' : n ≤ 1000 := by omega
  rw [← en]
  have HO := Lib.hid ho
  have HF := Lib.hid hf
  have HP := Lib.hid hphi
  have HΦ := Lib.hid hΦ
  have HM := Lib.hid hms
  clear ho hf hphi hΦ hms en hm
  go_enter Tryz.func174, Tryz.ntmps174
  go_wp2_with fail
  go_loopw [8] (fun i wr => ∃ (k : Nat) (vs' : List Value) (rows' : List (List Int)), i = .int .i64 k ∧ 1 ≤ k ∧ (k ≤ n ∨ k = 1) ∧ OwnR wr 53 3 (.slice ao n cap) vs' rows' ∧ FromR B (.slice ao n cap) vs' rows' ∧ Φ rows' ∧ Hid (rows'.length = n) ∧
      (∀ a b, a < b → b < k → b < n → leadZ (gr rows' a) ≤ leadZ (gr rows' b)) ∧ Chg (fun k => (Value.slice ao n cap).ownBlock = some k) w wr) (fun i _ => n + 1 - (intOf i).toNat)
  case atStart => exact ⟨1, vs, rows, rfl, Nat.le_refl _, .inr rfl, HO.out, HF.out, HP.out, HE.out.symm, fun a b h1 h2 => by omega, Chg.refl _ _⟩
  case round =>
    obtain ⟨k, vs', rows', rfl, hk1, hk2, ho, hf, hphi, HL, hsort, hchg⟩ := hrel
    have HS := Lib.hid hsort
    have HO' := Lib.hid ho
    have HF' := Lib.hid hf
    have HP' := Lib.hid hphi
    have HC := Lib.hid hchg
    clear ho hf hphi hsort hchg
    by_cases hkn : k < n
    · go_wp2_with fail
      obtain ⟨wo, hwo⟩ : ∃ wo : World, wo = wr := ⟨_, rfl⟩
      rw [← hwo]
      rw [← hwo] at HO' HC
      clear hwo
      go_loopw [9] (fun i wr => ∃ (j : Nat) (vs' : List Value) (rows' : List (List Int)), i = .int .i64 j ∧ j ≤ k ∧ OwnR wr 53 3 (.slice ao n cap) vs' rows' ∧ FromR B (.slice ao n cap) vs' rows' ∧ Φ rows' ∧ Hid (rows'.length = n) ∧
          ((∀ a b, a < b → b ≤ k → a ≠ j → b ≠ j → leadZ (gr rows' a) ≤ leadZ (gr rows' b)) ∧ (∀ b, j < b → b ≤ k → leadZ (gr rows' j) ≤ leadZ (gr rows' b))) ∧ Chg (fun k => (Value.slice ao n cap).ownBlock = some k) w wr) (fun i _ => (intOf i).toNat)
      case atStart => exact ⟨k, vs', rows', rfl, Nat.le_refl _, HO'.out, HF'.out, HP'.out, HL, ⟨fun a b h1 h2 h3 h4 => HS.out a b h1 (by omega) (by omega), fun b h1 h2 => by omega⟩, HC.out⟩
      case round =>
        clear HS HO' HF' HP' HC HL
        clear vs' rows'
        obtain ⟨j, vs', rows', rfl, hjk, ho, hf, hphi, HL, hsort, hchg⟩ := hrel
        have HS := Lib.hid hsort
        have HO' := Lib.hid ho
        have HF' := Lib.hid hf
        have HP' := Lib.hid hphi
        have HC := Lib.hid hchg
        clear ho hf hphi hsort hchg
        have hvl : vs'.length = n := by rw [HO'.out.len]; exact HL.out
        have HVL := Lib.hid hvl
        clear hvl
        by_cases hj0 : 0 < j
        · have hjn : j < rows'.length := by rw [HL.out]; omega
          obtain ⟨g, rfl⟩ := HO'.out.outer.head (i := j) (by rw [HVL.out]; omega)
          have c1 := HO'.out.outer.cell (i := j) (by rw [HVL.out]; omega)
          have c2 := HO'.out.outer.cell (i := j - 1) (by rw [HVL.out]; omega)
          obtain ⟨c1, f1⟩ := c1
          obtain ⟨c2, f2⟩ := c2
          have i1 : ∀ m, IsI (wr.drewN m) (gv vs' j) (gr rows' j) := fun m => ((HO'.out.inner j hjn).isI (HM.out rows' (by rw [HL.out]; exact HE.out) HP'.out j hjn)).new (New.drewN _ _)
          have i2 : ∀ m, IsI (wr.drewN m) (gv vs' (j - 1)) (gr rows' (j - 1)) := fun m => ((HO'.out.inner (j - 1) (by omega)).isI (HM.out rows' (by rw [HL.out]; exact HE.out) HP'.out (j - 1) (by omega))).new (New.drewN _ _)
          obtain ⟨a1, n1, d1, e1, _, _⟩ := (i1 0).shape
          obtain ⟨a2, n2, d2, e2, _, _⟩ := (i2 0).shape
          rw [e1] at c1 i1
          rw [e2] at c2 i2
          have I1 := Lib.hid i1
          have I2 := Lib.hid i2
          have E1 := Lib.hid e1
          have E2 := Lib.hid e2
          clear i1 i2 e1 e2
          by_cases hlt : leadZ (gr rows' j) < leadZ (gr rows' (j - 1))
          · have hd : decide (leadZ (gr rows' j) - leadZ (gr rows' (j - 1)) < 0) = true := by simp; omega
            go_wp2_with fail
            go_quiet ((go_at_call 116; exact Calls.quiet_of_same ((redCmp_any _ _ _ _ _ (I1.out _) (I2.out _)).mono fun e w' h => ⟨h.1, h.2.symm⟩)))
            go_wp2_with fail
            go_region
            all_goals go_wp2_with fail
            all_goals go_roundw
            case rel =>
              have hsw := OwnR.swap (HO'.out.new (New.drewN wr (nq + 1))) (by decide) hj0 hjn
              rw [E1.out, E2.out] at hsw
              have hS := HS.out
              refine ⟨j - 1, _, swp rows' j, val_int (by omega), by omega, hsw, ⟨HF'.out.1, fun i hi => ?_⟩, HΦ.out _ _ hj0 hjn HP'.out, by show _ = _; rw [swp_length]; exact HL.out, ⟨fun a b h1 h2 h3 h4 => ?_, fun b h1 h2 => ?_⟩, ?_⟩
              · rw [swp_length] at hi
                have h1 := HF'.out.2 j hjn
                have h2 := HF'.out.2 (j - 1) (by omega)
                have h3 := HF'.out.2 i hi
                rw [E1.out] at h1
                rw [E2.out] at h2
                rw [gv_lt (by simp; rw [HVL.out, ← HL.out]; exact hi), List.getElem_set]
                split
                · exact h1
                · rw [List.getElem_set]
                  split
                  · exact h2
                  · rw [gv_lt (by rw [HVL.out, ← HL.out]; exact hi)] at h3; exact h3
              · have hln := HL.out
                rw [swp_get _ (by omega), swp_get _ (by omega), if_neg (show ¬ (j - 1 = a) by omega), if_neg (show ¬ (j - 1 = b) by omega)]
                by_cases e1 : j = a
                · rw [if_pos e1, if_neg (show ¬ (j = b) by omega)]
                  exact hS.1 (j - 1) b (by omega) h2 (by omega) (by omega)
                · rw [if_neg e1]
                  by_cases e2 : j = b
                  · rw [if_pos e2]
                    exact hS.1 a (j - 1) (by omega) (by omega) (by omega) (by omega)
                  · rw [if_neg e2]
                    exact hS.1 a b h1 h2 (by omega) (by omega)
              · have hln := HL.out
                rw [swp_get _ (by omega), swp_get _ (by omega), if_pos rfl, if_neg (show ¬ (j - 1 = b) by omega)]
                by_cases e2 : j = b
                · rw [if_pos e2]; omega
                · rw [if_neg e2]; exact hS.2 b (by omega) h2
              · exact Chg.trans (Chg.trans HC.out (New.drewN wr (nq + 1)) (fun _ _ x => x) (fun _ _ x => x.elim)) (Chg.trans (Chg.setCell _ _ _) (Chg.setCell _ _ _) (U := (· = g)) (fun _ _ x => x) (fun _ _ x => x)) (fun _ _ x => x) (fun i _ x => by rw [x]; rfl)
            case measure => simp [intOf]; omega
          · have hd : decide (leadZ (gr rows' j) - leadZ (gr rows' (j - 1)) < 0) = false := by simp; omega
            go_wp2_with fail
            go_quiet ((go_at_call 116; exact Calls.quiet_of_same ((redCmp_any _ _ _ _ _ (I1.out _) (I2.out _)).mono fun e w' h => ⟨h.1, h.2.symm⟩)))
            go_wp2_with fail
            go_roundw
            case rel =>
              have hS := HS.out
              have hln := HL.out
              refine ⟨k + 1, vs', rows', by go_num, by omega, .inl (by omega), HO'.out.new (New.drewN wr nq), HF'.out, HP'.out, HL, fun a b h1 h2 h3 => ?_, Chg.trans HC.out (New.drewN wr nq) (fun _ _ x => x) (fun _ _ x => x.elim)⟩
              by_cases e1 : a = j
              · subst e1; exact hS.2 b h1 (by omega)
              · by_cases e2 : b = j
                · subst e2
                  by_cases e3 : a = b - 1
                  · subst e3; omega
                  · have := hS.1 a (b - 1) (by omega) (by omega) e1 (by omega); omega
                · exact hS.1 a b h1 (by omega) e1 e2
            case measure => simp [intOf]; omega
        · obtain rfl : j = 0 := by omega
          have hd : decide ((0 : Int) < 0) = false := by simp
          go_wp2_with fail
          go_quiet (fail)
          go_wp2_with fail
          go_roundw
          case rel =>
            have hS := HS.out
            have hln := HL.out
            refine ⟨k + 1, vs', rows', by go_num, by omega, .inl (by omega), HO'.out.new (New.drewN wr nq), HF'.out, HP'.out, HL, fun a b h1 h2 h3 => ?_, Chg.trans HC.out (New.drewN wr nq) (fun _ _ x => x) (fun _ _ x => x.elim)⟩
            by_cases e1 : a = 0
            · subst e1; exact hS.2 b h1 (by omega)
            · exact hS.1 a b h1 (by omega) e1 (by omega)
          case measure => simp [intOf]; omega
    · go_wp2_with fail
      go_end0
      exact ⟨vs', rows', rfl, HO'.out, HF'.out, HP'.out, HL.out, fun a b h1 h2 => by have h3 := HL.out; exact HS.out a b h1 (by omega) (by omega), HC.out⟩
end Go.Proofs.YtcdbeepphdfipaaGreatDoor

namespace Go.Proofs.YtcdbeepphdfipaaGreatDoor
open Go.RowKit
set_option linter.unusedVariables false

set_option maxRecDepth 100000 in
theorem len64_any (n : Nat) (w : World) (h : n ≤ 7) : Calls Tryz.prog 169 #[.int .u64 n] w fun e w' => (∃ m : Int, e = .returned (.int .i64 m)) ∧ w = w' := by
  rcases (show n = 0 ∨ n = 1 ∨ n = 2 ∨ n = 3 ∨ n = 4 ∨ n = 5 ∨ n = 6 ∨ n = 7 by omega) with rfl | rfl | rfl | rfl | rfl | rfl | rfl | rfl
  all_goals
    go_enter Tryz.func169, Tryz.ntmps169
    go_wp2
    go_ret
    exact ⟨⟨_, rfl⟩, rfl⟩

theorem bitsLen_any (n : Nat) (w : World) (h : n ≤ 7) : Calls Tryz.prog 152 #[.int .u64 n] w fun e w' => (∃ m : Int, e = .returned (.int .i64 m)) ∧ w = w' := by
  go_enter Tryz.func152, Tryz.ntmps152
  go_wp2_with fail
  refine (len64_any _ _ h).mono ?_
  rintro e w' ⟨⟨m, rfl⟩, rfl⟩
  go_wp2_with fail
  go_ret
  exact ⟨⟨m, rfl⟩, rfl⟩

/-- What the sort leaves. -/
def Sorted (v : Value) (B : Nat) (Φ : List (List Int) → Prop) (n : Nat) (w w' : World) : Prop :=
  ∃ vs' rows', OwnR w' 53 3 v vs' rows' ∧ FromR B v vs' rows' ∧ Φ rows' ∧ rows'.length = n ∧ (∀ a b, a < b → b < rows'.length → leadZ (gr rows' a) ≤ leadZ (gr rows' b)) ∧ Chg (fun k => v.ownBlock = some k) w w'

theorem pdq_any (v : Value) (vs : List Value) (rows : List (List Int)) (w : World) (B : Nat) (Φ : List (List Int) → Prop) (hΦ : ∀ A j, 0 < j → j < A.length → Φ A → Φ (swp A j))
    (ho : OwnR w 53 3 v vs rows) (hf : FromR B v vs rows) (hphi : Φ rows) (hm : rows.length ≤ 7) (hms : ∀ A, A.length = rows.length → Φ A → ∀ i, i < A.length → Mid (gr A i).length) (m : Int) :
    Calls Tryz.prog 151 #[v, .int .i64 0, .int .i64 rows.length, .int .i64 m, .func (.func 116) #[] #[]] w fun e w' => e = .returned (.tuple #[]) ∧ Sorted v B Φ rows.length w w' := by
  obtain ⟨ao, n, cap, rfl, HN, hn, _⟩ := ho.outer.opened (by rw [ho.len]; unfold Mid; omega)
  have en : n = rows.length := by rw [HN.out, ho.len]
  have hc := insSort_any _ vs rows w B Φ hΦ ho hf hphi (by omega) hms
  rw [← en] at hm hc ⊢
  have HC := Lib.hid hc
  clear hc ho hf hphi hΦ hms en
  go_enter Tryz.func151, Tryz.ntmps151
  go_wp2_with fail
  refine wp_loop_rounds 1 ?_
  rw [rounds_succ]
  go_wp2_with fail
  refine HC.out.mono ?_
  rintro e w' ⟨vs', rows', rfl, hq⟩
  go_wp2_with fail
  (try simp only [Exit.inBlock, Exit.then])
  refine bodyPost_ret (results_none rfl _ _ _) rfl ?_
  exact ⟨rfl, vs', rows', hq⟩

theorem sortFunc_any (v : Value) (vs : List Value) (rows : List (List Int)) (w : World) (B : Nat) (Φ : List (List Int) → Prop) (hΦ : ∀ A j, 0 < j → j < A.length → Φ A → Φ (swp A j))
    (ho : OwnR w 53 3 v vs rows) (hf : FromR B v vs rows) (hphi : Φ rows) (hm : rows.length ≤ 7) (hms : ∀ A, A.length = rows.length → Φ A → ∀ i, i < A.length → Mid (gr A i).length) :
    Calls Tryz.prog 115 #[v, .func (.func 116) #[] #[]] w fun e w' => e = .returned (.tuple #[]) ∧ Sorted v B Φ rows.length w w' := by
  obtain ⟨ao, n, cap, rfl, HN, hn, _⟩ := ho.outer.opened (by rw [ho.len]; unfold Mid; omega)
  have en : n = rows.length := by rw [HN.out, ho.len]
  have hc := fun m => pdq_any _ vs rows w B Φ hΦ ho hf hphi hm hms m
  rw [← en] at hm hc ⊢
  have HC := Lib.hid hc
  clear hc ho hf hphi hΦ hms en
  go_enter Tryz.func115, Tryz.ntmps115
  go_wp2_with fail
  refine (bitsLen_any _ _ hm).mono ?_
  rintro e w' ⟨⟨m, rfl⟩, rfl⟩
  go_wp2_with fail
  refine (HC.out m).mono ?_
  rintro e w' ⟨rfl, hq⟩
  go_wp2_with fail
  go_end0
  exact ⟨rfl, hq⟩
end Go.Proofs.YtcdbeepphdfipaaGreatDoor

namespace Go.Proofs.YtcdbeepphdfipaaGreatDoor
open Go.RowKit Mat
set_option linter.unusedVariables false

/-- The first k rows have been turned by f. -/
def mapTo (f : List Int → List Int) (A : List (List Int)) (k : Nat) : List (List Int) := A.mapIdx (fun i r => if i < k then f r else r)
theorem mapTo_length (f : List Int → List Int) (A : List (List Int)) (k : Nat) : (mapTo f A k).length = A.length := by simp [mapTo]
theorem mapTo_get (f : List Int → List Int) (A : List (List Int)) (k : Nat) {i : Nat} (hi : i < A.length) : gr (mapTo f A k) i = if i < k then f (gr A i) else gr A i := by
  rw [gr_lt (by rw [mapTo_length]; exact hi), gr_lt hi]; simp [mapTo]
theorem mapTo_zero (f : List Int → List Int) (A : List (List Int)) : mapTo f A 0 = A :=
  ext_gr (mapTo_length _ _ _) (fun i hi => by rw [mapTo_length] at hi; rw [mapTo_get _ _ _ hi, if_neg (by omega)])
theorem mapTo_succ (f : List Int → List Int) (A : List (List Int)) (k : Nat) (hk : k < A.length) : (mapTo f A k).set k (f (gr A k)) = mapTo f A (k + 1) := by
  refine ext_gr (by simp [mapTo]) (fun i hi => ?_)
  rw [List.length_set, mapTo_length] at hi
  rw [gr_set (by rw [mapTo_length]; exact hi), mapTo_get _ _ _ hi, mapTo_get _ _ _ hi]
  by_cases e : k = i
  · subst e; rw [if_pos rfl, if_pos (by omega)]
  · rw [if_neg e]
    by_cases h : i < k
    · rw [if_pos h, if_pos (by omega)]
    · rw [if_neg h, if_neg (by omega)]
theorem mapTo_all (f : List Int → List Int) (A : List (List Int)) : mapTo f A A.length = A.map f :=
  ext_gr (by simp [mapTo]) (fun i hi => by rw [mapTo_length] at hi; rw [mapTo_get _ _ _ hi, if_pos hi, gr_map hi])

theorem redStep_length (q : Int) (out : List (List Int)) (row : List Int) : (redStep q out row).length ≤ out.length + 1 := by
  unfold redStep; split <;> simp
theorem redAll_length (q : Int) (rows : List (List Int)) (k : Nat) (hk : k ≤ rows.length) : (redAll q (rows.take k)).length ≤ k := by
  induction k with
  | zero => simp [redAll]
  | succ k ih =>
    rw [take_succ_gr (by omega), redAll_snoc]
    have := redStep_length q (redAll q (rows.take k)) (gr rows k)
    have := ih (by omega)
    omega

theorem GoodRow.sm {p : Int} {n : Nat} {x : List Int} (h : GoodRow p n x) (hp : p ≤ 1000) : Sm x := fun i hi => by
  have := h.2 i (by rw [← h.1]; exact hi); omega

theorem GoodRow.mid {p : Int} {n : Nat} {x : List Int} (h : GoodRow p n x) (hn : n ≤ 1000) : Mid x.length := by unfold Mid; rw [h.1]; omega

theorem lead_nat {x : List Int} (h : 0 ≤ leadZ x) : leadZ x = (ldN x : Int) := by unfold ldN; omega

/-- A number of an owned row. -/
theorem Own.num {w : World} {e : TypeId} {g n cap : Nat} {xs : List Int} (h : Own w e (.slice (some ⟨g, 0, none⟩) n cap) (xs.map (Value.int .i64))) {i : Nat} (hi : i < xs.length) : w.cell? ⟨g, i, none⟩ = some (.int .i64 (gi xs i)) := by
  have := (h.cell (i := i) (by simpa using hi)).1
  rwa [gv_map_int hi] at this

/-- What was owned stands while a newer row is written. -/
theorem OwnR.past {w w1 w2 : World} {eo ei : TypeId} {v u : Value} {vs : List Value} {rows : List (List Int)} (h : OwnR w eo ei v vs rows) (h1 : New w w1) (hf : From w.heap.size u) (hc : Chg (fun k => u.ownBlock = some k) w1 w2) : OwnR w2 eo ei v vs rows :=
  (h.new h1).chg hc (fun g hg hs => by have := h.outer.lt hg; have := hf g hs; omega) (fun i hi g hg hs => by have := (h.inner i hi).lt hg; have := hf g hs; omega)

set_option maxHeartbeats 8000000 in
theorem reduced_any (q : Nat) [NeZero q] (hq : Pr q) (n : Nat) (hn : n ≤ 7) (v : Value) (rows : List (List Int)) (w : World) (hr : IsR w v rows) (hg : GoodRows q n rows) (hl : rows.length ≤ 7) :
    Calls Tryz.prog 71 #[.int .i64 q, v] w fun e w' => ∃ u vs out, e = .returned u ∧ OwnR w' 53 3 u vs out ∧ FromR w.heap.size u vs out ∧ IsRed q n rows out ∧ New w w' := by
  obtain ⟨ao, m, cap, rfl, HN, hm⟩ := hr.shape
  have hqp := hq.pos
  have hq1 : (2 : Int) ≤ q ∧ (q : Int) ≤ 7 := by omega
  have hm7 : m ≤ 7 := by rw [HN.out]; exact hl
  have HR := Lib.hid hr
  have HQ := Lib.hid hq
  have HG := Lib.hid hg
  clear hr hq hg hqp
  go_enter Tryz.func71, Tryz.ntmps71
  go_wp2_with fail
  go_loopw [5, 16] (fun v5 i wr => ∃ (k : Nat) (vs : List Value), i = .int .i64 k ∧ k ≤ m ∧ OwnR wr 53 3 v5 vs (redAll q (rows.take k)) ∧ FromR w.heap.size v5 vs (redAll q (rows.take k)) ∧ New w wr) (fun _ i _ => m - (intOf i).toNat)
  case atStart =>
    exact ⟨0, [], rfl, Nat.zero_le _, ⟨Own.empty _ _, rfl, fun i hi => by simp [redAll] at hi, fun i j hi => by simp [redAll] at hi⟩, ⟨From.new _ _ _, fun i hi => by simp [redAll] at hi⟩, New.alloc _ _⟩
  case round =>
    obtain ⟨k, vs, rfl, hk, hown, hfrom, hnew⟩ := hrel
    have HO := Lib.hid hown
    have HF := Lib.hid hfrom
    have HW := Lib.hid hnew
    clear hown hfrom hnew
    by_cases hkm : k < m
    · have hkr : k < rows.length := by rw [← HN.out]; exact hkm
      have HI := Lib.hid (redAll_inv HQ.out HG.out k (by omega))
      obtain ⟨out, hout⟩ : ∃ out, out = redAll q (rows.take k) := ⟨_, rfl⟩
      rw [← hout] at HO HF HI
      have hol : out.length ≤ 7 := by rw [hout]; have := redAll_length q rows k (by omega); omega
      have HOUT := Lib.hid hout
      clear hout
      obtain ⟨b, o, u, rfl, ck, hu⟩ := (HR.out.new HW.out).at hkm
      obtain ⟨au, nu, cu, rfl, HNU, hnu⟩ := hu.shape
      have HU := Lib.hid hu
      have HGR := Lib.hid (HG.out k hkr)
      obtain ⟨row, hrow⟩ : ∃ row, row = gr rows k := ⟨_, rfl⟩
      rw [← hrow] at HU HGR HNU
      have HROW := Lib.hid hrow
      clear hrow hu
      have hnu' : nu = n := by rw [HNU.out]; exact HGR.out.1
      subst hnu'
      go_wp2_with fail
      refine (clone_any _ _ _ HU.out).mono ?_
      rintro e w1 ⟨u1, rfl, ho1, hf1, hn1⟩
      have HO1 := Lib.hid ho1
      have HF1 := Lib.hid hf1
      have HN1 := Lib.hid hn1
      clear ho1 hf1 hn1 ck
      obtain ⟨a1, l1, c1, rfl, HL1, hl1, _⟩ := HO1.out.opened (by rw [List.length_map]; exact HGR.out.mid (by omega))
      have e1 : l1 = nu := by rw [HL1.out, List.length_map]; exact HGR.out.1
      subst e1
      obtain ⟨a5, l5, c5, rfl, HL5, hl5, _⟩ := HO.out.outer.opened (by rw [HO.out.len]; unfold Mid; omega)
      have e5 : l5 = out.length := by rw [HL5.out, HO.out.len]
      subst e5
      go_wp2_with fail
      obtain ⟨wo, hwo⟩ : ∃ wo : World, wo = wr := ⟨_, rfl⟩
      rw [← hwo] at HO HW HU HF1 HN1
      clear hwo
      go_loopw [24] (fun i wx => ∃ (j : Nat), i = .int .i64 j ∧ j ≤ out.length ∧ Own wx 3 (.slice a1 l1 c1) ((elimL q row (out.take j)).map (Value.int .i64)) ∧ Chg (fun k => (Value.slice a1 l1 c1).ownBlock = some k) w1 wx) (fun i _ => out.length - (intOf i).toNat)
      case atStart => exact ⟨0, rfl, Nat.zero_le _, by rw [List.take_zero]; exact HO1.out, Chg.refl _ _⟩
      case round =>
        obtain ⟨j, rfl, hj, hown, hchg⟩ := hrel
        have HE := Lib.hid hown
        have HC := Lib.hid hchg
        clear hown hchg
        by_cases hjo : j < out.length
        · have hox := HO.out.past HN1.out HF1.out HC.out
          have HOX := Lib.hid hox
          clear hox
          obtain ⟨g5, rfl⟩ := HOX.out.outer.head (i := j) (by rw [HOX.out.len]; exact hjo)
          obtain ⟨c5', _⟩ := HOX.out.outer.cell (i := j) (by rw [HOX.out.len]; exact hjo)
          have hix := (HOX.out.inner j hjo).isI ((HI.out.good j hjo).mid (by omega))
          obtain ⟨ax, nx, cx, ex, _, _⟩ := hix.shape
          rw [ex] at c5' hix
          have HIX := Lib.hid hix
          have EX := Lib.hid ex
          clear hix ex
          have hlx := lead_nat (HI.out.lead j hjo)
          have HLX := Lib.hid hlx
          clear hlx
          obtain ⟨l, hld⟩ : ∃ l, l = ldN (gr out j) := ⟨_, rfl⟩
          have hln : l < l1 := by rw [hld]; exact (lead_some (HI.out.good j hjo) (HI.out.lead j hjo)).1
          rw [← hld] at HLX
          have HLD := Lib.hid hld
          clear hld
          have HGE := Lib.hid (elim_inv (by omega) HI.out HGR.out j (by omega)).1
          obtain ⟨r, hr⟩ : ∃ r, r = elimL q row (out.take j) := ⟨_, rfl⟩
          rw [← hr] at HE HGE
          have hlr : l < r.length := by rw [HGE.out.1]; exact hln
          obtain ⟨g1, rfl⟩ := HE.out.head (i := l) (by simpa using hlr)
          have cr := HE.out.num hlr
          have br := HGE.out.2 l hln
          have HRR := Lib.hid hr
          clear hr
          go_wp2_with fail
          refine (lead_any _ _ _ HIX.out).mono ?_
          rintro e w2 ⟨rfl, rfl⟩
          rw [HLX.out]
          go_wp2_with fail
          have hap : Apart (.slice (some ⟨g1, 0, none⟩) l1 c1) (.slice ax nx cx) := fun g hg hx => by
            have h1 := HF1.out g hg
            have h2 := (HO.out.inner j hjo).lt (g := g) (by rw [EX.out]; exact hx)
            omega
          refine (add_any _ _ _ _ r (gr out j) _ (by omega) (by omega) HE.out HIX.out hap (by rw [HGE.out.1, (HI.out.good j hjo).1]; omega) (HGE.out.sm (by omega)) ((HI.out.good j hjo).sm (by omega)) (HGE.out.mid (by omega))).mono ?_
          rintro e w3 ⟨rfl, ho3, hc3⟩
          have HO3 := Lib.hid ho3
          have HC3 := Lib.hid hc3
          clear ho3 hc3 hap
          go_wp2_with fail
          go_roundw
          case rel =>
            refine ⟨j + 1, by go_num, by omega, ?_, Chg.trans HC.out HC3.out (fun _ _ x => x) (fun _ _ x => x)⟩
            rw [take_succ_gr hjo, elimL_snoc, ← HRR.out, ← HLD.out]
            exact HO3.out
          case measure => simp [intOf]; omega
        · obtain rfl : j = out.length := by omega
          rw [List.take_length] at HE
          have HGE := Lib.hid (elim_inv (by omega) HI.out HGR.out out.length (Nat.le_refl _)).1
          rw [List.take_length] at HGE
          obtain ⟨r, hr⟩ : ∃ r, r = elimL q row out := ⟨_, rfl⟩
          rw [← hr] at HE HGE
          have HRR := Lib.hid hr
          clear hr
          have hir := HE.out.isI (HGE.out.mid (by omega))
          have HIR := Lib.hid hir
          clear hir
          go_wp2_with fail
          refine (lead_any _ _ _ HIR.out).mono ?_
          rintro e w2 ⟨rfl, rfl⟩
          by_cases hneg : leadZ r < 0
          · have HSTEP : Hid (redAll q (rows.take (k + 1)) = out) := by
              show _ = _
              rw [take_succ_gr hkr, redAll_snoc, ← HOUT.out, ← HROW.out, redStep, ← HRR.out, if_pos hneg]
            go_wp2_with fail
            go_roundw
            case rel =>
              refine ⟨k + 1, vs, by go_num, by omega, ?_, ?_, HW.out.trans (New.then HN1.out HC.out (fun i hi => HF1.out i hi))⟩
              · rw [HSTEP.out]; exact HO.out.past HN1.out HF1.out HC.out
              · rw [HSTEP.out]; exact HF.out
            case measure => simp [intOf]; omega
          · have hlx := lead_nat (show 0 ≤ leadZ r by omega)
            rw [hlx]
            obtain ⟨l, hld⟩ : ∃ l, l = ldN r := ⟨_, rfl⟩
            have hls := lead_some HGE.out (show 0 ≤ leadZ r by omega)
            rw [← hld]
            rw [← hld] at hls hlx
            have hln := hls.1
            have HLS := Lib.hid hls
            have HLD := Lib.hid hld
            have HLX := Lib.hid hlx
            clear hls hld hlx hneg
            have hlr : l < r.length := by rw [HGE.out.1]; exact hln
            obtain ⟨g1, rfl⟩ := HE.out.head (i := l) (by simpa using hlr)
            have cr := HE.out.num hlr
            have br := HGE.out.2 l hln
            have br1 : gi r l ≠ 0 := fun e => HLS.out.2.1 ((vec_zero HGE.out).2 e)
            go_wp2_with fail
            have hpb : prB q = true := by rw [prB_iff]; have := HQ.out; unfold Pr at this; omega
            have hiv := invZ_spec hpb (x := gi r l) (by omega) (by omega)
            refine (inverse_any _ _ _ hpb (by omega) (by omega)).mono ?_
            rintro e w2 ⟨rfl, rfl⟩
            have hiv1 := hiv.1
            have hiv2 := hiv.2.1
            clear hiv hpb
            go_wp2_with fail
            refine (clone_any _ _ _ HIR.out).mono ?_
            rintro e w2 ⟨u2, rfl, ho2, hf2, hn2⟩
            have HO2 := Lib.hid ho2
            have HF2 := Lib.hid hf2
            have HN2 := Lib.hid hn2
            clear ho2 hf2 hn2 cr
            go_wp2_with fail
            have hap : Apart (.slice (some ⟨g1, 0, none⟩) l1 c1) u2 := fun g hg hx => by
              have h1 := HE.out.lt hg
              have h2 := HF2.out g hx
              omega
            refine (add_any _ _ _ _ r r _ (by omega) (by omega) (HE.out.new HN2.out) (HO2.out.isI (HGE.out.mid (by omega))) hap (Nat.le_refl _) (HGE.out.sm (by omega)) (HGE.out.sm (by omega)) (HGE.out.mid (by omega))).mono ?_
            rintro e w3 ⟨rfl, ho3, hc3⟩
            have enorm : addZ q r (invZ q (gi r l) - 1) r = normZ q r := by rw [normZ, ← HLD.out]
            rw [enorm] at ho3
            have HO3 := Lib.hid ho3
            have HC3 := Lib.hid (Chg.trans (Chg.trans HC.out HN2.out (fun _ _ x => x) (fun _ _ x => x.elim)) hc3 (fun _ _ x => x) (fun _ _ x => x))
            clear ho3 hc3 hap enorm
            have hr0 : 0 ≤ leadZ r := by rw [HLX.out]; omega
            obtain ⟨r2, hr2⟩ : ∃ r2, r2 = normZ q r := ⟨_, rfl⟩
            rw [← hr2] at HO3
            have HR2 := Lib.hid hr2
            have HG2 : Hid (GoodRow q l1 r2) := by show GoodRow q l1 r2; rw [hr2]; exact (norm_facts HQ.out HGE.out hr0).1
            clear hr2 hr0
            go_wp2_with fail
            have hox := HO.out.past HN1.out HF1.out HC3.out
            have HOX := Lib.hid hox
            clear hox
            obtain ⟨wp, hwp⟩ : ∃ wp : World, wp = w3 := ⟨_, rfl⟩
            rw [← hwp] at HO3 HC3 HOX
            rw [← hwp]
            clear hwp
            go_loopw [57] (fun i wy => ∃ (j : Nat), i = .int .i64 j ∧ j ≤ out.length ∧ OwnR wy 53 3 (.slice a5 out.length c5) vs (mapTo (fun x => addZ q x (-(gi x l)) r2) out j) ∧ Chg (fun k => ∃ i, i < out.length ∧ (gv vs i).ownBlock = some k) wp wy) (fun i _ => out.length - (intOf i).toNat)
            case atStart => exact ⟨0, rfl, Nat.zero_le _, by rw [mapTo_zero]; exact HOX.out, Chg.refl _ _⟩
            case round =>
              obtain ⟨j, rfl, hj, hown, hchg⟩ := hrel
              have HY := Lib.hid hown
              have HCY := Lib.hid hchg
              clear hown hchg
              by_cases hjo : j < out.length
              · obtain ⟨g5, rfl⟩ := HY.out.outer.head (i := j) (by rw [HY.out.len, mapTo_length]; exact hjo)
                obtain ⟨c5', _⟩ := HY.out.outer.cell (i := j) (by rw [HY.out.len, mapTo_length]; exact hjo)
                have hxo := HY.out.inner j (by rw [mapTo_length]; exact hjo)
                rw [mapTo_get _ _ _ hjo, if_neg (by omega)] at hxo
                obtain ⟨x, hx⟩ : ∃ x, x = gr out j := ⟨_, rfl⟩
                have hgx := HI.out.good j hjo
                rw [← hx] at hxo hgx
                have HX := Lib.hid hx
                clear hx
                have hlx : l < x.length := by rw [hgx.1]; exact hln
                obtain ⟨ax, nx, cx, ex, HNX, _⟩ := (hxo.isI (hgx.mid (by omega))).shape
                have hlnx : l < nx := by rw [HNX.out]; exact hlx
                rw [ex] at c5' hxo
                obtain ⟨gx, rfl⟩ := hxo.head (i := l) (by simpa using hlx)
                have cx' := hxo.num hlx
                have bx := hgx.2 l hln
                have EX := Lib.hid ex
                have HXO := Lib.hid hxo
                have HGX := Lib.hid hgx
                have hu1 : Own wr 3 (.slice (some ⟨g1, 0, none⟩) l1 c1) (r2.map (Value.int .i64)) := HO3.out.chg HCY.out (fun g hg ⟨i, hi, e⟩ => by
                  have h1 := HF1.out g hg
                  have h2 := (HO.out.inner i hi).lt e
                  omega)
                have HU1 := Lib.hid hu1
                clear ex hxo hgx hu1
                go_wp2_with fail
                have hap : Apart (.slice (some ⟨gx, 0, none⟩) nx cx) (.slice (some ⟨g1, 0, none⟩) l1 c1) := fun g hg hx => by
                  have h1 := HF1.out g hx
                  have h2 := (HO.out.inner j hjo).lt (g := g) (by rw [EX.out]; exact hg)
                  omega
                refine (add_any _ _ _ _ x r2 _ (by omega) (by omega) HXO.out (HU1.out.isI (HG2.out.mid (by omega))) hap (by rw [HG2.out.1, HGX.out.1]; omega) (HGX.out.sm (by omega)) (HG2.out.sm (by omega)) (HGX.out.mid (by omega))).mono ?_
                rintro e w4 ⟨rfl, ho4, hc4⟩
                have HO4 := Lib.hid ho4
                have HC4 := Lib.hid hc4
                clear ho4 hc4 hap
                go_wp2_with fail
                go_roundw
                case rel =>
                  refine ⟨j + 1, by go_num, by omega, ?_, Chg.trans HCY.out HC4.out (fun _ _ x => x) (fun i _ x => ⟨j, hjo, by rw [EX.out]; exact x⟩)⟩
                  rw [← mapTo_succ _ _ _ hjo, ← HX.out]
                  exact HY.out.turn (by decide) (by rw [mapTo_length]; exact hjo) HC4.out (fun g hg => by rw [EX.out]; exact hg) (by rw [EX.out]; exact HO4.out)
                case measure => simp [intOf]; omega
              · obtain rfl : j = out.length := by omega
                rw [mapTo_all] at HY
                have hu1 : Own wr 3 (.slice (some ⟨g1, 0, none⟩) l1 c1) (r2.map (Value.int .i64)) := HO3.out.chg HCY.out (fun g hg ⟨i, hi, e⟩ => by
                  have h1 := HF1.out g hg
                  have h2 := (HO.out.inner i hi).lt e
                  omega)
                have HU1 := Lib.hid hu1
                clear hu1
                have HSTEP : Hid (redAll q (rows.take (k + 1)) = out.map (fun x => addZ q x (-(gi x l)) r2) ++ [r2]) := by
                  show _ = _
                  rw [take_succ_gr hkr, redAll_snoc, ← HOUT.out, ← HROW.out, redStep, ← HRR.out, if_neg (by rw [HLX.out]; omega), ← HLD.out, ← HR2.out]
                have hvl : vs.length ≤ 7 := by rw [HO.out.len]; exact hol
                go_wp2_with (at_builtin; refine wpList_app1 rfl _ _ _ rfl tyRow wr HY.out.outer rfl _ _ rfl rfl rfl (by omega) ?_; intro v2 w5 k1 k2 k3; have K2 := Lib.hid (And.intro k1 (And.intro k2 k3)); clear k1 k2 k3)
                go_roundw
                case rel =>
                  obtain ⟨m1, m2, m3⟩ := K2.out
                  have hfy : FromR w.heap.size (.slice a5 out.length c5) vs (out.map (fun x => addZ q x (-(gi x l)) r2)) := ⟨HF.out.1, fun i hi => HF.out.2 i (by simpa using hi)⟩
                  have hcw : New w wr := (HW.out.trans (New.then HN1.out HC3.out (fun i hi => HF1.out i hi))).then HCY.out (fun i ⟨x, hx, e⟩ => HF.out.2 x hx i e)
                  have hne : (53 : Nat) ≠ 3 := by decide
                  have hvu : ∀ g, (Value.slice a5 out.length c5).ownBlock = some g → (Value.slice (some ⟨g1, 0, none⟩) l1 c1).ownBlock ≠ some g := fun g hg hg' => by
                    have h1 := HO.out.outer.lt hg
                    have h2 := HF1.out g hg'
                    omega
                  refine ⟨k + 1, vs ++ [.slice (some ⟨g1, 0, none⟩) l1 c1], by go_num, by omega, ?_, ?_, hcw.then m2 (fun i hi => HF.out.1 i hi)⟩
                  · rw [HSTEP.out]
                    refine OwnR.snoc m1 HY.out.len (fun i hi => (HY.out.inner i hi).chg m2 (fun g hg hs => HY.out.outer_apart hne hi g hs hg)) HY.out.apart (HU1.out.chg m2 (fun g hg hs => hvu g hs hg)) (fun i hi => ?_)
                    exact From.apart HF1.out (HO.out.inner i (by simpa using hi))
                  · rw [HSTEP.out]
                    refine ⟨fun g hg => ?_, fun i hi => ?_⟩
                    · rcases m3 g hg with x | x
                      · exact HF.out.1 g x
                      · have := hcw.size; omega
                    · simp at hi
                      have hlen := HO.out.len
                      by_cases e : i < out.length
                      · rw [gv_snoc_lt (by omega)]; exact HF.out.2 i e
                      · rw [gv_snoc_eq (by omega)]; exact HF1.out.mono HW.out.size
                case measure => simp [intOf]; omega
    · obtain rfl : k = m := by omega
      have e : rows.take k = rows := List.take_of_length_le (by rw [← HN.out]; exact Nat.le_refl _)
      rw [e] at HO HF
      have hinv := redAll_inv HQ.out HG.out rows.length (Nat.le_refl _)
      rw [List.take_length] at hinv
      have hlen := redAll_length q rows rows.length (Nat.le_refl _)
      rw [List.take_length] at hlen
      have HINV := Lib.hid hinv
      have HLEN := Lib.hid (Nat.le_trans hlen hl)
      clear hinv hlen
      go_wp2_with fail
      refine (sortFunc_any _ vs (redAll q rows) _ w.heap.size (fun A => Inv q n rows A) (fun A j h0 hj h => h.swp h0 hj) HO.out HF.out HINV.out HLEN.out (fun A _ h i hi => (h.good i hi).mid (by omega))).mono ?_
      rintro e w1 ⟨rfl, vs', out, h1, h2, h3, h4, h5, h6⟩
      have hcl := HO.out
      go_wp2_with fail
      refine (clipR_any _ vs' _ h1.outer (by unfold Mid; rw [h1.len, h4]; have := HLEN.out; omega)).mono ?_
      rintro e w2 ⟨u, rfl, h7, h8, rfl⟩
      go_wp2_with fail
      go_ret
      have hasc : ∀ i j, i < j → j < out.length → ldN (gr out i) < ldN (gr out j) := fun i j hij hj => by
        have a1 := h5 i j hij hj
        have a2 := h3.lead_ne HQ.out (i := i) (j := j) (by omega) hj (by omega)
        have a3 := h3.lead i (by omega)
        have a4 := h3.lead j hj
        unfold ldN at a2 ⊢
        omega
      exact ⟨_, vs', out, rfl, ⟨h7, h1.len, h1.inner, h1.apart⟩, ⟨fun g hg => h2.1 g (by rw [← h8]; exact hg), h2.2⟩, ⟨h3, hasc⟩, HW.out.then h6 (fun i hi => HF.out.1 i hi)⟩
end Go.Proofs.YtcdbeepphdfipaaGreatDoor

namespace Go.Proofs.YtcdbeepphdfipaaGreatDoor
open Go.RowKit Mat
set_option linter.unusedVariables false

/-- The picked row goes, the row at its place moves to where it was, and a new row comes in its place. -/
theorem OwnR.put {w w2 : World} {eo ei : TypeId} {g n cap : Nat} {vs : List Value} {rows : List (List Int)} (h : OwnR w eo ei (.slice (some ⟨g, 0, none⟩) n cap) vs rows) (hne : eo ≠ ei) {q a : Nat} (hq : q < rows.length) (ha : a < rows.length)
    {v' : Value} {xs : List Int} (hn : New (w.setCell ⟨g, q, none⟩ (gv vs a)) w2) (hv : Own w2 ei v' (xs.map (Value.int .i64))) (hf : From w.heap.size v') :
    OwnR (w2.setCell ⟨g, a, none⟩ v') eo ei (.slice (some ⟨g, 0, none⟩) n cap) ((vs.set q (gv vs a)).set a v') ((rows.set q (gr rows a)).set a xs) ∧ Chg (· = g) w (w2.setCell ⟨g, a, none⟩ v') := by
  have hl := h.len
  have hc : Chg (· = g) w (w2.setCell ⟨g, a, none⟩ v') := Chg.trans (Chg.trans (Chg.setCell w ⟨g, q, none⟩ (gv vs a)) hn (U := (· = g)) (fun _ _ x => x) (fun _ _ x => x.elim)) (Chg.setCell _ _ _) (fun _ _ x => x) (fun _ _ x => x)
  have hg : g < w.heap.size := h.outer.lt (g := g) rfl
  have gvs : ∀ i, i < rows.length → gv ((vs.set q (gv vs a)).set a v') i = if a = i then v' else if q = i then gv vs a else gv vs i := fun i hi => by
    rw [gv_lt (by simp; omega), List.getElem_set]
    split
    · rfl
    · rw [List.getElem_set]
      split
      · rfl
      · exact (gv_lt (by omega)).symm
  have grs : ∀ i, i < rows.length → gr ((rows.set q (gr rows a)).set a xs) i = if a = i then xs else if q = i then gr rows a else gr rows i := fun i hi => by
    rw [gr_set (by simpa using hi), gr_set hi]
  have old : ∀ i, i < rows.length → Own (w2.setCell ⟨g, a, none⟩ v') ei (gv vs i) ((gr rows i).map (Value.int .i64)) := fun i hi =>
    (h.inner i hi).chg hc (fun x hx e => h.outer_apart hne hi g rfl (by rw [hx, e]))
  have new : Own (w2.setCell ⟨g, a, none⟩ v') ei v' (xs.map (Value.int .i64)) := hv.chg (Chg.setCell _ _ _) (fun x hx e => by have := hf x hx; simp only at e; omega)
  have apn : ∀ i, i < rows.length → Apart (gv vs i) v' := fun i hi => From.apart hf (h.inner i hi)
  refine ⟨⟨((h.outer.set q _).new hn).set a _, by simp [hl], fun i hi => ?_, fun i k hi hk hne' => ?_⟩, hc⟩
  · simp at hi
    rw [gvs i hi, grs i hi]
    split
    · exact new
    · split
      · exact old a ha
      · exact old i hi
  · simp at hi hk
    rw [gvs i hi, gvs k hk]
    split
    · rename_i e1
      rw [if_neg (by omega)]
      split
      · exact (apn a ha).symm
      · exact (apn k hk).symm
    · split
      · rename_i e1 e2
        split
        · exact apn a ha
        · rw [if_neg (by omega)]; exact h.apart a k ha hk (by omega)
      · split
        · exact apn i hi
        · split
          · exact h.apart i a hi ha (by omega)
          · exact h.apart i k hi hk hne'

/-- The first rows of what is owned. -/
theorem OwnR.front {w : World} {eo ei : TypeId} {ao : Option Addr} {n cap : Nat} {vs : List Value} {rows : List (List Int)} (h : OwnR w eo ei (.slice ao n cap) vs rows) {k : Nat} (hk : k ≤ rows.length) :
    OwnR w eo ei (.slice ao k cap) (vs.take k) (rows.take k) := by
  have hl := h.len
  have e1 : ∀ i, i < k → gv (vs.take k) i = gv vs i := fun i hi => by rw [gv_lt (by simp; omega), gv_lt (by omega), List.getElem_take]
  refine ⟨?_, by simp [hl], fun i hi => ?_, fun i j hi hj hne => ?_⟩
  · rcases h.outer with ⟨h0, h1⟩ | ⟨g, cap', cur, hv, hh, h1, h2, h3, ht⟩
    · simp at h0
      obtain ⟨rfl, rfl, rfl⟩ := h0
      subst h1
      have : rows.length = 0 := by simpa using hl.symm
      exact .inl ⟨by simp; omega, by simp⟩
    · simp at hv
      obtain ⟨rfl, rfl, rfl⟩ := hv
      refine .inr ⟨g, cap, cur, by simp; omega, hh, by simp; omega, h2, h3, ?_⟩
      rw [List.length_take, Nat.min_eq_left (by omega), ← ht, List.take_take]
      simp; omega
  · simp at hi
    rw [e1 i (by omega), gr_take (by omega) (by omega)]; exact h.inner i (by omega)
  · simp at hi hj
    rw [e1 i (by omega), e1 j (by omega)]; exact h.apart i j (by omega) (by omega) hne

theorem OwnR.len' {w : World} {eo ei : TypeId} {ao : Option Addr} {n cap : Nat} {vs : List Value} {rows : List (List Int)} (h : OwnR w eo ei (.slice ao n cap) vs rows) : n = rows.length := by rw [h.outer.len, h.len]

/-- A row of rows that are owned, laid open. -/
theorem OwnR.row {w : World} {eo ei : TypeId} {g n cap : Nat} {vs : List Value} {rows : List (List Int)} (h : OwnR w eo ei (.slice (some ⟨g, 0, none⟩) n cap) vs rows) {i : Nat} (hi : i < rows.length) (hm : Mid (gr rows i).length) :
    ∃ a n c, gv vs i = .slice a n c ∧ Hid (n = (gr rows i).length) ∧ w.cell? ⟨g, i, none⟩ = some (.slice a n c) ∧ w.frozen? ⟨g, i, none⟩ = false ∧ Hid (Own w ei (.slice a n c) ((gr rows i).map (Value.int .i64))) := by
  obtain ⟨a, n, c, e, H, _⟩ := (h.inner i hi).opened (by rw [List.length_map]; exact hm)
  have hc := h.outer.cell (i := i) (by rw [h.len]; exact hi)
  have ho := h.inner i hi
  rw [e] at hc ho
  exact ⟨a, n, c, e, by have := H.out; rw [List.length_map] at this; exact this, hc.1, hc.2, ho⟩

set_option maxRecDepth 100000 in
set_option maxHeartbeats 8000000 in
theorem reduce_any (q : Nat) [NeZero q] (hq : Pr q) (n : Nat) (hn : n ≤ 7) (v : Value) (rows : List (List Int)) (w : World) (hr : IsR w v rows) (hg : GoodRows q n rows) (hl : 1 ≤ rows.length ∧ rows.length ≤ 7) :
    Calls Tryz.prog 69 #[.int .i64 q, v] w fun e w' => ∃ u vs out, e = .returned u ∧ OwnR w' 53 3 u vs out ∧ FromR w.heap.size u vs out ∧ IsRed q n rows out ∧ New w w' := by
  have hqp := hq.pos
  have hq1 : (2 : Int) ≤ q ∧ (q : Int) ≤ 7 := by omega
  have HR := Lib.hid hr
  have HQ := Lib.hid hq
  have HG := Lib.hid hg
  have hpb : prB q = true := by rw [prB_iff]; have := hq; unfold Pr at this; omega
  have HPB := Lib.hid hpb
  clear hr hq hg hqp hpb
  go_enter Tryz.func69, Tryz.ntmps69
  go_wp2_with fail
  refine (copyRows_any _ _ _ HR.out).mono ?_
  rintro e w1 ⟨u, vs0, rfl, ho, hf, hn1⟩
  obtain ⟨m, hm⟩ : ∃ m, m = rows.length := ⟨_, rfl⟩
  obtain ⟨a5, m', c5, rfl, _, _, HCAP⟩ := ho.outer.opened (by rw [ho.len]; unfold Mid; omega)
  obtain rfl : m' = m := by rw [hm]; exact ho.len'
  have HM := Lib.hid hm
  have hm7 : 1 ≤ m' ∧ m' ≤ 7 := by rw [hm]; exact hl
  obtain ⟨g, rfl⟩ := ho.outer.head (i := 0) (by rw [ho.len]; omega)
  have HO := Lib.hid ho
  have HF := Lib.hid hf
  have HN1 := Lib.hid hn1
  clear ho hf hn1 hm hl
  go_wp2_with fail
  go_loopw [6, 7] (fun t6 t7 wr => ∃ (at' c : Nat) (vs : List Value) (a : List (List Int)) (ld : Nat → Nat), t6 = .int .i64 at' ∧ t7 = .int .i64 c ∧ c ≤ n ∧ OwnR wr 53 3 (.slice (some ⟨g, 0, none⟩) m' c5) vs a ∧ FromR w.heap.size (.slice (some ⟨g, 0, none⟩) m' c5) vs a ∧ Inv2 q n rows a at' c ld ∧ New w wr) (fun _ c _ => n - (intOf c).toNat)
  case atStart => exact ⟨0, 0, vs0, rows, _, rfl, rfl, Nat.zero_le _, HO.out, HF.out, Inv2.start HG.out, HN1.out⟩
  case round =>
    clear HO HF HN1
    obtain ⟨at', c, vs, a, ld, rfl, rfl, hc, ho, hf, hinv, hnew⟩ := hrel
    have ham : a.length = m' := by rw [hinv.len, HM.out]
    have hat : at' ≤ m' := by rw [← ham]; exact hinv.atle
    have HA := Lib.hid ham
    have HO := Lib.hid ho
    have HF := Lib.hid hf
    have HI := Lib.hid hinv
    have HW := Lib.hid hnew
    clear ho hf hinv hnew ham
    have hmid : ∀ i, i < a.length → Mid (gr a i).length := fun i hi => (HI.out.good i hi).mid (by omega)
    have HMID := Lib.hid hmid
    clear hmid
    obtain ⟨a0, n0, c0, _, HN0, cell0, _, _⟩ := HO.out.row (i := 0) (by rw [HA.out]; omega) (HMID.out 0 (by rw [HA.out]; omega))
    have e0 : n0 = n := by rw [HN0.out]; exact (HI.out.good 0 (by rw [HA.out]; omega)).1
    subst e0
    by_cases hcn : c < n0
    · go_wp2_with fail
      obtain ⟨wo, hwo⟩ : ∃ wo : World, wo = wr := ⟨_, rfl⟩
      rw [← hwo]
      rw [← hwo] at HO HW cell0
      clear hwo
      go_loop [8, 9] (fun t8 t9 => ∃ (i : Nat) (pk : Int), t9 = .int .i64 i ∧ t8 = .int .i64 pk ∧ at' ≤ i ∧ i ≤ m' ∧ ((pk = -1 ∧ ∀ j, at' ≤ j → j < i → gi (gr a j) c = 0) ∨ (∃ k : Nat, pk = k ∧ at' ≤ k ∧ k < i ∧ gi (gr a k) c ≠ 0))) (fun _ i => m' - (intOf i).toNat)
      case atStart => exact ⟨at', -1, rfl, rfl, Nat.le_refl _, hat, .inl ⟨rfl, fun j h1 h2 => by omega⟩⟩
      case round =>
        obtain ⟨i, pk, rfl, rfl, hi1, hi2, hpk⟩ := hrel
        by_cases him : i < m'
        · have hia : i < a.length := by rw [HA.out]; exact him
          rcases hpk with ⟨rfl, hz⟩ | ⟨k, rfl, hk1, hk2, hk3⟩
          · have HZ := Lib.hid hz
            clear hz
            obtain ⟨ai, ni, ci, _, HNI, celli, _, HOI⟩ := HO.out.row hia (HMID.out i hia)
            have hgi := HI.out.good i hia
            have hni : c < ni := by rw [HNI.out, hgi.1]; exact hcn
            obtain ⟨gi', rfl⟩ := HOI.out.head (i := c) (by rw [List.length_map, hgi.1]; exact hcn)
            have cellc := HOI.out.num (i := c) (by rw [hgi.1]; exact hcn)
            clear hgi
            by_cases h0 : gi (gr a i) c = 0
            · have H0 := Lib.hid h0
              rw [h0] at cellc
              clear h0
              go_wp2_with fail
              go_round
              case rel =>
                refine ⟨i + 1, -1, by go_num, rfl, by omega, by omega, .inl ⟨rfl, fun j h1 h2 => ?_⟩⟩
                by_cases e : j = i
                · rw [e]; exact H0.out
                · exact HZ.out j h1 (by omega)
              case measure => simp [intOf]; omega
            · have hb : (gi (gr a i) c != 0) = true := by simpa using h0
              have H0 := Lib.hid h0
              clear h0
              go_wp2_with fail
              go_round
              case rel => exact ⟨i + 1, i, by go_num, rfl, by omega, by omega, .inr ⟨i, rfl, hi1, by omega, H0.out⟩⟩
              case measure => simp [intOf]; omega
          · have H3 := Lib.hid hk3
            clear hk3
            go_wp2_with fail
            go_round
            case rel => exact ⟨i + 1, k, by go_num, rfl, by omega, by omega, .inr ⟨k, rfl, hk1, by omega, H3.out⟩⟩
            case measure => simp [intOf]; omega
        · obtain rfl : i = m' := by omega
          rcases hpk with ⟨rfl, hz⟩ | ⟨k, rfl, hk1, hk2, hk3⟩
          · have HZ := Lib.hid hz
            clear hz
            go_wp2_with fail
            go_roundw
            case rel => exact ⟨at', c + 1, vs, a, ld, rfl, by go_num, by omega, HO.out, HF.out, HI.out.skip (fun j h1 h2 => HZ.out j h1 (by rw [HA.out] at h2; exact h2)), HW.out⟩
            case measure => simp [intOf]; omega
          · have hka : k < a.length := by rw [HA.out]; exact hk2
            have hata : at' < a.length := by rw [HA.out]; omega
            obtain ⟨ak, nk, ck, ek, HNK, cellk, fk, HOK⟩ := HO.out.row hka (HMID.out k hka)
            have hgk := HI.out.good k hka
            have enk : nk = n0 := by rw [HNK.out]; exact hgk.1
            subst enk
            obtain ⟨gk, rfl⟩ := HOK.out.head (i := c) (by rw [List.length_map, hgk.1]; exact hcn)
            obtain ⟨row, hrow⟩ : ∃ r, r = gr a k := ⟨_, rfl⟩
            rw [← hrow] at HNK HOK hgk hk3
            have hbk := hgk.2 c hcn
            have hiv := invZ_spec HPB.out (x := gi row c) (by omega) (by omega)
            obtain ⟨f, hf0⟩ : ∃ f, f = invZ q (gi row c) := ⟨_, rfl⟩
            rw [← hf0] at hiv
            have hf1 := hiv.1
            have hf2 := hiv.2.1
            have HF0 := Lib.hid hf0
            have HROW := Lib.hid hrow
            have HGK := Lib.hid hgk
            have H3 := Lib.hid hk3
            have EK := Lib.hid ek
            clear hiv hf0 hrow hgk hk3 ek
            obtain ⟨at0, nt, ct, et, HNT, cellt, ft, _⟩ := HO.out.row hata (HMID.out at' hata)
            have ET := Lib.hid et
            clear et
            -- the world behind the store of the row that moves
            have hc1 : Chg (· = g) wo (wo.setCell ⟨g, k, none⟩ (.slice at0 nt ct)) := Chg.setCell wo ⟨g, k, none⟩ _
            have hrow1 : Own (wo.setCell ⟨g, k, none⟩ (.slice at0 nt ct)) 3 (.slice (some ⟨gk, 0, none⟩) nk ck) (row.map (Value.int .i64)) :=
              HOK.out.chg hc1 (fun x hx e => HO.out.outer_apart (by decide) hka g rfl (by rw [EK.out, hx, e]))
            have cellc := hrow1.num (i := c) (by rw [HGK.out.1]; exact hcn)
            have HR1 := Lib.hid hrow1
            clear hrow1 hc1
            go_wp2_with fail
            refine (specInverse_any _ _ _ HPB.out (by have := H3.out; omega) (by omega)).mono ?_
            rintro e w2 ⟨rfl, rfl⟩
            rw [← HF0.out]
            have hal : at' < (vs.set k (.slice at0 nt ct)).length := by rw [List.length_set, HO.out.len]; exact hata
            go_wp2_with (at_make; refine wpList_mk rfl _ _ _ rfl tyInt _ _ _ _ nk nk rfl rfl rfl rfl (Nat.le_refl _) (by omega) ?_; intro v3 w3 hv3 ho3 hn3 hs3; subst hv3; have hcat := ((HO.out.outer.set k (.slice at0 nt ct)).new hn3).cell (i := at') hal; obtain ⟨cat, fat⟩ := hcat; have HO3 := Lib.hid ho3; have HN3 := Lib.hid hn3; clear ho3 hn3 hs3)
            obtain ⟨v3, hv3⟩ : ∃ v3 : Value, v3 = .slice (some ⟨wo.heap.size, 0, none⟩) nk nk := ⟨_, rfl⟩
            have hfr3 : From wo.heap.size (.slice (some ⟨wo.heap.size, 0, none⟩) nk nk) := From.new _ _ _
            have ho3' : Own w3 3 (.slice (some ⟨wo.heap.size, 0, none⟩) nk nk) ((List.replicate nk 0).map (Value.int .i64)) := by have hh := HO3.out; rw [World.size_setCell] at hh; rw [List.map_replicate]; exact hh
            have hput := OwnR.put HO.out (by decide) hka hata (by rw [ET.out]; exact HN3.out) ho3' hfr3
            rw [ET.out] at hput
            have hgg : g < wo.heap.size := HO.out.outer.lt (g := g) rfl
            have hgk1 : gk < wo.heap.size := HOK.out.lt (g := gk) rfl
            have hrow4 : Own (w3.setCell ⟨g, at', none⟩ (.slice (some ⟨wo.heap.size, 0, none⟩) nk nk)) 3 (.slice (some ⟨gk, 0, none⟩) nk ck) (row.map (Value.int .i64)) :=
              HOK.out.chg hput.2 (fun x hx e => HO.out.outer_apart (by decide) hka g rfl (by rw [EK.out, hx, e]))
            have hv4 : Own (w3.setCell ⟨g, at', none⟩ (.slice (some ⟨wo.heap.size, 0, none⟩) nk nk)) 3 (.slice (some ⟨wo.heap.size, 0, none⟩) nk nk) ((List.replicate nk 0).map (Value.int .i64)) :=
              ho3'.chg (Chg.setCell w3 ⟨g, at', none⟩ _) (fun x hx e => by have := hfr3 x hx; simp only at e; omega)
            have hcell4 := (hput.1.outer.cell (i := at') (by rw [hput.1.len]; simpa using hata)).1
            rw [gv_lt (by rw [hput.1.len]; simpa using hata), List.getElem_set_self] at hcell4
            obtain ⟨w4, hw4⟩ : ∃ w4 : World, w4 = w3.setCell ⟨g, at', none⟩ (.slice (some ⟨wo.heap.size, 0, none⟩) nk nk) := ⟨_, rfl⟩
            rw [← hw4] at hput hrow4 hv4 hcell4
            rw [← hw4]
            have HPUT := Lib.hid hput
            have HROW4 := Lib.hid hrow4
            have HV4 := Lib.hid hv4
            clear hw4 hput hrow4 hv4 ho3' cat fat cellk fk cellt ft cellc cell0 hal hfr3 hv3 v3 HO3 HN3 HR1
            have hlen : row.length = nk := HGK.out.1
            have HLEN := Lib.hid hlen
            clear hlen
            go_loopw [12] (fun t12 wy => ∃ (j : Nat), t12 = .int .i64 j ∧ j ≤ nk ∧ Own wy 3 (.slice (some ⟨wo.heap.size, 0, none⟩) nk nk) ((addTo q (List.replicate nk 0) f row j).map (Value.int .i64)) ∧ Chg (· = wo.heap.size) w4 wy) (fun j _ => nk - (intOf j).toNat)
            case atStart => exact ⟨0, rfl, Nat.zero_le _, by rw [addTo_zero]; exact HV4.out, Chg.refl _ _⟩
            case round =>
              obtain ⟨j, rfl, hj, hown, hchg⟩ := hrel
              have HY := Lib.hid hown
              have HC := Lib.hid hchg
              clear hown hchg
              by_cases hjn : j < nk
              · have c1 := HC.out.cell hcell4 (by simp only; omega)
                have c2 := (HROW4.out.chg HC.out (fun x hx e => by simp [Value.ownBlock] at hx; omega)).num (i := j) (by rw [HLEN.out]; exact hjn)
                obtain ⟨c3, f3⟩ := HY.out.cell (i := j) (by rw [List.length_map, addTo_length]; simpa using hjn)
                have hbj := HGK.out.2 j hjn
                have hms := mul_small (x := gi row j) (y := f) (by omega) (by omega) (by omega) (by omega)
                go_wp2_with fail
                go_region
                all_goals go_wp2_with fail
                all_goals go_roundw
                case rel =>
                  have hst := (HY.out.set j (.int .i64 (gi row j * f % q))).new (New.drew _)
                  rw [set_map_int] at hst
                  have e1 : gi row j * f % q = (gi (List.replicate nk 0) j + f * gi row j) % q := by rw [gi_replicate, Int.zero_add, Int.mul_comm]
                  rw [e1, addTo_succ _ _ _ _ _ (by simpa using hjn), ← e1] at hst
                  exact ⟨j + 1, by go_num, by omega, hst, Chg.trans (Chg.trans HC.out (Chg.setCell _ _ _) (U := (· = wo.heap.size)) (fun _ _ x => x) (fun _ _ x => x)) (New.drew _) (fun _ _ x => x) (fun _ _ x => x.elim)⟩
                case measure => simp [intOf]; omega
              · obtain rfl : j = nk := by omega
                have eprow : addTo q (List.replicate j 0) f row j = scaleZ q (gr a k) (invZ q (gi (gr a k) c)) := by
                  rw [← HROW.out, ← HF0.out]; unfold scaleZ addZ; rw [HLEN.out]
                obtain ⟨prow, hpr⟩ : ∃ r, r = scaleZ q (gr a k) (invZ q (gi (gr a k) c)) := ⟨_, rfl⟩
                rw [eprow, ← hpr] at HY
                have hgp : GoodRow q j prow := by rw [hpr]; exact scale_good (by omega) (by rw [← HROW.out]; exact HLEN.out)
                have HGP := Lib.hid hgp
                obtain ⟨A1, hA1⟩ : ∃ A, A = swapIn q a at' c k := ⟨_, rfl⟩
                obtain ⟨vs1, hvs1⟩ : ∃ l, l = (vs.set k (.slice at0 nt ct)).set at' (.slice (some ⟨wo.heap.size, 0, none⟩) j j) := ⟨_, rfl⟩
                have hA1l : A1.length = i := by rw [hA1]; simp [swapIn]; exact HA.out
                have hvat : gv vs1 at' = .slice (some ⟨wo.heap.size, 0, none⟩) j j := by
                  rw [hvs1, gv_lt (by simp [HO.out.len]; exact hata), List.getElem_set_self]
                have hown : OwnR wr 53 3 (.slice (some ⟨g, 0, none⟩) i c5) vs1 A1 := by
                  have h1 := HPUT.out.1.turn (by decide) (i := at') (xs := prow) (by simpa using hata) HC.out (fun x hx => by rw [← hvs1, hvat, hx]; rfl) (by rw [← hvs1, hvat]; exact HY.out)
                  rw [← hvs1, List.set_set, hpr] at h1
                  rw [hA1, swapIn]
                  exact h1
                have hgA : ∀ x, x < A1.length → GoodRow q j (gr A1 x) := fun x hx => by
                  rw [hA1]
                  rw [hA1l] at hx
                  unfold swapIn
                  rw [gr_set (by simp; rw [HA.out]; exact hx), gr_set (by rw [HA.out]; exact hx), ← hpr]
                  split
                  · exact hgp
                  · split
                    · exact HI.out.good _ hata
                    · exact HI.out.good _ (by rw [HA.out]; exact hx)
                have hfr1 : ∀ x, x < i → From w.heap.size (gv vs1 x) := fun x hx => by
                  rw [hvs1, gv_lt (by simp [HO.out.len, HA.out]; exact hx), List.getElem_set]
                  split
                  · exact (From.new _ _ _).mono HW.out.size
                  · rw [List.getElem_set]
                    split
                    · rw [← ET.out]; exact HF.out.2 at' hata
                    · rw [← gv_lt (by rw [HO.out.len, HA.out]; exact hx)]; exact HF.out.2 x (by rw [HA.out]; exact hx)
                have HA1 := Lib.hid hA1
                have HA1L := Lib.hid hA1l
                have HVAT := Lib.hid hvat
                have HO5 := Lib.hid hown
                have HGA := Lib.hid hgA
                have HFR1 := Lib.hid hfr1
                have HPR := Lib.hid hpr
                have HC5 := Lib.hid (Chg.trans HPUT.out.2 HC.out (U := (· = g)) (fun _ _ x => x) (fun x hx e => by omega))
                clear hA1 hA1l hvat hown hgA hfr1 hpr hvs1 hgp eprow hcell4
                go_wp2_with fail
                obtain ⟨w5, hw5⟩ : ∃ w5 : World, w5 = wr := ⟨_, rfl⟩
                rw [← hw5] at HO5 HC5
                rw [← hw5]
                clear hw5
                go_loopw [11, 13] (fun t11 t13 wy => ∃ (x : Nat), t13 = .int .i64 x ∧ x ≤ i ∧ OwnR wy 53 3 (.slice (some ⟨g, 0, none⟩) i c5) vs1 (updTo q at' c prow A1 x) ∧ Chg (fun b => ∃ y, y < i ∧ (gv vs1 y).ownBlock = some b) w5 wy) (fun _ x _ => i - (intOf x).toNat)
                case atStart => exact ⟨0, rfl, Nat.zero_le _, by rw [updTo_zero]; exact HO5.out, Chg.refl _ _⟩
                case round =>
                  obtain ⟨x, rfl, hx, hown, hchg⟩ := hrel
                  have HU := Lib.hid hown
                  have HC6 := Lib.hid hchg
                  clear hown hchg
                  by_cases hxi : x < i
                  · have hxA : x < (updTo q at' c prow A1 x).length := by rw [updTo_length, HA1L.out]; exact hxi
                    have hxA1 : x < A1.length := by rw [HA1L.out]; exact hxi
                    have hatA : at' < (updTo q at' c prow A1 x).length := by rw [updTo_length, HA1L.out, ← HA.out]; exact hata
                    have hrx : gr (updTo q at' c prow A1 x) x = gr A1 x := by rw [updTo_get _ _ _ _ _ _ hxA1, if_neg (by omega)]
                    have hrat : gr (updTo q at' c prow A1 x) at' = prow := by
                      rw [updTo_get _ _ _ _ _ _ (by rw [HA1L.out, ← HA.out]; exact hata), if_neg (by omega), HA1.out, swapIn, gr_set (by simpa using hata), if_pos rfl, HPR.out]
                    have hgr := HGA.out x hxA1
                    obtain ⟨ax, nx, cx, ex, HNX, cellx, _, HOX⟩ := HU.out.row hxA (by rw [hrx]; exact hgr.mid (by omega))
                    rw [hrx] at HNX HOX
                    obtain ⟨r, hr⟩ : ∃ r, r = gr A1 x := ⟨_, rfl⟩
                    rw [← hr] at HNX HOX hgr
                    have enx : nx = j := by rw [HNX.out]; exact hgr.1
                    subst enx
                    obtain ⟨gx, rfl⟩ := HOX.out.head (i := c) (by rw [List.length_map, hgr.1]; exact hcn)
                    have cxc := HOX.out.num (i := c) (by rw [hgr.1]; exact hcn)
                    have bxc := hgr.2 c hcn
                    obtain ⟨_, _, _, eat, _, cellat, _, HOAT⟩ := HU.out.row hatA (by rw [hrat]; exact HGP.out.mid (by omega))
                    rw [HVAT.out] at eat
                    simp only [Value.slice.injEq] at eat
                    obtain ⟨rfl, rfl, rfl⟩ := eat
                    rw [hrat] at HOAT
                    have HR := Lib.hid hr
                    have HGR := Lib.hid hgr
                    have EX := Lib.hid ex
                    clear hr hgr ex hrx hrat
                    by_cases hxat : x = at'
                    · have hb : decide ((x : Int) ≠ (at' : Int)) = false := by simp; omega
                      have HXAT := Lib.hid hxat
                      subst hxat
                      go_wp2_with fail
                      refine wp_loop_rounds 1 ?_
                      rw [rounds_succ]
                      go_wp2_with fail
                      go_roundw
                      case rel => exact ⟨x + 1, by go_num, by omega, by rw [updTo_skip]; exact HU.out, HC6.out⟩
                      case measure => simp [intOf]; omega
                    · have HXAT := Lib.hid hxat
                      go_wp2_with fail
                      obtain ⟨w6, hw6⟩ : ∃ w6 : World, w6 = wr := ⟨_, rfl⟩
                      rw [← hw6] at HU HC6 HOX HOAT cellx cellat
                      rw [← hw6]
                      clear hw6 cxc
                      have hb1 : ¬ (x : Int) = (at' : Int) := by omega
                      have hgxg : gx ≠ g := fun e => HU.out.outer_apart (by decide) hxA g rfl (by rw [EX.out, e]; rfl)
                      have hgxs : gx ≠ wo.heap.size := fun e => by
                        have hh := HU.out.apart x at' hxA hatA hxat gx (by rw [EX.out]; rfl)
                        rw [HVAT.out, e] at hh; exact hh rfl
                      clear hxat
                      go_loopw [14] (fun t14 wz => ∃ (y : Nat), t14 = .int .i64 y ∧ y ≤ nx ∧ Own wz 3 (.slice (some ⟨gx, 0, none⟩) nx cx) ((addTo q r (q - gi r c) prow y).map (Value.int .i64)) ∧ Chg (· = gx) w6 wz) (fun y _ => nx - (intOf y).toNat)
                      case atStart => exact ⟨0, rfl, Nat.zero_le _, by rw [addTo_zero]; exact HOX.out, Chg.refl _ _⟩
                      case round =>
                        obtain ⟨y, rfl, hy, hown, hchg⟩ := hrel
                        have HZ := Lib.hid hown
                        have HC7 := Lib.hid hchg
                        clear hown hchg
                        by_cases hyn : y < nx
                        · have c1 := HC7.out.cell cellx (by simp only; omega)
                          have c2 := HC7.out.cell cellat (by simp only; omega)
                          obtain ⟨c3, f3⟩ := HZ.out.cell (i := y) (by rw [List.length_map, addTo_length, HGR.out.1]; exact hyn)
                          rw [gv_map_int (by rw [addTo_length, HGR.out.1]; exact hyn), addTo_get _ _ _ _ _ (by rw [HGR.out.1]; exact hyn), if_neg (by omega)] at c3
                          have c4 := (HOAT.out.chg HC7.out (fun z hz e => by simp [Value.ownBlock] at hz; omega)).num (i := y) (by rw [HGP.out.1]; exact hyn)
                          have by1 := HGR.out.2 y hyn
                          have by2 := HGP.out.2 y hyn
                          have hms := mul_small (x := q - gi r c) (y := gi prow y) (by omega) (by omega) (by omega) (by omega)
                          go_wp2_with fail
                          go_region
                          all_goals go_wp2_with fail
                          all_goals go_roundw
                          case rel =>
                            have hst := (HZ.out.set y (.int .i64 ((gi r y + (q - gi r c) * gi prow y) % q))).new (New.drew _)
                            rw [set_map_int, addTo_succ _ _ _ _ _ (by rw [HGR.out.1]; exact hyn)] at hst
                            exact ⟨y + 1, by go_num, by omega, hst, Chg.trans (Chg.trans HC7.out (Chg.setCell _ _ _) (U := (· = gx)) (fun _ _ x => x) (fun _ _ x => x)) (New.drew _) (fun _ _ x => x) (fun _ _ x => x.elim)⟩
                          case measure => simp [intOf]; omega
                        · obtain rfl : y = nx := by omega
                          go_wp2_with fail
                          go_roundw
                          case rel =>
                            refine ⟨x + 1, by go_num, by omega, ?_, Chg.trans HC6.out HC7.out (fun _ _ z => z) (fun b _ z => ⟨x, hxi, by rw [EX.out, z]; rfl⟩)⟩
                            rw [← updTo_succ _ _ _ _ _ _ hxA1 HXAT.out, ← HR.out]
                            refine HU.out.turn (by decide) hxA HC7.out (fun b hb => by rw [EX.out, hb]; rfl) ?_
                            have hz := HZ.out
                            rw [EX.out]
                            unfold updZ addZ
                            rw [HGP.out.1]
                            exact hz
                          case measure => simp [intOf]; omega
                  · obtain rfl : x = i := by omega
                    go_wp2_with fail
                    go_roundw
                    case rel =>
                      have e2 : updTo q at' c prow A1 x = colStep q a at' c k := by
                        unfold colStep; rw [← HA1.out, ← HPR.out, HA.out]
                      refine ⟨at' + 1, c + 1, vs1, colStep q a at' c k, _, by go_num, by go_num, by omega, by rw [← e2]; exact HU.out, ⟨HF.out.1, fun y hy => HFR1.out y (by rw [← e2, updTo_length, HA1L.out] at hy; exact hy)⟩, HI.out.pick HQ.out hcn hk1 hka (by rw [← HROW.out]; exact H3.out), ?_⟩
                      exact HW.out.then (Chg.trans HC5.out HC6.out (U := fun b => b = g ∨ ∃ y, y < x ∧ (gv vs1 y).ownBlock = some b) (fun _ _ z => .inl z) (fun _ _ z => .inr z)) (fun b hb => by
                        rcases hb with rfl | ⟨y, hy, e⟩
                        · exact HF.out.1 b rfl
                        · exact HFR1.out y hy b e)
                    case measure => simp [intOf]; omega
    · obtain rfl : c = n0 := by omega
      have hat2 : at' ≤ a.length := HI.out.atle
      have hat3 : at' ≤ c5 := by have := HCAP.out.1; omega
      clear hc hcn
      go_wp2_with fail
      go_ret
      exact ⟨_, vs.take at', a.take at', rfl, HO.out.front hat2, ⟨HF.out.1, fun y hy => by
        have hl := HO.out.len
        simp at hy
        have := HF.out.2 y (by omega)
        rw [gv_lt (by omega)] at this
        rw [gv_lt (by simp; omega), List.getElem_take]; exact this⟩, HI.out.done HQ.out, HW.out⟩
end Go.Proofs.YtcdbeepphdfipaaGreatDoor

namespace Go.Proofs.YtcdbeepphdfipaaGreatDoor
open Go.RowKit Mat
set_option linter.unusedVariables false

theorem prime_nat {p : Int} (h : prB p = true) : ∃ q : Nat, p = q ∧ Pr q := by
  rw [prB_iff] at h
  exact ⟨p.toNat, by omega, by unfold Pr; omega⟩

theorem vtB_pr {p : Int} {rows : List (List Int)} (h : vtB p rows = true) : prB p = true := by
  rw [vtB_iff] at h; exact prB_iff.2 h.1

theorem vtB_good {q : Nat} {rows : List (List Int)} (h : vtB q rows = true) : GoodRows q (gr rows 0).length rows := fun i hi => by
  rw [vtB_iff] at h
  have h1 := h.2.2.2 i hi
  exact ⟨h1.1, fun k hk => by have := h1.2 k (by omega); omega⟩

/-- out are the reduced rows of the table. -/
def RedOf (p : Int) (rows out : List (List Int)) : Prop := ∃ (q : Nat) (_ : NeZero q), p = q ∧ Pr q ∧ IsRed q (gr rows 0).length rows out

theorem RedOf.unique {p : Int} {rows A B : List (List Int)} (h : RedOf p rows A) (h' : RedOf p rows B) : A = B := by
  obtain ⟨q, i1, e1, hq, r1⟩ := h
  obtain ⟨q', i2, e2, hq', r2⟩ := h'
  obtain rfl : q = q' := by omega
  exact IsRed.unique hq r1 r2

/-- The reduced rows of a table, none of other rows. -/
def RedOr (p : Int) (rows out : List (List Int)) : Prop := (vtB p rows = false → out = []) ∧ (vtB p rows = true → RedOf p rows out)

theorem RedOr.unique {p : Int} {rows A B : List (List Int)} (h : RedOr p rows A) (h' : RedOr p rows B) : A = B := by
  cases hv : vtB p rows with
  | false => rw [h.1 hv, h'.1 hv]
  | true => exact (h.2 hv).unique (h'.2 hv)

theorem RedOf.bounds {p : Int} {rows out : List (List Int)} (h : RedOf p rows out) (hv : vtB p rows = true) : out.length ≤ 7 ∧ ∀ i, i < out.length → (gr out i).length = (gr rows 0).length ∧ (gr rows 0).length ≤ 7 := by
  obtain ⟨q, i1, e1, hq, r1⟩ := h
  have hn := (vtB_iff.1 hv).2.2.1
  have hl : ∀ i, i < out.length → ldN (gr out i) < 7 := fun i hi => by
    have := (lead_some (r1.inv.good i hi) (r1.inv.lead i hi)).1; omega
  refine ⟨?_, fun i hi => ⟨(r1.inv.good i hi).1, hn.2⟩⟩
  have key : ∀ i, i < out.length → i ≤ ldN (gr out i) := fun i => by
    induction i with
    | zero => intro _; exact Nat.zero_le _
    | succ i ih => intro hi; have := ih (by omega); have := r1.asc i (i + 1) (by omega) hi; omega
  apply Classical.byContradiction
  intro hc
  have := key 7 (by omega)
  have := hl 7 (by omega)
  omega

theorem RedOr.small {p : Int} {rows out : List (List Int)} (h : RedOr p rows out) : out.length ≤ 7 ∧ ∀ i, i < out.length → (gr out i).length ≤ 7 := by
  cases hv : vtB p rows with
  | false => rw [h.1 hv]; simp
  | true => have := (h.2 hv).bounds hv; exact ⟨this.1, fun i hi => by have := this.2 i hi; omega⟩

end Go.Proofs.YtcdbeepphdfipaaGreatDoor
