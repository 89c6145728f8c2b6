/- slices.SortFunc of few rows by their leads: the insertion sort. -/
import Derived.Test.YteoiaicpdmlecaaCopy
import Derived.Test.YteoiaicpdmlecaaSpecM
import Derived.Deep.QuietTactic
import Derived.BigQuiet
import Derived.BigRegion
import Derived.Outline
namespace Go.Proofs.Yteoiaicpdmlecaa
open Go.RowKit
set_option linter.unusedVariables false

theorem redCmp_any (va vb : Value) (xs ys : List Int) (w : World) (hx : IsI w va xs) (hy : IsI w vb ys) :
    Calls Try.prog 121 #[va, vb] w fun e w' => e = .returned (.int .i64 (leadZ xs - leadZ ys)) ∧ w = w' := by
  have h1 := fiZ_ge nzB xs
  have h2 := fiZ_ge nzB ys
  obtain ⟨a1, n1, c1, rfl, H1, b1⟩ := hx.shape
  obtain ⟨a2, n2, c2, rfl, H2, b2⟩ := hy.shape
  have g1 : -1 ≤ leadZ xs ∧ leadZ xs < n1 := by rw [H1.out]; exact h1
  have g2 : -1 ≤ leadZ ys ∧ leadZ ys < n2 := by rw [H2.out]; exact h2
  have HX := Lib.hid hx
  have HY := Lib.hid hy
  clear hx hy h1 h2
  go_enter Try.func121, Try.ntmps121
  go_wp2_with fail
  refine (lead_any _ _ _ HX.out).mono ?_
  rintro e w' ⟨rfl, rfl⟩
  go_wp2_with fail
  refine (lead_any _ _ _ HY.out).mono ?_
  rintro e w' ⟨rfl, rfl⟩
  go_wp2_with fail
  go_ret
  exact ⟨rfl, rfl⟩

/-- Two neighbours of the outer block change places. -/
theorem OwnR.swap {w : World} {eo ei : TypeId} {g n cap : Nat} {vs : List Value} {rows : List (List Int)} (h : OwnR w eo ei (.slice (some ⟨g, 0, none⟩) n cap) vs rows) (hne : eo ≠ ei) {j : Nat} (h0 : 0 < j) (hj : j < rows.length) :
    OwnR ((w.setCell ⟨g, j, none⟩ (gv vs (j - 1))).setCell ⟨g, j - 1, none⟩ (gv vs j)) eo ei (.slice (some ⟨g, 0, none⟩) n cap) ((vs.set j (gv vs (j - 1))).set (j - 1) (gv vs j)) (swp rows j) := by
  have hl := h.len
  have hc : Chg (· = g) w ((w.setCell ⟨g, j, none⟩ (gv vs (j - 1))).setCell ⟨g, j - 1, none⟩ (gv vs j)) := Chg.trans (Chg.setCell _ _ _) (Chg.setCell _ _ _) (fun _ _ x => x) (fun _ _ x => x)
  have gvs : ∀ i, i < rows.length → gv ((vs.set j (gv vs (j - 1))).set (j - 1) (gv vs j)) i = gv vs (if j - 1 = i then j else if j = i then j - 1 else i) := fun i hi => by
    rw [gv_lt (by simp; omega), List.getElem_set]
    split
    · rfl
    · rw [List.getElem_set]
      split
      · rfl
      · exact (gv_lt (by omega)).symm
  have grs : ∀ i, i < rows.length → gr (swp rows j) i = gr rows (if j - 1 = i then j else if j = i then j - 1 else i) := fun i hi => by
    rw [swp_get _ hi]; repeat' split
    all_goals rfl
  have hτ : ∀ i, i < rows.length → (if j - 1 = i then j else if j = i then j - 1 else i) < rows.length := fun i hi => by
    repeat' split
    all_goals omega
  refine ⟨(h.outer.set j _).set (j - 1) _, by simp [swp, hl], fun i hi => ?_, fun i k hi hk hne' => ?_⟩
  · rw [swp_length] at hi
    rw [gvs i hi, grs i hi]
    exact (h.inner _ (hτ i hi)).chg hc (fun x hx e => h.outer_apart hne (hτ i hi) g rfl (by rw [hx, e]))
  · rw [swp_length] at hi hk
    rw [gvs i hi, gvs k hk]
    refine h.apart _ _ (hτ i hi) (hτ k hk) (fun e => ?_)
    repeat' split at e
    all_goals omega

set_option maxHeartbeats 4000000 in
theorem insSort_any (v : Value) (vs : List Value) (rows : List (List Int)) (w : World) (B : Nat) (Φ : List (List Int) → Prop) (hΦ : ∀ A j, 0 < j → j < A.length → Φ A → Φ (swp A j))
    (ho : OwnR w 31 3 v vs rows) (hf : FromR B v vs rows) (hphi : Φ rows) (hm : rows.length ≤ 1000) (hms : ∀ A, A.length = rows.length → Φ A → ∀ i, i < A.length → Mid (gr A i).length) :
    Calls Try.prog 140 #[v, .int .i64 0, .int .i64 rows.length, .func (.func 121) #[] #[]] w fun e w' => ∃ vs' rows', e = .returned (.tuple #[]) ∧
      OwnR w' 31 3 v vs' rows' ∧ FromR B v vs' rows' ∧ Φ rows' ∧ rows'.length = rows.length ∧ (∀ a b, a < b → b < rows'.length → leadZ (gr rows' a) ≤ leadZ (gr rows' b)) ∧ Chg (fun k => v.ownBlock = some k) w w' := by
  obtain ⟨ao, n, cap, rfl, HN, hn, _⟩ := ho.outer.opened (by rw [ho.len]; unfold Mid; omega)
  have en : n = rows.length := by rw [HN.out, ho.len]
  have HE := Lib.hid en
  have hn' : n ≤ 1000 := by omega
  rw [← en]
  have HO := Lib.hid ho
  have HF := Lib.hid hf
  have HP := Lib.hid hphi
  have HΦ := Lib.hid hΦ
  have HM := Lib.hid hms
  clear ho hf hphi hΦ hms en hm
  go_enter Try.func140, Try.ntmps140
  go_wp2_with fail
  go_loopw [8] (fun i wr => ∃ (k : Nat) (vs' : List Value) (rows' : List (List Int)), i = .int .i64 k ∧ 1 ≤ k ∧ (k ≤ n ∨ k = 1) ∧ OwnR wr 31 3 (.slice ao n cap) vs' rows' ∧ FromR B (.slice ao n cap) vs' rows' ∧ Φ rows' ∧ Hid (rows'.length = n) ∧
      (∀ a b, a < b → b < k → b < n → leadZ (gr rows' a) ≤ leadZ (gr rows' b)) ∧ Chg (fun k => (Value.slice ao n cap).ownBlock = some k) w wr) (fun i _ => n + 1 - (intOf i).toNat)
  case atStart => exact ⟨1, vs, rows, rfl, Nat.le_refl _, .inr rfl, HO.out, HF.out, HP.out, HE.out.symm, fun a b h1 h2 => by omega, Chg.refl _ _⟩
  case round =>
    obtain ⟨k, vs', rows', rfl, hk1, hk2, ho, hf, hphi, HL, hsort, hchg⟩ := hrel
    have HS := Lib.hid hsort
    have HO' := Lib.hid ho
    have HF' := Lib.hid hf
    have HP' := Lib.hid hphi
    have HC := Lib.hid hchg
    clear ho hf hphi hsort hchg
    by_cases hkn : k < n
    · go_wp2_with fail
      obtain ⟨wo, hwo⟩ : ∃ wo : World, wo = wr := ⟨_, rfl⟩
      rw [← hwo]
      rw [← hwo] at HO' HC
      clear hwo
      go_loopw [9] (fun i wr => ∃ (j : Nat) (vs' : List Value) (rows' : List (List Int)), i = .int .i64 j ∧ j ≤ k ∧ OwnR wr 31 3 (.slice ao n cap) vs' rows' ∧ FromR B (.slice ao n cap) vs' rows' ∧ Φ rows' ∧ Hid (rows'.length = n) ∧
          ((∀ a b, a < b → b ≤ k → a ≠ j → b ≠ j → leadZ (gr rows' a) ≤ leadZ (gr rows' b)) ∧ (∀ b, j < b → b ≤ k → leadZ (gr rows' j) ≤ leadZ (gr rows' b))) ∧ Chg (fun k => (Value.slice ao n cap).ownBlock = some k) w wr) (fun i _ => (intOf i).toNat)
      case atStart => exact ⟨k, vs', rows', rfl, Nat.le_refl _, HO'.out, HF'.out, HP'.out, HL, ⟨fun a b h1 h2 h3 h4 => HS.out a b h1 (by omega) (by omega), fun b h1 h2 => by omega⟩, HC.out⟩
      case round =>
        clear HS HO' HF' HP' HC HL
        clear vs' rows'
        obtain ⟨j, vs', rows', rfl, hjk, ho, hf, hphi, HL, hsort, hchg⟩ := hrel
        have HS := Lib.hid hsort
        have HO' := Lib.hid ho
        have HF' := Lib.hid hf
        have HP' := Lib.hid hphi
        have HC := Lib.hid hchg
        clear ho hf hphi hsort hchg
        have hvl : vs'.length = n := by rw [HO'.out.len]; exact HL.out
        have HVL := Lib.hid hvl
        clear hvl
        by_cases hj0 : 0 < j
        · have hjn : j < rows'.length := by rw [HL.out]; omega
          obtain ⟨g, rfl⟩ := HO'.out.outer.head (i := j) (by rw [HVL.out]; omega)
          have c1 := HO'.out.outer.cell (i := j) (by rw [HVL.out]; omega)
          have c2 := HO'.out.outer.cell (i := j - 1) (by rw [HVL.out]; omega)
          obtain ⟨c1, f1⟩ := c1
          obtain ⟨c2, f2⟩ := c2
          have i1 : ∀ m, IsI (wr.drewN m) (gv vs' j) (gr rows' j) := fun m => ((HO'.out.inner j hjn).isI (HM.out rows' (by rw [HL.out]; exact HE.out) HP'.out j hjn)).new (New.drewN _ _)
          have i2 : ∀ m, IsI (wr.drewN m) (gv vs' (j - 1)) (gr rows' (j - 1)) := fun m => ((HO'.out.inner (j - 1) (by omega)).isI (HM.out rows' (by rw [HL.out]; exact HE.out) HP'.out (j - 1) (by omega))).new (New.drewN _ _)
          obtain ⟨a1, n1, d1, e1, _, _⟩ := (i1 0).shape
          obtain ⟨a2, n2, d2, e2, _, _⟩ := (i2 0).shape
          rw [e1] at c1 i1
          rw [e2] at c2 i2
          have I1 := Lib.hid i1
          have I2 := Lib.hid i2
          have E1 := Lib.hid e1
          have E2 := Lib.hid e2
          clear i1 i2 e1 e2
          by_cases hlt : leadZ (gr rows' j) < leadZ (gr rows' (j - 1))
          · have hd : decide (leadZ (gr rows' j) - leadZ (gr rows' (j - 1)) < 0) = true := by simp; omega
            go_wp2_with fail
            go_quiet ((go_at_call 121; exact Calls.quiet_of_same ((redCmp_any _ _ _ _ _ (I1.out _) (I2.out _)).mono fun e w' h => ⟨h.1, h.2.symm⟩)))
            go_wp2_with fail
            go_region
            all_goals go_wp2_with fail
            all_goals go_roundw
            case rel =>
              have hsw := OwnR.swap (HO'.out.new (New.drewN wr (nq + 1))) (by decide) hj0 hjn
              rw [E1.out, E2.out] at hsw
              have hS := HS.out
              refine ⟨j - 1, _, swp rows' j, val_int (by omega), by omega, hsw, ⟨HF'.out.1, fun i hi => ?_⟩, HΦ.out _ _ hj0 hjn HP'.out, by show _ = _; rw [swp_length]; exact HL.out, ⟨fun a b h1 h2 h3 h4 => ?_, fun b h1 h2 => ?_⟩, ?_⟩
              · rw [swp_length] at hi
                have h1 := HF'.out.2 j hjn
                have h2 := HF'.out.2 (j - 1) (by omega)
                have h3 := HF'.out.2 i hi
                rw [E1.out] at h1
                rw [E2.out] at h2
                rw [gv_lt (by simp; rw [HVL.out, ← HL.out]; exact hi), List.getElem_set]
                split
                · exact h1
                · rw [List.getElem_set]
                  split
                  · exact h2
                  · rw [gv_lt (by rw [HVL.out, ← HL.out]; exact hi)] at h3; exact h3
              · have hln := HL.out
                rw [swp_get _ (by omega), swp_get _ (by omega), if_neg (show ¬ (j - 1 = a) by omega), if_neg (show ¬ (j - 1 = b) by omega)]
                by_cases e1 : j = a
                · rw [if_pos e1, if_neg (show ¬ (j = b) by omega)]
                  exact hS.1 (j - 1) b (by omega) h2 (by omega) (by omega)
                · rw [if_neg e1]
                  by_cases e2 : j = b
                  · rw [if_pos e2]
                    exact hS.1 a (j - 1) (by omega) (by omega) (by omega) (by omega)
                  · rw [if_neg e2]
                    exact hS.1 a b h1 h2 (by omega) (by omega)
              · have hln := HL.out
                rw [swp_get _ (by omega), swp_get _ (by omega), if_pos rfl, if_neg (show ¬ (j - 1 = b) by omega)]
                by_cases e2 : j = b
                · rw [if_pos e2]; omega
                · rw [if_neg e2]; exact hS.2 b (by omega) h2
              · exact Chg.trans (Chg.trans HC.out (New.drewN wr (nq + 1)) (fun _ _ x => x) (fun _ _ x => x.elim)) (Chg.trans (Chg.setCell _ _ _) (Chg.setCell _ _ _) (U := (· = g)) (fun _ _ x => x) (fun _ _ x => x)) (fun _ _ x => x) (fun i _ x => by rw [x]; rfl)
            case measure => simp [intOf]; omega
          · have hd : decide (leadZ (gr rows' j) - leadZ (gr rows' (j - 1)) < 0) = false := by simp; omega
            go_wp2_with fail
            go_quiet ((go_at_call 121; exact Calls.quiet_of_same ((redCmp_any _ _ _ _ _ (I1.out _) (I2.out _)).mono fun e w' h => ⟨h.1, h.2.symm⟩)))
            go_wp2_with fail
            go_roundw
            case rel =>
              have hS := HS.out
              have hln := HL.out
              refine ⟨k + 1, vs', rows', by go_num, by omega, .inl (by omega), HO'.out.new (New.drewN wr nq), HF'.out, HP'.out, HL, fun a b h1 h2 h3 => ?_, Chg.trans HC.out (New.drewN wr nq) (fun _ _ x => x) (fun _ _ x => x.elim)⟩
              by_cases e1 : a = j
              · subst e1; exact hS.2 b h1 (by omega)
              · by_cases e2 : b = j
                · subst e2
                  by_cases e3 : a = b - 1
                  · subst e3; omega
                  · have := hS.1 a (b - 1) (by omega) (by omega) e1 (by omega); omega
                · exact hS.1 a b h1 (by omega) e1 e2
            case measure => simp [intOf]; omega
        · obtain rfl : j = 0 := by omega
          have hd : decide ((0 : Int) < 0) = false := by simp
          go_wp2_with fail
          go_quiet (fail)
          go_wp2_with fail
          go_roundw
          case rel =>
            have hS := HS.out
            have hln := HL.out
            refine ⟨k + 1, vs', rows', by go_num, by omega, .inl (by omega), HO'.out.new (New.drewN wr nq), HF'.out, HP'.out, HL, fun a b h1 h2 h3 => ?_, Chg.trans HC.out (New.drewN wr nq) (fun _ _ x => x) (fun _ _ x => x.elim)⟩
            by_cases e1 : a = 0
            · subst e1; exact hS.2 b h1 (by omega)
            · exact hS.1 a b h1 (by omega) e1 (by omega)
          case measure => simp [intOf]; omega
    · go_wp2_with fail
      go_end0
      exact ⟨vs', rows', rfl, HO'.out, HF'.out, HP'.out, HL.out, fun a b h1 h2 => by have h3 := HL.out; exact HS.out a b h1 (by omega) (by omega), HC.out⟩
end Go.Proofs.Yteoiaicpdmlecaa
