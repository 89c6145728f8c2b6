/- SecretOf of both. The generators of shares. The generators of SecretOf's arguments. spec.DrawSecretOf. Lists that have the shares of a group: their secret is the one that the shares tell. Plain. -/
import Derived.Test.YtahgjfmdafhedaaSchG
import Derived.Test.YtahgjfmdafhedaaSchX
import Derived.Test.YtahgjfmdafhedaaEnco
import Derived.Test.YtahgjfmdafhedaaCodU
import Derived.Test.YtahgjfmdafhedaaLawE
import Derived.Test.YtahgjfmdafhedaaGens
import Derived.Test.YtahgjfmdafhedaaLawU
import Derived.Test.YtahgjfmdafhedaaWtsN
namespace Go.Proofs.Ytahgjfmdafhedaa
open Go.RowKit Mat
set_option linter.unusedVariables false

/-- It ends with a number and an answer. -/
def TellsXB (w : World) (e : Ending) (w' : World) (Q : Int → Bool → Prop) : Prop := ∃ (t : Int) (ok : Bool), e = .returned (.tuple #[.int .i64 t, .bool ok]) ∧ Q t ok ∧ New w w'
/-- A valid scheme, a share for each row, a group. -/
def AskedS (p : Int) (rows : List (List Int)) (own sh : List Int) (g : Int) : Prop := ValidS p rows own ∧ sh.length = rows.length ∧ hasB p sh = true ∧ 0 ≤ g ∧ g ≤ 31
/-- The shares of a group's rows among the first k, each multiplied by its factor. -/
def secZ (own sh f : List Int) (s k : Nat) : Int := sumZ (fun j => gi sh (gi (idxTo own s k) j).toNat * gi f j) (idxTo own s k).length
theorem secZ_yes {own sh f : List Int} {s k : Nat} (h : bitN s (gi own k).toNat = 1) : secZ own sh f s (k + 1) = secZ own sh f s k + gi sh k * gi f (idxTo own s k).length := by
  unfold secZ
  rw [idxTo, if_pos h, List.length_append, List.length_singleton, sumZ, gi_sne rfl, Int.toNat_natCast]
  congr 1
  exact sumZ_congr (fun j hj => by rw [gi_snl hj])
theorem secZ_no {own sh f : List Int} {s k : Nat} (h : ¬ bitN s (gi own k).toNat = 1) : secZ own sh f s (k + 1) = secZ own sh f s k := by
  unfold secZ
  rw [idxTo, if_neg h]
theorem idxTo_more (own : List Int) (s i : Nat) : ∀ k, i ≤ k → (idxTo own s i).length ≤ (idxTo own s k).length
  | 0, h => by obtain rfl : i = 0 := by omega
               exact Nat.le_refl _
  | k + 1, h => by
    by_cases e : i = k + 1
    · rw [e]; exact Nat.le_refl _
    · have := idxTo_more own s i k (by omega)
      rw [idxTo]
      split
      · rw [List.length_append]; omega
      · exact this
/-- What SecretOf answers. -/
def SecR (p : Int) (rows : List (List Int)) (own sh : List Int) (g x : Int) (ok : Bool) : Prop :=
  (ok = true → AskedS p rows own sh g ∧ ∃ (q : Nat) (_ : NeZero q) (f : List Int), p = q ∧ SolB q (grpTo rows own g.toNat rows.length) (unitG (gr rows 0).length) f true ∧ x = secZ own sh f g.toNat rows.length % p) ∧
  (ok = false → x = 0 ∧ ¬ (AskedS p rows own sh g ∧ ∃ (q : Nat) (_ : NeZero q), p = q ∧ KnowsQ q (gr rows 0).length rows own g.toNat))
theorem SecR.unique {p : Int} {rows : List (List Int)} {own sh : List Int} {g x y : Int} {a b : Bool} (h : SecR p rows own sh g x a) (h' : SecR p rows own sh g y b) : x = y ∧ a = b := by
  cases a with
  | true =>
    obtain ⟨ha, q, i1, f, e1, hf, hx⟩ := h.1 rfl
    cases b with
    | true =>
      obtain ⟨_, q', i2, f', e2, hf', hy⟩ := h'.1 rfl
      obtain rfl : q = q' := by omega
      obtain ⟨q2, e3, hq⟩ := prime_nat (vtB_pr ha.1.1)
      obtain rfl : q = q2 := by omega
      obtain ⟨rfl, _⟩ := hf.unique hq hf'
      exact ⟨by rw [hx, hy], rfl⟩
    | false => exact absurd ⟨ha, q, i1, e1, hf.knows.1 rfl⟩ (h'.2 rfl).2
  | false =>
    cases b with
    | true =>
      obtain ⟨ha, q, i1, f, e1, hf, hx⟩ := h'.1 rfl
      exact absurd ⟨ha, q, i1, e1, hf.knows.1 rfl⟩ (h.2 rfl).2
    | false => exact ⟨by rw [(h.2 rfl).1, (h'.2 rfl).1], rfl⟩

set_option maxRecDepth 100000 in
set_option maxHeartbeats 1000000 in
theorem asked_any (p : Int) (v o vs : Value) (g : Int) (rows : List (List Int)) (own sh : List Int) (w : World) (hr : IsR w v rows) (ho : IsI w o own) (hs : IsI w vs sh) :
    Calls Try.prog 57 #[.agg #[.int .i64 p, v, o], vs, .int .i64 g] w fun e w' => (∃ b : Bool, e = .returned (.tuple #[.int .i64 p, .bool b]) ∧ (b = true ↔ AskedS p rows own sh g)) ∧ New w w' := by
  obtain ⟨ao, n, cap, rfl, HN, hn⟩ := hr.shape
  obtain ⟨ay, m, cay, rfl, HM, hm⟩ := ho.shape
  obtain ⟨az, k, caz, rfl, HK, hk⟩ := hs.shape
  have h1 : New w (w.alloc (.cells #[.int .i64 p, .slice ao n cap, .slice ay m cay] 38)) := New.alloc _ _
  have b1 := Blk3.alloc w (.int .i64 p) (.slice ao n cap) (.slice ay m cay) 38
  have HR := Lib.hid hr
  have HO := Lib.hid ho
  have HS := Lib.hid hs
  clear hr ho hs
  go_enter Try.func57, Try.ntmps57
  go_wp2_with fail
  refine (schKnown_any p _ _ rows own _ (HR.out.new h1) (HO.out.new h1)).mono ?_
  rintro e w2 ⟨⟨b, rfl, hb⟩, hn2⟩
  have H2 := Lib.hid (And.intro (h1.trans hn2) (b1.new hn2))
  have HB := Lib.hid hb
  clear hb hn2 h1 b1
  obtain ⟨c0, c1, c2, _, _, _⟩ := H2.out.2.cells
  cases b with
  | false =>
    go_wp2_with fail
    go_ret2
    exact ⟨⟨false, rfl, ⟨(fun h => by cases h), fun h => by have := HB.out.2 h.1; cases this⟩⟩, H2.out.1⟩
  | true =>
    have hv := HB.out.1 rfl
    obtain ⟨q, rfl, hq⟩ := prime_nat (vtB_pr hv.1)
    have hq7 := hq.pos
    have HV := Lib.hid hv
    clear hv hq HB
    cases hg : inB g 0 31 with
    | false =>
      have HG := Lib.hid hg
      clear hg
      go_wp2_with (go_at_call 71; refine (groupOk_any _ _).mono ?_; rintro e w' ⟨rfl, rfl⟩; rw [HG.out])
      go_ret2
      exact ⟨⟨false, rfl, ⟨(fun h => by cases h), fun h => by have := inB_iff.2 h.2.2.2; rw [HG.out] at this; cases this⟩⟩, H2.out.1⟩
    | true =>
      have HG := Lib.hid hg
      clear hg
      by_cases hl : k = n
      · subst hl
        have hd : ((k : Int) == (k : Int)) = true := by simp
        go_wp2_with (go_at_call 71; refine (groupOk_any _ _).mono ?_; rintro e w' ⟨rfl, rfl⟩; rw [HG.out])
        refine (has_any q _ sh _ (HS.out.new H2.out.1) (by omega)).mono ?_
        rintro e w3 ⟨rfl, hn3⟩
        have H3 := Lib.hid (H2.out.1.trans hn3)
        clear hn3
        go_wp2_with fail
        go_ret2
        exact ⟨⟨_, rfl, ⟨fun h => ⟨HV.out, by rw [← HK.out, ← HN.out], h, inB_iff.1 HG.out⟩, fun h => h.2.2.1⟩⟩, H3.out⟩
      · have hd : ((k : Int) == (n : Int)) = false := by simp; omega
        go_wp2_with (go_at_call 71; refine (groupOk_any _ _).mono ?_; rintro e w' ⟨rfl, rfl⟩; rw [HG.out])
        go_ret2
        exact ⟨⟨false, rfl, ⟨(fun h => by cases h), fun h => by have := h.2.1; rw [← HK.out, ← HN.out] at this; exact absurd this hl⟩⟩, H2.out.1⟩

set_option maxRecDepth 100000 in
set_option maxHeartbeats 2000000 in
theorem implSecretOf_any (p : Int) (v o vs : Value) (g : Int) (rows : List (List Int)) (own sh : List Int) (w : World) (hr : IsR w v rows) (ho : IsI w o own) (hs : IsI w vs sh) :
    Calls Try.prog 19 #[.agg #[.int .i64 p, v, o], vs, .int .i64 g] w fun e w' => TellsXB w e w' (SecR p rows own sh g) := by
  obtain ⟨ao, n, cap, rfl, HN, hn⟩ := hr.shape
  obtain ⟨ay, m, cay, rfl, HM, hm⟩ := ho.shape
  obtain ⟨az, k, caz, rfl, HK, hk⟩ := hs.shape
  have h1 : New w (w.alloc (.cells #[.int .i64 p, .slice ao n cap, .slice ay m cay] 38)) := New.alloc _ _
  have b1 := Blk3.alloc w (.int .i64 p) (.slice ao n cap) (.slice ay m cay) 38
  have HR := Lib.hid hr
  have HO := Lib.hid ho
  have HS := Lib.hid hs
  clear hr ho hs
  go_enter Try.func19, Try.ntmps19
  go_wp2_with fail
  refine (asked_any p _ _ _ g rows own sh _ (HR.out.new h1) (HO.out.new h1) (HS.out.new h1)).mono ?_
  rintro e w2 ⟨⟨b, rfl, hb⟩, hn2⟩
  have H2 := Lib.hid (And.intro (h1.trans hn2) (b1.new hn2))
  have HB := Lib.hid hb
  clear hb hn2 h1 b1
  obtain ⟨c0, c1, c2, _, _, _⟩ := H2.out.2.cells
  cases b with
  | false =>
    go_wp2_with fail
    go_ret2
    exact ⟨_, false, rfl, ⟨(fun h => by cases h), fun _ => ⟨rfl, fun h => by have := HB.out.2 h.1; cases this⟩⟩, H2.out.1⟩
  | true =>
    have ha := HB.out.1 rfl
    obtain ⟨s, rfl⟩ : ∃ s : Nat, g = s := ⟨g.toNat, by have := ha.2.2.2; omega⟩
    have hs32 : s < 32 := by have := ha.2.2.2; omega
    obtain ⟨q, rfl, hq⟩ := prime_nat (vtB_pr ha.1.1)
    haveI := hq.nz
    have hq7 := hq.pos
    have hto := vtB_ok ha.1.1
    have hkn : k = n := by rw [HK.out, HN.out]; exact ha.2.1
    have hn6 : n ≤ 6 := by rw [HN.out]; exact hto.r6
    have HA := Lib.hid ha
    have HT := Lib.hid hto
    have HKN := Lib.hid hkn
    clear ha hq HB hto hkn
    go_wp2_with fail
    refine (factors_any q (gr rows 0).length _ _ rows own s _ (HR.out.new H2.out.1) (HO.out.new H2.out.1) HT.out HA.out.1.2 hs32).mono ?_
    rintro e w3 ⟨u, f, ok, rfl, hof, hff, hb3, hn3⟩
    cases ok with
    | false =>
      have HB3 := Lib.hid hb3.knows
      have H3 := Lib.hid (H2.out.1.trans hn3)
      clear hof hff hb3 hn3
      go_wp2_with fail
      go_ret2
      refine ⟨_, false, rfl, ⟨(fun h => by cases h), fun _ => ⟨rfl, fun h => ?_⟩⟩, H3.out⟩
      obtain ⟨_, q', i2, e2, hk2⟩ := h
      obtain rfl : q = q' := by omega
      have := HB3.out.2 (by rw [Int.toNat_natCast] at hk2; exact hk2)
      cases this
    | true =>
      have hfl : f.length = (idxTo own s rows.length).length := by rw [(hb3.1 rfl).1.1, grpTo_length]
      have hfg : ∀ j, j < f.length → 0 ≤ gi f j ∧ gi f j < q := fun j hj => (hb3.1 rfl).1.2 j (by rw [(hb3.1 rfl).1.1] at hj; exact hj)
      have hil := idxTo_le own s rows.length
      have hfi := hof.isI (by have := HT.out.r6; unfold Mid; omega)
      obtain ⟨af, lf, cf, rfl, HLF, _⟩ := hfi.shape
      have H3 := Lib.hid (And.intro (H2.out.1.trans hn3) (And.intro (H2.out.2.new hn3) (And.intro hfi (And.intro hb3 (And.intro hfl hfg)))))
      clear hof hff hb3 hn3 hfl hfg hfi hil
      obtain ⟨d0, d1, d2, _, _, _⟩ := H3.out.2.1.cells
      go_wp2_with fail
      refine (implOwned_any q _ _ rows own s _ (HR.out.new H3.out.1) (HO.out.new H3.out.1) HA.out.1.2 HT.out.r6 hs32).mono ?_
      rintro e w4 ⟨ui, rfl, hoi, hfi, hn4⟩
      have hil := idxTo_le own s rows.length
      have hii := hoi.isI (by have := HT.out.r6; unfold Mid; omega)
      obtain ⟨ai, li, ci, rfl, HLI, _⟩ := hii.shape
      have hli6 : li ≤ 6 := by rw [HLI.out]; have := HT.out.r6; omega
      have H4 := Lib.hid (And.intro (H3.out.1.trans hn4) (And.intro hii (H3.out.2.2.1.new hn4)))
      clear hoi hfi hn4 hil hii
      go_wp2_with fail
      go_loopw [12, 37] (fun t12 t37 wr => ∃ (j : Nat) (x : Int), t12 = .int .i64 x ∧ t37 = .int .i64 j ∧ j ≤ li ∧ (0 ≤ x ∧ x ≤ 49 * j) ∧ Hid (x = sumZ (fun j => gi sh (gi (idxTo own s rows.length) j).toNat * gi f j) j ∧ New w4 wr)) (fun _ t37 _ => li - (intOf t37).toNat)
      case atStart => exact ⟨0, 0, rfl, rfl, Nat.zero_le _, by omega, rfl, Chg.refl _ _⟩
      case round =>
        obtain ⟨j, x, rfl, rfl, hj, hx, HJ⟩ := hrel
        obtain ⟨wz, hwz⟩ : ∃ wz : World, wz = wr := ⟨_, rfl⟩
        rw [← hwz] at HJ
        rw [← hwz]
        clear hwz
        by_cases hjl : j < li
        · have hjI : j < (idxTo own s rows.length).length := by rw [← HLI.out]; exact hjl
          have hbd := idxTo_bound own s rows.length j hjI
          obtain ⟨b5, o5, rfl, c5⟩ := (H4.out.2.1.new HJ.out.2).at hjl
          obtain ⟨z, hz⟩ : ∃ z : Nat, gi (idxTo own s rows.length) j = z := ⟨(gi (idxTo own s rows.length) j).toNat, by omega⟩
          rw [hz] at c5 hbd
          have hzk : z < k := by rw [HKN.out, HN.out]; omega
          have hjf : j < lf := by rw [HLF.out, H3.out.2.2.2.2.1]; exact hjI
          obtain ⟨b6, o6, rfl, c6⟩ := (HS.out.new (H4.out.1.trans HJ.out.2)).at hzk
          obtain ⟨b7, o7, rfl, c7⟩ := (H4.out.2.2.new HJ.out.2).at hjf
          have hsb := hasB_iff.1 HA.out.2.2.1 z (by rw [← HK.out]; exact hzk)
          have hfb := H3.out.2.2.2.2.2 j (by rw [← HLF.out]; exact hjf)
          obtain ⟨y1, hy1⟩ : ∃ y1, y1 = gi sh z := ⟨_, rfl⟩
          obtain ⟨y2, hy2⟩ : ∃ y2, y2 = gi f j := ⟨_, rfl⟩
          rw [← hy1] at c6 hsb
          rw [← hy2] at c7 hfb
          obtain ⟨pr, hpr⟩ : ∃ pr, pr = y1 * y2 := ⟨_, rfl⟩
          have hpb : 0 ≤ pr ∧ pr ≤ 49 := by
            rw [hpr]
            exact ⟨Int.mul_nonneg hsb.1 hfb.1, Int.mul_le_mul (show y1 ≤ 7 by omega) (show y2 ≤ 7 by omega) hfb.1 (by omega)⟩
          have hmul : y1 * y2 = pr := hpr.symm
          have HS2 := Lib.hid (show x + pr = sumZ (fun j => gi sh (gi (idxTo own s rows.length) j).toNat * gi f j) (j + 1) by rw [sumZ, ← HJ.out.1, hz, Int.toNat_natCast, ← hy1, ← hy2, hmul])
          clear hz hy1 hy2 hpr hjI
          go_wp2_with fail
          go_quiet (fail)
          go_wp2_with fail
          go_roundw
          case rel => exact ⟨j + 1, x + pr, by first | rfl | go_num, by go_num, by omega, by omega, HS2.out, HJ.out.2.trans (New.drewN _ _)⟩
          case measure => simp [intOf]; omega
        · obtain rfl : j = li := by omega
          have HX := Lib.hid (show x = secZ own sh f s rows.length by rw [HJ.out.1, HLI.out]; rfl)
          go_wp2_with (go_at_call 41; refine (rest_any _ _ _ (by omega) (by omega)).mono ?_; rintro e w' ⟨rfl, rfl⟩)
          go_ret2
          exact ⟨_, true, rfl, ⟨fun _ => ⟨HA.out, q, this, f, rfl, by rw [Int.toNat_natCast]; exact H3.out.2.2.2.1, by rw [Int.toNat_natCast, ← HX.out]⟩, fun h => by cases h⟩, H4.out.1.trans HJ.out.2⟩

set_option maxRecDepth 100000 in
set_option maxHeartbeats 4000000 in
theorem specSecretOf_any (p : Int) (v o vs : Value) (g : Int) (rows : List (List Int)) (own sh : List Int) (w : World) (hr : IsR w v rows) (ho : IsI w o own) (hs : IsI w vs sh) :
    Calls Try.prog 20 #[.agg #[.int .i64 p, v, o], vs, .int .i64 g] w fun e w' => TellsXB w e w' (SecR p rows own sh g) := by
  obtain ⟨ao, n, cap, rfl, HN, hn⟩ := hr.shape
  obtain ⟨ay, m, cay, rfl, HM, hm⟩ := ho.shape
  obtain ⟨az, k, caz, rfl, HK, hk⟩ := hs.shape
  have h1 : New w (w.alloc (.cells #[.int .i64 p, .slice ao n cap, .slice ay m cay] 38)) := New.alloc _ _
  have b1 := Blk3.alloc w (.int .i64 p) (.slice ao n cap) (.slice ay m cay) 38
  have HR := Lib.hid hr
  have HO := Lib.hid ho
  have HS := Lib.hid hs
  clear hr ho hs
  go_enter Try.func20, Try.ntmps20
  go_wp2_with fail
  refine (validScheme_any p _ _ rows own _ (HR.out.new h1) (HO.out.new h1)).mono ?_
  rintro e w2 ⟨b, rfl, hb, hn2⟩
  have H2 := Lib.hid (And.intro (h1.trans hn2) (b1.new hn2))
  have HB := Lib.hid hb
  clear hb hn2 h1 b1
  obtain ⟨c0, c1, c2, _, _, _⟩ := H2.out.2.cells
  cases b with
  | false =>
    go_wp2_with fail
    go_ret2
    exact ⟨_, false, rfl, ⟨(fun h => by cases h), fun _ => ⟨rfl, fun h => by have := HB.out.2 h.1.1; cases this⟩⟩, H2.out.1⟩
  | true =>
    have hv := HB.out.1 rfl
    obtain ⟨q, rfl, hq⟩ := prime_nat (vtB_pr hv.1)
    haveI := hq.nz
    have hq7 := hq.pos
    have hto := vtB_ok hv.1
    have hn6 : n ≤ 6 := by rw [HN.out]; exact hto.r6
    have HV := Lib.hid hv
    have HT := Lib.hid hto
    clear hv hq HB hto
    cases hvw : (hasB q sh && decide (sh.length = n)) with
    | false =>
      have HVW := Lib.hid hvw
      clear hvw
      go_wp2_with (go_at_call 61; refine (validWord_any q _ sh n _ (HS.out.new H2.out.1) (by omega) (by omega)).mono ?_; rintro e w' ⟨rfl, rfl⟩; rw [HVW.out])
      go_ret2
      refine ⟨_, false, rfl, ⟨(fun h => by cases h), fun _ => ⟨rfl, fun h => ?_⟩⟩, H2.out.1⟩
      have h9 := HVW.out
      rw [h.1.2.2.1, HN.out, h.1.2.1] at h9
      simp at h9
    | true =>
      have HVW := Lib.hid hvw
      rw [Bool.and_eq_true, decide_eq_true_eq] at hvw
      have HSB := Lib.hid hvw
      clear hvw
      cases hg : inB g 0 31 with
      | false =>
        have HG := Lib.hid hg
        clear hg
        go_wp2_with (first | (go_at_call 61; refine (validWord_any q _ sh n _ (HS.out.new H2.out.1) (by omega) (by omega)).mono ?_; rintro e w' ⟨rfl, rfl⟩; rw [HVW.out]) | (go_at_call 62; refine (power_any 5 _ (by omega)).mono ?_; rintro e w' ⟨rfl, rfl⟩; rw [show ((2 ^ 5 : Nat) : Int) = 32 from rfl]) | (go_at_call 43; refine (inRange_any _ _ _ _).mono ?_; rintro e w' ⟨rfl, rfl⟩; rw [HG.out]))
        go_ret2
        exact ⟨_, false, rfl, ⟨(fun h => by cases h), fun _ => ⟨rfl, fun h => by have := inB_iff.2 h.1.2.2.2; rw [HG.out] at this; cases this⟩⟩, H2.out.1⟩
      | true =>
        have hgb := inB_iff.1 hg
        obtain ⟨s, rfl⟩ : ∃ s : Nat, g = s := ⟨g.toNat, by omega⟩
        have hs32 : s < 32 := by omega
        have HG := Lib.hid hg
        clear hg hgb
        have HA := Lib.hid (show AskedS q rows own sh s from ⟨HV.out, by rw [HSB.out.2, HN.out], HSB.out.1, by omega, by omega⟩)
        go_wp2_with (first | (go_at_call 61; refine (validWord_any q _ sh n _ (HS.out.new H2.out.1) (by omega) (by omega)).mono ?_; rintro e w' ⟨rfl, rfl⟩; rw [HVW.out]) | (go_at_call 62; refine (power_any 5 _ (by omega)).mono ?_; rintro e w' ⟨rfl, rfl⟩; rw [show ((2 ^ 5 : Nat) : Int) = 32 from rfl]) | (go_at_call 43; refine (inRange_any _ _ _ _).mono ?_; rintro e w' ⟨rfl, rfl⟩; rw [HG.out]))
        refine (specKnows_any q (gr rows 0).length _ _ rows own s _ (HR.out.new H2.out.1) (HO.out.new H2.out.1) HT.out HV.out.2 hs32).mono ?_
        rintro e w3 ⟨b3, rfl, hb3, hn3⟩
        have HB3 := Lib.hid hb3
        have H3 := Lib.hid (And.intro (H2.out.1.trans hn3) (H2.out.2.new hn3))
        clear hb3 hn3 c0 c1 c2
        obtain ⟨c0, c1, c2, _, _, _⟩ := H3.out.2.cells
        cases b3 with
        | false =>
          go_wp2_with fail
          go_ret2
          refine ⟨_, false, rfl, ⟨(fun h => by cases h), fun _ => ⟨rfl, fun h => ?_⟩⟩, H3.out.1⟩
          obtain ⟨_, q', i2, e2, hk2⟩ := h
          obtain rfl : q = q' := by omega
          have := HB3.out.2 (by rw [Int.toNat_natCast] at hk2; exact hk2)
          cases this
        | true =>
          have hkn := HB3.out.1 rfl
          have hl0 : (idxTo own s rows.length).length ≠ 0 := fun h => knows_none hq7.1 HT.out.n1 h hkn
          have HKN := Lib.hid (And.intro hkn hl0)
          clear hkn hl0
          go_wp2_with fail
          refine (specOwned_any _ _ _ rows own s _ (HR.out.new H3.out.1) (HO.out.new H3.out.1) HV.out.2 HT.out.r6 hs32).mono ?_
          rintro e w4 ⟨u, vg, rfl, hsh, hf, hn4⟩
          have hl6 : (grpTo rows own s rows.length).length ≤ 6 := by rw [grpTo_length]; have := idxTo_le own s rows.length; have := HT.out.r6; omega
          obtain ⟨a5, l5, c5, rfl, HL5, _, _⟩ := hsh.outer.opened (by rw [hsh.len]; unfold Mid; omega)
          have hl5 : 0 < l5 := by rw [HL5.out, hsh.len, grpTo_length]; have := HKN.out.2; omega
          have hi5 := hsh.isR (by unfold Mid; omega)
          obtain ⟨b5, o5, u5, rfl, c5', hu5⟩ := hi5.at (i := 0) hl5
          obtain ⟨au, nu, cu, rfl, HNU, _⟩ := hu5.shape
          rw [Nat.add_zero] at c5'
          have hnu : (gr rows 0).length = nu := by rw [HNU.out, (grpTo_good HT.out.good (Nat.le_refl _) 0 (by rw [grpTo_length]; have := HKN.out.2; omega)).1]
          have hn1 := HT.out.n1
          have hn7 := HT.out.n7
          rw [hnu] at hn1 hn7
          have HNN := Lib.hid hnu
          have H4 := Lib.hid (And.intro (H3.out.1.trans hn4) (And.intro (H3.out.2.new hn4) hi5))
          clear hsh hf hn4 hi5 hu5 c0 c1 c2 hnu
          obtain ⟨c0, c1, c2, _, _, _⟩ := H4.out.2.1.cells
          go_upto_region 4 with fail
          go_region_held3 (fun w' => w'.cell? ⟨w.heap.size, 0, none⟩ = some (.int .i64 q) ∧ w'.cell? ⟨b5, o5, none⟩ = some (.slice au nu cu))
            (first | exact ⟨HSO.out.2.2.2.2.cellNew c0, HSO.out.2.2.2.2.cellNew c5'⟩ | exact ⟨HUN.out.2.cellNew c0, HUN.out.2.cellNew c5'⟩ | go_keep)
            (first | (go_at_call 66; refine (unit_any nu _ hn1 (by omega)).mono ?_; rintro e w5 ⟨uu, rfl, ho3, hf3, hn3⟩; have HUN := Lib.hid (And.intro ho3 ((New.drew w4).trans hn3)); clear ho3 hf3 hn3) | (go_at_call 65; refine (specSolve_any q HT.out.pr nu _ _ (grpTo rows own s rows.length) (unitG nu) _ (H4.out.2.2.new HUN.out.2) (HUN.out.1.isI (by rw [unitG_length]; unfold Mid; omega)) (by rw [← HNN.out]; exact grpTo_good HT.out.good (Nat.le_refl _)) (unitG_good hq7.1 hn1) hl6 hn1 hn7).mono ?_; rintro e w6 ⟨us, f, ok, rfl, ho4, hf4, hb4, hn4⟩; have hlen := hb4.len; have hi4 := ho4.isI (by unfold Mid; omega); obtain ⟨af, lf, cf, rfl, HLF, _⟩ := hi4.shape; have HSO := Lib.hid (And.intro hb4 (And.intro hi4 (And.intro HLF.out (And.intro trivial (HUN.out.2.trans hn4))))); clear ho4 hf4 hb4 hn4 hlen hi4))
          have hok : ok = true := HSO.out.1.knows.2 (by rw [← HNN.out]; exact HKN.out.1)
          subst hok
          have hlf : lf = (idxTo own s rows.length).length := by rw [HSO.out.2.2.1, (HSO.out.1.1 rfl).1.1, grpTo_length]
          have hfg : ∀ j, j < lf → 0 ≤ gi f j ∧ gi f j < q := fun j hj => (HSO.out.1.1 rfl).1.2 j (by rw [grpTo_length, ← hlf]; exact hj)
          have HLFF := Lib.hid (And.intro hlf hfg)
          have HN6 := Lib.hid (H4.out.1.trans HSO.out.2.2.2.2)
          have HB6 := Lib.hid (H4.out.2.1.new HSO.out.2.2.2.2)
          have hkn : k = n := by rw [HK.out]; exact HSB.out.2
          have hmn : m = n := by rw [HM.out, HN.out]; exact HV.out.2.1
          have HKM := Lib.hid (And.intro hkn hmn)
          clear hlf hfg c0 c1 c2 c5' hkn hmn
          obtain ⟨wB, hwB⟩ : ∃ wB : World, wB = w6 := ⟨_, rfl⟩
          rw [← hwB] at HN6 HB6
          have HF6 := Lib.hid HSO.out.2.1
          rw [← hwB] at HF6
          rw [← hwB]
          clear hwB
          go_wp2_with fail
          go_loopw [11, 12, 13] (fun t11 t12 t13 wr => ∃ (i nn : Nat) (x : Int), t11 = .int .i64 x ∧ t12 = .int .i64 nn ∧ t13 = .int .i64 i ∧ i ≤ n ∧ nn ≤ i ∧ (0 ≤ x ∧ x < q) ∧ Hid (nn = (idxTo own s i).length ∧ x = secZ own sh f s i % q ∧ New wB wr)) (fun _ _ t13 _ => n - (intOf t13).toNat)
          case atStart => exact ⟨0, 0, 0, rfl, rfl, rfl, Nat.zero_le _, Nat.le_refl _, by omega, rfl, by show (0 : Int) = 0 % (q : Int); simp, Chg.refl _ _⟩
          case round =>
            obtain ⟨i, nn, x, rfl, rfl, rfl, hi, hnn, hx, HI⟩ := hrel
            obtain ⟨wz, hwz⟩ : ∃ wz : World, wz = wr := ⟨_, rfl⟩
            rw [← hwz] at HI
            rw [← hwz]
            clear hwz
            have HNZ := Lib.hid (HN6.out.trans HI.out.2.2)
            obtain ⟨c0, c1, c2, _, _, _⟩ := (HB6.out.new HI.out.2.2).cells
            by_cases hin : i < n
            · have him : i < m := by rw [HKM.out.2]; exact hin
              have hik : i < k := by rw [HKM.out.1]; exact hin
              obtain ⟨b7, o7, rfl, c7⟩ := (HO.out.new HNZ.out).at him
              have hy4 := HV.out.2.2 i (by rw [← HM.out]; exact him)
              obtain ⟨y, hy⟩ : ∃ y : Nat, gi own i = y := ⟨(gi own i).toNat, by omega⟩
              rw [hy] at c7 hy4
              have HY := Lib.hid hy
              clear hy
              rcases (show bitN s y = 0 ∨ bitN s y = 1 by unfold bitN; omega) with hb | hb
              · have HB7 := Lib.hid hb
                clear hb
                go_wp2_with (go_at_call 67; refine (bit_any _ _ _ (by omega) (by omega)).mono ?_; rintro e w' ⟨rfl, rfl⟩; rw [HB7.out])
                go_roundw
                case rel =>
                  have hnb : ¬ bitN s (gi own i).toNat = 1 := by rw [HY.out, Int.toNat_natCast, HB7.out]; omega
                  exact ⟨i + 1, nn, x, rfl, rfl, by go_num, by omega, by omega, hx, by rw [HI.out.1, idxTo, if_neg hnb], by rw [secZ_no hnb]; exact HI.out.2.1, HI.out.2.2⟩
                case measure => simp [intOf]; omega
              · have HB7 := Lib.hid hb
                have hyb : bitN s (gi own i).toNat = 1 := by rw [HY.out, Int.toNat_natCast]; exact hb
                have hnf : nn < lf := by
                  have h1 := idxTo_more own s (i + 1) rows.length (by rw [← HN.out]; omega)
                  rw [idxTo, if_pos hyb, List.length_append, List.length_singleton, ← HI.out.1, ← HLFF.out.1] at h1
                  omega
                have HYB := Lib.hid hyb
                clear hb hyb
                obtain ⟨b8, o8, rfl, c8⟩ := (HS.out.new HNZ.out).at hik
                obtain ⟨b9, o9, rfl, c9⟩ := (HF6.out.new HI.out.2.2).at hnf
                have hsb := hasB_iff.1 HSB.out.1 i (by rw [← HK.out]; exact hik)
                have hfb := HLFF.out.2 nn hnf
                obtain ⟨y1, hy1⟩ : ∃ y1, y1 = gi sh i := ⟨_, rfl⟩
                obtain ⟨y2, hy2⟩ : ∃ y2, y2 = gi f nn := ⟨_, rfl⟩
                rw [← hy1] at c8 hsb
                rw [← hy2] at c9 hfb
                obtain ⟨pr, hpr⟩ : ∃ pr, pr = y2 * y1 := ⟨_, rfl⟩
                have hpb : 0 ≤ pr ∧ pr ≤ 49 := by
                  rw [hpr]
                  exact ⟨Int.mul_nonneg hfb.1 hsb.1, Int.mul_le_mul (show y2 ≤ 7 by omega) (show y1 ≤ 7 by omega) hsb.1 (by omega)⟩
                have hmul : y2 * y1 = pr := hpr.symm
                obtain ⟨r, hr⟩ : ∃ r, r = (x + pr) % (q : Int) := ⟨_, rfl⟩
                have htm : (x + pr).tmod (q : Int) = r := by rw [Int.tmod_eq_emod_of_nonneg (by omega), hr]
                have hqz : (q : Int) ≠ 0 := by omega
                have hrb : 0 ≤ r ∧ r < q := by rw [hr]; exact ⟨Int.emod_nonneg _ hqz, Int.emod_lt_of_pos _ (by omega)⟩
                have HR2 := Lib.hid (show r = secZ own sh f s (i + 1) % q by
                  rw [hr, secZ_yes HYB.out, HI.out.2.1, Int.emod_add_emod, ← HI.out.1, ← hy1, ← hy2, hpr, Int.mul_comm y2 y1])
                clear hy1 hy2 hpr hr
                go_wp2_with (go_at_call 67; refine (bit_any _ _ _ (by omega) (by omega)).mono ?_; rintro e w' ⟨rfl, rfl⟩; rw [HB7.out])
                go_quiet (fail)
                go_wp2_with fail
                go_roundw
                case rel => exact ⟨i + 1, nn + 1, r, by first | rfl | go_num, by go_num, by go_num, by omega, by omega, hrb, by rw [HI.out.1, idxTo, if_pos HYB.out, List.length_append]; rfl, HR2.out, HI.out.2.2.trans (New.drewN _ _)⟩
                case measure => simp [intOf]; omega
            · obtain rfl : i = n := by omega
              go_wp2_with fail
              go_ret2
              exact ⟨_, true, rfl, ⟨fun _ => ⟨HA.out, q, this, f, rfl, by rw [Int.toNat_natCast, HNN.out]; exact HSO.out.1, by rw [Int.toNat_natCast, ← HN.out]; exact HI.out.2.1⟩, fun h => by cases h⟩, HNZ.out⟩
end Go.Proofs.Ytahgjfmdafhedaa

namespace Go.Proofs.Ytahgjfmdafhedaa
open Go.RowKit Mat
set_option linter.unusedVariables false

set_option maxHeartbeats 1000000 in
theorem specDot_any (q n : Nat) (va vb : Value) (xs ys : List Int) (w : World) (hx : IsI w va xs) (hy : IsI w vb ys) (gx : GoodRow q n xs) (gy : GoodRow q n ys) (hq : 2 ≤ q ∧ q ≤ 7) (hn : n ≤ 1000) :
    Calls Try.prog 111 #[.int .i64 q, va, vb] w fun e w' => e = .returned (.int .i64 (dotTo q xs ys n)) ∧ ∃ m, w' = w.drewN m := by
  obtain ⟨a1, n1, c1, rfl, H1, b1⟩ := hx.shape
  obtain ⟨a2, n2, c2, rfl, H2, b2⟩ := hy.shape
  have e1 : n1 = n := by rw [H1.out, gx.1]
  have e2 : n2 = n := by rw [H2.out, gy.1]
  subst e1 e2
  have HX := Lib.hid hx
  have HY := Lib.hid hy
  have HG := Lib.hid (And.intro gx gy)
  have hq2 : (2 : Int) ≤ q := by omega
  have hq7 : (q : Int) ≤ 7 := by omega
  clear hx hy gx gy
  go_enter Try.func111, Try.ntmps111
  go_wp2_with fail
  go_loopw [7, 8] (fun t7 t8 wr => ∃ (k m : Nat) (s : Int), t7 = .int .i64 s ∧ t8 = .int .i64 k ∧ k ≤ n2 ∧ 0 ≤ s ∧ s ≤ 6 ∧ Hid (s = dotTo q xs ys k ∧ wr = w.drewN m)) (fun _ t8 _ => n2 - (intOf t8).toNat)
  case atStart => exact ⟨0, 0, 0, rfl, rfl, Nat.zero_le _, by omega, by omega, rfl, rfl⟩
  case round =>
    obtain ⟨k, m, s, rfl, rfl, hk, hs0, hs6, HD⟩ := hrel
    by_cases hkn : k < n2
    · have hx := HG.out.1.2 k hkn
      have hy := HG.out.2.2 k hkn
      have e := HD.out.2
      obtain ⟨bx, ox, rfl, cx⟩ := HX.out.at hkn
      obtain ⟨by', oy, rfl, cy⟩ := HY.out.at hkn
      obtain ⟨x, hxe⟩ : ∃ x, gi xs k = x := ⟨_, rfl⟩
      obtain ⟨y, hye⟩ : ∃ y, gi ys k = y := ⟨_, rfl⟩
      have hstep : dotTo q xs ys (k + 1) = (s + x * y) % q := by rw [dotTo, HD.out.1, hxe, hye]
      have cx' : wr.cell? ⟨bx, ox + k, none⟩ = some (.int .i64 x) := by rw [e, ← hxe]; exact cx
      have cy' : wr.cell? ⟨by', oy + k, none⟩ = some (.int .i64 y) := by rw [e, ← hye]; exact cy
      rw [hxe] at hx
      rw [hye] at hy
      have hx6 : x ≤ 6 := by omega
      have hy6 : y ≤ 6 := by omega
      have hxy0 : 0 ≤ x * y := Int.mul_nonneg hx.1 hy.1
      have hxy : x * y ≤ 36 := Int.mul_le_mul hx6 hy6 hy.1 (by omega)
      have hr0 := Int.emod_nonneg (s + x * y) (show (q : Int) ≠ 0 by omega)
      have hr1 := Int.emod_lt_of_pos (s + x * y) (show (0 : Int) < q by omega)
      have hw1 : IntKind.i64.wrap (x * y) = x * y := IntWalk.i64_in _ (by omega)
      have hw2 : IntKind.i64.wrap (s + x * y) = s + x * y := IntWalk.i64_in _ (by omega)
      have hsx : 0 ≤ s + x * y := by omega
      have HS := Lib.hid (And.intro hstep (And.intro hr0 hr1))
      clear cx cy e hxe hye hstep hr0 hr1
      go_wp2_with fail
      go_quiet (fail)
      go_wp2_with fail
      go_roundw
      case rel => exact ⟨k + 1, _, _, rfl, by go_num, by omega, HS.out.2.1, by have := HS.out.2.2; omega, HS.out.1.symm, by rw [HD.out.2]; exact (World.drewN_drewN _ _ _)⟩
      case measure => simp [intOf]; omega
    · obtain rfl : k = n2 := by omega
      go_wp2_with fail
      go_ret
      exact ⟨ret_int HD.out.1, m, HD.out.2⟩

theorem specDot_new (q n : Nat) (va vb : Value) (xs ys : List Int) (w : World) (hx : IsI w va xs) (hy : IsI w vb ys) (gx : GoodRow q n xs) (gy : GoodRow q n ys) (hq : 2 ≤ q ∧ q ≤ 7) (hn : n ≤ 1000) :
    Calls Try.prog 111 #[.int .i64 q, va, vb] w fun e w' => e = .returned (.int .i64 (dotTo q xs ys n)) ∧ New w w' := by
  refine (specDot_any q n va vb xs ys w hx hy gx gy hq hn).mono ?_
  rintro e w' ⟨rfl, m, rfl⟩
  exact ⟨rfl, New.drewN _ _⟩
/-- It ends with a few numbers of its own. -/
def GivesF (w : World) (e : Ending) (w' : World) : Prop := ∃ (u : Value) (ys : List Int), e = .returned u ∧ Own w' 3 u (ys.map (Value.int .i64)) ∧ From w.heap.size u ∧ ys.length ≤ 6 ∧ New w w'
set_option maxRecDepth 100000 in
set_option maxHeartbeats 2000000 in
theorem sharesOf_some (q : Nat) [NeZero q] (v o vl : Value) (rows : List (List Int)) (own xs : List Int) (w : World) (hr : IsR w v rows) (ho : IsI w o own) (hl : IsI w vl xs) (hv : ValidS q rows own) (hx : GoodRow q (gr rows 0).length xs) :
    Calls Try.prog 91 #[.agg #[.int .i64 q, v, o], vl] w fun e w' => GivesF w e w' := by
  obtain ⟨ao, n, cap, rfl, HN, hn⟩ := hr.shape
  obtain ⟨ay, m, cay, rfl, HM, hm⟩ := ho.shape
  obtain ⟨az, k, caz, rfl, HK, hk⟩ := hl.shape
  have hto := vtB_ok hv.1
  have hn6 : n ≤ 6 := by rw [HN.out]; exact hto.r6
  have hn1 : 0 < n := by rw [HN.out]; exact hto.r1
  have hq27 : 2 ≤ q ∧ q ≤ 7 := hto.pr.pos
  have h1 : New w (w.alloc (.cells #[.int .i64 q, .slice ao n cap, .slice ay m cay] 38)) := New.alloc _ _
  have b1 := Blk3.alloc w (.int .i64 q) (.slice ao n cap) (.slice ay m cay) 38
  obtain ⟨b0, o0, u0, rfl, ck0, hu0⟩ := hr.at hn1
  rw [Nat.add_zero] at ck0
  obtain ⟨a0, l0, c0', rfl, HL0, hl0⟩ := hu0.shape
  have hl7 : l0 ≤ 7 := by rw [HL0.out]; exact hto.n7
  have HKL := Lib.hid (show k = l0 by rw [HK.out, HL0.out]; exact hx.1)
  have HVW := Lib.hid (show (hasB q xs && decide (xs.length = l0)) = true by
    rw [Bool.and_eq_true, decide_eq_true_eq]
    exact ⟨hasB_iff.2 (fun i hi => by have := hx.2 i (by rw [← hx.1]; exact hi); omega), by rw [hx.1, HL0.out]⟩)
  have HR := Lib.hid hr
  have HO := Lib.hid ho
  have HL := Lib.hid hl
  have HT := Lib.hid hto
  have HV := Lib.hid hv
  have HX := Lib.hid hx
  have CK := Lib.hid (h1.cellNew ck0)
  have HC0 := Lib.hid ck0
  have H1 := Lib.hid (And.intro h1 b1)
  clear hr ho hl hto hv hx hu0 ck0 h1 b1
  obtain ⟨w1, hw1⟩ : ∃ w1, w1 = w.alloc (.cells #[.int .i64 q, .slice (some ⟨b0, o0, none⟩) n cap, .slice ay m cay] 38) := ⟨_, rfl⟩
  rw [← hw1] at H1 CK
  have HW1 := Lib.hid hw1
  clear hw1
  go_enter Try.func91, Try.ntmps91
  go_upto_region 1 with fail
  rw [← HW1.out]
  refine wp_region_held_drew (S := fun w' => New w1 w') (by kernel_rfl) (New.drew _) (fun hY => ?_)
  refine held_take 0 (some 7) rfl rfl (by kernel_rfl) (by kernel_rfl) (by kernel_rfl) (fun _ _ _ h => h) rfl hY (v := .agg #[.int .i64 q, .slice (some ⟨b0, o0, none⟩) n cap, .slice ay m cay]) (fun w' hS => by obtain ⟨c0, c1, c2, _, _, _⟩ := (H1.out.2.new hS).cells; have ck1 := hS.cellNew CK.out; go_simp; try with_reducible rfl) ?_
  simp only [Act.put, List.setIfInBounds_toArray, List.set_cons_zero, List.set_cons_succ]
  refine held_only 1 (by kernel_rfl) rfl rfl (fun K1 hK1 => ?_)
  go_simp
  refine (validScheme_any q _ _ rows own _ (HR.out.new (H1.out.1.trans hY)) (HO.out.new (H1.out.1.trans hY))).mono ?_
  rintro e w2 ⟨bv, rfl, hbv, hnv⟩
  obtain rfl : bv = true := hbv.2 HV.out
  clear hbv
  refine hK1.out _ _ (hY.trans hnv) (fun hY1 => ?_)
  clear hK1 K1
  refine held_take 2 (some 9) rfl rfl (by kernel_rfl) (by kernel_rfl) (by kernel_rfl) (fun _ _ _ h => h) rfl hY1 (v := .bool false) (fun w' hS => by skip; go_simp; try (first | (with_reducible rfl) | (simp; done))) ?_
  simp only [Act.put, List.setIfInBounds_toArray, List.set_cons_zero, List.set_cons_succ]
  refine held_take 3 (some 10) rfl rfl (by kernel_rfl) (by kernel_rfl) (by kernel_rfl) (fun _ _ _ h => h) rfl hY1 (v := .bool false) (fun w' hS => by skip; go_simp; try (first | (with_reducible rfl) | (simp; done))) ?_
  simp only [Act.put, List.setIfInBounds_toArray, List.set_cons_zero, List.set_cons_succ]
  refine held_take 4 (some 11) rfl rfl (by kernel_rfl) (by kernel_rfl) (by kernel_rfl) (fun _ _ _ h => h) rfl hY1 (v := ?_) (fun w' hS => by skip; go_simp; try with_reducible rfl) ?_
  simp only [Act.put, List.setIfInBounds_toArray, List.set_cons_zero, List.set_cons_succ]
  refine held_take 5 (some 12) rfl rfl (by kernel_rfl) (by kernel_rfl) (by kernel_rfl) (fun _ _ _ h => h) rfl hY1 (v := .int .i64 q) (fun w' hS => by obtain ⟨c0, c1, c2, _, _, _⟩ := (H1.out.2.new hS).cells; have ck1 := hS.cellNew CK.out; go_simp; try with_reducible rfl) ?_
  simp only [Act.put, List.setIfInBounds_toArray, List.set_cons_zero, List.set_cons_succ]
  refine held_take 6 (some 13) rfl rfl (by kernel_rfl) (by kernel_rfl) (by kernel_rfl) (fun _ _ _ h => h) rfl hY1 (v := ?_) (fun w' hS => by skip; go_simp; try with_reducible rfl) ?_
  simp only [Act.put, List.setIfInBounds_toArray, List.set_cons_zero, List.set_cons_succ]
  refine held_take 7 (some 14) rfl rfl (by kernel_rfl) (by kernel_rfl) (by kernel_rfl) (fun _ _ _ h => h) rfl hY1 (v := ?_) (fun w' hS => by skip; go_simp; try with_reducible rfl) ?_
  simp only [Act.put, List.setIfInBounds_toArray, List.set_cons_zero, List.set_cons_succ]
  refine held_take 8 (some 15) rfl rfl (by kernel_rfl) (by kernel_rfl) (by kernel_rfl) (fun _ _ _ h => h) rfl hY1 (v := .slice (some ⟨b0, o0, none⟩) n cap) (fun w' hS => by obtain ⟨c0, c1, c2, _, _, _⟩ := (H1.out.2.new hS).cells; have ck1 := hS.cellNew CK.out; go_simp; try with_reducible rfl) ?_
  simp only [Act.put, List.setIfInBounds_toArray, List.set_cons_zero, List.set_cons_succ]
  refine held_take 9 (some 16) rfl rfl (by kernel_rfl) (by kernel_rfl) (by kernel_rfl) (fun _ _ _ h => h) rfl hY1 (v := ?_) (fun w' hS => by skip; go_simp; try with_reducible rfl) ?_
  simp only [Act.put, List.setIfInBounds_toArray, List.set_cons_zero, List.set_cons_succ]
  refine held_take 10 (some 17) rfl rfl (by kernel_rfl) (by kernel_rfl) (by kernel_rfl) (fun _ _ _ h => h) rfl hY1 (v := .slice a0 l0 c0') (fun w' hS => by obtain ⟨c0, c1, c2, _, _, _⟩ := (H1.out.2.new hS).cells; have ck1 := hS.cellNew CK.out; go_simp; try with_reducible rfl) ?_
  simp only [Act.put, List.setIfInBounds_toArray, List.set_cons_zero, List.set_cons_succ]
  refine held_take 11 (some 18) rfl rfl (by kernel_rfl) (by kernel_rfl) (by kernel_rfl) (fun _ _ _ h => h) rfl hY1 (v := ?_) (fun w' hS => by skip; go_simp; try with_reducible rfl) ?_
  simp only [Act.put, List.setIfInBounds_toArray, List.set_cons_zero, List.set_cons_succ]
  refine held_only 12 (by kernel_rfl) rfl rfl (fun K2 hK2 => ?_)
  go_simp
  refine (validWord_any q _ xs l0 _ (HL.out.new (H1.out.1.trans hY1)) (by omega) (by omega)).mono ?_
  rintro e w' ⟨rfl, rfl⟩
  rw [HVW.out]
  have hnw := Chg.refl (fun _ => False) w2
  refine hK2.out _ _ (hY1.trans hnw) (fun hY2 => ?_)
  clear hK2 K2
  refine held_take 13 (some 20) rfl rfl (by kernel_rfl) (by kernel_rfl) (by kernel_rfl) (fun _ _ _ h => h) rfl hY2 (v := .bool false) (fun w' hS => by skip; go_simp; try (first | (with_reducible rfl) | (simp; done))) ?_
  simp only [Act.put, List.setIfInBounds_toArray, List.set_cons_zero, List.set_cons_succ]
  refine held_take 14 (some 21) rfl rfl (by kernel_rfl) (by kernel_rfl) (by kernel_rfl) (fun _ _ _ h => h) rfl hY2 (v := .bool false) (fun w' hS => by skip; go_simp; try (first | (with_reducible rfl) | (simp; done))) ?_
  simp only [Act.put, List.setIfInBounds_toArray, List.set_cons_zero, List.set_cons_succ]
  refine wpAnyH_done (by kernel_rfl) ?_ _
  go_wp2_with fail
  go_loopw [5, 6] (fun t5 t6 wr => ∃ (i : Nat) (ys : List Int), t6 = .int .i64 i ∧ i ≤ n ∧ Hid (ys.length = i ∧ Own wr 3 t5 (ys.map (Value.int .i64)) ∧ From w1.heap.size t5 ∧ New w1 wr)) (fun _ t6 _ => n - (intOf t6).toNat)
  case atStart => exact ⟨0, [], rfl, Nat.zero_le _, rfl, Own.empty _ _, (From.new _ _ _).mono hY2.size, hY2.trans (New.alloc _ _)⟩
  case round =>
    obtain ⟨i, ys, rfl, hi, HI⟩ := hrel
    obtain ⟨wy, hwy⟩ : ∃ wy : World, wy = wr := ⟨_, rfl⟩
    rw [← hwy] at HI
    rw [← hwy]
    clear hwy
    have hyl : (ys.map (Value.int .i64)).length ≤ 6 := by rw [List.length_map, HI.out.1]; omega
    have hyl' : (ys.map (Value.int .i64)).length + 1 ≤ 1099511627776 := by omega
    obtain ⟨aY, lY, cY, rfl, _, _, _⟩ := HI.out.2.1.opened (by unfold Mid; omega)
    have hnw := H1.out.1.trans HI.out.2.2.2
    obtain ⟨c0, c1, c2, _, _, _⟩ := (H1.out.2.new HI.out.2.2.2).cells
    by_cases hin : i < n
    · obtain ⟨bb, oo, u, eb, ck', hu⟩ := HR.out.at hin
      simp only [Option.some.injEq, Addr.mk.injEq, and_true] at eb
      obtain ⟨rfl, rfl⟩ := eb
      have hri : i < rows.length := by rw [← HN.out]; exact hin
      obtain ⟨au, nu, cu, rfl, HNU, _⟩ := hu.shape
      have CI := Lib.hid (hnw.cellNew ck')
      have CI1 := Lib.hid (H1.out.1.cellNew ck')
      have HD1 := Lib.hid H1.out.2.cells
      have HU := Lib.hid (hu.new hnw)
      have HG := Lib.hid (HT.out.good i hri)
      have HLW := Lib.hid (HL.out.new hnw)
      have ck := CI.out
      clear ck' hu hnw
      go_upto_region 7 with fail
      go_region_held3 (fun w' => w'.cell? ⟨w.heap.size, 0, none⟩ = some (.int .i64 q) ∧ w'.cell? ⟨w.heap.size, 1, none⟩ = some (.slice (some ⟨b0, o0, none⟩) n cap) ∧ w'.cell? ⟨b0, o0 + i, none⟩ = some (.slice au nu cu))
        (first | exact ⟨K5.out.2.2.cellNew HD1.out.1, K5.out.2.2.cellNew HD1.out.2.1, K5.out.2.2.cellNew CI1.out⟩ | exact ⟨HDD.out.cellNew c0, HDD.out.cellNew c1, HDD.out.cellNew CI.out⟩ | go_keep)
        (first
          | (go_at_call 111; refine (specDot_new q (gr rows 0).length _ _ (gr rows i) xs _ (HU.out.new (New.drew _)) (HLW.out.new (New.drew _)) HG.out HX.out hq27 (by rw [← HL0.out]; omega)).mono ?_; rintro e w5 ⟨rfl, hn5⟩; have HDD := Lib.hid ((New.drew wy).trans hn5); clear hn5)
          | (refine step_app (by rfl) (.tmp 30) (.tmp 40) _ (by rfl) tyInt (HI.out.2.1.new (HDD.out.trans (New.alloc w5 _))) (by rfl) (some ⟨w5.heap.size, 0, none⟩) 1 1 [.int .i64 (dotTo q (gr rows i) xs (gr rows 0).length)] (by rfl) (by rfl) (fun h => by cases h) (cell_one (heap_alloc_new w5 _)) (fun u hu => by simp at hu; subst hu; rfl) hyl' ?_; intro v6 w6 k1 k2 k3; obtain ⟨a6, l6, c6, rfl, _, _, _⟩ := k1.opened (by rw [List.length_append, List.length_singleton]; unfold Mid; omega); have hk2 := New.then (HI.out.2.2.2.trans (HDD.out.trans (New.alloc w5 _))) k2 (fun i hi => HI.out.2.2.1 i hi); have K5 := Lib.hid (And.intro k1 (And.intro k3 hk2)); clear k1 k2 k3 hk2))
      go_wp2_with fail
      go_roundw
      case rel => exact ⟨i + 1, ys ++ [dotTo q (gr rows i) xs (gr rows 0).length], by go_num, by omega, by rw [List.length_append, HI.out.1]; rfl, by rw [List.map_append]; exact K5.out.1, (fun g hg => (K5.out.2.1 g hg).elim (fun h => HI.out.2.2.1 g h) (fun h => by have := HI.out.2.2.2.size; have := HDD.out.size; simp at h this; omega)), K5.out.2.2⟩
      case measure => simp [intOf]; omega
    · obtain rfl : i = n := by omega
      go_wp2_with fail
      go_ret
      exact ⟨_, ys, rfl, HI.out.2.1, HI.out.2.2.1.mono H1.out.1.size, by rw [HI.out.1]; omega, H1.out.1.trans HI.out.2.2.2⟩
end Go.Proofs.Ytahgjfmdafhedaa

namespace Go.Proofs.Ytahgjfmdafhedaa
open Go.RowKit Mat
set_option linter.unusedVariables false

set_option maxRecDepth 100000 in
set_option maxHeartbeats 4000000 in
theorem sharesFor_any (g N w0 b1 : Nat) (p : Int) (R O : Value) (vs : List Value) (rows : List (List Int)) (own : List Int) (w : World) (hrd : Rd w g N) (hN : N ≤ 800000) (hg : g < w0) (hs : SS w0 b1 w p R O vs rows own) (hl : (1 ≤ rows.length ∧ rows.length ≤ 8) ∧ ∀ i, i < rows.length → 1 ≤ (gr rows i).length ∧ (gr rows i).length ≤ 8) (hol : own.length ≤ 10) (hp : 0 ≤ p ∧ p ≤ 7) :
    Calls Try.prog 55 #[.pointer (some ⟨g, 0, none⟩), .agg #[.int .i64 p, R, O]] w fun e w' => PicksI g (N + 1100) w e w' (fun xs => xs.length ≤ 1001) := by
  have hir : ∀ wx, SS w0 b1 wx p R O vs rows own → IsR wx R rows := fun wx h => h.isR (by omega) (fun i hi => by have := hl.2 i hi; omega)
  have hio : ∀ wx, SS w0 b1 wx p R O vs rows own → IsI wx O own := fun wx h => h.isI (by omega)
  have h0 := hir w hs
  obtain ⟨aR, lR, cR, rfl, HLR, hlR⟩ := h0.shape
  obtain ⟨aO, lO, cO, rfl, HLO, hlO⟩ := (hio w hs).shape
  have hlr8 : 1 ≤ lR ∧ lR ≤ 8 := by rw [HLR.out]; exact hl.1
  have hlr0 : 0 < lR := hlr8.1
  obtain ⟨b0, o0, u0, rfl, ck0, hu0⟩ := h0.at hlr0
  rw [Nat.add_zero] at ck0
  obtain ⟨a0, l0, cc0, rfl, HL0, _⟩ := hu0.shape
  have hl08 : 1 ≤ l0 ∧ l0 ≤ 8 := by rw [HL0.out]; exact hl.2 0 hl.1.1
  have hgw : g < w.heap.size := hrd.lt
  have hsz := hs.size
  have h1 : New w (w.alloc (.cells #[.int .i64 p, .slice (some ⟨b0, o0, none⟩) lR cR, .slice aO lO cO] 38)) := New.alloc _ _
  have b3 := Blk3.alloc w (.int .i64 p) (.slice (some ⟨b0, o0, none⟩) lR cR) (.slice aO lO cO) 38
  have H1 := Lib.hid (And.intro h1 (And.intro b3 (And.intro (hs.new h1) (hrd.new h1))))
  have HIR := Lib.hid hir
  have HIO := Lib.hid hio
  have HLL := Lib.hid hl
  clear h1 b3 hs hrd hir hio h0 hu0 ck0 hl hol
  go_enter Try.func55, Try.ntmps55
  go_wp2_with fail
  refine (validScheme_any p _ _ rows own _ (HIR.out _ H1.out.2.2.1) (HIO.out _ H1.out.2.2.1)).mono ?_
  rintro e w2 ⟨b, rfl, hb, hn2⟩
  have H2 := Lib.hid (And.intro (H1.out.1.trans hn2) (And.intro (H1.out.2.1.new hn2) (And.intro (H1.out.2.2.1.new hn2) (H1.out.2.2.2.new hn2))))
  have HB := Lib.hid hb
  clear hb hn2 H1
  obtain ⟨c0, c1, c2, _, _, _⟩ := H2.out.2.1.cells
  cases b with
  | false =>
    go_wp2_with fail
    refine (aWord_any g N p lR _ H2.out.2.2.2 (by omega) (by omega) (by omega)).mono ?_
    rintro e w3 ⟨u, xs, rfl, ho, hf, hq, hr3, hc3⟩
    have H3 := Lib.hid (And.intro ho (And.intro (hf.mono H2.out.1.size) (And.intro hq.2.1 (And.intro hr3 (Chg.trans H2.out.1 hc3 (fun _ _ x => x.elim) (fun _ _ x => x) (U := (· = g)))))))
    clear ho hf hq hr3 hc3
    go_wp2_with fail
    go_ret
    exact ⟨u, xs, rfl, H3.out.1, H3.out.2.1, H3.out.2.2.1, H3.out.2.2.2.1.mono (by omega), H3.out.2.2.2.2⟩
  | true =>
    have hv := HB.out.1 rfl
    obtain ⟨q, rfl, hq⟩ := prime_nat (vtB_pr hv.1)
    haveI := hq.nz
    have hq27 : 2 ≤ q ∧ q ≤ 7 := hq.pos
    have HV := Lib.hid hv
    clear hv hq HB
    go_wp2_with fail
    refine (pick_any g N 6 _ H2.out.2.2.2 (by omega) (by omega)).mono ?_
    rintro e w3 ⟨z, rfl, hz, hr3, hc3⟩
    have H3 := Lib.hid (And.intro (Chg.trans H2.out.1 hc3 (fun _ _ x => x.elim) (fun _ _ x => x) (U := (· = g))) (And.intro (H2.out.2.1.chg hc3 (fun e => by omega)) (And.intro (H2.out.2.2.1.keep hc3 (fun b hb => by have h9 : b = g := hb; omega)) hr3)))
    clear hr3 hc3 hz c0 c1 c2
    obtain ⟨c0, c1, c2, _, _, _⟩ := H3.out.2.1.cells
    by_cases hz0 : z = 0
    · subst hz0
      go_wp2_with fail
      refine (aWord_any g (N + 1) q lR _ H3.out.2.2.2 (by omega) (by omega) (by omega)).mono ?_
      rintro e w4 ⟨u, xs, rfl, ho, hf, hq, hr4, hc4⟩
      have H4 := Lib.hid (And.intro ho (And.intro (hf.mono H3.out.1.size) (And.intro hq.2.1 (And.intro hr4 (Chg.trans H3.out.1 hc4 (fun _ _ x => x) (fun _ _ x => x) (U := (· = g)))))))
      clear ho hf hq hr4 hc4
      go_wp2_with fail
      go_ret
      exact ⟨u, xs, rfl, H4.out.1, H4.out.2.1, H4.out.2.2.1, H4.out.2.2.2.1.mono (by omega), H4.out.2.2.2.2⟩
    · have hzd : (z == 0) = false := beq_eq_false_iff_ne.2 hz0
      go_wp2_with fail
      go_loopw [5, 6] (fun t5 t6 wr => ∃ (i : Nat) (xs : List Int), t6 = .int .i64 i ∧ i ≤ l0 ∧ Hid (xs.length = i ∧ (∀ j, j < xs.length → 0 ≤ gi xs j ∧ gi xs j < q) ∧ Own wr 3 t5 (xs.map (Value.int .i64)) ∧ From w3.heap.size t5 ∧ Rd wr g (N + 1 + i) ∧ Chg (· = g) w3 wr)) (fun _ t6 _ => l0 - (intOf t6).toNat)
      case atStart => exact ⟨0, [], rfl, Nat.zero_le _, rfl, (fun j hj => by simp at hj), Own.empty _ _, From.new _ _ _, H3.out.2.2.2.new (New.alloc _ _), Chg.trans (New.alloc _ _) (Chg.refl (· = g) _) (fun _ _ x => x.elim) (fun _ _ x => x)⟩
      case round =>
        obtain ⟨i, xs, rfl, hi, HI⟩ := hrel
        obtain ⟨wz, hwz⟩ : ∃ wz : World, wz = wr := ⟨_, rfl⟩
        rw [← hwz] at HI
        rw [← hwz]
        clear hwz
        have hw3 : w.heap.size < w3.heap.size := H3.out.2.1.lt
        have hxl : (xs.map (Value.int .i64)).length ≤ 8 := by rw [List.length_map, HI.out.1]; omega
        have hxl' : (xs.map (Value.int .i64)).length + 1 ≤ 1099511627776 := by omega
        obtain ⟨aX, lX, cX, rfl, _, _, _⟩ := HI.out.2.2.1.opened (by unfold Mid; omega)
        have HZ := Lib.hid (And.intro (H3.out.2.1.chg HI.out.2.2.2.2.2 (fun e => by omega)) (H3.out.2.2.1.keep HI.out.2.2.2.2.2 (fun b hb => by have h9 : b = g := hb; omega)))
        have hzr := HIR.out _ HZ.out.2
        obtain ⟨bb, oo, uu, eb, ck, hu⟩ := hzr.at hlr0
        simp only [Option.some.injEq, Addr.mk.injEq, and_true] at eb
        obtain ⟨rfl, rfl⟩ := eb
        rw [Nat.add_zero] at ck
        obtain ⟨au, nu, cu, rfl, HNU, _⟩ := hu.shape
        have hnu : nu = l0 := by rw [HNU.out, HL0.out]
        subst hnu
        clear c0 c1 c2
        obtain ⟨c0, c1, c2, _, _, _⟩ := HZ.out.1.cells
        have HU := Lib.hid hzr
        clear hzr hu
        by_cases hin : i < nu
        · go_wp2_with ((first | (go_at_call 34; refine (pick_any g (N + 1 + i) q _ HI.out.2.2.2.2.1 (by omega) (by omega)).mono ?_; rintro e w7 ⟨x7, rfl, hx7, hr7, hc7⟩; have hx71 := hx7.1; have hx72 := hx7.2.1 (by omega); have H7 := Lib.hid (And.intro hr7 (And.intro hc7 (HI.out.2.2.1.chg hc7 (fun b hb e => by have := HI.out.2.2.2.1 b hb; have h9 : b = g := e; omega)))); clear hr7 hc7 hx7) | (at_builtin; refine wpList_app1 rfl _ _ _ rfl tyInt _ H7.out.2.2 rfl _ _ rfl rfl rfl hxl' ?_; intro v2 w8 k1 k2 k3; have K2 := Lib.hid (And.intro k1 (And.intro k2 k3)); clear k1 k2 k3)))
          go_roundw
          case rel =>
            obtain ⟨k1, k2, k3⟩ := K2.out
            refine ⟨i + 1, xs ++ [x7], by go_num, by omega, by rw [List.length_append, HI.out.1]; rfl, fun j hj => ?_, by rw [List.map_append]; exact k1, fun b hb => ?_, (H7.out.1.chg k2 (fun b hb => by have := HI.out.2.2.2.1 b hb; omega)).mono (by omega), Chg.trans (Chg.trans HI.out.2.2.2.2.2 H7.out.2.1 (fun _ _ x => x) (fun _ _ x => x) (U := (· = g))) k2 (fun _ _ x => x) (fun b hb h => by have := HI.out.2.2.2.1 b h; omega)⟩
            · rw [List.length_append, List.length_singleton] at hj
              by_cases e : j < xs.length
              · rw [gi_snl e]; exact HI.out.2.1 j e
              · rw [gi_sne (by omega)]; exact ⟨hx71, hx72⟩
            · rcases k3 b hb with h | h
              · exact HI.out.2.2.2.1 b h
              · have := HI.out.2.2.2.2.2.size; have := H7.out.2.1.size; omega
          case measure => simp [intOf]; omega
        · obtain rfl : i = nu := by omega
          have hgx : GoodRow q (gr rows 0).length xs := ⟨by rw [HI.out.1, HL0.out], fun j hj => by have := HI.out.2.1 j (by rw [HI.out.1, HL0.out]; exact hj); omega⟩
          have HGX := Lib.hid hgx
          clear hgx
          go_wp2_with fail
          refine (sharesOf_some q _ _ _ rows own xs _ HU.out (HIO.out _ HZ.out.2) (HI.out.2.2.1.isI (by rw [HI.out.1]; unfold Mid; omega)) HV.out HGX.out).mono ?_
          rintro e w9 ⟨u, ys, rfl, ho, hf, hy6, hn9⟩
          have H9 := Lib.hid (And.intro ho (And.intro hf hn9))
          clear ho hf hn9
          go_wp2_with fail
          go_ret
          exact ⟨u, ys, rfl, H9.out.1, fun b hb => by have := H9.out.2.1 b hb; have := HI.out.2.2.2.2.2.size; omega, by show ys.length ≤ 1001; omega, (HI.out.2.2.2.2.1.new H9.out.2.2).mono (by omega), Chg.trans (Chg.trans H3.out.1 HI.out.2.2.2.2.2 (fun _ _ x => x) (fun _ _ x => x) (U := (· = g))) H9.out.2.2 (fun _ _ x => x) (fun _ _ x => x.elim)⟩

theorem groupOf_any (g N : Nat) (w : World) (hr : Rd w g N) (hN : N ≤ 900000) :
    Calls Try.prog 56 #[.pointer (some ⟨g, 0, none⟩)] w fun e w' => Picks g (N + 10) w e w' (fun _ => True) := by
  have HR := Lib.hid hr
  clear hr
  go_enter Try.func56, Try.ntmps56
  go_wp2_with fail
  refine (pick_any g N 24 _ HR.out (by omega) (by omega)).mono ?_
  rintro e w3 ⟨z, rfl, hz, hr3, hc3⟩
  have H3 := Lib.hid (And.intro hr3 hc3)
  clear hr3 hc3 hz
  by_cases hz0 : z = 0
  · subst hz0
    go_wp2_with fail
    refine (one_lit g (N + 1) (fun _ => True) [-1, 32] _ _ _ _ rfl rfl H3.out.1 (by omega) (by simp) (by simp) (by simp)).mono ?_
    rintro e w4 ⟨x, rfl, -, hr4, hc4⟩
    have H4 := Lib.hid (And.intro hr4 (Chg.trans H3.out.2 hc4 (fun _ _ x => x) (fun _ _ x => x) (U := (· = g))))
    clear hr4 hc4
    go_wp2_with fail
    go_ret
    exact ⟨x, rfl, trivial, H4.out.1.mono (by omega), H4.out.2⟩
  · have hzd : (z == 0) = false := beq_eq_false_iff_ne.2 hz0
    go_wp2_with fail
    refine (pick_any g (N + 1) 32 _ H3.out.1 (by omega) (by omega)).mono ?_
    rintro e w4 ⟨x, rfl, hx, hr4, hc4⟩
    have H4 := Lib.hid (And.intro hr4 (Chg.trans H3.out.2 hc4 (fun _ _ x => x) (fun _ _ x => x) (U := (· = g))))
    clear hr4 hc4 hx
    go_wp2_with fail
    refine (one_lit g (N + 2) (fun _ => True) [0, 3, 0, 12, 31] _ _ _ _ rfl rfl H4.out.1 (by omega) (by simp) (by simp) (by simp)).mono ?_
    rintro e w5 ⟨y, rfl, -, hr5, hc5⟩
    have H5 := Lib.hid (And.intro hr5 (Chg.trans H4.out.2 hc5 (fun _ _ x => x) (fun _ _ x => x) (U := (· = g))))
    clear hr5 hc5
    go_wp2_with fail
    go_ret
    exact ⟨_, rfl, trivial, H5.out.1.mono (by omega), H5.out.2⟩
end Go.Proofs.Ytahgjfmdafhedaa

namespace Go.Proofs.Ytahgjfmdafhedaa
open Go.RowKit Mat
set_option linter.unusedVariables false

/-- It ends with a scheme, that may be invalid, some shares and a number. -/
def DrawsSec (w : World) (e : Ending) (w' : World) : Prop :=
  ∃ (p : Int) (a : Option Addr) (l c : Nat) (a' : Option Addr) (l' c' : Nat) (rows : List (List Int)) (own : List Int) (us : Value) (sh : List Int) (g : Int), e = .returned (.tuple #[.agg #[.int .i64 p, .slice a l c, .slice a' l' c'], us, .int .i64 g]) ∧ IsR w' (.slice a l c) rows ∧ IsI w' (.slice a' l' c') own ∧ IsI w' us sh ∧ sh.length ≤ 1001 ∧ New w w'

set_option maxRecDepth 100000 in
set_option maxHeartbeats 2000000 in
theorem drawSecretOf_any (v : Value) (n : Nat) (w : World) (hb : RawB w v n) :
    Calls Try.prog 18 #[v] w fun e w' => DrawsSec w e w' := by
  obtain ⟨ao, cap, rfl, -⟩ := id hb
  have r0 := Blk3.alloc w (.int .i64 0) (.slice none 0 0) (.slice none 0 0) 38
  have n0 := New.alloc w (.cells #[.int .i64 0, .slice none 0 0, .slice none 0 0] 38)
  have hb0 := hb.newS n0
  obtain ⟨w0, hw0⟩ : ∃ w0, w0 = w.alloc (.cells #[.int .i64 0, .slice none 0 0, .slice none 0 0] 38) := ⟨_, rfl⟩
  rw [← hw0] at r0 n0 hb0
  have hs0 : w.heap.size < w0.heap.size := r0.lt
  clear hb
  go_enter Try.func18, Try.ntmps18
  go_upto_region 1 with fail
  rw [← hw0]
  have H0 := Lib.hid (And.intro r0 (And.intro n0 (And.intro hs0 hb0)))
  clear r0 n0 hw0 hs0 hb0
  go_wp2_with fail
  refine (newReader_any _ _ _ H0.out.2.2.2).mono ?_
  rintro e w1 ⟨rfl, hr1, hn1⟩
  obtain ⟨g, hg⟩ : ∃ g, g = w0.heap.size := ⟨_, rfl⟩
  have hg0 : w.heap.size < g := by rw [hg]; exact H0.out.2.2.1
  rw [← hg] at hr1
  have H1 := Lib.hid (And.intro hr1 (And.intro (H0.out.2.1.trans hn1) (H0.out.1.new hn1)))
  have HG := Lib.hid hg
  have hg1 : g < w1.heap.size := hr1.lt
  clear hr1 hn1
  go_wp2_with fail
  rw [← HG.out]
  clear hg
  refine (someScheme_any g 0 _ H1.out.1 (by omega)).mono ?_
  rintro e w2 ⟨p, a, l, c, a', l', c', vs, rows, own, b1, rfl, hss, hl, ho, hp, hr2, hc2⟩
  have hbg := hss.size
  have nA := New.alloc w2 (.cells #[.int .i64 p, .slice a l c, .slice a' l' c'] 38)
  have bA := Blk3.alloc w2 (.int .i64 p) (.slice a l c) (.slice a' l' c') 38
  have H2 := Lib.hid (And.intro (hss.new nA) (And.intro (hr2.new nA) (And.intro bA (And.intro ((H1.out.2.2.chg hc2 (fun e => by omega)).new nA) (Chg.trans (Chg.trans H1.out.2.1 hc2 (fun _ _ x => x.elim) (fun _ _ x => x) (U := (· = g))) nA (fun _ _ x => x) (fun _ _ x => x.elim) (U := (· = g)))))))
  clear hss hr2 hc2 nA bA
  obtain ⟨g6, hg6⟩ : ∃ g6, g6 = w2.heap.size := ⟨_, rfl⟩
  have hg62 : g < g6 ∧ w1.heap.size + 1 ≤ g6 := by omega
  rw [← hg6] at H2
  obtain ⟨c0, c1, c2, _, _, _⟩ := H2.out.2.2.1.cells
  have HG6 := Lib.hid hg6
  go_upto_region 3 with fail
  rw [← HG6.out]
  obtain ⟨w3, hw3⟩ : ∃ w3, w3 = w2.alloc (.cells #[.int .i64 p, .slice a l c, .slice a' l' c'] 38) := ⟨_, rfl⟩
  rw [← hw3] at H2 c0 c1 c2
  rw [← hw3]
  clear hw3 hg6
  go_wp2_with fail
  refine (sharesFor_any g _ _ b1 p _ _ vs rows own _ H2.out.2.1 (by omega) (by omega) H2.out.1 hl ho hp).mono ?_
  rintro e w4 ⟨us, sh, rfl, hos, hfs, hsl, hr4, hc4⟩
  have H4 := Lib.hid (And.intro (H2.out.1.keep hc4 (fun b hb => by have h9 : b = g := hb; omega)) (And.intro hr4 (And.intro (H2.out.2.2.1.chg hc4 (fun e => by omega)) (And.intro (H2.out.2.2.2.1.chg hc4 (fun e => by omega)) (And.intro (Chg.trans H2.out.2.2.2.2 hc4 (fun _ _ x => x) (fun _ _ x => x) (U := (· = g))) (And.intro hos hfs))))))
  have hg63 : g6 < w3.heap.size := H2.out.2.2.1.lt
  have hsl' : sh.length ≤ 1001 := hsl
  clear hos hfs hr4 hc4 c0 c1 c2 hsl
  obtain ⟨c0, c1, c2, _, _, _⟩ := H4.out.2.2.1.cells
  obtain ⟨d0, d1, d2, e0, e1, e2⟩ := H4.out.2.2.2.1.cells
  have hne : ¬ g6 = w.heap.size := by omega
  have HNE := Lib.hid hne
  clear hne
  go_upto_region 4 with fail
  go_region_held3 (fun w' => w'.cell? ⟨g6, 0, none⟩ = some (.int .i64 p) ∧ w'.cell? ⟨g6, 1, none⟩ = some (.slice a l c) ∧ w'.cell? ⟨g6, 2, none⟩ = some (.slice a' l' c'))
    (first | exact ⟨K5.out.2.2.1.cells.1, K5.out.2.2.1.cells.2.1, K5.out.2.2.1.cells.2.2.1⟩ | exact ⟨(K5.out.2.2.1.chg (chg3 _ _ _ _ _) (fun e => HNE.out e)).cells.1, (K5.out.2.2.1.chg (chg3 _ _ _ _ _) (fun e => HNE.out e)).cells.2.1, (K5.out.2.2.1.chg (chg3 _ _ _ _ _) (fun e => HNE.out e)).cells.2.2.1⟩ | go_keep)
    (first | (go_at_call 56; refine (groupOf_any g _ _ (H4.out.2.1.new (New.drew _)) (by omega)).mono ?_; rintro e w5 ⟨x, rfl, -, hr5, hc5⟩; have hc6 : Chg (· = g) w4 w5 := Chg.trans (New.drew _) hc5 (fun _ _ x => x.elim) (fun _ _ x => x); have K5 := Lib.hid (And.intro (H4.out.1.keep hc6 (fun b hb => by have h9 : b = g := hb; omega)) (And.intro hr5 (And.intro (H4.out.2.2.1.chg hc6 (fun e => by omega)) (And.intro (H4.out.2.2.2.1.chg hc6 (fun e => by omega)) (And.intro (Chg.trans H4.out.2.2.2.2.1 hc6 (fun _ _ x => x) (fun _ _ x => x) (U := (· = g))) (H4.out.2.2.2.2.2.1.chg hc6 (fun b hb e => by have := H4.out.2.2.2.2.2.2 b hb; have h9 : b = g := e; omega))))))); obtain ⟨f0, f1, f2, y0, y1, y2⟩ := K5.out.2.2.2.1.cells; clear hr5 hc5 hc6))
  go_wp2_with fail
  have k8 : Blk3 _ w.heap.size _ _ _ _ := ((K5.out.2.2.2.1.set0 (.int .i64 p)).set1 (.slice a l c)).set2 (.slice a' l' c')
  obtain ⟨x0, x1, x2, _, _, _⟩ := k8.cells
  refine bodyPost_ret (v := .tuple #[.agg #[.int .i64 p, .slice a l c, .slice a' l' c'], us, .int .i64 x]) (by simp [results, Try.results18, go_sem, x0, x1, x2]) rfl ?_
  have hc := chg3 w5 w.heap.size (.int .i64 p) (.slice a l c) (.slice a' l' c')
  have hs := K5.out.1.keep hc (fun b hb => by have h9 : b = w.heap.size := hb; omega)
  have hall : Chg (fun k => k = g ∨ k = w.heap.size) w _ := Chg.trans K5.out.2.2.2.2.1 hc (fun _ _ x => .inl x) (fun _ _ x => .inr x)
  exact ⟨p, a, l, c, a', l', c', rows, own, us, sh, x, rfl, hs.isR (by omega) (fun i hi => by have := hl.2 i hi; omega), hs.isI (by omega), (K5.out.2.2.2.2.2.chg hc (fun b hb e => by have := H4.out.2.2.2.2.2.2 b hb; have h9 : b = w.heap.size := e; omega)).isI (by unfold Mid; omega), hsl', New.then (Chg.refl _ w) hall (fun i hi => by rcases hi with h | h <;> omega)⟩
end Go.Proofs.Ytahgjfmdafhedaa

namespace Go.Proofs.Ytahgjfmdafhedaa
open Go.RowKit Mat
set_option linter.unusedVariables false

theorem dotTo_sum (p : Int) (xs ys : List Int) : ∀ k, dotTo p xs ys k = sumZ (fun i => gi xs i * gi ys i) k % p
  | 0 => by simp [dotTo, sumZ]
  | k + 1 => by rw [dotTo, sumZ, dotTo_sum p xs ys k, Int.emod_add_emod]
theorem phi_sumZ {q : Nat} [NeZero q] (f : Nat → Int) : ∀ k, phi q (sumZ f k) = sm (fun i => phi q (f i)) k
  | 0 => phi_zero
  | k + 1 => by rw [sumZ, phi_add, phi_sumZ f k]; rfl

/-- The t-th list has the shares of the first k rows of the group. -/
def fineB (q n : Nat) (rows : List (List Int)) (own sh : List Int) (s t : Nat) : Nat → Bool
  | 0 => true
  | k + 1 => fineB q n rows own sh s t k && decide (dotTo q (gr rows (gi (idxTo own s rows.length) k).toNat) (msg q n t) n = gi sh (gi (idxTo own s rows.length) k).toNat)
theorem fine_at {q n : Nat} {rows : List (List Int)} {own sh : List Int} {s t : Nat} : ∀ {k}, fineB q n rows own sh s t k = true → ∀ j, j < k → dotTo q (gr rows (gi (idxTo own s rows.length) j).toNat) (msg q n t) n = gi sh (gi (idxTo own s rows.length) j).toNat
  | 0, _, j, h => by omega
  | k + 1, h, j, hj => by
    rw [fineB, Bool.and_eq_true, decide_eq_true_eq] at h
    by_cases e : j = k
    · subst e; exact h.2
    · exact fine_at h.1 j (by omega)
/-- All shares of the group. -/
def allB (q n : Nat) (rows : List (List Int)) (own sh : List Int) (s t : Nat) : Bool := fineB q n rows own sh s t (idxTo own s rows.length).length
/-- How many of the first lists with each secret have the shares. -/
def posTo (q n : Nat) (rows : List (List Int)) (own sh : List Int) (s : Nat) : Nat → List Int
  | 0 => List.replicate q 0
  | t + 1 => if allB q n rows own sh s t then bump (posTo q n rows own sh s t) (gi (msg q n t) 0).toNat else posTo q n rows own sh s t
theorem posTo_length (q n : Nat) (rows : List (List Int)) (own sh : List Int) (s : Nat) : ∀ t, (posTo q n rows own sh s t).length = q
  | 0 => List.length_replicate
  | t + 1 => by
    have := posTo_length q n rows own sh s t
    rw [posTo]
    split
    · unfold bump; rw [List.length_set]; exact this
    · exact this
theorem posTo_range (q n : Nat) (rows : List (List Int)) (own sh : List Int) (s : Nat) : ∀ t i, 0 ≤ gi (posTo q n rows own sh s t) i ∧ gi (posTo q n rows own sh s t) i ≤ t
  | 0, i => by rw [posTo, gi_replicate]; omega
  | t + 1, i => by
    have h := posTo_range q n rows own sh s t
    rw [posTo]
    split
    · by_cases c : i < (posTo q n rows own sh s t).length
      · rw [bump_get c]
        have h1 := h i
        have h2 := h (gi (msg q n t) 0).toNat
        split <;> omega
      · unfold gi
        rw [List.getD_eq_getElem?_getD, List.getElem?_eq_none (by rw [bump_length]; omega)]
        simp; omega
    · have := h i; omega
theorem fine_secret {q n t s : Nat} [NeZero q] (hq : 2 ≤ q) (hn : 1 ≤ n) {rows : List (List Int)} {own sh f : List Int} (hb : SolB q (grpTo rows own s rows.length) (unitG n) f true) (ha : allB q n rows own sh s t = true) :
    gi (msg q n t) 0 = secZ own sh f s rows.length % q := by
  obtain ⟨hf, hu, _⟩ := hb.1 rfl
  have hm := (msg_good (q := q) (k := n) (t := t) (by omega)).2 0 (by omega)
  refine phi_eq_of_range hm.1 hm.2 (Int.emod_nonneg _ (by omega)) (Int.emod_lt_of_pos _ (by omega)) ?_
  rw [phi_emod]
  have h1 : phi q (gi (msg q n t) 0) = dt n (vec q (unitG n)) (vec q (msg q n t)) := by
    unfold dt
    rw [sm_single 0 (by omega) (fun i hi hne => by
      have : vec q (unitG n) i = 0 := by
        unfold vec unitG
        rw [gi_set (by rw [List.length_replicate]; exact hi), if_neg (by omega), gi_replicate, phi_zero]
      rw [this]; grind)]
    have : vec q (unitG n) 0 = 1 := by unfold vec; rw [unitG_zero hn, phi_one]
    rw [this]
    show vec q (msg q n t) 0 = _
    grind
  rw [h1]
  unfold secZ
  rw [phi_sumZ]
  unfold dt
  rw [sm_congr (g := fun k => sm (fun i => vec q (msg q n t) k * (vec q f i * mat q (grpTo rows own s rows.length) i k)) (grpTo rows own s rows.length).length) (fun k hk => by
    rw [hu k, sm_mul]; grind)]
  rw [sm_comm, grpTo_length]
  refine sm_congr (fun j hj => ?_)
  have h2 := fine_at ha j hj
  rw [phi_mul, ← h2, dotTo_dt, ← grpTo_get rows own s rows.length j hj]
  unfold dt
  rw [show (sm (fun i => vec q (gr (grpTo rows own s rows.length) j) i * vec q (msg q n t) i) n) * phi q (gi f j) = phi q (gi f j) * sm (fun i => vec q (gr (grpTo rows own s rows.length) j) i * vec q (msg q n t) i) n by grind, ← sm_mul]
  exact sm_congr (fun k hk => by show vec q (msg q n t) k * (phi q (gi f j) * vec q (gr (grpTo rows own s rows.length) j) k) = _; grind)
/-- All fine lists have one secret: then all counts stand there. -/
theorem pos_one {q n s : Nat} (hq : 2 ≤ q) (hn : 1 ≤ n) {rows : List (List Int)} {own sh : List Int} {x : Nat} (hx : x < q) : ∀ {T : Nat}, (∀ t, t < T → allB q n rows own sh s t = true → gi (msg q n t) 0 = x) → ∃ c : Int, posTo q n rows own sh s T = (List.replicate q (0 : Int)).set x c
  | 0, _ => ⟨0, by
    rw [posTo]
    exact ext_gi (by simp) (fun i hi => by
      rw [List.length_replicate] at hi
      rw [gi_set (by rw [List.length_replicate]; exact hi)]
      split <;> simp [gi_replicate])⟩
  | T + 1, h => by
    obtain ⟨c, hc⟩ := pos_one (T := T) hq hn hx (fun t ht => h t (by omega))
    rw [posTo]
    split
    · rename_i ha
      rw [h T (by omega) ha, hc, Int.toNat_natCast]
      unfold bump
      rw [List.set_set]
      exact ⟨_, rfl⟩
    · exact ⟨c, hc⟩
theorem one_total {q x : Nat} (hx : x < q) (c : Int) : totL ((List.replicate q (0 : Int)).set x c) = gi ((List.replicate q (0 : Int)).set x c) x := by
  have h : ∀ i, i < q → gi ((List.replicate q (0 : Int)).set x c) i = if x = i then c else 0 := fun i hi => by
    rw [gi_set (by rw [List.length_replicate]; exact hi)]
    split
    · rfl
    · exact gi_replicate _ _
  unfold totL
  rw [List.length_set, List.length_replicate, h x hx, if_pos rfl]
  rw [sumZ_congr (g := fun i => if x = i then c else 0) h]
  have h2 : ∀ k, sumZ (fun i => if x = i then c else 0) k = if x < k then c else 0 := by
    intro k
    induction k with
    | zero => simp [sumZ]
    | succ k ih =>
      rw [sumZ, ih]
      by_cases e : x = k
      · subst e; simp
      · rw [if_neg e]
        by_cases e2 : x < k
        · rw [if_pos e2, if_pos (by omega)]; omega
        · rw [if_neg e2, if_neg (by omega)]; omega
  rw [h2, if_pos hx]
end Go.Proofs.Ytahgjfmdafhedaa
