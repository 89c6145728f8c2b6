/- spec.reduce hands back the reduced rows, in blocks of its own. -/
import Derived.Test.YteoiaicpdmlecaaReduced
namespace Go.Proofs.Yteoiaicpdmlecaa
open Go.RowKit Mat
set_option linter.unusedVariables false

/-- The picked row goes, the row at its place moves to where it was, and a new row comes in its place. -/
theorem OwnR.put {w w2 : World} {eo ei : TypeId} {g n cap : Nat} {vs : List Value} {rows : List (List Int)} (h : OwnR w eo ei (.slice (some ⟨g, 0, none⟩) n cap) vs rows) (hne : eo ≠ ei) {q a : Nat} (hq : q < rows.length) (ha : a < rows.length)
    {v' : Value} {xs : List Int} (hn : New (w.setCell ⟨g, q, none⟩ (gv vs a)) w2) (hv : Own w2 ei v' (xs.map (Value.int .i64))) (hf : From w.heap.size v') :
    OwnR (w2.setCell ⟨g, a, none⟩ v') eo ei (.slice (some ⟨g, 0, none⟩) n cap) ((vs.set q (gv vs a)).set a v') ((rows.set q (gr rows a)).set a xs) ∧ Chg (· = g) w (w2.setCell ⟨g, a, none⟩ v') := by
  have hl := h.len
  have hc : Chg (· = g) w (w2.setCell ⟨g, a, none⟩ v') := Chg.trans (Chg.trans (Chg.setCell w ⟨g, q, none⟩ (gv vs a)) hn (U := (· = g)) (fun _ _ x => x) (fun _ _ x => x.elim)) (Chg.setCell _ _ _) (fun _ _ x => x) (fun _ _ x => x)
  have hg : g < w.heap.size := h.outer.lt (g := g) rfl
  have gvs : ∀ i, i < rows.length → gv ((vs.set q (gv vs a)).set a v') i = if a = i then v' else if q = i then gv vs a else gv vs i := fun i hi => by
    rw [gv_lt (by simp; omega), List.getElem_set]
    split
    · rfl
    · rw [List.getElem_set]
      split
      · rfl
      · exact (gv_lt (by omega)).symm
  have grs : ∀ i, i < rows.length → gr ((rows.set q (gr rows a)).set a xs) i = if a = i then xs else if q = i then gr rows a else gr rows i := fun i hi => by
    rw [gr_set (by simpa using hi), gr_set hi]
  have old : ∀ i, i < rows.length → Own (w2.setCell ⟨g, a, none⟩ v') ei (gv vs i) ((gr rows i).map (Value.int .i64)) := fun i hi =>
    (h.inner i hi).chg hc (fun x hx e => h.outer_apart hne hi g rfl (by rw [hx, e]))
  have new : Own (w2.setCell ⟨g, a, none⟩ v') ei v' (xs.map (Value.int .i64)) := hv.chg (Chg.setCell _ _ _) (fun x hx e => by have := hf x hx; simp only at e; omega)
  have apn : ∀ i, i < rows.length → Apart (gv vs i) v' := fun i hi => From.apart hf (h.inner i hi)
  refine ⟨⟨((h.outer.set q _).new hn).set a _, by simp [hl], fun i hi => ?_, fun i k hi hk hne' => ?_⟩, hc⟩
  · simp at hi
    rw [gvs i hi, grs i hi]
    split
    · exact new
    · split
      · exact old a ha
      · exact old i hi
  · simp at hi hk
    rw [gvs i hi, gvs k hk]
    split
    · rename_i e1
      rw [if_neg (by omega)]
      split
      · exact (apn a ha).symm
      · exact (apn k hk).symm
    · split
      · rename_i e1 e2
        split
        · exact apn a ha
        · rw [if_neg (by omega)]; exact h.apart a k ha hk (by omega)
      · split
        · exact apn i hi
        · split
          · exact h.apart i a hi ha (by omega)
          · exact h.apart i k hi hk hne'

/-- The first rows of what is owned. -/
theorem OwnR.front {w : World} {eo ei : TypeId} {ao : Option Addr} {n cap : Nat} {vs : List Value} {rows : List (List Int)} (h : OwnR w eo ei (.slice ao n cap) vs rows) {k : Nat} (hk : k ≤ rows.length) :
    OwnR w eo ei (.slice ao k cap) (vs.take k) (rows.take k) := by
  have hl := h.len
  have e1 : ∀ i, i < k → gv (vs.take k) i = gv vs i := fun i hi => by rw [gv_lt (by simp; omega), gv_lt (by omega), List.getElem_take]
  refine ⟨?_, by simp [hl], fun i hi => ?_, fun i j hi hj hne => ?_⟩
  · rcases h.outer with ⟨h0, h1⟩ | ⟨g, cap', cur, hv, hh, h1, h2, h3, ht⟩
    · simp at h0
      obtain ⟨rfl, rfl, rfl⟩ := h0
      subst h1
      have : rows.length = 0 := by simpa using hl.symm
      exact .inl ⟨by simp; omega, by simp⟩
    · simp at hv
      obtain ⟨rfl, rfl, rfl⟩ := hv
      refine .inr ⟨g, cap, cur, by simp; omega, hh, by simp; omega, h2, h3, ?_⟩
      rw [List.length_take, Nat.min_eq_left (by omega), ← ht, List.take_take]
      simp; omega
  · simp at hi
    rw [e1 i (by omega), gr_take (by omega) (by omega)]; exact h.inner i (by omega)
  · simp at hi hj
    rw [e1 i (by omega), e1 j (by omega)]; exact h.apart i j (by omega) (by omega) hne

theorem OwnR.len' {w : World} {eo ei : TypeId} {ao : Option Addr} {n cap : Nat} {vs : List Value} {rows : List (List Int)} (h : OwnR w eo ei (.slice ao n cap) vs rows) : n = rows.length := by rw [h.outer.len, h.len]

/-- A row of rows that are owned, laid open. -/
theorem OwnR.row {w : World} {eo ei : TypeId} {g n cap : Nat} {vs : List Value} {rows : List (List Int)} (h : OwnR w eo ei (.slice (some ⟨g, 0, none⟩) n cap) vs rows) {i : Nat} (hi : i < rows.length) (hm : Mid (gr rows i).length) :
    ∃ a n c, gv vs i = .slice a n c ∧ Hid (n = (gr rows i).length) ∧ w.cell? ⟨g, i, none⟩ = some (.slice a n c) ∧ w.frozen? ⟨g, i, none⟩ = false ∧ Hid (Own w ei (.slice a n c) ((gr rows i).map (Value.int .i64))) := by
  obtain ⟨a, n, c, e, H, _⟩ := (h.inner i hi).opened (by rw [List.length_map]; exact hm)
  have hc := h.outer.cell (i := i) (by rw [h.len]; exact hi)
  have ho := h.inner i hi
  rw [e] at hc ho
  exact ⟨a, n, c, e, by have := H.out; rw [List.length_map] at this; exact this, hc.1, hc.2, ho⟩

set_option maxRecDepth 100000 in
set_option maxHeartbeats 8000000 in
theorem reduce_any (q : Nat) [NeZero q] (hq : Pr q) (n : Nat) (hn : n ≤ 7) (v : Value) (rows : List (List Int)) (w : World) (hr : IsR w v rows) (hg : GoodRows q n rows) (hl : 1 ≤ rows.length ∧ rows.length ≤ 7) :
    Calls Try.prog 90 #[.int .i64 q, v] w fun e w' => ∃ u vs out, e = .returned u ∧ OwnR w' 31 3 u vs out ∧ FromR w.heap.size u vs out ∧ IsRed q n rows out ∧ New w w' := by
  have hqp := hq.pos
  have hq1 : (2 : Int) ≤ q ∧ (q : Int) ≤ 7 := by omega
  have HR := Lib.hid hr
  have HQ := Lib.hid hq
  have HG := Lib.hid hg
  have hpb : prB q = true := by rw [prB_iff]; have := hq; unfold Pr at this; omega
  have HPB := Lib.hid hpb
  clear hr hq hg hqp hpb
  go_enter Try.func90, Try.ntmps90
  go_wp2_with fail
  refine (copyRows_any _ _ _ HR.out).mono ?_
  rintro e w1 ⟨u, vs0, rfl, ho, hf, hn1⟩
  obtain ⟨m, hm⟩ : ∃ m, m = rows.length := ⟨_, rfl⟩
  obtain ⟨a5, m', c5, rfl, _, _, HCAP⟩ := ho.outer.opened (by rw [ho.len]; unfold Mid; omega)
  obtain rfl : m' = m := by rw [hm]; exact ho.len'
  have HM := Lib.hid hm
  have hm7 : 1 ≤ m' ∧ m' ≤ 7 := by rw [hm]; exact hl
  obtain ⟨g, rfl⟩ := ho.outer.head (i := 0) (by rw [ho.len]; omega)
  have HO := Lib.hid ho
  have HF := Lib.hid hf
  have HN1 := Lib.hid hn1
  clear ho hf hn1 hm hl
  go_wp2_with fail
  go_loopw [6, 7] (fun t6 t7 wr => ∃ (at' c : Nat) (vs : List Value) (a : List (List Int)) (ld : Nat → Nat), t6 = .int .i64 at' ∧ t7 = .int .i64 c ∧ c ≤ n ∧ OwnR wr 31 3 (.slice (some ⟨g, 0, none⟩) m' c5) vs a ∧ FromR w.heap.size (.slice (some ⟨g, 0, none⟩) m' c5) vs a ∧ Inv2 q n rows a at' c ld ∧ New w wr) (fun _ c _ => n - (intOf c).toNat)
  case atStart => exact ⟨0, 0, vs0, rows, _, rfl, rfl, Nat.zero_le _, HO.out, HF.out, Inv2.start HG.out, HN1.out⟩
  case round =>
    clear HO HF HN1
    obtain ⟨at', c, vs, a, ld, rfl, rfl, hc, ho, hf, hinv, hnew⟩ := hrel
    have ham : a.length = m' := by rw [hinv.len, HM.out]
    have hat : at' ≤ m' := by rw [← ham]; exact hinv.atle
    have HA := Lib.hid ham
    have HO := Lib.hid ho
    have HF := Lib.hid hf
    have HI := Lib.hid hinv
    have HW := Lib.hid hnew
    clear ho hf hinv hnew ham
    have hmid : ∀ i, i < a.length → Mid (gr a i).length := fun i hi => (HI.out.good i hi).mid (by omega)
    have HMID := Lib.hid hmid
    clear hmid
    obtain ⟨a0, n0, c0, _, HN0, cell0, _, _⟩ := HO.out.row (i := 0) (by rw [HA.out]; omega) (HMID.out 0 (by rw [HA.out]; omega))
    have e0 : n0 = n := by rw [HN0.out]; exact (HI.out.good 0 (by rw [HA.out]; omega)).1
    subst e0
    by_cases hcn : c < n0
    · go_wp2_with fail
      obtain ⟨wo, hwo⟩ : ∃ wo : World, wo = wr := ⟨_, rfl⟩
      rw [← hwo]
      rw [← hwo] at HO HW cell0
      clear hwo
      go_loop [8, 9] (fun t8 t9 => ∃ (i : Nat) (pk : Int), t9 = .int .i64 i ∧ t8 = .int .i64 pk ∧ at' ≤ i ∧ i ≤ m' ∧ ((pk = -1 ∧ ∀ j, at' ≤ j → j < i → gi (gr a j) c = 0) ∨ (∃ k : Nat, pk = k ∧ at' ≤ k ∧ k < i ∧ gi (gr a k) c ≠ 0))) (fun _ i => m' - (intOf i).toNat)
      case atStart => exact ⟨at', -1, rfl, rfl, Nat.le_refl _, hat, .inl ⟨rfl, fun j h1 h2 => by omega⟩⟩
      case round =>
        obtain ⟨i, pk, rfl, rfl, hi1, hi2, hpk⟩ := hrel
        by_cases him : i < m'
        · have hia : i < a.length := by rw [HA.out]; exact him
          rcases hpk with ⟨rfl, hz⟩ | ⟨k, rfl, hk1, hk2, hk3⟩
          · have HZ := Lib.hid hz
            clear hz
            obtain ⟨ai, ni, ci, _, HNI, celli, _, HOI⟩ := HO.out.row hia (HMID.out i hia)
            have hgi := HI.out.good i hia
            have hni : c < ni := by rw [HNI.out, hgi.1]; exact hcn
            obtain ⟨gi', rfl⟩ := HOI.out.head (i := c) (by rw [List.length_map, hgi.1]; exact hcn)
            have cellc := HOI.out.num (i := c) (by rw [hgi.1]; exact hcn)
            clear hgi
            by_cases h0 : gi (gr a i) c = 0
            · have H0 := Lib.hid h0
              rw [h0] at cellc
              clear h0
              go_wp2_with fail
              go_round
              case rel =>
                refine ⟨i + 1, -1, by go_num, rfl, by omega, by omega, .inl ⟨rfl, fun j h1 h2 => ?_⟩⟩
                by_cases e : j = i
                · rw [e]; exact H0.out
                · exact HZ.out j h1 (by omega)
              case measure => simp [intOf]; omega
            · have hb : (gi (gr a i) c != 0) = true := by simpa using h0
              have H0 := Lib.hid h0
              clear h0
              go_wp2_with fail
              go_round
              case rel => exact ⟨i + 1, i, by go_num, rfl, by omega, by omega, .inr ⟨i, rfl, hi1, by omega, H0.out⟩⟩
              case measure => simp [intOf]; omega
          · have H3 := Lib.hid hk3
            clear hk3
            go_wp2_with fail
            go_round
            case rel => exact ⟨i + 1, k, by go_num, rfl, by omega, by omega, .inr ⟨k, rfl, hk1, by omega, H3.out⟩⟩
            case measure => simp [intOf]; omega
        · obtain rfl : i = m' := by omega
          rcases hpk with ⟨rfl, hz⟩ | ⟨k, rfl, hk1, hk2, hk3⟩
          · have HZ := Lib.hid hz
            clear hz
            go_wp2_with fail
            go_roundw
            case rel => exact ⟨at', c + 1, vs, a, ld, rfl, by go_num, by omega, HO.out, HF.out, HI.out.skip (fun j h1 h2 => HZ.out j h1 (by rw [HA.out] at h2; exact h2)), HW.out⟩
            case measure => simp [intOf]; omega
          · have hka : k < a.length := by rw [HA.out]; exact hk2
            have hata : at' < a.length := by rw [HA.out]; omega
            obtain ⟨ak, nk, ck, ek, HNK, cellk, fk, HOK⟩ := HO.out.row hka (HMID.out k hka)
            have hgk := HI.out.good k hka
            have enk : nk = n0 := by rw [HNK.out]; exact hgk.1
            subst enk
            obtain ⟨gk, rfl⟩ := HOK.out.head (i := c) (by rw [List.length_map, hgk.1]; exact hcn)
            obtain ⟨row, hrow⟩ : ∃ r, r = gr a k := ⟨_, rfl⟩
            rw [← hrow] at HNK HOK hgk hk3
            have hbk := hgk.2 c hcn
            have hiv := invZ_spec HPB.out (x := gi row c) (by omega) (by omega)
            obtain ⟨f, hf0⟩ : ∃ f, f = invZ q (gi row c) := ⟨_, rfl⟩
            rw [← hf0] at hiv
            have hf1 := hiv.1
            have hf2 := hiv.2.1
            have HF0 := Lib.hid hf0
            have HROW := Lib.hid hrow
            have HGK := Lib.hid hgk
            have H3 := Lib.hid hk3
            have EK := Lib.hid ek
            clear hiv hf0 hrow hgk hk3 ek
            obtain ⟨at0, nt, ct, et, HNT, cellt, ft, _⟩ := HO.out.row hata (HMID.out at' hata)
            have ET := Lib.hid et
            clear et
            -- the world behind the store of the row that moves
            have hc1 : Chg (· = g) wo (wo.setCell ⟨g, k, none⟩ (.slice at0 nt ct)) := Chg.setCell wo ⟨g, k, none⟩ _
            have hrow1 : Own (wo.setCell ⟨g, k, none⟩ (.slice at0 nt ct)) 3 (.slice (some ⟨gk, 0, none⟩) nk ck) (row.map (Value.int .i64)) :=
              HOK.out.chg hc1 (fun x hx e => HO.out.outer_apart (by decide) hka g rfl (by rw [EK.out, hx, e]))
            have cellc := hrow1.num (i := c) (by rw [HGK.out.1]; exact hcn)
            have HR1 := Lib.hid hrow1
            clear hrow1 hc1
            go_wp2_with fail
            refine (specInverse_any _ _ _ HPB.out (by have := H3.out; omega) (by omega)).mono ?_
            rintro e w2 ⟨rfl, rfl⟩
            rw [← HF0.out]
            have hal : at' < (vs.set k (.slice at0 nt ct)).length := by rw [List.length_set, HO.out.len]; exact hata
            go_wp2_with (at_make; refine wpList_mk rfl _ _ _ rfl tyInt _ _ _ _ nk nk rfl rfl rfl rfl (Nat.le_refl _) (by omega) ?_; intro v3 w3 hv3 ho3 hn3 hs3; subst hv3; have hcat := ((HO.out.outer.set k (.slice at0 nt ct)).new hn3).cell (i := at') hal; obtain ⟨cat, fat⟩ := hcat; have HO3 := Lib.hid ho3; have HN3 := Lib.hid hn3; clear ho3 hn3 hs3)
            obtain ⟨v3, hv3⟩ : ∃ v3 : Value, v3 = .slice (some ⟨wo.heap.size, 0, none⟩) nk nk := ⟨_, rfl⟩
            have hfr3 : From wo.heap.size (.slice (some ⟨wo.heap.size, 0, none⟩) nk nk) := From.new _ _ _
            have ho3' : Own w3 3 (.slice (some ⟨wo.heap.size, 0, none⟩) nk nk) ((List.replicate nk 0).map (Value.int .i64)) := by have hh := HO3.out; rw [World.size_setCell] at hh; rw [List.map_replicate]; exact hh
            have hput := OwnR.put HO.out (by decide) hka hata (by rw [ET.out]; exact HN3.out) ho3' hfr3
            rw [ET.out] at hput
            have hgg : g < wo.heap.size := HO.out.outer.lt (g := g) rfl
            have hgk1 : gk < wo.heap.size := HOK.out.lt (g := gk) rfl
            have hrow4 : Own (w3.setCell ⟨g, at', none⟩ (.slice (some ⟨wo.heap.size, 0, none⟩) nk nk)) 3 (.slice (some ⟨gk, 0, none⟩) nk ck) (row.map (Value.int .i64)) :=
              HOK.out.chg hput.2 (fun x hx e => HO.out.outer_apart (by decide) hka g rfl (by rw [EK.out, hx, e]))
            have hv4 : Own (w3.setCell ⟨g, at', none⟩ (.slice (some ⟨wo.heap.size, 0, none⟩) nk nk)) 3 (.slice (some ⟨wo.heap.size, 0, none⟩) nk nk) ((List.replicate nk 0).map (Value.int .i64)) :=
              ho3'.chg (Chg.setCell w3 ⟨g, at', none⟩ _) (fun x hx e => by have := hfr3 x hx; simp only at e; omega)
            have hcell4 := (hput.1.outer.cell (i := at') (by rw [hput.1.len]; simpa using hata)).1
            rw [gv_lt (by rw [hput.1.len]; simpa using hata), List.getElem_set_self] at hcell4
            obtain ⟨w4, hw4⟩ : ∃ w4 : World, w4 = w3.setCell ⟨g, at', none⟩ (.slice (some ⟨wo.heap.size, 0, none⟩) nk nk) := ⟨_, rfl⟩
            rw [← hw4] at hput hrow4 hv4 hcell4
            rw [← hw4]
            have HPUT := Lib.hid hput
            have HROW4 := Lib.hid hrow4
            have HV4 := Lib.hid hv4
            clear hw4 hput hrow4 hv4 ho3' cat fat cellk fk cellt ft cellc cell0 hal hfr3 hv3 v3 HO3 HN3 HR1
            have hlen : row.length = nk := HGK.out.1
            have HLEN := Lib.hid hlen
            clear hlen
            go_loopw [12] (fun t12 wy => ∃ (j : Nat), t12 = .int .i64 j ∧ j ≤ nk ∧ Own wy 3 (.slice (some ⟨wo.heap.size, 0, none⟩) nk nk) ((addTo q (List.replicate nk 0) f row j).map (Value.int .i64)) ∧ Chg (· = wo.heap.size) w4 wy) (fun j _ => nk - (intOf j).toNat)
            case atStart => exact ⟨0, rfl, Nat.zero_le _, by rw [addTo_zero]; exact HV4.out, Chg.refl _ _⟩
            case round =>
              obtain ⟨j, rfl, hj, hown, hchg⟩ := hrel
              have HY := Lib.hid hown
              have HC := Lib.hid hchg
              clear hown hchg
              by_cases hjn : j < nk
              · have c1 := HC.out.cell hcell4 (by simp only; omega)
                have c2 := (HROW4.out.chg HC.out (fun x hx e => by simp [Value.ownBlock] at hx; omega)).num (i := j) (by rw [HLEN.out]; exact hjn)
                obtain ⟨c3, f3⟩ := HY.out.cell (i := j) (by rw [List.length_map, addTo_length]; simpa using hjn)
                have hbj := HGK.out.2 j hjn
                have hms := mul_small (x := gi row j) (y := f) (by omega) (by omega) (by omega) (by omega)
                go_wp2_with fail
                go_region
                all_goals go_wp2_with fail
                all_goals go_roundw
                case rel =>
                  have hst := (HY.out.set j (.int .i64 (gi row j * f % q))).new (New.drew _)
                  rw [set_map_int] at hst
                  have e1 : gi row j * f % q = (gi (List.replicate nk 0) j + f * gi row j) % q := by rw [gi_replicate, Int.zero_add, Int.mul_comm]
                  rw [e1, addTo_succ _ _ _ _ _ (by simpa using hjn), ← e1] at hst
                  exact ⟨j + 1, by go_num, by omega, hst, Chg.trans (Chg.trans HC.out (Chg.setCell _ _ _) (U := (· = wo.heap.size)) (fun _ _ x => x) (fun _ _ x => x)) (New.drew _) (fun _ _ x => x) (fun _ _ x => x.elim)⟩
                case measure => simp [intOf]; omega
              · obtain rfl : j = nk := by omega
                have eprow : addTo q (List.replicate j 0) f row j = scaleZ q (gr a k) (invZ q (gi (gr a k) c)) := by
                  rw [← HROW.out, ← HF0.out]; unfold scaleZ addZ; rw [HLEN.out]
                obtain ⟨prow, hpr⟩ : ∃ r, r = scaleZ q (gr a k) (invZ q (gi (gr a k) c)) := ⟨_, rfl⟩
                rw [eprow, ← hpr] at HY
                have hgp : GoodRow q j prow := by rw [hpr]; exact scale_good (by omega) (by rw [← HROW.out]; exact HLEN.out)
                have HGP := Lib.hid hgp
                obtain ⟨A1, hA1⟩ : ∃ A, A = swapIn q a at' c k := ⟨_, rfl⟩
                obtain ⟨vs1, hvs1⟩ : ∃ l, l = (vs.set k (.slice at0 nt ct)).set at' (.slice (some ⟨wo.heap.size, 0, none⟩) j j) := ⟨_, rfl⟩
                have hA1l : A1.length = i := by rw [hA1]; simp [swapIn]; exact HA.out
                have hvat : gv vs1 at' = .slice (some ⟨wo.heap.size, 0, none⟩) j j := by
                  rw [hvs1, gv_lt (by simp [HO.out.len]; exact hata), List.getElem_set_self]
                have hown : OwnR wr 31 3 (.slice (some ⟨g, 0, none⟩) i c5) vs1 A1 := by
                  have h1 := HPUT.out.1.turn (by decide) (i := at') (xs := prow) (by simpa using hata) HC.out (fun x hx => by rw [← hvs1, hvat, hx]; rfl) (by rw [← hvs1, hvat]; exact HY.out)
                  rw [← hvs1, List.set_set, hpr] at h1
                  rw [hA1, swapIn]
                  exact h1
                have hgA : ∀ x, x < A1.length → GoodRow q j (gr A1 x) := fun x hx => by
                  rw [hA1]
                  rw [hA1l] at hx
                  unfold swapIn
                  rw [gr_set (by simp; rw [HA.out]; exact hx), gr_set (by rw [HA.out]; exact hx), ← hpr]
                  split
                  · exact hgp
                  · split
                    · exact HI.out.good _ hata
                    · exact HI.out.good _ (by rw [HA.out]; exact hx)
                have hfr1 : ∀ x, x < i → From w.heap.size (gv vs1 x) := fun x hx => by
                  rw [hvs1, gv_lt (by simp [HO.out.len, HA.out]; exact hx), List.getElem_set]
                  split
                  · exact (From.new _ _ _).mono HW.out.size
                  · rw [List.getElem_set]
                    split
                    · rw [← ET.out]; exact HF.out.2 at' hata
                    · rw [← gv_lt (by rw [HO.out.len, HA.out]; exact hx)]; exact HF.out.2 x (by rw [HA.out]; exact hx)
                have HA1 := Lib.hid hA1
                have HA1L := Lib.hid hA1l
                have HVAT := Lib.hid hvat
                have HO5 := Lib.hid hown
                have HGA := Lib.hid hgA
                have HFR1 := Lib.hid hfr1
                have HPR := Lib.hid hpr
                have HC5 := Lib.hid (Chg.trans HPUT.out.2 HC.out (U := (· = g)) (fun _ _ x => x) (fun x hx e => by omega))
                clear hA1 hA1l hvat hown hgA hfr1 hpr hvs1 hgp eprow hcell4
                go_wp2_with fail
                obtain ⟨w5, hw5⟩ : ∃ w5 : World, w5 = wr := ⟨_, rfl⟩
                rw [← hw5] at HO5 HC5
                rw [← hw5]
                clear hw5
                go_loopw [11, 13] (fun t11 t13 wy => ∃ (x : Nat), t13 = .int .i64 x ∧ x ≤ i ∧ OwnR wy 31 3 (.slice (some ⟨g, 0, none⟩) i c5) vs1 (updTo q at' c prow A1 x) ∧ Chg (fun b => ∃ y, y < i ∧ (gv vs1 y).ownBlock = some b) w5 wy) (fun _ x _ => i - (intOf x).toNat)
                case atStart => exact ⟨0, rfl, Nat.zero_le _, by rw [updTo_zero]; exact HO5.out, Chg.refl _ _⟩
                case round =>
                  obtain ⟨x, rfl, hx, hown, hchg⟩ := hrel
                  have HU := Lib.hid hown
                  have HC6 := Lib.hid hchg
                  clear hown hchg
                  by_cases hxi : x < i
                  · have hxA : x < (updTo q at' c prow A1 x).length := by rw [updTo_length, HA1L.out]; exact hxi
                    have hxA1 : x < A1.length := by rw [HA1L.out]; exact hxi
                    have hatA : at' < (updTo q at' c prow A1 x).length := by rw [updTo_length, HA1L.out, ← HA.out]; exact hata
                    have hrx : gr (updTo q at' c prow A1 x) x = gr A1 x := by rw [updTo_get _ _ _ _ _ _ hxA1, if_neg (by omega)]
                    have hrat : gr (updTo q at' c prow A1 x) at' = prow := by
                      rw [updTo_get _ _ _ _ _ _ (by rw [HA1L.out, ← HA.out]; exact hata), if_neg (by omega), HA1.out, swapIn, gr_set (by simpa using hata), if_pos rfl, HPR.out]
                    have hgr := HGA.out x hxA1
                    obtain ⟨ax, nx, cx, ex, HNX, cellx, _, HOX⟩ := HU.out.row hxA (by rw [hrx]; exact hgr.mid (by omega))
                    rw [hrx] at HNX HOX
                    obtain ⟨r, hr⟩ : ∃ r, r = gr A1 x := ⟨_, rfl⟩
                    rw [← hr] at HNX HOX hgr
                    have enx : nx = j := by rw [HNX.out]; exact hgr.1
                    subst enx
                    obtain ⟨gx, rfl⟩ := HOX.out.head (i := c) (by rw [List.length_map, hgr.1]; exact hcn)
                    have cxc := HOX.out.num (i := c) (by rw [hgr.1]; exact hcn)
                    have bxc := hgr.2 c hcn
                    obtain ⟨_, _, _, eat, _, cellat, _, HOAT⟩ := HU.out.row hatA (by rw [hrat]; exact HGP.out.mid (by omega))
                    rw [HVAT.out] at eat
                    simp only [Value.slice.injEq] at eat
                    obtain ⟨rfl, rfl, rfl⟩ := eat
                    rw [hrat] at HOAT
                    have HR := Lib.hid hr
                    have HGR := Lib.hid hgr
                    have EX := Lib.hid ex
                    clear hr hgr ex hrx hrat
                    by_cases hxat : x = at'
                    · have hb : decide ((x : Int) ≠ (at' : Int)) = false := by simp; omega
                      have HXAT := Lib.hid hxat
                      subst hxat
                      go_wp2_with fail
                      refine wp_loop_rounds 1 ?_
                      rw [rounds_succ]
                      go_wp2_with fail
                      go_roundw
                      case rel => exact ⟨x + 1, by go_num, by omega, by rw [updTo_skip]; exact HU.out, HC6.out⟩
                      case measure => simp [intOf]; omega
                    · have HXAT := Lib.hid hxat
                      go_wp2_with fail
                      obtain ⟨w6, hw6⟩ : ∃ w6 : World, w6 = wr := ⟨_, rfl⟩
                      rw [← hw6] at HU HC6 HOX HOAT cellx cellat
                      rw [← hw6]
                      clear hw6 cxc
                      have hb1 : ¬ (x : Int) = (at' : Int) := by omega
                      have hgxg : gx ≠ g := fun e => HU.out.outer_apart (by decide) hxA g rfl (by rw [EX.out, e]; rfl)
                      have hgxs : gx ≠ wo.heap.size := fun e => by
                        have hh := HU.out.apart x at' hxA hatA hxat gx (by rw [EX.out]; rfl)
                        rw [HVAT.out, e] at hh; exact hh rfl
                      clear hxat
                      go_loopw [14] (fun t14 wz => ∃ (y : Nat), t14 = .int .i64 y ∧ y ≤ nx ∧ Own wz 3 (.slice (some ⟨gx, 0, none⟩) nx cx) ((addTo q r (q - gi r c) prow y).map (Value.int .i64)) ∧ Chg (· = gx) w6 wz) (fun y _ => nx - (intOf y).toNat)
                      case atStart => exact ⟨0, rfl, Nat.zero_le _, by rw [addTo_zero]; exact HOX.out, Chg.refl _ _⟩
                      case round =>
                        obtain ⟨y, rfl, hy, hown, hchg⟩ := hrel
                        have HZ := Lib.hid hown
                        have HC7 := Lib.hid hchg
                        clear hown hchg
                        by_cases hyn : y < nx
                        · have c1 := HC7.out.cell cellx (by simp only; omega)
                          have c2 := HC7.out.cell cellat (by simp only; omega)
                          obtain ⟨c3, f3⟩ := HZ.out.cell (i := y) (by rw [List.length_map, addTo_length, HGR.out.1]; exact hyn)
                          rw [gv_map_int (by rw [addTo_length, HGR.out.1]; exact hyn), addTo_get _ _ _ _ _ (by rw [HGR.out.1]; exact hyn), if_neg (by omega)] at c3
                          have c4 := (HOAT.out.chg HC7.out (fun z hz e => by simp [Value.ownBlock] at hz; omega)).num (i := y) (by rw [HGP.out.1]; exact hyn)
                          have by1 := HGR.out.2 y hyn
                          have by2 := HGP.out.2 y hyn
                          have hms := mul_small (x := q - gi r c) (y := gi prow y) (by omega) (by omega) (by omega) (by omega)
                          go_wp2_with fail
                          go_region
                          all_goals go_wp2_with fail
                          all_goals go_roundw
                          case rel =>
                            have hst := (HZ.out.set y (.int .i64 ((gi r y + (q - gi r c) * gi prow y) % q))).new (New.drew _)
                            rw [set_map_int, addTo_succ _ _ _ _ _ (by rw [HGR.out.1]; exact hyn)] at hst
                            exact ⟨y + 1, by go_num, by omega, hst, Chg.trans (Chg.trans HC7.out (Chg.setCell _ _ _) (U := (· = gx)) (fun _ _ x => x) (fun _ _ x => x)) (New.drew _) (fun _ _ x => x) (fun _ _ x => x.elim)⟩
                          case measure => simp [intOf]; omega
                        · obtain rfl : y = nx := by omega
                          go_wp2_with fail
                          go_roundw
                          case rel =>
                            refine ⟨x + 1, by go_num, by omega, ?_, Chg.trans HC6.out HC7.out (fun _ _ z => z) (fun b _ z => ⟨x, hxi, by rw [EX.out, z]; rfl⟩)⟩
                            rw [← updTo_succ _ _ _ _ _ _ hxA1 HXAT.out, ← HR.out]
                            refine HU.out.turn (by decide) hxA HC7.out (fun b hb => by rw [EX.out, hb]; rfl) ?_
                            have hz := HZ.out
                            rw [EX.out]
                            unfold updZ addZ
                            rw [HGP.out.1]
                            exact hz
                          case measure => simp [intOf]; omega
                  · obtain rfl : x = i := by omega
                    go_wp2_with fail
                    go_roundw
                    case rel =>
                      have e2 : updTo q at' c prow A1 x = colStep q a at' c k := by
                        unfold colStep; rw [← HA1.out, ← HPR.out, HA.out]
                      refine ⟨at' + 1, c + 1, vs1, colStep q a at' c k, _, by go_num, by go_num, by omega, by rw [← e2]; exact HU.out, ⟨HF.out.1, fun y hy => HFR1.out y (by rw [← e2, updTo_length, HA1L.out] at hy; exact hy)⟩, HI.out.pick HQ.out hcn hk1 hka (by rw [← HROW.out]; exact H3.out), ?_⟩
                      exact HW.out.then (Chg.trans HC5.out HC6.out (U := fun b => b = g ∨ ∃ y, y < x ∧ (gv vs1 y).ownBlock = some b) (fun _ _ z => .inl z) (fun _ _ z => .inr z)) (fun b hb => by
                        rcases hb with rfl | ⟨y, hy, e⟩
                        · exact HF.out.1 b rfl
                        · exact HFR1.out y hy b e)
                    case measure => simp [intOf]; omega
    · obtain rfl : c = n0 := by omega
      have hat2 : at' ≤ a.length := HI.out.atle
      have hat3 : at' ≤ c5 := by have := HCAP.out.1; omega
      clear hc hcn
      go_wp2_with fail
      go_ret
      exact ⟨_, vs.take at', a.take at', rfl, HO.out.front hat2, ⟨HF.out.1, fun y hy => by
        have hl := HO.out.len
        simp at hy
        have := HF.out.2 y (by omega)
        rw [gv_lt (by omega)] at this
        rw [gv_lt (by simp; omega), List.getElem_take]; exact this⟩, HI.out.done HQ.out, HW.out⟩
end Go.Proofs.Yteoiaicpdmlecaa
