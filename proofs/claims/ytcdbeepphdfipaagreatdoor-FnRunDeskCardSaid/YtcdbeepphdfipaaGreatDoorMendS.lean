/- The reference's validLost and mends. -/
import Derived.Test.YtcdbeepphdfipaaGreatDoorWtsN
import Derived.Test.YtcdbeepphdfipaaGreatDoorMsgsS
import Derived.Test.YtcdbeepphdfipaaGreatDoorBase
import Derived.IntWalk
namespace Go.Proofs.YtcdbeepphdfipaaGreatDoor
open Go.RowKit Mat
set_option linter.unusedVariables false

/-- Whether numbers are a word of n numbers of which some are lost. -/
def lostB (p : Int) (kn : List Int) (n : Nat) : Bool := kn.all (fun x => inB x (-1) (p - 1)) && decide (kn.length = n)
theorem lostB_iff {p : Int} {kn : List Int} {n : Nat} : lostB p kn n = true ↔ (∀ i, i < kn.length → -1 ≤ gi kn i ∧ gi kn i ≤ p - 1) ∧ kn.length = n := by
  unfold lostB
  rw [Bool.and_eq_true, decide_eq_true_eq, List.all_eq_true]
  constructor
  · rintro ⟨h1, h2⟩
    exact ⟨fun i hi => by rw [gi_lt hi]; exact inB_iff.1 (h1 _ (List.getElem_mem hi)), h2⟩
  · rintro ⟨h1, h2⟩
    refine ⟨fun x hx => ?_, h2⟩
    obtain ⟨i, hi, rfl⟩ := List.getElem_of_mem hx
    rw [← gi_lt hi]
    exact inB_iff.2 (h1 i hi)
theorem lostB_no {p : Int} {kn : List Int} {n i : Nat} (hi : i < kn.length) (h : inB (gi kn i) (-1) (p - 1) = false) : lostB p kn n = false := by
  cases e : lostB p kn n with
  | false => rfl
  | true =>
    have := inB_iff.2 ((lostB_iff.1 e).1 i hi)
    rw [h] at this; cases this

set_option maxHeartbeats 1000000 in
theorem validLost_any (p : Int) (v vk : Value) (rows : List (List Int)) (kn : List Int) (w : World) (hr : IsR w v rows) (h1 : 1 ≤ rows.length) (hk : IsI w vk kn) (hp : -1000 ≤ p ∧ p ≤ 1000) :
    Calls Tryz.prog 81 #[.agg #[.int .i64 p, v], vk] w fun e w' => e = .returned (.bool (lostB p kn (gr rows 0).length)) ∧ New w w' := by
  obtain ⟨ao, m, cap, rfl, HN, hm⟩ := hr.shape
  obtain ⟨ak, l, ck, rfl, HL, hl⟩ := hk.shape
  have hm1 : 0 < m := by rw [HN.out]; exact h1
  obtain ⟨b0, o0, u0, rfl, cu0, hu0⟩ := hr.at (i := 0) hm1
  rw [Nat.add_zero] at cu0
  obtain ⟨a0, n0, c0, rfl, HN0, hn0⟩ := hu0.shape
  have hal : New w (w.alloc (.cells #[.int .i64 p, .slice (some ⟨b0, o0, none⟩) m cap] 24)) := New.alloc _ _
  have hb := Blk2.alloc w (.int .i64 p) (.slice (some ⟨b0, o0, none⟩) m cap) 24
  have hwp : IntKind.i64.wrap (p - 1) = p - 1 := IntWalk.i64_in _ (by omega)
  obtain ⟨w1, hw1⟩ : ∃ w1 : World, w1 = w.alloc (.cells #[.int .i64 p, .slice (some ⟨b0, o0, none⟩) m cap] 24) := ⟨_, rfl⟩
  have HK := Lib.hid (hk.new hal)
  have cu1 := hal.cellNew cu0
  rw [← hw1] at hal hb cu1
  rw [← hw1] at HK
  have H1 := Lib.hid (And.intro hal (And.intro hb cu1))
  clear hr hk hu0 hal hb cu0 cu1 h1
  go_enter Tryz.func81, Tryz.ntmps81
  go_wp2_with fail
  rw [← hw1]
  clear hw1
  go_loopw [5] (fun i wr => ∃ k d : Nat, i = .int .i64 k ∧ k ≤ l ∧ Hid (wr = w1.drewN d) ∧ Hid (∀ j, j < k → inB (gi kn j) (-1) (p - 1) = true)) (fun i _ => l - (intOf i).toNat)
  case atStart => exact ⟨0, 0, rfl, Nat.zero_le _, rfl, fun j hj => by omega⟩
  case round =>
    obtain ⟨k, d, rfl, hkl, HW, HJ⟩ := hrel
    have hwr : New w1 wr := by rw [HW.out]; exact New.drewN _ _
    obtain ⟨e0, e1, _, _⟩ := (H1.out.2.1.new hwr).cells
    have cu' := hwr.cellNew H1.out.2.2
    have HWR := Lib.hid hwr
    clear hwr
    by_cases hkn : k < l
    · obtain ⟨bx, ox, rfl, cx⟩ := (HK.out.new HWR.out).at hkn
      obtain ⟨x, hx⟩ : ∃ x, x = gi kn k := ⟨_, rfl⟩
      rw [← hx] at cx
      have HX := Lib.hid hx
      clear hx
      cases hb : inB x (-1) (p - 1) with
      | false =>
        have HB := Lib.hid hb
        clear hb
        go_wp2_with fail
        go_quiet ((go_at_call 106; exact Calls.quiet_of_same ((inRange_any _ _ _ _).mono fun e w' h => ⟨h.1, h.2.symm⟩)))
        rw [HB.out]
        go_wp2_with fail
        go_ret
        exact ⟨ret_bool (lostB_no (by rw [← HL.out]; exact hkn) (by rw [← HX.out]; exact HB.out)).symm, (H1.out.1.trans HWR.out).trans (New.drewN _ _)⟩
      | true =>
        have HB := Lib.hid hb
        clear hb
        go_wp2_with fail
        go_quiet ((go_at_call 106; exact Calls.quiet_of_same ((inRange_any _ _ _ _).mono fun e w' h => ⟨h.1, h.2.symm⟩)))
        rw [HB.out]
        go_wp2_with fail
        go_roundw
        case rel => exact ⟨k + 1, _, by go_num, by omega, by show _ = _; rw [HW.out]; exact (World.drewN_drewN _ _ _), fun j hj => by
            by_cases e : j = k
            · rw [e, ← HX.out]; exact HB.out
            · exact HJ.out j (by omega)⟩
        case measure => simp [intOf]; omega
    · obtain rfl : k = l := by omega
      go_wp2_with fail
      go_ret
      refine ⟨ret_bool ?_, H1.out.1.trans HWR.out⟩
      rw [Bool.eq_iff_iff, lostB_iff, beq_iff_eq]
      rw [← HL.out, ← HN0.out]
      constructor
      · intro h; exact ⟨fun i hi => inB_iff.1 (HJ.out i hi), by omega⟩
      · rintro ⟨_, h⟩; omega

/-- It ends with how many messages have a word, and one of them. -/
def MendsQ (q n : Nat) (rows : List (List Int)) (kn : List Int) (w : World) (e : Ending) (w' : World) : Prop :=
  ∃ u, e = .returned (.tuple #[.int .i64 (cntF q n rows kn (q ^ rows.length)), u]) ∧ (1 ≤ cntF q n rows kn (q ^ rows.length) → ∃ t, t < q ^ rows.length ∧ fitB (wordT q n rows t) kn n = true ∧ Own w' 3 u ((msg q rows.length t).map (Value.int .i64)) ∧ From w.heap.size u) ∧ New w w'

set_option maxRecDepth 100000 in
set_option maxHeartbeats 8000000 in
theorem specMends_any (q : Nat) [NeZero q] (n : Nat) (v vk : Value) (rows : List (List Int)) (kn : List Int) (w : World) (hr : IsR w v rows) (hk : IsI w vk kn) (ht : TabOk q n rows) (h4 : rows.length ≤ 4) (hkn : kn.length = n) :
    Calls Tryz.prog 122 #[.agg #[.int .i64 q, v], vk] w fun e w' => MendsQ q n rows kn w e w' := by
  have hq2 := ht.pr.pos
  have hn1 := ht.n1
  have hn7 := ht.n7
  obtain ⟨ao, m, cap, rfl, HN, hm⟩ := hr.shape
  obtain ⟨ak, l, ck, rfl, HL, hl⟩ := hk.shape
  obtain rfl : l = n := by rw [HL.out, hkn]
  have hm1 : 0 < m := by rw [HN.out]; exact ht.r1
  rw [← HN.out] at h4
  have HR := Lib.hid hr
  have HT := Lib.hid ht
  have HK := Lib.hid hk
  clear hr ht hk hkn
  have h1 : New w (w.alloc (.cells #[.int .i64 q, .slice ao m cap] 24)) := New.alloc _ _
  have b1 := Blk2.alloc w (.int .i64 q) (.slice ao m cap) 24
  have h2 : New w ((w.alloc (.cells #[.int .i64 q, .slice ao m cap] 24)).alloc (.cells #[] 3)) := h1.trans (New.alloc _ _)
  have b2 := b1.new (New.alloc (w.alloc (.cells #[.int .i64 q, .slice ao m cap] 24)) (.cells #[] 3))
  obtain ⟨T, hT⟩ : ∃ T, T = q ^ m := ⟨_, rfl⟩
  have hT2401 : T ≤ 2401 := by rw [hT]; exact pow_all hq2.2 h4
  have HTT := Lib.hid hT
  clear hT
  go_enter Tryz.func122, Tryz.ntmps122
  go_wp2_with fail
  refine (specMessages_any q m _ hq2 h4).mono ?_
  rintro e w2 ⟨u4, vs4, rfl, ho4, hf4, hn4⟩
  rw [← HTT.out] at ho4 hf4
  have hov : vs4.length = T := by rw [ho4.len, msgsTo_length]
  obtain ⟨a4, l4, c4, rfl, HL4, _, _⟩ := ho4.outer.opened (by unfold Mid; omega)
  obtain rfl : l4 = T := by rw [HL4.out, hov]
  have H2 := Lib.hid (And.intro ho4 (And.intro (show FromR w.heap.size _ vs4 (msgsTo q m l4) from ⟨hf4.1.mono h2.size, fun i hi => (hf4.2 i hi).mono h2.size⟩) (And.intro (b2.new hn4) (h2.trans hn4))))
  clear ho4 hf4 hn4 b1 b2 h1 h2 hov
  go_wp2_with fail
  go_loopw [6, 7, 9] (fun t6 t7 t9 wr => ∃ t c : Nat, t6 = .int .i64 c ∧ t9 = .int .i64 t ∧ t ≤ l4 ∧ c ≤ t ∧ Hid (c = cntF q l rows kn t) ∧ Hid (1 ≤ c → ∃ s, s < l4 ∧ fitB (wordT q l rows s) kn l = true ∧ Own wr 3 t7 ((msg q m s).map (Value.int .i64)) ∧ From w.heap.size t7) ∧ Hid (New w2 wr)) (fun _ _ t9 _ => l4 - (intOf t9).toNat)
  case atStart => exact ⟨0, 0, rfl, rfl, Nat.zero_le _, Nat.le_refl _, rfl, fun h => by omega, Chg.refl _ _⟩
  case round =>
    obtain ⟨t, c, rfl, rfl, htl, hct, HC, HF, HW⟩ := hrel
    obtain ⟨wz, hwz⟩ : ∃ wz : World, wz = wr := ⟨_, rfl⟩
    rw [← hwz] at HF HW
    rw [← hwz]
    clear hwz
    by_cases htT : t < l4
    · have hoz := H2.out.1.new HW.out
      obtain ⟨g4, rfl⟩ := hoz.outer.head (i := t) (by rw [hoz.len, msgsTo_length]; exact htT)
      have cm := (hoz.outer.cell (i := t) (by rw [hoz.len, msgsTo_length]; exact htT)).1
      have hin := hoz.inner t (by rw [msgsTo_length]; exact htT)
      have hfm := H2.out.2.1.2 t (by rw [msgsTo_length]; exact htT)
      have him := hin.isI (by rw [msgsTo_get htT, msg_length]; unfold Mid; omega)
      rw [msgsTo_get htT] at him hin
      obtain ⟨am, lm, cm', hgv, HLM, hlm⟩ := him.shape
      rw [hgv] at cm him hin hfm
      have HIM := Lib.hid (And.intro him (And.intro hin hfm))
      obtain ⟨f0, f1, _, _⟩ := (H2.out.2.2.1.new HW.out).cells
      have hmg := msg_good (q := q) (k := m) (t := t) (by omega)
      have HMG := Lib.hid hmg
      clear hoz him hgv hmg hin hfm
      go_wp2_with fail
      go_region_held3 (fun w' => w'.cell? ⟨w.heap.size, 0, none⟩ = some (.int .i64 q) ∧ w'.cell? ⟨w.heap.size, 1, none⟩ = some (.slice ao m cap) ∧ w'.cell? ⟨g4, t, none⟩ = some (.slice am lm cm')) (first | exact ⟨HK8.out.cellNew f0, HK8.out.cellNew f1, HK8.out.cellNew cm⟩ | go_keep)
        (first | (go_at_call 55; refine (specEncode_any q l _ _ rows (msg q m t) _ (by omega) (by omega) (HR.out.new ((H2.out.2.2.2.trans HW.out).trans (New.drew _))) (HIM.out.1.new (New.drew _)) (fun i hi => ⟨(HT.out.good i hi).1, fun j hj => by have := (HT.out.good i hi).2 j hj; omega⟩) (by rw [← HN.out]; exact hm1) (by rw [HMG.out.1, HN.out]; exact Nat.le_refl _) (fun i hi => by rw [HMG.out.1] at hi; have := HMG.out.2 i hi; omega)).mono ?_; rintro e w5 ⟨u5, rfl, ho5, hf5, hn5⟩; rw [HMG.out.1] at ho5; have hie := ho5.isI (by rw [encZ_length]; unfold Mid; omega); obtain ⟨a5, l5, c5, rfl, HL5, _⟩ := hie.shape; have HIE := Lib.hid hie; have HK8 := Lib.hid ((New.drew _).trans hn5); clear ho5 hf5 hn5 hie))
      have hwt : encZ q l rows (msg q m t) m = wordT q l rows t := by unfold wordT; rw [← HN.out]
      have HIE2 := Lib.hid (show IsI w5 (.slice a5 l5 c5) (wordT q l rows t) by rw [← hwt]; exact HIE.out)
      obtain rfl : l5 = l := by rw [HL5.out, encZ_length]
      clear hwt HIE
      have hk5 := HK8.out.cellNew cm
      have HC5 := Lib.hid hk5
      clear hk5 f0 f1 cm
      go_wp2_with fail
      go_loopw [11, 12] (fun t11 t12 wr => ∃ k d : Nat, t11 = .bool (fitB (wordT q l5 rows t) kn k) ∧ t12 = .int .i64 k ∧ k ≤ l5 ∧ Hid (wr = w5.drewN d)) (fun _ t12 _ => l5 - (intOf t12).toNat)
      case atStart => exact ⟨0, 0, rfl, rfl, Nat.zero_le _, rfl⟩
      case round =>
        obtain ⟨k, d, rfl, rfl, hkl, HD⟩ := hrel
        have hwd : New w5 wr := by rw [HD.out]; exact New.drewN _ _
        by_cases hkn : k < l5
        · obtain ⟨bx, ox, rfl, cx⟩ := (HK.out.new (((H2.out.2.2.2.trans HW.out).trans HK8.out).trans hwd)).at hkn
          obtain ⟨bb, ob, rfl, cb⟩ := (HIE2.out.new hwd).at hkn
          obtain ⟨x, hx⟩ : ∃ x, x = gi kn k := ⟨_, rfl⟩
          obtain ⟨y, hy⟩ : ∃ y, y = gi (wordT q l5 rows t) k := ⟨_, rfl⟩
          rw [← hx] at cx
          rw [← hy] at cb
          have hst : fitB (wordT q l5 rows t) kn (k + 1) = (fitB (wordT q l5 rows t) kn k && (decide (x < 0) || decide (x = y))) := by rw [fitB, ← hx, ← hy]
          have HST := Lib.hid hst
          clear hx hy hst hwd
          cases hf : fitB (wordT q l5 rows t) kn k with
          | false =>
            rw [hf] at HST
            have HS2 := Lib.hid (show fitB (wordT q l5 rows t) kn (k + 1) = false from HST.out)
            clear HST hf
            go_wp2_with fail
            go_quiet (fail)
            go_wp2_with fail
            go_roundw
            case rel => exact ⟨k + 1, _, by rw [HS2.out], by go_num, by omega, by show _ = _; rw [HD.out]; exact (World.drewN_drewN _ _ _)⟩
            case measure => simp [intOf]; omega
          | true =>
            rw [hf] at HST
            clear hf
            by_cases hx0 : x < 0
            · have hd : decide (x < 0) = true := by simp; exact hx0
              have HS2 := Lib.hid (show fitB (wordT q l5 rows t) kn (k + 1) = true by rw [HST.out, hd]; rfl)
              clear HST
              go_wp2_with fail
              go_quiet (fail)
              go_wp2_with fail
              go_roundw
              case rel => exact ⟨k + 1, _, by rw [HS2.out], by go_num, by omega, by show _ = _; rw [HD.out]; exact (World.drewN_drewN _ _ _)⟩
              case measure => simp [intOf]; omega
            · have hd : decide (x < 0) = false := by simp; omega
              by_cases hxy : x = y
              · subst hxy
                have HS2 := Lib.hid (show fitB (wordT q l5 rows t) kn (k + 1) = true by rw [HST.out, hd]; simp)
                clear HST
                go_wp2_with fail
                go_quiet (fail)
                go_wp2_with fail
                go_roundw
                case rel => exact ⟨k + 1, _, by rw [HS2.out], by go_num, by omega, by show _ = _; rw [HD.out]; exact (World.drewN_drewN _ _ _)⟩
                case measure => simp [intOf]; omega
              · have hb2 : (x == y) = false := by simp; exact hxy
                have HS2 := Lib.hid (show fitB (wordT q l5 rows t) kn (k + 1) = false by rw [HST.out, hd]; simp; exact hxy)
                clear HST hxy
                go_wp2_with fail
                go_quiet (fail)
                go_wp2_with fail
                go_roundw
                case rel => exact ⟨k + 1, _, by rw [HS2.out], by go_num, by omega, by show _ = _; rw [HD.out]; exact (World.drewN_drewN _ _ _)⟩
                case measure => simp [intOf]; omega
        · obtain rfl : k = l5 := by omega
          have HNW := Lib.hid ((HW.out.trans HK8.out).trans hwd)
          have cm := hwd.cellNew HC5.out
          have hstep : cntF q k rows kn (t + 1) = if fitB (wordT q k rows t) kn k = true then c + 1 else c := by rw [cntF, ← HC.out]
          have HSTEP := Lib.hid hstep
          have HHN := Lib.hid (HK8.out.trans hwd)
          clear hstep hwd
          cases hf : fitB (wordT q k rows t) kn k with
          | false =>
            have HFF := Lib.hid hf
            clear hf
            go_wp2_with fail
            go_roundw
            case rel => exact ⟨t + 1, c, rfl, by go_num, by omega, by omega, by show c = _; rw [HSTEP.out, HFF.out]; rfl, fun h => by
                obtain ⟨s, s1, s2, s3, s4⟩ := HF.out h
                exact ⟨s, s1, s2, s3.new HHN.out, s4⟩, HNW.out⟩
            case measure => simp [intOf]; omega
          | true =>
            have HFF := Lib.hid hf
            clear hf
            by_cases hc0 : c = 0
            · subst hc0
              go_wp2_with fail
              go_roundw
              case rel => exact ⟨t + 1, 1, by first | rfl | go_num, by go_num, by omega, by omega, by show 1 = _; rw [HSTEP.out, HFF.out]; rfl, fun _ => ⟨t, htT, HFF.out, (HIM.out.2.1).new HHN.out, HIM.out.2.2⟩, HNW.out⟩
              case measure => simp [intOf]; omega
            · have hcb : ((c : Int) == 0) = false := by simp; omega
              go_wp2_with fail
              go_roundw
              case rel => exact ⟨t + 1, c + 1, by go_num, by go_num, by omega, by omega, by show c + 1 = _; rw [HSTEP.out, HFF.out]; rfl, fun _ => by
                  obtain ⟨s, s1, s2, s3, s4⟩ := HF.out (by omega)
                  exact ⟨s, s1, s2, s3.new HHN.out, s4⟩, HNW.out⟩
              case measure => simp [intOf]; omega
    · obtain rfl : t = l4 := by omega
      have HG : MendsQ q l rows kn w (.returned (.tuple #[.int .i64 c, u7])) wz := by
        have hcc : cntF q l rows kn (q ^ rows.length) = c := by rw [← HN.out, ← HTT.out]; exact HC.out.symm
        refine ⟨u7, by rw [hcc], fun h => ?_, H2.out.2.2.2.trans HW.out⟩
        rw [hcc] at h
        obtain ⟨s, s1, s2, s3, s4⟩ := HF.out h
        exact ⟨s, by rw [← HN.out, ← HTT.out]; exact s1, s2, by rw [← HN.out]; exact s3, s4⟩
      go_wp2_with fail
      go_ret2
      exact HG
end Go.Proofs.YtcdbeepphdfipaaGreatDoor
