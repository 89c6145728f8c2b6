/- spec.ahead, spec.nulls. spec.nulls. (field).nulls. NullsOf of both. -/
import Derived.Test.YtaaajekibfaoeaaPlaM
import Derived.Test.YtaaajekibfaoeaaRedu
import Derived.Test.YtaaajekibfaoeaaLeaf
import Derived.Test.YtaaajekibfaoeaaKnow
import Derived.Test.YtaaajekibfaoeaaBase
namespace Go.Proofs.Ytaaajekibfaoeaa
open Go.RowKit Mat
set_option linter.unusedVariables false

/-- All numbers ahead of a place are 0. -/
def ahB (x : List Int) (k : Nat) : Bool := decide (∀ j, j < k → gi x j = 0)
theorem ahB_iff {x : List Int} {k : Nat} : ahB x k = true ↔ ∀ j, j < k → gi x j = 0 := by simp [ahB]

theorem ahead_any (v : Value) (xs : List Int) (k : Nat) (w : World) (hx : IsI w v xs) (hk : k ≤ xs.length) :
    Calls Try.prog 149 #[v, .int .i64 k] w fun e w' => e = .returned (.bool (ahB xs k)) ∧ w = w' := by
  obtain ⟨ao, n, cap, rfl, HN, hn⟩ := hx.shape
  have hkn : k ≤ n := by rw [HN.out]; exact hk
  have HX := Lib.hid hx
  clear hx hk
  go_enter Try.func149, Try.ntmps149
  go_wp2_with fail
  go_loop [5] (fun i => ∃ j : Nat, i = .int .i64 j ∧ j ≤ k ∧ Hid (∀ l, l < j → gi xs l = 0)) (fun i => k - (intOf i).toNat)
  case atStart => exact ⟨0, rfl, Nat.zero_le _, fun l hl => by omega⟩
  case round =>
    obtain ⟨j, rfl, hj, HD⟩ := hrel
    by_cases hjk : j < k
    · obtain ⟨b, o, rfl, c⟩ := HX.out.at (i := j) (by omega)
      have hjn : j < n := by omega
      obtain ⟨x, hx⟩ : ∃ x, x = gi xs j := ⟨_, rfl⟩
      rw [← hx] at c
      have HXX := Lib.hid hx
      clear hx
      by_cases h0 : x = 0
      · subst h0
        go_wp2_with fail
        go_round
        case rel =>
          refine ⟨j + 1, by go_num, by omega, fun l hl => ?_⟩
          by_cases e : l = j
          · rw [e]; exact HXX.out.symm
          · exact HD.out l (by omega)
        case measure => simp [intOf]; omega
      · have hd : decide (x = 0) = false := by simp; exact h0
        have hd2 : (x != 0) = true := by simp; exact h0
        have hf : ahB xs k = false := by
          rw [Bool.eq_false_iff]
          intro h
          exact h0 (HXX.out.trans (ahB_iff.1 h j hjk))
        have HF := Lib.hid hf
        clear hf
        go_wp2_with fail
        go_ret
        exact ⟨ret_bool HF.out.symm, rfl⟩
    · obtain rfl : j = k := by omega
      have hf : ahB xs j = true := ahB_iff.2 HD.out
      have HF := Lib.hid hf
      clear hf
      go_wp2_with fail
      go_ret
      exact ⟨ret_bool HF.out.symm, rfl⟩
end Go.Proofs.Ytaaajekibfaoeaa

namespace Go.Proofs.Ytaaajekibfaoeaa
open Go.RowKit Mat
set_option linter.unusedVariables false

/-- The row of checks for column c, of which the first k places are told. -/
def nrTo (q : Int) (a : List (List Int)) (c k j : Nat) : Int := if j < k then (if 0 ≤ ldIx a j a.length then (-gi (gr a (ldIx a j a.length).toNat) c) % q else if j = c then 1 else 0) else if j = c then 1 else 0

theorem From.at0 (g n c : Nat) : From g (.slice (some ⟨g, 0, none⟩) n c) := fun g' h => by simp [Value.ownBlock] at h; omega

end Go.Proofs.Ytaaajekibfaoeaa

namespace Go.Proofs.Ytaaajekibfaoeaa
open Go.RowKit Mat
set_option linter.unusedVariables false

theorem zeroSl (w : World) : (zeroValue 31).run Try.prog w = .ok (.slice none 0 0) w := by kernel_rfl

/-- The leads of the first k rows. -/
def ldKeys (a : List (List Int)) (k : Nat) : List Int := (List.range k).map (fun i => ((ldN (gr a i) : Nat) : Int))
theorem ldKeys_length (a : List (List Int)) (k : Nat) : (ldKeys a k).length = k := by simp [ldKeys]
theorem ldKeys_get (a : List (List Int)) {k i : Nat} (hi : i < k) : gi (ldKeys a k) i = (ldN (gr a i) : Int) := by
  rw [gi_lt (by rw [ldKeys_length]; exact hi)]; simp [ldKeys]
theorem ldKeys_succ (a : List (List Int)) (k : Nat) : ldKeys a (k + 1) = ldKeys a k ++ [((ldN (gr a k) : Nat) : Int)] := by simp [ldKeys, List.range_succ]
theorem ldKeys_mem {a : List (List Int)} {k : Nat} {x : Int} : x ∈ ldKeys a k ↔ ∃ i, i < k ∧ (ldN (gr a i) : Int) = x := by simp [ldKeys]

theorem IsRed.inj {q : Nat} [NeZero q] {n : Nat} {R a : List (List Int)} (h : IsRed q n R a) {i j : Nat} (hi : i < a.length) (hj : j < a.length) (e : ldN (gr a i) = ldN (gr a j)) : i = j := by
  rcases Nat.lt_trichotomy i j with c | c | c
  · have := h.asc i j c hj; omega
  · exact c
  · have := h.asc j i c hi; omega

/-- The lead of row r stands in column c just if the index told is r. -/
theorem IsRed.ldIx {q : Nat} [NeZero q] {n : Nat} {R a : List (List Int)} (h : IsRed q n R a) {r : Nat} (hr : r < a.length) : ldIx a (ldN (gr a r)) a.length = r := by
  have hb := ldIx_bounds a (ldN (gr a r)) a.length
  by_cases c : 0 ≤ Go.Proofs.Ytaaajekibfaoeaa.ldIx a (ldN (gr a r)) a.length
  · have := h.inj (i := (Go.Proofs.Ytaaajekibfaoeaa.ldIx a (ldN (gr a r)) a.length).toNat) (j := r) (by omega) hr (hb.2.2 c)
    omega
  · exact absurd rfl (ldIx_neg (show Go.Proofs.Ytaaajekibfaoeaa.ldIx a (ldN (gr a r)) a.length < 0 by omega) r hr)
theorem ldIx_mem {a : List (List Int)} {c : Nat} : (c : Int) ∈ ldKeys a a.length ↔ 0 ≤ ldIx a c a.length := by
  have hb := ldIx_bounds a c a.length
  rw [ldKeys_mem]
  constructor
  · rintro ⟨i, hi, e⟩
    apply Classical.byContradiction
    intro h
    exact ldIx_neg (show ldIx a c a.length < 0 by omega) i hi (by omega)
  · intro h
    exact ⟨(ldIx a c a.length).toNat, by omega, by rw [hb.2.2 h]⟩

/-- The row of checks for column c, where the leads in rem are still to come. -/
def mrTo (q : Int) (a : List (List Int)) (c : Nat) (rem : Int → Bool) (j : Nat) : Int := if 0 ≤ ldIx a j a.length ∧ rem j = false then (-gi (gr a (ldIx a j a.length).toNat) c) % q else if j = c then 1 else 0

theorem take_snoc_gv {vs : List Value} {k : Nat} (h : k < vs.length) : vs.take (k + 1) = vs.take k ++ [gv vs k] := by
  rw [List.take_succ_eq_append_getElem h, gv_lt h]

set_option maxRecDepth 100000 in
set_option maxHeartbeats 4000000 in
theorem implNulls_any (q : Nat) [NeZero q] (n : Nat) (v : Value) (rows : List (List Int)) (w : World) (hr : IsR w v rows) (ht : TabOk q n rows) :
    Calls Try.prog 65 #[.int .i64 q, v] w fun e w' => ∃ u vs a, e = .returned u ∧ IsRed q n rows a ∧ OwnR w' 31 3 u vs (nlTo q n a n) ∧ FromR w.heap.size u vs (nlTo q n a n) ∧ New w w' := by
  obtain ⟨ao, m, cap, rfl, HN, hm⟩ := hr.shape
  have hn7 := ht.n7
  have hn1 := ht.n1
  have hqp := ht.pr.pos
  have hm0 : 0 < m := by rw [HN.out]; exact ht.r1
  obtain ⟨b0, o0, u0, rfl, ck0, hu0⟩ := hr.at (i := 0) hm0
  rw [Nat.add_zero] at ck0
  obtain ⟨a0, n', cc0, rfl, HM, hmx⟩ := hu0.shape
  have hnn : n = n' := by rw [HM.out, ht.cols]
  subst hnn
  have HR := Lib.hid hr
  have HT := Lib.hid ht
  clear hr ht hu0
  have hmm := @run_makeMap Try.prog
  go_enter Try.func65, Try.ntmps65
  go_wp2_with fail
  have hA : New w (w.alloc (.map #[] 0)) := New.alloc _ _
  have hmade := MapIs.made Try.prog 3 w
  have hszA : (w.alloc (.map #[] 0)).heap.size = w.heap.size + 1 := by simp
  clear hmm
  refine (reduced_any q HT.out.pr n hn7 _ rows _ (HR.out.new hA) HT.out.good (by have := HT.out.r6; have := HT.out.r1; omega)).mono ?_
  rintro e w1 ⟨ua, vsa, a, rfl, hoa, hfa, hred, hn1w⟩
  have hale := hred.le_cols
  obtain ⟨aa, na, ca, rfl, HA, hna, _⟩ := hoa.outer.opened (by rw [hoa.len]; unfold Mid; omega)
  have hna7 : na ≤ 7 := by rw [HA.out, hoa.len]; omega
  have hnae : na = a.length := by rw [HA.out, hoa.len]
  have HM1 := Lib.hid (hmade.new hn1w)
  have HN1 := Lib.hid (hA.trans hn1w)
  have HFA : Hid (FromR (w.heap.size + 1) (.slice aa na ca) vsa a) := by rw [← hszA]; exact hfa
  have HOA := Lib.hid hoa
  have HRED := Lib.hid hred
  have HNA := Lib.hid hnae
  have HVA := Lib.hid hoa.len
  clear hoa hfa hred hn1w hnae hA hmade hszA
  go_wp2_with fail
  go_loopw [20] (fun i wr => ∃ k : Nat, i = .int .i64 k ∧ k ≤ na ∧ Hid (MapIs Try.prog 3 wr w.heap.size k (ldKeys a k) (vsa.take k) ∧ Chg (· = w.heap.size) w1 wr)) (fun i _ => na - (intOf i).toNat)
  case atStart => exact ⟨0, rfl, Nat.zero_le _, by rw [List.take_zero]; exact HM1.out, Chg.refl _ _⟩
  case round =>
    obtain ⟨k, rfl, hk, HK⟩ := hrel
    by_cases hkn : k < na
    · have hka : k < a.length := by rw [← HNA.out]; exact hkn
      have hkv : k < vsa.length := by rw [HVA.out]; exact hka
      have hoa : OwnR wr 31 3 (.slice aa na ca) vsa a := HOA.out.chg HK.out.2 (fun g hg hs => by have := HFA.out.1 g hg; omega) (fun i hi g hg hs => by have := HFA.out.2 i hi g hg; omega)
      obtain ⟨g, rfl⟩ := hoa.outer.head hkv
      have ck := (hoa.outer.cell hkv).1
      have hg := HRED.out.inv.good k hka
      have hin := hoa.inner k hka
      obtain ⟨ar, nr, cr, hgv, HNR, hnr, _⟩ := hin.opened (by rw [List.length_map, hg.1]; unfold Mid; omega)
      rw [hgv] at ck hin
      have hii := hin.isI (by rw [hg.1]; unfold Mid; omega)
      have hlz := lead_nat (HRED.out.inv.lead k hka)
      have hln := (lead_some hg (HRED.out.inv.lead k hka)).1
      obtain ⟨L, hL⟩ : ∃ L, L = ldN (gr a k) := ⟨_, rfl⟩
      rw [← hL] at hlz hln
      have hnot : (L : Int) ∉ ldKeys a k := fun hmem => by
        obtain ⟨i, hi, e⟩ := ldKeys_mem.1 hmem
        have := HRED.out.inj (i := i) (j := k) (by omega) hka (by rw [← hL]; omega)
        omega
      have HII := Lib.hid hii
      have HLZ := Lib.hid hlz
      have HLL := Lib.hid hL
      have HGV := Lib.hid hgv
      have hll : (ldKeys a k).length = (vsa.take k).length := by rw [ldKeys_length, List.length_take]; omega
      have HNOT := Lib.hid (And.intro hnot hll)
      have hwf : (Lit.int .i64 (L : Int)).wf = true := WalkArith.wf_i64 (by omega)
      have HWF := Lib.hid hwf
      clear hoa hii hin hlz hg hgv hL hnot hll hwf
      go_wp2_with (first | (go_at_call 133; refine (lead_any _ _ _ HII.out).mono ?_; rintro e w' ⟨rfl, rfl⟩; rw [HLZ.out]) | (at_mapUpdate; refine wpList_mapPut rfl _ _ _ _ rfl 3 31 Try.underlying3 Try.underlying113 _ k _ _ rfl HK.out.1 (by unfold maxLen; omega) _ _ _ _ rfl rfl HWF.out HNOT.out.1 HNOT.out.2 ?_; intro w2 k1 k2; have K2 := Lib.hid (And.intro k1 k2); clear k1 k2))
      go_roundw
      case rel =>
        refine ⟨k + 1, by go_num, by omega, ?_, Chg.trans HK.out.2 K2.out.2 (fun _ _ x => x) (fun _ _ x => x)⟩
        rw [ldKeys_succ, take_snoc_gv hkv, HGV.out, ← HLL.out]
        exact K2.out.1
      case measure => simp [intOf]; omega
    · obtain rfl : k = na := by omega
      have hnw : New w wr := HN1.out.then HK.out.2 (fun i hi => by rw [hi]; exact Nat.le_refl _)
      have hmap : MapIs Try.prog 3 wr w.heap.size k (ldKeys a a.length) vsa := by
        have h := HK.out.1
        rw [List.take_of_length_le (by rw [HVA.out, HNA.out]; exact Nat.le_refl _)] at h
        rw [← HNA.out]
        exact h
      have hoa : OwnR wr 31 3 (.slice aa k ca) vsa a := HOA.out.chg HK.out.2 (fun g hg hs => by have := HFA.out.1 g hg; omega) (fun i hi g hg hs => by have := HFA.out.2 i hi g hg; omega)
      obtain ⟨wm, hwm⟩ : ∃ wm : World, wm = wr := ⟨_, rfl⟩
      rw [← hwm] at hnw hmap hoa
      rw [← hwm]
      clear hwm
      have HNW := Lib.hid hnw
      have HMAP := Lib.hid hmap
      have HOM := Lib.hid hoa
      have ckm := hnw.cellNew ck0
      have hltm : b0 < wm.heap.size := World.block_lt_of_cell? _ _ ckm
      clear hnw hmap hoa HK HM1 HN1 HOA
      go_wp2_with fail
      go_loopw [8, 34] (fun t i wz => ∃ (c : Nat) (vs : List Value), i = .int .i64 c ∧ c ≤ n ∧ OwnR wz 31 3 t vs (nlTo q n a c) ∧ FromR wm.heap.size t vs (nlTo q n a c) ∧ New wm wz) (fun _ i _ => n - (intOf i).toNat)
      case atStart => exact ⟨0, [], rfl, Nat.zero_le _, ⟨Own.empty _ _, rfl, fun i hi => by simp [nlTo] at hi, fun i j hi => by simp [nlTo] at hi⟩, ⟨From.new _ _ _, fun i hi => by simp [nlTo] at hi⟩, New.alloc _ _⟩
      case round =>
        obtain ⟨c, vs, rfl, hc, hown, hfrom, hnew⟩ := hrel
        have HO := Lib.hid hown
        have HF := Lib.hid hfrom
        have HZ := Lib.hid hnew
        clear hown hfrom hnew
        obtain ⟨wz, hwz⟩ : ∃ wz : World, wz = wr := ⟨_, rfl⟩
        rw [← hwz] at HO HZ
        rw [← hwz]
        clear hwz
        have hll := nlTo_length q n a c
        obtain ⟨ax, lx, cx, rfl, HLX, hlx, _⟩ := HO.out.outer.opened (by rw [HO.out.len]; unfold Mid; omega)
        have hbx := HF.out.1
        by_cases hcn : c < n
        · have hmz := HMAP.out.new HZ.out
          have hwf : (Lit.int .i64 (c : Int)).wf = true := WalkArith.wf_i64 (by omega)
          have HWF := Lib.hid hwf
          have HMZ := Lib.hid hmz
          have ckz := HZ.out.cellNew ckm
          clear hmz hwf
          by_cases hge : 0 ≤ ldIx a c a.length
          · have hdm : decide ((c : Int) ∈ ldKeys a a.length) = true := by simpa using ldIx_mem.2 hge
            have HDM := Lib.hid hdm
            have HGE := Lib.hid hge
            clear hdm hge
            go_wp2_with (at_lookup; refine wpList_mapHas rfl _ _ _ rfl 3 31 Try.underlying3 Try.underlying113 (zeroSl _) _ _ _ _ rfl HMZ.out _ rfl HWF.out ?_; intro vx; rw [HDM.out])
            go_roundw
            case rel =>
              have e : nlTo q n a (c + 1) = nlTo q n a c := by rw [nlTo, if_pos HGE.out]
              refine ⟨c + 1, vs, by go_num, by omega, ?_, ?_, HZ.out⟩
              · rw [e]; exact HO.out
              · rw [e]; exact HF.out
            case measure => simp [intOf]; omega
          · have hdm : decide ((c : Int) ∈ ldKeys a a.length) = false := by
              rw [decide_eq_false_iff_not, ldIx_mem]; exact hge
            have HDM := Lib.hid hdm
            have HGE := Lib.hid hge
            clear hdm hge
            go_wp2_with (first | (at_lookup; refine wpList_mapHas rfl _ _ _ rfl 3 31 Try.underlying3 Try.underlying113 (zeroSl _) _ _ _ _ rfl HMZ.out _ rfl HWF.out ?_; intro vx; rw [HDM.out]) | (at_make; refine wpList_mk rfl _ _ _ rfl tyInt _ _ _ _ n n rfl rfl rfl rfl (Nat.le_refl _) hmx ?_; intro v5 w5 hv5 ho5 hn5 hs5; subst hv5; have HO5 := Lib.hid ho5; have HN5 := Lib.hid hn5; have HS5 := Lib.hid hs5; obtain ⟨c5, f5⟩ := ho5.cell (i := c) (by simpa using hcn); clear ho5 hn5 hs5))
            have hst := HO5.out.set c (.int .i64 1)
            rw [← List.map_replicate, set_map_int, ← tab_zero, tab_set (g := mrTo q a c (fun x => decide (x ∈ ldKeys a a.length))) (fun _ => by rw [mrTo, if_neg (fun h => by have := HGE.out; have := h.1; omega), if_pos rfl]) (fun i hi hne => by
              rw [mrTo, if_neg (fun h => by
                have h2 := h.2
                simp only [decide_eq_false_iff_not] at h2
                exact h2 (ldIx_mem.2 h.1)), if_neg hne])] at hst
            have hblt : w.heap.size < wz.heap.size := HMZ.out.lt
            have hm5 := (HMZ.out.new HN5.out).chg (Chg.setCell w5 ⟨wz.heap.size, c, none⟩ (.int .i64 1)) (fun e => by simp at e; omega)
            have hn5' : New wz (w5.setCell ⟨wz.heap.size, c, none⟩ (.int .i64 1)) := HN5.out.then (Chg.setCell _ _ _) (fun i hi => Nat.le_of_eq hi.symm)
            have hs5' : wz.heap.size < (w5.setCell ⟨wz.heap.size, c, none⟩ (.int .i64 1)).heap.size := by rw [World.size_setCell]; exact HS5.out
            have HST := Lib.hid hst
            have HM5 := Lib.hid hm5
            have HN5' := Lib.hid hn5'
            clear hst hm5 hn5'
            obtain ⟨w6, cnt, hrun, hr6, hn6, hs6⟩ := HM5.out.range (e := 31) (t := 113) Try.underlying3 Try.underlying113
            have HR6 := Lib.hid hr6
            have HN6 := Lib.hid hn6
            clear hr6 hn6
            obtain ⟨r, hre⟩ : ∃ r, r = (w5.setCell ⟨wz.heap.size, c, none⟩ (.int .i64 1)).heap.size := ⟨_, rfl⟩
            rw [← hre] at HR6 hs6 hs5' hrun
            clear hre
            have HRUN := Lib.hid hrun
            clear hrun
            go_wp2_with fail
            rw [HRUN.out]
            clear HRUN
            go_wp2_with fail
            go_loopw [13] (fun _ wy => ∃ (rem : Int → Bool) (cnt : Nat), Hid (RangeIs Try.prog 3 wy w.heap.size r k (ldKeys a a.length) vsa rem cnt ∧ Own wy 3 (.slice (some ⟨wz.heap.size, 0, none⟩) n n) ((tab n (mrTo q a c rem)).map (Value.int .i64)) ∧ New wz wy)) (fun _ wy => wy.rangeLeft w.heap.size r)
            case atStart => exact ⟨_, _, HR6.out, HST.out.new HN6.out, HN5'.out.trans HN6.out⟩
            case round =>
              obtain ⟨rem, cnt, HRG⟩ := hrel
              obtain ⟨wy, hwy⟩ : ∃ wy : World, wy = wr := ⟨_, rfl⟩
              rw [← hwy] at HRG
              rw [← hwy]
              clear hwy
              go_wp2_with (at_next; refine wpList_mapNext rfl _ rfl 3 Try.underlying3 _ _ _ _ _ _ _ rfl HRG.out.1 ?_ ?_)
              · intro hd
                have hrow : Own wy 3 (.slice (some ⟨wz.heap.size, 0, none⟩) n n) ((nullRow q n a c).map (Value.int .i64)) := by
                  have h := HRG.out.2.1
                  rw [tab_congr (g := fun j => if 0 ≤ ldIx a j a.length then (-gi (gr a (ldIx a j a.length).toNat) c) % q else if j = c then 1 else 0) (fun i hi => by simp [mrTo, hd])] at h
                  exact h
                have HROW := Lib.hid hrow
                have hlv : vs.length + 1 ≤ 1099511627776 := by rw [HO.out.len]; omega
                clear hrow hd
                go_wp2_with (at_builtin; refine wpList_app1 rfl _ _ _ rfl tyRow wy (HO.out.outer.new HRG.out.2.2) rfl _ _ rfl rfl rfl hlv ?_; intro v2 w2 k1 k2 k3; have K2 := Lib.hid (And.intro k1 (And.intro k2 k3)); clear k1 k2 k3)
                go_roundw
                case rel =>
                  obtain ⟨m1, m2, m3⟩ := K2.out
                  obtain ⟨p1, p2, p3⟩ := OwnR.push HO.out HF.out HZ.out.size HRG.out.2.2 HROW.out (From.at0 _ _ _) m1 m2 m3
                  have e : nlTo q n a (c + 1) = nlTo q n a c ++ [nullRow q n a c] := by rw [nlTo, if_neg (by have := HGE.out; omega)]
                  refine ⟨c + 1, vs ++ [Value.slice (some ⟨wz.heap.size, 0, none⟩) n n], by go_num, by omega, ?_, ?_, New.then HZ.out p3 (fun i hi => HF.out.1 i hi)⟩
                  · rw [e]; exact p1
                  · rw [e]; exact p2
                case measure => simp [intOf]; omega
              · intro i sa sn sc w7 cnt7 hi hgv hrem hr7 hlt7 hc7 hs7 hen
                rw [ldKeys_length] at hi
                have hkey := ldKeys_get a hi
                rw [hkey] at hrem hr7 hen
                rw [hkey]
                have hg := HRED.out.inv.good i hi
                have hln := (lead_some hg (HRED.out.inv.lead i hi)).1
                have hldx := HRED.out.ldIx hi
                obtain ⟨L, hL⟩ : ∃ L, L = ldN (gr a i) := ⟨_, rfl⟩
                rw [← hL] at hrem hr7 hen hln hldx
                rw [← hL]
                obtain ⟨rem', hre'⟩ : ∃ rem' : Int → Bool, rem' = remWo rem L := ⟨_, rfl⟩
                rw [← hre'] at hr7
                have hrem1 : rem' L = false := by rw [hre']; exact remWo_same _ _
                have hrem2 : ∀ j : Nat, j ≠ L → rem' j = rem j := fun j hj => by rw [hre']; exact remWo_other _ (by omega)
                have HREM := Lib.hid (And.intro hrem1 hrem2)
                clear hre' hrem1 hrem2
                have hn7w : New wz w7 := HRG.out.2.2.then hc7 (fun j hj => by have : j = r := hj; omega)
                have hin := (HOM.out.inner i hi).new (HZ.out.trans hn7w)
                rw [hgv] at hin
                obtain ⟨gx, rfl⟩ := hin.head (i := c) (by rw [List.length_map, hg.1]; exact hcn)
                have hcs : c < sn := by rw [hin.len, List.length_map, hg.1]; exact hcn
                have cx := hin.num (i := c) (by rw [hg.1]; exact hcn)
                have hbx2 := hg.2 c hcn
                obtain ⟨x, hx⟩ : ∃ x, x = gi (gr a i) c := ⟨_, rfl⟩
                rw [← hx] at cx hbx2
                have ho7 := HRG.out.2.1.chg hc7 (fun g hg hs => by simp [Value.ownBlock] at hg; omega)
                obtain ⟨cl, fl⟩ := ho7.cell (i := L) (by rw [List.length_map, tab_length]; exact hln)
                have HO7 := Lib.hid ho7
                have HX := Lib.hid hx
                have HR7 := Lib.hid hr7
                have HLDX := Lib.hid hldx
                have HN7 := Lib.hid hn7w
                have HI := Lib.hid (And.intro hlt7 hs7)
                clear hkey hg hldx hL hn7w hin hx ho7 hr7 hrem hgv hc7 hs7 hlt7
                go_wp2_with (go_at_call 79; refine (rest_any _ _ _ (by omega) (by omega)).mono ?_; rintro e w' ⟨rfl, rfl⟩)
                go_roundw
                case rel =>
                  have hst := HO7.out.set L (.int .i64 ((-x) % (q : Int)))
                  rw [set_map_int, tab_set (g := mrTo q a c rem') (fun _ => by rw [mrTo, if_pos ⟨by rw [HLDX.out]; omega, HREM.out.1⟩, HLDX.out, Int.toNat_natCast, ← HX.out]) (fun j hj hne => by
                    rw [mrTo, mrTo, HREM.out.2 j hne])] at hst
                  exact ⟨_, cnt7, HR7.out.chg (Chg.setCell _ _ _) (by simp only; omega) (by simp only; omega), hst, HN7.out.then (Chg.setCell _ _ _) (fun i hi => Nat.le_of_eq hi.symm)⟩
                case measure =>
                  have h1 := (HR7.out.chg (Chg.setCell w7 ⟨wz.heap.size, L, none⟩ (.int .i64 ((-x) % (q : Int)))) (by simp only; omega) (by simp only; omega)).left
                  have h2 := HRG.out.1.left
                  have h3 := HI.out.1
                  rw [h1, h2]
                  exact h3
        · obtain rfl : c = n := by omega
          have hlm : Mid vs.length := by rw [HO.out.len]; unfold Mid; omega
          go_wp2_with fail
          refine (clipR_any _ vs _ HO.out.outer hlm).mono ?_
          rintro e w' ⟨u, rfl, ho, hub, rfl⟩
          have HU := Lib.hid (And.intro ho hub)
          clear ho hub
          go_wp2_with fail
          go_ret
          refine ⟨u, vs, a, rfl, HRED.out, ⟨HU.out.1, HO.out.len, HO.out.inner, HO.out.apart⟩, ⟨fun g hg => ?_, fun i hi g hg => ?_⟩, HNW.out.trans HZ.out⟩
          · have := HF.out.1 g (by rw [← HU.out.2]; exact hg)
            have := HNW.out.size
            omega
          · have := HF.out.2 i hi g hg
            have := HNW.out.size
            omega
end Go.Proofs.Ytaaajekibfaoeaa

namespace Go.Proofs.Ytaaajekibfaoeaa
open Go.RowKit Mat
set_option linter.unusedVariables false

/-- The checks of a table. -/
def NulC (p : Int) (rows out : List (List Int)) : Prop :=
  ∃ (q : Nat) (_ : NeZero q), p = q ∧ Pr q ∧ ∃ a, IsRed q (gr rows 0).length rows a ∧ out = nlTo q (gr rows 0).length a (gr rows 0).length
theorem NulC.unique {p : Int} {rows a b : List (List Int)} (h : NulC p rows a) (h' : NulC p rows b) : a = b := by
  obtain ⟨q, i1, e1, hq, o1, r1, rfl⟩ := h
  obtain ⟨q', i2, e2, hq', o2, r2, rfl⟩ := h'
  obtain rfl : q = q' := by omega
  rw [IsRed.unique hq r1 r2]
theorem NulC.bounds {p : Int} {rows a : List (List Int)} (h : NulC p rows a) : a.length ≤ (gr rows 0).length ∧ ∀ i, i < a.length → (gr a i).length = (gr rows 0).length := by
  obtain ⟨q, i1, e1, hq, o1, r1, rfl⟩ := h
  exact ⟨nlTo_length _ _ _ _, nlTo_rows⟩

theorem implNulls_c (q : Nat) [NeZero q] (n : Nat) (v : Value) (rows : List (List Int)) (w : World) (hr : IsR w v rows) (ht : TabOk q n rows) :
    Calls Try.prog 65 #[.int .i64 q, v] w fun e w' => ∃ u vs out, e = .returned u ∧ NulC q rows out ∧ OwnR w' 31 3 u vs out ∧ FromR w.heap.size u vs out ∧ New w w' :=
  (implNulls_any q n v rows w hr ht).mono fun e w' ⟨u, vs, a, h1, h2, h3, h4, h5⟩ => ⟨u, vs, _, h1, ⟨q, inferInstance, rfl, ht.pr, a, by rw [ht.cols]; exact h2, by rw [ht.cols]⟩, h3, h4, h5⟩
end Go.Proofs.Ytaaajekibfaoeaa
