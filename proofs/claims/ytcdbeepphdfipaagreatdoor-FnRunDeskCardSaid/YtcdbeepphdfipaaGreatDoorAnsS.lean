/- spec.answer: the reference's answer to a line. -/
import Derived.Test.YtcdbeepphdfipaaGreatDoorAnsI
import Derived.Test.YtcdbeepphdfipaaGreatDoorPrsS
namespace Go.Proofs.YtcdbeepphdfipaaGreatDoor
open Go.RowKit
set_option linter.unusedVariables false

theorem isR_one {w : World} {u : Value} {xs : List Int} (hu : IsI w u xs) : IsR (w.alloc (.cells #[u] 53)) (.slice (some ⟨w.heap.size, 0, none⟩) 1 1) [xs] :=
  ⟨_, 1, rfl, ⟨Nat.le_refl _, (fun h => by cases h)⟩, by simp [maxLen], by unfold Mid; simp, fun i hi => by
    have h0 : i = 0 := by simp at hi; omega
    subst h0
    exact ⟨w.heap.size, 0, u, rfl, by rw [cell_of_heap (heap_alloc_new w _)]; rfl, hu.new (New.alloc _ _)⟩⟩
theorem rowsTo_one (xs : List Int) : rowsTo [xs] [xs].length = rowT xs := by
  simp [rowsTo, gr]

set_option maxHeartbeats 1000000 in
theorem rowText_any (u : Value) (xs : List Int) (w : World) (hu : IsI w u xs) (hd : ∀ k, k < xs.length → 0 ≤ gi xs k ∧ gi xs k ≤ 9) (h7 : xs.length ≤ 7) :
    Calls Tryz.prog 41 #[.slice (some ⟨w.heap.size, 0, none⟩) 1 1] (w.alloc (.cells #[u] 53)) fun e w' => e = .returned (.string (bs (rowT xs))) ∧ w.alloc (.cells #[u] 53) = w' := by
  have h := rowsText_any _ [xs] _ (isR_one hu) (fun i k hi hk => by
    have h0 : i = 0 := by simp at hi; omega
    subst h0
    exact hd k hk) (by simp) (fun i hi => by
    have h0 : i = 0 := by simp at hi; omega
    subst h0
    exact h7)
  rwa [rowsTo_one] at h

set_option maxRecDepth 100000 in
set_option maxHeartbeats 8000000 in
theorem specAnswer_any (L : List UInt8) (w : World) (hL : L.length ≤ 1100000) :
    Calls Tryz.prog 47 #[.string (bs L)] w fun e w' => EndT w e w' (AnsW (splitB 32 L)) := by
  have KS := Lib.hid (splitAt_any L 32 w (by omega))
  have HL := Lib.hid hL
  obtain ⟨S, hS⟩ : ∃ S, S = bs L := ⟨_, rfl⟩
  rw [← hS] at KS ⊢
  clear hS hL
  go_enter Tryz.func47, Tryz.ntmps47
  go_wp2_with fail
  refine KS.out.mono ?_
  rintro e w6 ⟨vw, rfl, ho, hf, hn6⟩
  have hwl := splitB_len 32 L
  have hwn := splitB_ne 32 L
  obtain ⟨ws, hws⟩ : ∃ ws, ws = splitB 32 L := ⟨_, rfl⟩
  rw [← hws] at ho hwl hwn
  have HWS := Lib.hid hws
  have hsl : (strV ws).length = ws.length := by rw [strV, List.length_map]
  have h1 : 1 ≤ ws.length := by
    cases hc : ws with
    | nil => exact absurd hc hwn
    | cons a l => simp
  obtain ⟨g, cap, rfl, hcap, hmx⟩ := ho.shape (by intro h; rw [h] at hsl; simp at hsl; omega)
  rw [hsl] at ho hcap ⊢
  obtain ⟨n, hn⟩ : ∃ n, n = ws.length := ⟨_, rfl⟩
  rw [← hn] at ho hcap h1 ⊢
  have HN := Lib.hid hn
  have hcell : ∀ i, i < n → (strV ws).length = n → w6.cell? ⟨g, i, none⟩ = some (.string (bs (ws.getD i []))) := fun i hi _ => by
    rw [hn] at hi
    rw [(ho.cell (i := i) (by rw [hsl]; exact hi)).1, gv_strV hi, getD_lt hi]
  have HCL : Hid (∀ i, i < n → w6.cell? ⟨g, i, none⟩ = some (.string (bs (ws.getD i [])))) := fun i hi => hcell i hi (by rw [hsl, hn])
  have hlw : ∀ i, (ws.getD i []).length ≤ L.length := fun i => by
    by_cases hi : i < ws.length
    · rw [getD_lt hi]; exact hwl.2 _ (List.getElem_mem hi)
    · rw [List.getD_eq_getElem?_getD, List.getElem?_eq_none (by omega)]; simp
  have HLW : Hid (∀ i, (ws.getD i []).length ≤ 1100000) := fun i => Nat.le_trans (hlw i) HL.out
  have H6 := Lib.hid hn6
  have c0 := HCL.out 0 (by omega)
  obtain ⟨Z0, hZ0⟩ : ∃ Z, Z = bs (ws.getD 0 []) := ⟨_, rfl⟩
  rw [← hZ0] at c0
  have HC0 := Lib.hid c0
  have HZ0 := Lib.hid hZ0
  have KP := Lib.hid (fun w => parseCodeS_any (ws.getD 1 []) w (HLW.out 1))
  obtain ⟨Z1, hZ1⟩ : ∃ Z, Z = bs (ws.getD 1 []) := ⟨_, rfl⟩
  rw [← hZ1] at KP
  have HZ1 := Lib.hid hZ1
  have hW : ws.getD 0 [] = cDist ∨ ws.getD 0 [] = cBest ∨ ws.getD 0 [] = cPlain ∨ ws.getD 0 [] = cSend ∨ ws.getD 0 [] = cMend ∨ (ws.getD 0 [] ≠ cDist ∧ ws.getD 0 [] ≠ cBest ∧ ws.getD 0 [] ≠ cPlain ∧ ws.getD 0 [] ≠ cSend ∧ ws.getD 0 [] ≠ cMend) := by
    by_cases a1 : ws.getD 0 [] = cDist
    · exact .inl a1
    by_cases a2 : ws.getD 0 [] = cBest
    · exact .inr (.inl a2)
    by_cases a3 : ws.getD 0 [] = cPlain
    · exact .inr (.inr (.inl a3))
    by_cases a4 : ws.getD 0 [] = cSend
    · exact .inr (.inr (.inr (.inl a4)))
    by_cases a5 : ws.getD 0 [] = cMend
    · exact .inr (.inr (.inr (.inr (.inl a5))))
    exact .inr (.inr (.inr (.inr (.inr ⟨a1, a2, a3, a4, a5⟩))))
  have HW := Lib.hid hW
  have HG : Hid (∀ c : List UInt8, ws.getD 0 [] ≠ c → ¬ Z0.toList = c) := fun c h1 h2 => h1 (by rw [HZ0.out] at h2; simpa [bs, ByteArray.toList_eq] using h2)
  clear ho hf hn6 hws hwl hwn hsl hcap hmx hn hcell hlw hZ0 hZ1 hW
  by_cases hn2 : n = 2
  · have c1 := HCL.out 1 (by omega)
    rw [← HZ1.out] at c1
    go_wp2_with fail
    refine (KP.out w6).mono ?_
    rintro e w7 ⟨u7, vs7, rows, p, ok, rfl, ho7, hf7, hp7, hn7⟩
    obtain ⟨a7, c7, hv7, _, _⟩ := ho7.outer.shape'
    obtain ⟨l7, hl7⟩ : ∃ l, u7 = .slice a7 l c7 := ⟨_, hv7⟩
    clear hv7
    subst hl7
    have b8 := Blk2.alloc w7 (.int .i64 p) (.slice a7 l7 c7) 24
    have n8 := New.alloc w7 (.cells #[.int .i64 p, .slice a7 l7 c7] 24)
    obtain ⟨w8, hw8⟩ : ∃ w8, w8 = w7.alloc (.cells #[.int .i64 p, .slice a7 l7 c7] 24) := ⟨_, rfl⟩
    rw [← hw8] at b8 n8
    have n68 := hn7.trans n8
    have G8 := Lib.hid (And.intro (ho7.new n8) (And.intro b8 (And.intro (H6.out.trans n68) (And.intro hp7 n68))))
    have d0 := n68.cellNew HC0.out
    clear ho7 hf7 hn7 n8 b8 hp7 n68 c0 c1
    go_upto_region 4 with fail
    rw [← hw8]
    clear hw8
    obtain ⟨q0, q1, _, _⟩ := G8.out.2.1.cells
    rcases HW.out with hw | hw | hw | hw | hw | hw
    · have fz : Z0.toList = [100, 105, 115, 116, 97, 110, 99, 101] := by rw [HZ0.out, hw]; simp [bs, ByteArray.toList_eq, cDist]
      cases ok with
      | false =>
        go_wp2_with fail
        go_ret
        exact ⟨cWrong, ret_sb rfl, by rw [← HWS.out]; exact AnsW.ofOne ⟨by rw [← HN.out]; exact hn2, .inl hw⟩ G8.out.2.2.2.1.no (fun _ => rfl) (fun h => by cases h), G8.out.2.2.1⟩
      | true =>
        have hpr := G8.out.2.2.2.1.yes
        have H8 := Lib.hid (And.intro (G8.out.1.isR hpr.midP.1 hpr.midP.2) (And.intro G8.out.2.1 (And.intro G8.out.2.2.1 (And.intro hpr G8.out.2.2.2.2))))
        clear hpr
        have hv := (H8.out.2.2.2.1.1 rfl).1
        obtain ⟨q, rfl, hq⟩ := prime_nat (vtB_pr hv.1)
        haveI := hq.nz
        have hf := hv.few
        have HV := Lib.hid hv
        clear hv hq
        go_wp2_with fail
        refine (specDistance_any q _ rows _ H8.out.1 HV.out).mono ?_
        rintro e w9 ⟨d, rfl, hd, hn9⟩
        have hd9 : 0 ≤ d ∧ d ≤ 9 := by
          obtain ⟨k, rfl, k1, k2, _⟩ := hd.1 HV.out
          omega
        have H9 := Lib.hid (And.intro hd hn9)
        clear hd hn9 hf
        go_wp2_with (go_at_call 40; refine (number_any d hd9.1 hd9.2 _).mono ?_; rintro e w' ⟨rfl, rfl⟩)
        go_ret
        exact ⟨_, ret_sb rfl, by rw [← HWS.out]; exact AnsW.ofOne ⟨by rw [← HN.out]; exact hn2, .inl hw⟩ H8.out.2.2.2.1 (fun h => by cases h) (fun _ => OneR.dist hw ⟨d, H9.out.1, rfl⟩), H8.out.2.2.1.trans H9.out.2⟩
    · have fz : Z0.toList = [98, 101, 115, 116] := by rw [HZ0.out, hw]; simp [bs, ByteArray.toList_eq, cBest]
      cases ok with
      | false =>
        go_wp2_with fail
        go_ret
        exact ⟨cWrong, ret_sb rfl, by rw [← HWS.out]; exact AnsW.ofOne ⟨by rw [← HN.out]; exact hn2, .inr (.inl hw)⟩ G8.out.2.2.2.1.no (fun _ => rfl) (fun h => by cases h), G8.out.2.2.1⟩
      | true =>
        have hpr := G8.out.2.2.2.1.yes
        have H8 := Lib.hid (And.intro (G8.out.1.isR hpr.midP.1 hpr.midP.2) (And.intro G8.out.2.1 (And.intro G8.out.2.2.1 (And.intro hpr G8.out.2.2.2.2))))
        clear hpr
        have hv := (H8.out.2.2.2.1.1 rfl).1
        obtain ⟨q, rfl, hq⟩ := prime_nat (vtB_pr hv.1)
        haveI := hq.nz
        have HV := Lib.hid hv
        clear hv hq
        go_wp2_with fail
        refine (isBest_any q (gr rows 0).length _ rows _ H8.out.1 (vtB_ok HV.out.1)).mono ?_
        rintro e w9 ⟨b, rfl, hb, hn9⟩
        have H9 := Lib.hid (And.intro hb hn9)
        clear hb hn9
        cases b with
        | true =>
          have hb : IsBestC q rows := ⟨HV.out, by simpa using H9.out.1⟩
          have HB := Lib.hid hb
          clear hb
          go_wp2_with fail
          go_ret
          exact ⟨cYes, ret_sb rfl, by rw [← HWS.out]; exact AnsW.ofOne ⟨by rw [← HN.out]; exact hn2, .inr (.inl hw)⟩ H8.out.2.2.2.1 (fun h => by cases h) (fun _ => OneR.best hw ⟨fun _ => rfl, fun h => absurd HB.out h⟩), H8.out.2.2.1.trans H9.out.2⟩
        | false =>
          have hb : ¬ IsBestC q rows := fun h => by simpa [h.2] using H9.out.1
          have HB := Lib.hid hb
          clear hb
          go_wp2_with fail
          go_ret
          exact ⟨cNo, ret_sb rfl, by rw [← HWS.out]; exact AnsW.ofOne ⟨by rw [← HN.out]; exact hn2, .inr (.inl hw)⟩ H8.out.2.2.2.1 (fun h => by cases h) (fun _ => OneR.best hw ⟨fun h => absurd h HB.out, fun _ => rfl⟩), H8.out.2.2.1.trans H9.out.2⟩
    · have fz : Z0.toList = [112, 108, 97, 105, 110] := by rw [HZ0.out, hw]; simp [bs, ByteArray.toList_eq, cPlain]
      cases ok with
      | false =>
        go_wp2_with fail
        go_ret
        exact ⟨cWrong, ret_sb rfl, by rw [← HWS.out]; exact AnsW.ofOne ⟨by rw [← HN.out]; exact hn2, .inr (.inr hw)⟩ G8.out.2.2.2.1.no (fun _ => rfl) (fun h => by cases h), G8.out.2.2.1⟩
      | true =>
        have hpr := G8.out.2.2.2.1.yes
        have H8 := Lib.hid (And.intro (G8.out.1.isR hpr.midP.1 hpr.midP.2) (And.intro G8.out.2.1 (And.intro G8.out.2.2.1 (And.intro hpr G8.out.2.2.2.2))))
        clear hpr
        go_wp2_with fail
        refine (specPlainOf_any p _ rows _ H8.out.1).mono ?_
        rintro e w9 ⟨u9, vs9, out9, p9, rfl, ho9, hf9, hq9, hn9⟩
        have hsm := hq9.small
        have H9 := Lib.hid (And.intro (ho9.isR (by unfold Mid; omega) (fun i hi => by have := hsm.2 i hi; unfold Mid; omega)) (And.intro hq9 hn9))
        clear ho9 hf9 hq9 hn9 hsm
        go_wp2_with fail
        refine (specCodeText_any p9 _ out9 _ H9.out.1).mono ?_
        rintro e w10 ⟨⟨s, rfl, hs⟩, hn10⟩
        obtain ⟨t, rfl⟩ := hs.text
        have H10 := Lib.hid (And.intro hs hn10)
        clear hs hn10
        go_wp2_with fail
        go_ret
        exact ⟨t, ret_sb rfl, by rw [← HWS.out]; exact AnsW.ofOne ⟨by rw [← HN.out]; exact hn2, .inr (.inr hw)⟩ H8.out.2.2.2.1 (fun h => by cases h) (fun _ => OneR.plain hw ⟨p9, out9, H9.out.2.1, H10.out.1⟩), H8.out.2.2.1.trans (H9.out.2.2.trans H10.out.2)⟩
    · have fz : Z0.toList = [115, 101, 110, 100] := by rw [HZ0.out, hw]; simp [bs, ByteArray.toList_eq, cSend]
      go_wp2_with fail
      go_ret
      exact ⟨cWhat, ret_sb rfl, by rw [← HWS.out]; exact AnsW.what (fun h => by have h2 := h.2; rw [hw] at h2; revert h2; decide) (fun h => by have h1 := h.1; rw [← HN.out] at h1; omega), G8.out.2.2.1⟩
    · have fz : Z0.toList = [109, 101, 110, 100] := by rw [HZ0.out, hw]; simp [bs, ByteArray.toList_eq, cMend]
      go_wp2_with fail
      go_ret
      exact ⟨cWhat, ret_sb rfl, by rw [← HWS.out]; exact AnsW.what (fun h => by have h2 := h.2; rw [hw] at h2; revert h2; decide) (fun h => by have h1 := h.1; rw [← HN.out] at h1; omega), G8.out.2.2.1⟩
    · have gcDist : ¬ Z0.toList = [100, 105, 115, 116, 97, 110, 99, 101] := HG.out cDist hw.1
      have fcDist : (Z0.toList == [100, 105, 115, 116, 97, 110, 99, 101]) = false := beq_eq_false_iff_ne.2 gcDist
      have gcBest : ¬ Z0.toList = [98, 101, 115, 116] := HG.out cBest hw.2.1
      have fcBest : (Z0.toList == [98, 101, 115, 116]) = false := beq_eq_false_iff_ne.2 gcBest
      have gcPlain : ¬ Z0.toList = [112, 108, 97, 105, 110] := HG.out cPlain hw.2.2.1
      have fcPlain : (Z0.toList == [112, 108, 97, 105, 110]) = false := beq_eq_false_iff_ne.2 gcPlain
      have gcSend : ¬ Z0.toList = [115, 101, 110, 100] := HG.out cSend hw.2.2.2.1
      have fcSend : (Z0.toList == [115, 101, 110, 100]) = false := beq_eq_false_iff_ne.2 gcSend
      have gcMend : ¬ Z0.toList = [109, 101, 110, 100] := HG.out cMend hw.2.2.2.2
      have fcMend : (Z0.toList == [109, 101, 110, 100]) = false := beq_eq_false_iff_ne.2 gcMend
      go_wp2_with fail
      go_ret
      exact ⟨cWhat, ret_sb rfl, by rw [← HWS.out]; exact AnsW.what (fun h => h.2.elim hw.1 (fun h => h.elim hw.2.1 hw.2.2.1)) (fun h => h.2.elim hw.2.2.2.1 hw.2.2.2.2), G8.out.2.2.1⟩
  by_cases hn3 : n = 3
  · rcases HW.out with hw | hw | hw | hw | hw | hw
    · have fz : Z0.toList = [100, 105, 115, 116, 97, 110, 99, 101] := by rw [HZ0.out, hw]; simp [bs, ByteArray.toList_eq, cDist]
      go_wp2_with fail
      go_ret
      exact ⟨cWhat, ret_sb rfl, by rw [← HWS.out]; exact AnsW.what (fun h => hn2 (by rw [HN.out]; exact h.1)) (fun h => by have h2 := h.2; rw [hw] at h2; revert h2; decide), H6.out⟩
    · have fz : Z0.toList = [98, 101, 115, 116] := by rw [HZ0.out, hw]; simp [bs, ByteArray.toList_eq, cBest]
      go_wp2_with fail
      go_ret
      exact ⟨cWhat, ret_sb rfl, by rw [← HWS.out]; exact AnsW.what (fun h => hn2 (by rw [HN.out]; exact h.1)) (fun h => by have h2 := h.2; rw [hw] at h2; revert h2; decide), H6.out⟩
    · have fz : Z0.toList = [112, 108, 97, 105, 110] := by rw [HZ0.out, hw]; simp [bs, ByteArray.toList_eq, cPlain]
      go_wp2_with fail
      go_ret
      exact ⟨cWhat, ret_sb rfl, by rw [← HWS.out]; exact AnsW.what (fun h => hn2 (by rw [HN.out]; exact h.1)) (fun h => by have h2 := h.2; rw [hw] at h2; revert h2; decide), H6.out⟩
    · have fz : Z0.toList = [115, 101, 110, 100] := by rw [HZ0.out, hw]; simp [bs, ByteArray.toList_eq, cSend]
      have c1 := HCL.out 1 (by omega)
      rw [← HZ1.out] at c1
      go_wp2_with fail
      refine (KP.out w6).mono ?_
      rintro e w7 ⟨u7, vs7, rows, p, ok, rfl, ho7, hf7, hp7, hn7⟩
      obtain ⟨a7, c7, hv7, _, _⟩ := ho7.outer.shape'
      obtain ⟨l7, hl7⟩ : ∃ l, u7 = .slice a7 l c7 := ⟨_, hv7⟩
      clear hv7
      subst hl7
      have b8 := Blk2.alloc w7 (.int .i64 p) (.slice a7 l7 c7) 24
      have n8 := New.alloc w7 (.cells #[.int .i64 p, .slice a7 l7 c7] 24)
      obtain ⟨w8, hw8⟩ : ∃ w8, w8 = w7.alloc (.cells #[.int .i64 p, .slice a7 l7 c7] 24) := ⟨_, rfl⟩
      rw [← hw8] at b8 n8
      have n68 := hn7.trans n8
      have G8 := Lib.hid (And.intro (ho7.new n8) (And.intro b8 (And.intro (H6.out.trans n68) (And.intro hp7 n68))))
      have d0 := n68.cellNew HC0.out
      clear ho7 hf7 hn7 n8 b8 hp7 n68 c0 c1
      go_upto_region 19 with fail
      rw [← hw8]
      clear hw8
      obtain ⟨q0, q1, _, _⟩ := G8.out.2.1.cells
      have d2 := G8.out.2.2.2.2.cellNew (HCL.out 2 (by omega))
      have KD := Lib.hid (fun w => specDigits_any (ws.getD 2 []) w (by have := HLW.out 2; omega))
      obtain ⟨Z2, hZ2⟩ : ∃ Z, Z = bs (ws.getD 2 []) := ⟨_, rfl⟩
      rw [← hZ2] at d2 KD
      clear hZ2
      go_wp2_with fail
      refine (KD.out w8).mono ?_
      rintro e w9 ⟨u9, rfl, ho9, hf9, hn9⟩
      have hml : (sUn (ws.getD 2 [])).length ≤ 1100000 := by rw [sUn, List.length_map]; exact HLW.out 2
      have hi9 := ho9.isI (by unfold Mid; omega)
      obtain ⟨a9, l9, c9, rfl, _, _⟩ := hi9.shape
      obtain ⟨xs, hxs⟩ : ∃ xs, xs = sUn (ws.getD 2 []) := ⟨_, rfl⟩
      rw [← hxs] at hi9
      have HXS := Lib.hid hxs
      have H9 := Lib.hid (And.intro hi9 hn9)
      clear ho9 hf9 hi9 hxs hml d2 d0 q0 q1
      have d0 := hn9.cellNew (G8.out.2.2.2.2.cellNew HC0.out)
      obtain ⟨q0, q1, _, _⟩ := (G8.out.2.1.new hn9).cells
      clear hn9
      cases ok with
      | false =>
        go_wp2_with fail
        go_ret
        exact ⟨cWrong, ret_sb rfl, by rw [← HWS.out]; exact AnsW.ofTwo ⟨by rw [← HN.out]; exact hn3, .inl hw⟩ G8.out.2.2.2.1.no (fun _ => rfl) (fun h => by cases h), G8.out.2.2.1.trans H9.out.2⟩
      | true =>
        have hpr := G8.out.2.2.2.1.yes
        have H8 := Lib.hid (And.intro (G8.out.1.isR hpr.midP.1 hpr.midP.2) (And.intro G8.out.2.1 (And.intro G8.out.2.2.1 (And.intro hpr G8.out.2.2.2.2))))
        clear hpr
        have hv := (H8.out.2.2.2.1.1 rfl).1
        have hp := hv.prime
        have HV := Lib.hid hv
        clear hv
        have hf := HV.out.few
        have HL7 := Lib.hid (H8.out.1.len)
        have hl7 : l7 ≤ 4 := by rw [HL7.out]; exact hf.2.1
        go_wp2_with fail
        refine (validWord_any p _ xs l7 _ H9.out.1 (by omega) (by omega)).mono ?_
        rintro e w10 ⟨rfl, rfl⟩
        cases hb : (hasB p xs && decide (xs.length = l7)) with
        | false =>
          have hno : ¬ MsgC p rows xs := fun h => by rw [h.2.2, HL7.out, decide_eq_true h.2.1] at hb; cases hb
          have HNO := Lib.hid hno
          clear hno hb
          go_wp2_with fail
          go_ret
          exact ⟨cWrong, ret_sb rfl, by rw [← HWS.out]; exact AnsW.ofTwo ⟨by rw [← HN.out]; exact hn3, .inl hw⟩ H8.out.2.2.2.1 (fun h => by cases h) (fun _ => by rw [← HXS.out]; exact ⟨fun _ => ⟨fun h => absurd h HNO.out, fun _ => rfl⟩, fun h => absurd (hw.symm.trans h) (by decide)⟩), H8.out.2.2.1.trans H9.out.2⟩
        | true =>
          have hyes : MsgC p rows xs := by
            rw [Bool.and_eq_true, decide_eq_true_eq] at hb
            exact ⟨HV.out, hb.2.trans HL7.out, hb.1⟩
          have HYES := Lib.hid hyes
          clear hyes hb
          go_wp2_with fail
          refine (specEncode_any p (gr rows 0).length _ _ rows xs _ hp (by omega) (H8.out.1.new H9.out.2) H9.out.1 HV.out.rowsOk hf.1 (Nat.le_of_eq HYES.out.2.1) (hasB_iff.1 HYES.out.2.2)).mono ?_
          rintro e w11 ⟨u11, rfl, ho11, hf11, hn11⟩
          have hlen := encZ_length p (gr rows 0).length rows xs xs.length
          have hdig : ∀ k, k < (encZ p (gr rows 0).length rows xs xs.length).length → 0 ≤ gi (encZ p (gr rows 0).length rows xs xs.length) k ∧ gi (encZ p (gr rows 0).length rows xs xs.length) k ≤ 9 := fun k hk => by
            have hml := HYES.out.2.1
            have := encZ_range (p := p) (by omega) (n := (gr rows 0).length) (rows := rows) xs (k := xs.length) (by omega) HV.out.rowsOk (i := k) (by omega)
            omega
          obtain ⟨a11, l11, c11, rfl, _, _⟩ := (ho11.isI (by rw [hlen]; unfold Mid; omega)).shape
          obtain ⟨out, hout⟩ : ∃ out, out = encZ p (gr rows 0).length rows xs xs.length := ⟨_, rfl⟩
          rw [← hout] at ho11 hlen hdig
          have KR := Lib.hid (fun w h => rowText_any (.slice a11 l11 c11) out w h hdig (by omega))
          have H11 := Lib.hid (And.intro (ho11.isI (by unfold Mid; omega)) (And.intro hn11 hout))
          clear ho11 hf11 hn11 hout hdig hlen
          go_wp2_with fail
          refine (KR.out _ H11.out.1).mono ?_
          rintro e w12 ⟨rfl, rfl⟩
          go_wp2_with fail
          go_ret
          exact ⟨rowT out, ret_sb rfl, by rw [← HWS.out]; exact AnsW.ofTwo ⟨by rw [← HN.out]; exact hn3, .inl hw⟩ H8.out.2.2.2.1 (fun h => by cases h) (fun _ => by rw [← HXS.out]; exact ⟨fun _ => ⟨fun _ => by rw [← H11.out.2.2], fun h => absurd HYES.out h⟩, fun h => absurd (hw.symm.trans h) (by decide)⟩), H8.out.2.2.1.trans (H9.out.2.trans (H11.out.2.1.trans (New.alloc _ _)))⟩
    · have fz : Z0.toList = [109, 101, 110, 100] := by rw [HZ0.out, hw]; simp [bs, ByteArray.toList_eq, cMend]
      have c1 := HCL.out 1 (by omega)
      rw [← HZ1.out] at c1
      go_wp2_with fail
      refine (KP.out w6).mono ?_
      rintro e w7 ⟨u7, vs7, rows, p, ok, rfl, ho7, hf7, hp7, hn7⟩
      obtain ⟨a7, c7, hv7, _, _⟩ := ho7.outer.shape'
      obtain ⟨l7, hl7⟩ : ∃ l, u7 = .slice a7 l c7 := ⟨_, hv7⟩
      clear hv7
      subst hl7
      have b8 := Blk2.alloc w7 (.int .i64 p) (.slice a7 l7 c7) 24
      have n8 := New.alloc w7 (.cells #[.int .i64 p, .slice a7 l7 c7] 24)
      obtain ⟨w8, hw8⟩ : ∃ w8, w8 = w7.alloc (.cells #[.int .i64 p, .slice a7 l7 c7] 24) := ⟨_, rfl⟩
      rw [← hw8] at b8 n8
      have n68 := hn7.trans n8
      have G8 := Lib.hid (And.intro (ho7.new n8) (And.intro b8 (And.intro (H6.out.trans n68) (And.intro hp7 n68))))
      have d0 := n68.cellNew HC0.out
      clear ho7 hf7 hn7 n8 b8 hp7 n68 c0 c1
      go_upto_region 19 with fail
      rw [← hw8]
      clear hw8
      obtain ⟨q0, q1, _, _⟩ := G8.out.2.1.cells
      have d2 := G8.out.2.2.2.2.cellNew (HCL.out 2 (by omega))
      have KD := Lib.hid (fun w => specDigits_any (ws.getD 2 []) w (by have := HLW.out 2; omega))
      obtain ⟨Z2, hZ2⟩ : ∃ Z, Z = bs (ws.getD 2 []) := ⟨_, rfl⟩
      rw [← hZ2] at d2 KD
      clear hZ2
      go_wp2_with fail
      refine (KD.out w8).mono ?_
      rintro e w9 ⟨u9, rfl, ho9, hf9, hn9⟩
      have hml : (sUn (ws.getD 2 [])).length ≤ 1100000 := by rw [sUn, List.length_map]; exact HLW.out 2
      have hi9 := ho9.isI (by unfold Mid; omega)
      obtain ⟨a9, l9, c9, rfl, _, _⟩ := hi9.shape
      obtain ⟨xs, hxs⟩ : ∃ xs, xs = sUn (ws.getD 2 []) := ⟨_, rfl⟩
      rw [← hxs] at hi9
      have HXS := Lib.hid hxs
      have H9 := Lib.hid (And.intro hi9 hn9)
      clear ho9 hf9 hi9 hxs hml d2 d0 q0 q1
      have d0 := hn9.cellNew (G8.out.2.2.2.2.cellNew HC0.out)
      obtain ⟨q0, q1, _, _⟩ := (G8.out.2.1.new hn9).cells
      clear hn9
      cases ok with
      | false =>
        go_wp2_with fail
        go_ret
        exact ⟨cWrong, ret_sb rfl, by rw [← HWS.out]; exact AnsW.ofTwo ⟨by rw [← HN.out]; exact hn3, .inr hw⟩ G8.out.2.2.2.1.no (fun _ => rfl) (fun h => by cases h), G8.out.2.2.1.trans H9.out.2⟩
      | true =>
        have hpr := G8.out.2.2.2.1.yes
        have H8 := Lib.hid (And.intro (G8.out.1.isR hpr.midP.1 hpr.midP.2) (And.intro G8.out.2.1 (And.intro G8.out.2.2.1 (And.intro hpr G8.out.2.2.2.2))))
        clear hpr
        have hv := (H8.out.2.2.2.1.1 rfl).1
        have hp := hv.prime
        have HV := Lib.hid hv
        clear hv
        have hf := HV.out.few
        go_wp2_with fail
        refine (specLost_any p _ _ rows xs _ (H8.out.1.new H9.out.2) H9.out.1 HV.out).mono ?_
        rintro e w10 ⟨⟨b, rfl, hb⟩, hn10⟩
        have H10 := Lib.hid (H9.out.2.trans hn10)
        have N910 := Lib.hid hn10
        have HB := Lib.hid hb
        clear hb hn10 q0 q1 d0
        obtain ⟨q0, q1, _, _⟩ := (H8.out.2.1.new H10.out).cells
        cases b with
        | false =>
          have hno : ¬ LostC p rows xs := fun h => by simpa [h] using HB.out
          have HNO := Lib.hid hno
          clear hno HB
          go_wp2_with fail
          go_ret
          exact ⟨cWrong, ret_sb rfl, by rw [← HWS.out]; exact AnsW.ofTwo ⟨by rw [← HN.out]; exact hn3, .inr hw⟩ H8.out.2.2.2.1 (fun h => by cases h) (fun _ => by rw [← HXS.out]; exact ⟨(fun h => absurd (hw.symm.trans h) (by decide)), fun _ => ⟨fun _ => rfl, fun h => absurd h HNO.out⟩⟩), H8.out.2.2.1.trans H10.out⟩
        | true =>
          have hyes : LostC p rows xs := by simpa using HB.out
          have HYES := Lib.hid hyes
          clear hyes HB
          go_wp2_with fail
          refine (specMendWord_any p _ _ rows xs _ (H8.out.1.new H10.out) (H9.out.1.new N910.out)).mono ?_
          rintro e w11 ⟨u11, out, ok, rfl, ho11, hf11, hq11, hn11⟩
          have H11 := Lib.hid (And.intro hq11 hn11)
          cases ok with
          | false =>
            clear ho11 hf11 hq11 hn11
            go_wp2_with fail
            go_ret
            exact ⟨cLost, ret_sb rfl, by rw [← HWS.out]; exact AnsW.ofTwo ⟨by rw [← HN.out]; exact hn3, .inr hw⟩ H8.out.2.2.2.1 (fun h => by cases h) (fun _ => by rw [← HXS.out]; exact ⟨(fun h => absurd (hw.symm.trans h) (by decide)), fun _ => ⟨fun h => absurd HYES.out h, fun _ => ⟨out, false, H11.out.1, (fun h => by cases h), fun _ => rfl⟩⟩⟩), H8.out.2.2.1.trans (H10.out.trans H11.out.2)⟩
          | true =>
            have hc1 : LostC p rows xs ∧ cntOf p rows xs = 1 := by
              apply Classical.byContradiction
              intro h
              exact absurd (hq11.2 h).1 (by decide)
            obtain ⟨_, t, ht, hfit, hout⟩ := hq11.1 hc1
            have hlen : out.length ≤ 7 := by rw [hout, msg_length]; omega
            have hdig : ∀ k, k < out.length → 0 ≤ gi out k ∧ gi out k ≤ 9 := fun k hk => by
              rw [hout] at hk ⊢
              have := (msg_good (q := p.toNat) (k := rows.length) (t := t) (by omega)).2 k (by rw [msg_length] at hk; exact hk)
              omega
            obtain ⟨a11, l11, c11, rfl, _, _⟩ := (ho11.isI (by unfold Mid; omega)).shape
            have KR := Lib.hid (fun w h => rowText_any (.slice a11 l11 c11) out w h hdig hlen)
            have HI := Lib.hid (ho11.isI (by unfold Mid; omega))
            clear ho11 hf11 hq11 hn11 hc1 ht hfit hout hdig hlen
            go_wp2_with fail
            refine (KR.out _ HI.out).mono ?_
            rintro e w12 ⟨rfl, rfl⟩
            go_wp2_with fail
            go_ret
            exact ⟨rowT out, ret_sb rfl, by rw [← HWS.out]; exact AnsW.ofTwo ⟨by rw [← HN.out]; exact hn3, .inr hw⟩ H8.out.2.2.2.1 (fun h => by cases h) (fun _ => by rw [← HXS.out]; exact ⟨(fun h => absurd (hw.symm.trans h) (by decide)), fun _ => ⟨fun h => absurd HYES.out h, fun _ => ⟨out, true, H11.out.1, fun _ => rfl, (fun h => by cases h)⟩⟩⟩), H8.out.2.2.1.trans (H10.out.trans (H11.out.2.trans (New.alloc _ _)))⟩
    · have gcDist : ¬ Z0.toList = [100, 105, 115, 116, 97, 110, 99, 101] := HG.out cDist hw.1
      have fcDist : (Z0.toList == [100, 105, 115, 116, 97, 110, 99, 101]) = false := beq_eq_false_iff_ne.2 gcDist
      have gcBest : ¬ Z0.toList = [98, 101, 115, 116] := HG.out cBest hw.2.1
      have fcBest : (Z0.toList == [98, 101, 115, 116]) = false := beq_eq_false_iff_ne.2 gcBest
      have gcPlain : ¬ Z0.toList = [112, 108, 97, 105, 110] := HG.out cPlain hw.2.2.1
      have fcPlain : (Z0.toList == [112, 108, 97, 105, 110]) = false := beq_eq_false_iff_ne.2 gcPlain
      have gcSend : ¬ Z0.toList = [115, 101, 110, 100] := HG.out cSend hw.2.2.2.1
      have fcSend : (Z0.toList == [115, 101, 110, 100]) = false := beq_eq_false_iff_ne.2 gcSend
      have gcMend : ¬ Z0.toList = [109, 101, 110, 100] := HG.out cMend hw.2.2.2.2
      have fcMend : (Z0.toList == [109, 101, 110, 100]) = false := beq_eq_false_iff_ne.2 gcMend
      go_wp2_with fail
      go_ret
      exact ⟨cWhat, ret_sb rfl, by rw [← HWS.out]; exact AnsW.what (fun h => h.2.elim hw.1 (fun h => h.elim hw.2.1 hw.2.2.1)) (fun h => h.2.elim hw.2.2.2.1 hw.2.2.2.2), H6.out⟩
  have hd2 : ((n : Int) == 2) = false := by simp; omega
  have hd3 : ((n : Int) == 3) = false := by simp; omega
  go_wp2_with fail
  go_ret
  exact ⟨cWhat, ret_sb rfl, by rw [← HWS.out]; exact AnsW.what (fun h => hn2 (by rw [HN.out]; exact h.1)) (fun h => hn3 (by rw [HN.out]; exact h.1)), H6.out⟩
end Go.Proofs.YtcdbeepphdfipaaGreatDoor
