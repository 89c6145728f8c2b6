/- The program's answers to questions of one code; send and mend. The program's mend. -/
import Derived.Test.YtcdbeepphdfipaaGreatDoorAnsP
import Derived.Test.YtcdbeepphdfipaaGreatDoorTxtG
import Derived.Test.YtcdbeepphdfipaaGreatDoorWeightsOf
import Derived.Test.YtcdbeepphdfipaaGreatDoorMends
import Derived.Test.YtcdbeepphdfipaaGreatDoorMendI
namespace Go.Proofs.YtcdbeepphdfipaaGreatDoor
open Go.RowKit
set_option linter.unusedVariables false

/-- It ends with a text of which Q holds. -/
def EndT (w : World) (e : Ending) (w' : World) (Q : List UInt8 → Prop) : Prop := ∃ t : List UInt8, e = .returned (.string (bs t)) ∧ Q t ∧ New w w'

theorem yes_any (b : Bool) (w : World) :
    Calls Tryz.prog 87 #[.bool b] w fun e w' => e = .returned (.string (bs (if b = true then cYes else cNo))) ∧ w = w' := by
  cases b with
  | true =>
    go_enter Tryz.func87, Tryz.ntmps87
    go_wp2
    go_ret
    exact ⟨rfl, rfl⟩
  | false =>
    go_enter Tryz.func87, Tryz.ntmps87
    go_wp2
    go_ret
    exact ⟨rfl, rfl⟩

set_option maxHeartbeats 1000000 in
theorem ansDist_any (p : Int) (v : Value) (rows : List (List Int)) (w : World) (hr : IsR w v rows) (hv : ValidC p rows) :
    Calls Tryz.prog 84 #[.agg #[.int .i64 p, v]] w fun e w' => EndT w e w' (fun t => ∃ d, DistR p rows d ∧ t = [digB d]) := by
  obtain ⟨ao, n, cap, rfl, HN, hn⟩ := hr.shape
  have HR := Lib.hid hr
  have HV := Lib.hid hv
  have h1 : New w (w.alloc (.cells #[.int .i64 p, .slice ao n cap] 24)) := New.alloc _ _
  clear hr hv
  go_enter Tryz.func84, Tryz.ntmps84
  go_wp2_with fail
  refine (implDistanceOf_any p _ rows _ (HR.out.new h1)).mono ?_
  rintro e w2 ⟨d, rfl, hd, hn2⟩
  have hd9 : 0 ≤ d ∧ d ≤ 9 := by
    obtain ⟨k, rfl, k1, k2, _⟩ := hd.1 HV.out
    have := HV.out.few
    omega
  have HD := Lib.hid (And.intro hd (h1.trans hn2))
  clear hd hn2 h1
  go_wp2_with (go_at_call 37; refine (itoa_any d hd9.1 hd9.2 _).mono ?_; rintro e w' ⟨rfl, rfl⟩)
  go_ret
  exact ⟨_, rfl, ⟨d, HD.out.1, rfl⟩, HD.out.2⟩

set_option maxHeartbeats 1000000 in
theorem ansBest_any (p : Int) (v : Value) (rows : List (List Int)) (w : World) (hr : IsR w v rows) :
    Calls Tryz.prog 86 #[.agg #[.int .i64 p, v]] w fun e w' => EndT w e w' (fun t => (IsBestC p rows → t = cYes) ∧ (¬ IsBestC p rows → t = cNo)) := by
  obtain ⟨ao, n, cap, rfl, HN, hn⟩ := hr.shape
  have HR := Lib.hid hr
  have h1 : New w (w.alloc (.cells #[.int .i64 p, .slice ao n cap] 24)) := New.alloc _ _
  clear hr
  go_enter Tryz.func86, Tryz.ntmps86
  go_wp2_with fail
  refine (implIsBest_any p _ rows _ (HR.out.new h1)).mono ?_
  rintro e w2 ⟨b, rfl, hb, hn2⟩
  have HD := Lib.hid (And.intro hb (h1.trans hn2))
  clear hb hn2 h1
  cases b with
  | true =>
    go_wp2_with (go_at_call 87; refine (yes_any true _).mono ?_; rintro e w' ⟨rfl, rfl⟩)
    go_ret
    exact ⟨cYes, rfl, ⟨fun _ => rfl, fun h => absurd (by simpa using HD.out.1) h⟩, HD.out.2⟩
  | false =>
    go_wp2_with (go_at_call 87; refine (yes_any false _).mono ?_; rintro e w' ⟨rfl, rfl⟩)
    go_ret
    exact ⟨cNo, rfl, ⟨fun h => (by cases HD.out.1.2 h), fun _ => rfl⟩, HD.out.2⟩

theorem TxtR.text {p : Int} {rows : List (List Int)} {s : ByteArray} (h : TxtR p rows s) : ∃ l, s = bs l := by
  by_cases c : ValidC p rows
  · exact ⟨_, h.1 c⟩
  · exact ⟨[], h.2 c⟩
set_option maxHeartbeats 1000000 in
theorem ansPlain_any (p : Int) (v : Value) (rows : List (List Int)) (w : World) (hr : IsR w v rows) :
    Calls Tryz.prog 89 #[.agg #[.int .i64 p, v]] w fun e w' => EndT w e w' (fun t => ∃ p' out, PlainQ p rows p' out ∧ TxtR p' out (bs t)) := by
  obtain ⟨ao, n, cap, rfl, HN, hn⟩ := hr.shape
  have HR := Lib.hid hr
  have h1 : New w (w.alloc (.cells #[.int .i64 p, .slice ao n cap] 24)) := New.alloc _ _
  clear hr
  go_enter Tryz.func89, Tryz.ntmps89
  go_wp2_with fail
  refine (implPlainOf_any p _ rows _ (HR.out.new h1)).mono ?_
  rintro e w2 ⟨u, vs, out, p', rfl, ho, hf, hq, hn2⟩
  have hsm := hq.small
  have HD := Lib.hid (And.intro (ho.isR (by unfold Mid; omega) (fun i hi => by have := hsm.2 i hi; unfold Mid; omega)) (And.intro hq (h1.trans hn2)))
  clear ho hf hq hn2 h1 hsm
  go_wp2_with fail
  refine (implCodeText_any p' _ out _ HD.out.1).mono ?_
  rintro e w3 ⟨⟨s, rfl, hs⟩, hn3⟩
  obtain ⟨t, rfl⟩ := hs.text
  have HE := Lib.hid (And.intro hs hn3)
  clear hs hn3
  go_wp2_with fail
  go_ret
  exact ⟨t, rfl, ⟨p', out, HD.out.2.1, HE.out.1⟩, HD.out.2.2.trans HE.out.2⟩

set_option maxHeartbeats 1000000 in
theorem implEncodeNil_any (p : Int) (v vm : Value) (rows : List (List Int)) (m : List Int) (w : World) (hr : IsR w v rows) (hm : IsI w vm m) (hno : ¬ MsgC p rows m) :
    Calls Tryz.prog 128 #[.agg #[.int .i64 p, v], vm] w fun e w' => e = .returned (.slice none 0 0) ∧ New w w' := by
  obtain ⟨ao, n, cap, rfl, HN, hn⟩ := hr.shape
  obtain ⟨am, nm, cm, rfl, HNM, hnm⟩ := hm.shape
  have HR := Lib.hid hr
  have HM := Lib.hid hm
  have HNO := Lib.hid hno
  clear hr hm hno
  have h1 : New w (w.alloc (.cells #[.int .i64 p, .slice ao n cap] 24)) := New.alloc _ _
  have b1 := Blk2.alloc w (.int .i64 p) (.slice ao n cap) 24
  go_enter Tryz.func128, Tryz.ntmps128
  go_wp2_with fail
  refine (known_any _ _ rows _ (HR.out.new h1)).mono ?_
  rintro e w2 ⟨⟨b, rfl, hb⟩, hn2⟩
  have h2 := h1.trans hn2
  have b2 := b1.new hn2
  have HB := Lib.hid hb
  clear hb hn2 b1 h1
  obtain ⟨c0, c1, _, _⟩ := b2.cells
  cases b with
  | false =>
    go_wp2_with fail
    go_ret
    exact ⟨rfl, h2⟩
  | true =>
    have hv := HB.out.1 rfl
    have hp := hv.prime
    have hf := hv.few
    have hk : n ≤ 4 := by rw [HN.out]; omega
    have HV := Lib.hid hv
    clear hv hf HB
    by_cases hl : nm = n
    · have hlm : m.length = rows.length := by rw [← HN.out, ← HNM.out]; exact hl
      subst hl
      have HLM := Lib.hid hlm
      clear hlm
      go_wp2_with fail
      refine (has_any p _ m _ (HM.out.new h2) (by omega)).mono ?_
      rintro e w3 ⟨rfl, hn3⟩
      have h3 := h2.trans hn3
      cases hw : hasB p m with
      | false =>
        clear hw
        go_wp2_with fail
        go_ret
        exact ⟨rfl, h3⟩
      | true => exact absurd ⟨HV.out, HLM.out, hw⟩ HNO.out
    · go_wp2_with fail
      go_ret
      exact ⟨rfl, h2⟩

/-- How send ends. -/
def EndF (w : World) (e : Ending) (w' : World) (Q : List UInt8 → Bool → Prop) : Prop := ∃ (t : List UInt8) (fine : Bool), e = .returned (.tuple #[.string (bs t), .bool fine]) ∧ Q t fine ∧ New w w'

set_option maxRecDepth 100000 in
set_option maxHeartbeats 4000000 in
theorem implSend_any (p : Int) (v : Value) (rows : List (List Int)) (u : List UInt8) (w : World) (hr : IsR w v rows) (hv : ValidC p rows) (hu : u.length ≤ 2000000) :
    Calls Tryz.prog 91 #[.agg #[.int .i64 p, v], .string (bs u)] w fun e w' => EndF w e w' (fun t fine => (MsgC p rows (nUn u) → fine = true ∧ t = rowT (encZ p (gr rows 0).length rows (nUn u) (nUn u).length)) ∧ (¬ MsgC p rows (nUn u) → fine = false)) := by
  obtain ⟨ao, n, cap, rfl, HN, hn⟩ := hr.shape
  have b1 := Blk2.alloc w (.int .i64 p) (.slice ao n cap) 24
  have n1 := New.alloc w (.cells #[.int .i64 p, .slice ao n cap] 24)
  obtain ⟨w1, hw1⟩ : ∃ w1, w1 = w.alloc (.cells #[.int .i64 p, .slice ao n cap] 24) := ⟨_, rfl⟩
  rw [← hw1] at b1 n1
  have H1 := Lib.hid (And.intro (hr.new n1) (And.intro b1 n1))
  have HV := Lib.hid hv
  have KN := Lib.hid (fun w => implNumbers_any u w hu)
  obtain ⟨Z, hZ⟩ : ∃ Z, Z = bs u := ⟨_, rfl⟩
  rw [← hZ] at KN ⊢
  clear hr hv b1 n1 hZ
  go_enter Tryz.func91, Tryz.ntmps91
  go_upto_region 1 with fail
  rw [← hw1]
  clear hw1
  refine wp_region_held_drew (S := fun w' => New w1 w') (by kernel_rfl) (New.drew _) (fun hH => ?_)
  refine held_take 0 (some 7) rfl rfl (by kernel_rfl) (by kernel_rfl) (by kernel_rfl) (fun _ _ _ h => h) rfl hH (v := .agg #[.int .i64 p, .slice ao n cap]) (fun w' hS => by obtain ⟨q0, q1, _, _⟩ := (H1.out.2.1.new hS).cells; go_simp; try with_reducible rfl) ?_
  simp only [Act.put, List.setIfInBounds_toArray, List.set_cons_zero, List.set_cons_succ]
  refine held_take 1 (some 8) rfl rfl (by kernel_rfl) (by kernel_rfl) (by kernel_rfl) (fun _ _ _ h => h) rfl hH (v := ?_) (fun w' hS => by skip; go_simp; try with_reducible rfl) ?_
  simp only [Act.put, List.setIfInBounds_toArray, List.set_cons_zero, List.set_cons_succ]
  refine held_only 2 (by kernel_rfl) rfl rfl (fun K1 hK1 => ?_)
  go_simp
  refine (KN.out _).mono ?_
  rintro e w2 ⟨um, rfl, ho2, hf2, hn2⟩
  have hn12 : New w1 w2 := hH.trans hn2
  refine hK1.out _ _ hn12 (fun hH1 => ?_)
  clear hK1 K1 hn2
  have hmid : (nUn u).length ≤ 2000000 := by rw [nUn, List.length_map]; exact hu
  have hi2 := ho2.isI (by unfold Mid; omega)
  obtain ⟨am, nm, cm, rfl, _, _⟩ := hi2.shape
  have H2 := Lib.hid (And.intro hi2 hn12)
  clear ho2 hf2 hi2 hn12 hH
  by_cases hmsg : MsgC p rows (nUn u)
  · have HM := Lib.hid hmsg
    clear hmsg
    refine held_only 3 (by kernel_rfl) rfl rfl (fun K2 hK2 => ?_)
    go_simp
    refine (implEncodeWord_any p _ _ rows (nUn u) _ (H1.out.1.new H2.out.2) H2.out.1).mono ?_
    rintro e w3 ⟨uw, out, rfl, ho3, hf3, hq3, hn3⟩
    refine hK2.out _ _ (H2.out.2.trans hn3) (fun hH2 => ?_)
    clear hK2 K2
    have hout := hq3.1 HM.out
    have hf := HV.out.few
    have hol : out.length = (gr rows 0).length := by rw [hout, encZ_length]
    have hne : out.map (Value.int .i64) ≠ [] := by
      intro h
      have h2 := congrArg List.length h
      rw [List.length_map, List.length_nil] at h2
      omega
    obtain ⟨gw, cw, rfl, _, _⟩ := ho3.shape hne
    rw [List.length_map] at ho3 ⊢
    have hdig : ∀ k, k < out.length → 0 ≤ gi out k ∧ gi out k ≤ 9 := by
      intro k hk
      have hp := HV.out.prime
      have hml := HM.out.2.1
      rw [hout]
      have := encZ_range (p := p) (by omega) (n := (gr rows 0).length) (rows := rows) (nUn u) (k := (nUn u).length) (by omega) HV.out.rowsOk (i := k) (by omega)
      omega
    have H3 := Lib.hid (And.intro (ho3.isI (by unfold Mid; omega)) (And.intro hout (H1.out.2.2.trans (H2.out.2.trans hn3))))
    have KD := Lib.hid (fun w h => digits_any (.slice (some ⟨gw, 0, none⟩) out.length cw) out w h hdig (by omega))
    clear ho3 hf3 hq3 hn3 hout hol hne hdig hH1 hf
    refine held_take 4 (some 6) rfl rfl (by kernel_rfl) (by kernel_rfl) (by kernel_rfl) (fun _ _ _ h => h) rfl hH2 (v := ?_) (fun w' hS => by skip; go_simp; try with_reducible rfl) ?_
    simp only [Act.put, List.setIfInBounds_toArray, List.set_cons_zero, List.set_cons_succ]
    refine wpAnyH_done (by kernel_rfl) ?_ _
    go_wp2_with fail
    refine (KD.out _ H3.out.1).mono ?_
    rintro e w4 ⟨rfl, hn4⟩
    have H4 := Lib.hid hn4
    clear hn4
    go_wp2_with fail
    refine ⟨rfl, .tuple #[.string (bs (rowT out)), .bool true], by simp [results, go_sem], ?_⟩
    exact ⟨rowT out, true, rfl, ⟨fun _ => ⟨rfl, by rw [← H3.out.2.1]⟩, fun h => absurd HM.out h⟩, H3.out.2.2.trans H4.out⟩
  · have HM := Lib.hid hmsg
    clear hmsg
    refine held_only 3 (by kernel_rfl) rfl rfl (fun K2 hK2 => ?_)
    go_simp
    refine (implEncodeNil_any p _ _ rows (nUn u) _ (H1.out.1.new H2.out.2) H2.out.1 HM.out).mono ?_
    rintro e w3 ⟨rfl, hn3⟩
    refine hK2.out _ _ (H2.out.2.trans hn3) (fun hH2 => ?_)
    clear hK2 K2
    have H3 := Lib.hid (H1.out.2.2.trans (H2.out.2.trans hn3))
    clear hn3 hH1
    refine held_take 4 (some 6) rfl rfl (by kernel_rfl) (by kernel_rfl) (by kernel_rfl) (fun _ _ _ h => h) rfl hH2 (v := ?_) (fun w' hS => by skip; go_simp; try with_reducible rfl) ?_
    simp only [Act.put, List.setIfInBounds_toArray, List.set_cons_zero, List.set_cons_succ]
    refine wpAnyH_done (by kernel_rfl) ?_ _
    go_wp2_with fail
    refine (digits_any (.slice none 0 0) [] _ ((Own.nil _ 3).isI (by unfold Mid; simp)) (fun k hk => absurd hk (Nat.not_lt_zero k)) (by simp)).mono ?_
    rintro e w4 ⟨rfl, hn4⟩
    have H4 := Lib.hid hn4
    clear hn4
    go_wp2_with fail
    refine ⟨rfl, .tuple #[.string (bs (rowT [])), .bool false], by simp [results, go_sem], ?_⟩
    exact ⟨rowT [], false, rfl, ⟨fun h => absurd h HM.out, fun _ => rfl⟩, H3.out.trans H4.out⟩
end Go.Proofs.YtcdbeepphdfipaaGreatDoor

namespace Go.Proofs.YtcdbeepphdfipaaGreatDoor
open Go.RowKit
set_option linter.unusedVariables false

/-- What mend tells. -/
def MendT (p : Int) (rows : List (List Int)) (xs : List Int) (t : List UInt8) (fine : Bool) : Prop :=
  (¬ LostC p rows xs → fine = false) ∧ (LostC p rows xs → fine = true ∧ ∃ out ok, MendR p rows xs out ok ∧ (ok = true → t = rowT out) ∧ (ok = false → t = cLost))

set_option maxRecDepth 100000 in
set_option maxHeartbeats 4000000 in
theorem implMend_any (p : Int) (v : Value) (rows : List (List Int)) (u : List UInt8) (w : World) (hr : IsR w v rows) (hv : ValidC p rows) (hu : u.length ≤ 2000000) :
    Calls Tryz.prog 92 #[.agg #[.int .i64 p, v], .string (bs u)] w fun e w' => EndF w e w' (MendT p rows (nUn u)) := by
  obtain ⟨ao, n, cap, rfl, HN, hn⟩ := hr.shape
  have b1 := Blk2.alloc w (.int .i64 p) (.slice ao n cap) 24
  have n1 := New.alloc w (.cells #[.int .i64 p, .slice ao n cap] 24)
  obtain ⟨w1, hw1⟩ : ∃ w1, w1 = w.alloc (.cells #[.int .i64 p, .slice ao n cap] 24) := ⟨_, rfl⟩
  rw [← hw1] at b1 n1
  have H1 := Lib.hid (And.intro (hr.new n1) (And.intro b1 n1))
  have HV := Lib.hid hv
  have KN := Lib.hid (fun w => implNumbers_any u w hu)
  have hmid : (nUn u).length ≤ 2000000 := by rw [nUn, List.length_map]; exact hu
  obtain ⟨Z, hZ⟩ : ∃ Z, Z = bs u := ⟨_, rfl⟩
  rw [← hZ] at KN ⊢
  clear hr hv b1 n1 hZ
  go_enter Tryz.func92, Tryz.ntmps92
  go_upto_region 1 with fail
  rw [← hw1]
  clear hw1
  refine wp_region_held_drew (S := fun w' => New w1 w') (by kernel_rfl) (New.drew _) (fun hH => ?_)
  refine held_take 0 (some 9) rfl rfl (by kernel_rfl) (by kernel_rfl) (by kernel_rfl) (fun _ _ _ h => h) rfl hH (v := .agg #[.int .i64 p, .slice ao n cap]) (fun w' hS => by obtain ⟨q0, q1, _, _⟩ := (H1.out.2.1.new hS).cells; go_simp; try with_reducible rfl) ?_
  simp only [Act.put, List.setIfInBounds_toArray, List.set_cons_zero, List.set_cons_succ]
  refine held_take 1 (some 10) rfl rfl (by kernel_rfl) (by kernel_rfl) (by kernel_rfl) (fun _ _ _ h => h) rfl hH (v := ?_) (fun w' hS => by skip; go_simp; try with_reducible rfl) ?_
  simp only [Act.put, List.setIfInBounds_toArray, List.set_cons_zero, List.set_cons_succ]
  refine held_only 2 (by kernel_rfl) rfl rfl (fun K1 hK1 => ?_)
  go_simp
  refine (KN.out _).mono ?_
  rintro e w2 ⟨um, rfl, ho2, hf2, hn2⟩
  have hn12 : New w1 w2 := hH.trans hn2
  refine hK1.out _ _ hn12 (fun hH1 => ?_)
  clear hK1 K1 hn2
  have hi2 := ho2.isI (by unfold Mid; omega)
  obtain ⟨am, nm, cm, rfl, _, _⟩ := hi2.shape
  have H2 := Lib.hid (And.intro hi2 hn12)
  clear ho2 hf2 hi2 hn12 hH
  refine held_only 3 (by kernel_rfl) rfl rfl (fun K2 hK2 => ?_)
  go_simp
  refine (implMends_any p _ _ rows (nUn u) _ (H1.out.1.new H2.out.2) H2.out.1).mono ?_
  rintro e w3 ⟨hy, hno⟩
  by_cases hlost : LostC p rows (nUn u)
  · obtain ⟨uw, rfl, hq3, hn3⟩ := hy hlost
    have HL := Lib.hid hlost
    clear hy hno hlost
    refine hK2.out _ _ (H2.out.2.trans hn3) (fun hH2 => ?_)
    clear hK2 K2
    have HC : Hid (cntOf p rows (nUn u) = cntF p.toNat (gr rows 0).length rows (nUn u) (p.toNat ^ rows.length)) := rfl
    obtain ⟨c, hc⟩ : ∃ c, c = cntF p.toNat (gr rows 0).length rows (nUn u) (p.toNat ^ rows.length) := ⟨_, rfl⟩
    rw [← hc] at hq3 HC ⊢
    have H3 := Lib.hid (And.intro hq3 (H1.out.2.2.trans (H2.out.2.trans hn3)))
    clear hq3 hn3 hc hH1
    by_cases hc1 : c = 1
    · subst hc1
      obtain ⟨t, ht, hfit, ho3, hf3⟩ := H3.out.1 (Nat.le_refl 1)
      have hp := HV.out.prime
      have hf := HV.out.few
      have hmg := msg_good (q := p.toNat) (k := rows.length) (t := t) (by omega)
      have hl := msg_length p.toNat rows.length t
      have hdig : ∀ k, k < (msg p.toNat rows.length t).length → 0 ≤ gi (msg p.toNat rows.length t) k ∧ gi (msg p.toNat rows.length t) k ≤ 9 := by
        intro k hk
        have := hmg.2 k (by omega)
        omega
      obtain ⟨aw, lw, cw, rfl, _, _⟩ := (ho3.isI (by rw [hl]; unfold Mid; omega)).shape
      have HO := Lib.hid (ho3.isI (by rw [hl]; unfold Mid; omega))
      have HT := Lib.hid (And.intro ht hfit)
      obtain ⟨out, hout⟩ : ∃ out, out = msg p.toNat rows.length t := ⟨_, rfl⟩
      rw [← hout] at HO hdig hl
      have KD := Lib.hid (fun w h => digits_any (.slice aw lw cw) out w h hdig (by omega))
      have HOUT := Lib.hid hout
      clear ho3 hf3 ht hfit hmg hdig hout hf hp hl
      refine held_take 4 (some 8) rfl rfl (by kernel_rfl) (by kernel_rfl) (by kernel_rfl) (fun _ _ _ h => h) rfl hH2 (v := ?_) (fun w' hS => by skip; go_simp; try with_reducible rfl) ?_
      simp only [Act.put, List.setIfInBounds_toArray, List.set_cons_zero, List.set_cons_succ]
      refine held_take 5 (some 13) rfl rfl (by kernel_rfl) (by kernel_rfl) (by kernel_rfl) (fun _ _ _ h => h) rfl hH2 (v := ?_) (fun w' hS => by skip; go_simp; try with_reducible rfl) ?_
      simp only [Act.put, List.setIfInBounds_toArray, List.set_cons_zero, List.set_cons_succ]
      refine held_take 6 (some 14) rfl rfl (by kernel_rfl) (by kernel_rfl) (by kernel_rfl) (fun _ _ _ h => h) rfl hH2 (v := ?_) (fun w' hS => by skip; go_simp; try with_reducible rfl) ?_
      simp only [Act.put, List.setIfInBounds_toArray, List.set_cons_zero, List.set_cons_succ]
      refine held_take 7 (some 6) rfl rfl (by kernel_rfl) (by kernel_rfl) (by kernel_rfl) (fun _ _ _ h => h) rfl hH2 (v := ?_) (fun w' hS => by skip; go_simp; try with_reducible rfl) ?_
      simp only [Act.put, List.setIfInBounds_toArray, List.set_cons_zero, List.set_cons_succ]
      refine held_take 8 (some 7) rfl rfl (by kernel_rfl) (by kernel_rfl) (by kernel_rfl) (fun _ _ _ h => h) rfl hH2 (v := ?_) (fun w' hS => by skip; go_simp; try with_reducible rfl) ?_
      simp only [Act.put, List.setIfInBounds_toArray, List.set_cons_zero, List.set_cons_succ]
      refine wpAnyH_done (by kernel_rfl) ?_ _
      go_wp2_with fail
      refine (KD.out _ HO.out).mono ?_
      rintro e w4 ⟨rfl, hn4⟩
      have H4 := Lib.hid hn4
      clear hn4
      go_wp2_with fail
      refine ⟨rfl, .tuple #[.string (bs (rowT out)), .bool true], by simp [results, go_sem], ?_⟩
      exact ⟨rowT out, true, rfl, ⟨fun h => absurd HL.out h, fun _ => ⟨rfl, out, true, ⟨fun _ => ⟨rfl, t, HT.out.1, HT.out.2, HOUT.out⟩, fun h => absurd ⟨HL.out, HC.out⟩ h⟩, fun _ => rfl, fun h => by cases h⟩⟩, H3.out.2.trans H4.out⟩
    · have hd : ((c : Int) != 1) = true := by simp; omega
      refine held_take 4 (some 8) rfl rfl (by kernel_rfl) (by kernel_rfl) (by kernel_rfl) (fun _ _ _ h => h) rfl hH2 (v := ?_) (fun w' hS => by skip; go_simp; try with_reducible rfl) ?_
      simp only [Act.put, List.setIfInBounds_toArray, List.set_cons_zero, List.set_cons_succ]
      refine held_take 5 (some 13) rfl rfl (by kernel_rfl) (by kernel_rfl) (by kernel_rfl) (fun _ _ _ h => h) rfl hH2 (v := ?_) (fun w' hS => by skip; go_simp; try with_reducible rfl) ?_
      simp only [Act.put, List.setIfInBounds_toArray, List.set_cons_zero, List.set_cons_succ]
      refine held_take 6 (some 14) rfl rfl (by kernel_rfl) (by kernel_rfl) (by kernel_rfl) (fun _ _ _ h => h) rfl hH2 (v := ?_) (fun w' hS => by skip; go_simp; try with_reducible rfl) ?_
      simp only [Act.put, List.setIfInBounds_toArray, List.set_cons_zero, List.set_cons_succ]
      refine held_take 7 (some 6) rfl rfl (by kernel_rfl) (by kernel_rfl) (by kernel_rfl) (fun _ _ _ h => h) rfl hH2 (v := ?_) (fun w' hS => by skip; go_simp; try with_reducible rfl) ?_
      simp only [Act.put, List.setIfInBounds_toArray, List.set_cons_zero, List.set_cons_succ]
      refine held_take 8 (some 7) rfl rfl (by kernel_rfl) (by kernel_rfl) (by kernel_rfl) (fun _ _ _ h => h) rfl hH2 (v := ?_) (fun w' hS => by skip; go_simp; try with_reducible rfl) ?_
      simp only [Act.put, List.setIfInBounds_toArray, List.set_cons_zero, List.set_cons_succ]
      refine wpAnyH_done (by kernel_rfl) ?_ _
      go_wp2_with fail
      refine ⟨rfl, .tuple #[.string (bs cLost), .bool true], by simp [results, go_sem, bs, cLost], ?_⟩
      exact ⟨cLost, true, rfl, ⟨fun h => absurd HL.out h, fun _ => ⟨rfl, [], false, ⟨fun h => absurd (HC.out.symm.trans h.2) hc1, fun _ => ⟨rfl, rfl⟩⟩, (fun h => by cases h), fun _ => rfl⟩⟩, H3.out.2⟩
  · obtain ⟨rfl, hn3⟩ := hno hlost
    have HL := Lib.hid hlost
    clear hy hno hlost
    refine hK2.out _ _ (H2.out.2.trans hn3) (fun hH2 => ?_)
    clear hK2 K2
    have H3 := Lib.hid (H1.out.2.2.trans (H2.out.2.trans hn3))
    clear hn3 hH1
    refine held_take 4 (some 8) rfl rfl (by kernel_rfl) (by kernel_rfl) (by kernel_rfl) (fun _ _ _ h => h) rfl hH2 (v := ?_) (fun w' hS => by skip; go_simp; try with_reducible rfl) ?_
    simp only [Act.put, List.setIfInBounds_toArray, List.set_cons_zero, List.set_cons_succ]
    refine held_take 5 (some 13) rfl rfl (by kernel_rfl) (by kernel_rfl) (by kernel_rfl) (fun _ _ _ h => h) rfl hH2 (v := ?_) (fun w' hS => by skip; go_simp; try with_reducible rfl) ?_
    simp only [Act.put, List.setIfInBounds_toArray, List.set_cons_zero, List.set_cons_succ]
    refine held_take 6 (some 14) rfl rfl (by kernel_rfl) (by kernel_rfl) (by kernel_rfl) (fun _ _ _ h => h) rfl hH2 (v := ?_) (fun w' hS => by skip; go_simp; try with_reducible rfl) ?_
    simp only [Act.put, List.setIfInBounds_toArray, List.set_cons_zero, List.set_cons_succ]
    refine held_take 7 (some 6) rfl rfl (by kernel_rfl) (by kernel_rfl) (by kernel_rfl) (fun _ _ _ h => h) rfl hH2 (v := ?_) (fun w' hS => by skip; go_simp; try with_reducible rfl) ?_
    simp only [Act.put, List.setIfInBounds_toArray, List.set_cons_zero, List.set_cons_succ]
    refine held_take 8 (some 7) rfl rfl (by kernel_rfl) (by kernel_rfl) (by kernel_rfl) (fun _ _ _ h => h) rfl hH2 (v := ?_) (fun w' hS => by skip; go_simp; try with_reducible rfl) ?_
    simp only [Act.put, List.setIfInBounds_toArray, List.set_cons_zero, List.set_cons_succ]
    refine wpAnyH_done (by kernel_rfl) ?_ _
    go_wp2_with fail
    refine ⟨rfl, .tuple #[.string (bs cLost), .bool false], by simp [results, go_sem, bs, cLost], ?_⟩
    exact ⟨cLost, false, rfl, ⟨fun _ => rfl, fun h => absurd h HL.out⟩, H3.out⟩
end Go.Proofs.YtcdbeepphdfipaaGreatDoor
