/- The walk of FnIsPlain. -/
import Derived.Test.YtgpmkbenjlhfhaaCodC
import Derived.Test.YtgpmkbenjlhfhaaDrawK
import Derived.Test.YtgpmkbenjlhfhaaIsPlain
namespace Go.Proofs.Ytgpmkbenjlhfhaa
open Go.RowKit Mat
set_option linter.unusedVariables false

/-- The i-th row begins with the i-th message of one 1. -/
def PlRow (rows : List (List Int)) (i : Nat) : Prop := ∀ k, k < rows.length → gi (gr rows i) k = if i = k then 1 else 0

set_option maxRecDepth 100000 in
set_option maxHeartbeats 4000000 in
theorem lawIsPlain_any (v : Value) (n : Nat) (w : World) (hb : RawB w v n) :
    Calls Try.prog 3 #[v] w fun e w' => e = .returned (.bool true) ∧ New w w' := by
  obtain ⟨ao, cap, rfl, hcap, hmx, -⟩ := id hb
  unfold maxLen at hmx
  have HB := Lib.hid hb
  clear hb
  by_cases hbig : 1048576 < n
  · go_enter Try.func3, Try.ntmps3
    go_wp2_with fail
    go_ret
    exact ⟨rfl, Chg.refl _ _⟩
  · go_enter Try.func3, Try.ntmps3
    go_wp2_with fail
    refine (drawIsPlain_any _ _ _ HB.out).mono ?_
    rintro e w1 ⟨a, l, c, rows, p, rfl, hr, hk, hp, hn1⟩
    obtain rfl : l = rows.length := hr.len
    go_upto_region 4 with fail
    have b2 := Blk2.alloc w1 (.int .i64 p) (.slice a rows.length c) 25
    have n2 := New.alloc w1 (.cells #[.int .i64 p, .slice a rows.length c] 25)
    obtain ⟨w2, hw2⟩ : ∃ w2, w2 = w1.alloc (.cells #[.int .i64 p, .slice a rows.length c] 25) := ⟨_, rfl⟩
    rw [← hw2] at b2 n2
    rw [← hw2]
    clear hw2
    have H2 := Lib.hid (And.intro (hr.new n2) (And.intro (hn1.trans n2) b2))
    obtain ⟨q0, q1, _, _⟩ := b2.cells
    clear hr hn1 b2 n2
    go_wp2_with fail
    refine (implIsPlain_any p _ rows _ H2.out.1).mono ?_
    rintro e w3 ⟨⟨x, rfl, hx⟩, hn3⟩
    have H3 := Lib.hid (And.intro hx (And.intro hn3 (H2.out.1.new hn3)))
    obtain ⟨q0, q1, _, _⟩ := (H2.out.2.2.new hn3).cells
    clear hx hn3
    go_wp2_with fail
    refine (specIsPlain_any p _ rows _ H3.out.2.2).mono ?_
    rintro e w4 ⟨⟨y, rfl, hy⟩, hn4⟩
    obtain rfl : y = x := by rw [Bool.eq_iff_iff, hy, H3.out.1]
    have n4 := H3.out.2.1.trans hn4
    have H4 := Lib.hid (And.intro n4 (And.intro (H2.out.1.new n4) (H2.out.2.2.new n4)))
    obtain ⟨q0, q1, _, _⟩ := H4.out.2.2.cells
    clear hy hn4 n4
    go_wp2_with fail
    refine (implValidCode_any p _ rows _ H4.out.2.1).mono ?_
    rintro e w5 ⟨⟨z, rfl, hz⟩, hn5⟩
    have n5 := H4.out.1.trans hn5
    have H5 := Lib.hid (And.intro n5 (And.intro (H2.out.1.new n5) (And.intro (H2.out.2.2.new n5) hz)))
    obtain ⟨q0, q1, _, _⟩ := H5.out.2.2.1.cells
    clear hz hn5 n5
    cases z with
    | false =>
      go_wp2_with fail
      refine (specIsPlain_any p _ rows _ H5.out.2.1).mono ?_
      rintro e w6 ⟨⟨y2, rfl, hy⟩, hn6⟩
      obtain rfl : y2 = y := by rw [Bool.eq_iff_iff, hy, H3.out.1]
      have H6 := Lib.hid hn6
      clear hy hn6
      go_wp2_with fail
      go_ret
      exact ⟨ret_bool (by simp), H2.out.2.1.trans (H5.out.1.trans H6.out)⟩
    | true =>
      have hv := H5.out.2.2.2.1 rfl
      have hf := hv.few
      obtain ⟨k, hkk⟩ : ∃ k, k = rows.length := ⟨_, rfl⟩
      rw [← hkk] at q1 hf ⊢
      have hk4 : k ≤ 4 := hf.2.1
      have hk1 : 1 ≤ k := hf.1
      obtain ⟨q, rfl, hq⟩ := prime_nat (vtB_pr hv.1)
      haveI := hq.nz
      have HV := Lib.hid (And.intro hv (And.intro hf (And.intro hkk hq)))
      clear hv hf hq hkk
      go_wp2_with fail
      go_loopw [6, 7] (fun t6 t7 wr => ∃ (i : Nat) (b : Bool), t6 = .bool b ∧ t7 = .int .i64 i ∧ i ≤ k ∧ Hid (Told b (∀ j, j < i → PlRow rows j)) ∧ Hid (New w2 wr)) (fun _ t7 _ => k - (intOf t7).toNat)
      case atStart => exact ⟨0, true, rfl, rfl, Nat.zero_le _, ⟨fun _ j hj => by omega, fun _ => rfl⟩, H5.out.1⟩
      case round =>
        clear q0 q1
        obtain ⟨i, b, rfl, rfl, hi, HP, HN⟩ := hrel
        obtain ⟨wz, hwz⟩ : ∃ wz : World, wz = wr := ⟨_, rfl⟩
        rw [← hwz] at HN
        rw [← hwz]
        clear hwz
        by_cases hik : i < k
        · obtain ⟨q0, q1, _, _⟩ := (H2.out.2.2.new HN.out).cells
          go_upto_region 14 with (at_make; refine wpList_mk rfl _ _ _ rfl tyInt _ _ _ _ k k rfl rfl rfl rfl (Nat.le_refl _) (by omega) ?_; intro v6 w6 hv6 ho6 hn6 hs6; subst hv6; obtain ⟨u0, u1⟩ := ho6.cell (i := i) (by rw [List.length_replicate]; exact hik); have H6 := Lib.hid (And.intro ho6 hn6); clear ho6 hn6 hs6)
          have hst := H6.out.1.set i (.int .i64 1)
          rw [show List.replicate k (Value.int .i64 0) = (List.replicate k (0 : Int)).map (Value.int .i64) by simp, set_map_int] at hst
          have hs7 : Chg (· = wz.heap.size) w6 (w6.setCell ⟨wz.heap.size, i, none⟩ (.int .i64 1)) := Chg.setCell w6 ⟨wz.heap.size, i, none⟩ _
          obtain ⟨w7, hw7⟩ : ∃ w7, w7 = w6.setCell ⟨wz.heap.size, i, none⟩ (.int .i64 1) := ⟨_, rfl⟩
          rw [← hw7] at hst hs7
          rw [← hw7]
          clear hw7 q0 q1 u0 u1
          have n7 : New w2 w7 := HN.out.trans (H6.out.2.then hs7 (fun j hj => Nat.le_of_eq hj.symm))
          have hum : IsI w7 (.slice (some ⟨wz.heap.size, 0, none⟩) k k) (unitL rows.length i) := by
            have := hst.isI (by rw [List.length_set, List.length_replicate]; unfold Mid; omega)
            have e := HV.out.2.2.1
            unfold unitL
            rw [← e]
            exact this
          have H7 := Lib.hid (And.intro hum n7)
          obtain ⟨q0, q1, _, _⟩ := (H2.out.2.2.new n7).cells
          clear hst hs7 n7 hum
          cases b with
          | false =>
            go_wp2_with fail
            go_roundw
            case rel => exact ⟨i + 1, false, rfl, by go_num, by omega, ⟨(fun h => by cases h), fun h => absurd (HP.out.2 (fun j hj => h j (by omega))) (by simp)⟩, H7.out.2⟩
            case measure => simp [intOf]; omega
          | true =>
            go_wp2_with fail
            refine (implEncodeWord_any q _ _ rows (unitL rows.length i) _ (H2.out.1.new H7.out.2) H7.out.1).mono ?_
            rintro e w8 ⟨u, out, rfl, ho, hf, hq, hn8⟩
            have hout := enc_unit HV.out.1 (by rw [← HV.out.2.2.1]; exact hik) hq
            subst hout
            have hln := (HV.out.1.few.2.2.2.2 i (by rw [← HV.out.2.2.1]; exact hik)).1
            have hi8 := ho.isI (by rw [hln]; have := HV.out.2.1; unfold Mid; omega)
            obtain ⟨a8, l8, c8, rfl, HL8, hl8⟩ := hi8.shape
            have hkl : k ≤ l8 := by rw [HL8.out, hln]; exact HV.out.2.1.2.2.1
            have hl8' : l8 ≤ c8 := by obtain ⟨_, _, e, h, _⟩ := hi8; simp at e; have := h.1; have := e.2.1; have := e.2.2; omega
            have H8 := Lib.hid (And.intro (hi8.take hkl) (And.intro (H7.out.1.new hn8) (H7.out.2.trans hn8)))
            have HLN := Lib.hid (show k ≤ (gr rows i).length by rw [hln]; exact HV.out.2.1.2.2.1)
            clear ho hf hq hn8 hi8 hln
            go_wp2_with fail
            refine (equalInts_any _ _ ((gr rows i).take k) (unitL rows.length i) _ H8.out.1 H8.out.2.1).mono ?_
            rintro e w9 ⟨rfl, m9, rfl⟩
            obtain ⟨b9, hb9⟩ : ∃ b9, b9 = eqL ((gr rows i).take k) (unitL rows.length i) := ⟨_, rfl⟩
            have hb : b9 = true ↔ PlRow rows i := by
              have e := HV.out.2.2.1
              rw [hb9, eqL_iff (by rw [List.length_take, unitL_length]; have := HLN.out; omega), List.length_take, Nat.min_eq_left HLN.out]
              constructor
              · intro h k' hk'
                have := h k' (by omega)
                rw [gi_take HLN.out (by omega), unitL_get hk'] at this
                exact this
              · intro h k' hk'
                rw [gi_take HLN.out hk', unitL_get (by omega)]
                exact h k' (by omega)
            rw [← hb9]
            have H9 := Lib.hid hb
            clear hb hb9
            go_wp2_with fail
            go_roundw
            case rel => exact ⟨i + 1, b9, rfl, by go_num, by omega, ⟨fun h j hj => by
              by_cases e : j = i
              · rw [e]; exact H9.out.1 h
              · exact HP.out.1 rfl j (by omega), fun h => H9.out.2 (h i (by omega))⟩, H8.out.2.2.trans (New.drewN _ _)⟩
            case measure => simp [intOf]; omega
        · obtain rfl : i = k := by omega
          go_wp2_with fail
          go_ret
          have e : (y == b) = true := by
            have h1 := H3.out.1
            have h2 := HP.out
            have e := HV.out.2.2.1
            have h3 : y = true ↔ b = true := by
              rw [h1]
              exact ⟨fun h => h2.2 (fun j hj k hk => h.2 j k (by omega) hk), fun h => ⟨HV.out.1, fun j k hj hk => h2.1 h j (by omega) k hk⟩⟩
            have h4 : y = b := by rw [Bool.eq_iff_iff]; exact h3
            simp [h4]
          exact ⟨ret_bool (by first | exact e | simpa using e), H2.out.2.1.trans HN.out⟩
end Go.Proofs.Ytgpmkbenjlhfhaa
