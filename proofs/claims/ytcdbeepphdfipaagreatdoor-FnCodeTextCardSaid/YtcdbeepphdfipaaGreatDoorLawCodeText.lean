/- The walk of FnCodeText. -/
import Derived.Test.YtcdbeepphdfipaaGreatDoorEqC
import Derived.Test.YtcdbeepphdfipaaGreatDoorDrawK
import Derived.Test.YtcdbeepphdfipaaGreatDoorImpP
namespace Go.Proofs.YtcdbeepphdfipaaGreatDoor
open Go.RowKit Mat
set_option linter.unusedVariables false

theorem codeT_len {p : Int} {rows : List (List Int)} (h : ValidC p rows) : (codeT p rows).length ≤ 50 := by
  obtain ⟨hp, hd, r1, r6, h7⟩ := h.digs
  have hle := rowsTo_le h7 rows.length (Nat.le_refl _)
  rw [codeT, List.length_cons, List.length_cons]
  omega

set_option maxRecDepth 100000 in
set_option maxHeartbeats 8000000 in
theorem lawCodeText_any (v : Value) (n : Nat) (w : World) (hb : RawB w v n) (hv : ErrV w) :
    Calls Tryz.prog 4 #[v] w fun e w' => e = .returned (.bool true) ∧ New w w' := by
  obtain ⟨ao, cap, rfl, hcap, hmx, -⟩ := id hb
  unfold maxLen at hmx
  have HB := Lib.hid hb
  have HV := Lib.hid hv
  clear hb hv
  by_cases hbig : 1048576 < n
  · go_enter Tryz.func4, Tryz.ntmps4
    go_wp2_with fail
    go_ret
    exact ⟨rfl, Chg.refl _ _⟩
  · go_enter Tryz.func4, Tryz.ntmps4
    go_wp2_with fail
    refine (drawCodeText_any _ _ _ HB.out).mono ?_
    rintro e w1 ⟨a, l, c, rows, p, rfl, hr, hk, hp, hn1⟩
    have b2 := Blk2.alloc w1 (.int .i64 p) (.slice a l c) 24
    have n2 := New.alloc w1 (.cells #[.int .i64 p, .slice a l c] 24)
    obtain ⟨w2, hw2⟩ : ∃ w2, w2 = w1.alloc (.cells #[.int .i64 p, .slice a l c] 24) := ⟨_, rfl⟩
    rw [← hw2] at b2 n2
    go_upto_region 4 with fail
    rw [← hw2]
    clear hw2
    have H2 := Lib.hid (And.intro (hr.new n2) (And.intro (hn1.trans n2) b2))
    obtain ⟨q0, q1, _, _⟩ := b2.cells
    clear hr hn1 b2 n2 hk
    go_wp2_with fail
    refine (implCodeText_any p _ rows _ H2.out.1).mono ?_
    rintro e w3 ⟨⟨s, rfl, hs⟩, hn3⟩
    have H3 := Lib.hid (And.intro hs hn3)
    obtain ⟨q0, q1, _, _⟩ := (H2.out.2.2.new hn3).cells
    clear hs hn3
    go_wp2_with fail
    refine (specCodeText_any p _ rows _ (H2.out.1.new H3.out.2)).mono ?_
    rintro e w4 ⟨⟨s', rfl, hs'⟩, hn4⟩
    obtain rfl : s' = s := hs'.unique H3.out.1
    have H4 := Lib.hid (H3.out.2.trans hn4)
    obtain ⟨q0, q1, _, _⟩ := (H2.out.2.2.new H4.out).cells
    clear hs' hn4
    go_wp2_with fail
    refine (implValidCode_any p _ rows _ (H2.out.1.new H4.out)).mono ?_
    rintro e w5 ⟨⟨b, rfl, hbv⟩, hn5⟩
    have H5 := Lib.hid (And.intro hbv (H4.out.trans hn5))
    obtain ⟨q0, q1, _, _⟩ := (H2.out.2.2.new H5.out.2).cells
    clear hbv hn5
    cases b with
    | false =>
      go_wp2_with fail
      refine (specCodeText_any p _ rows _ (H2.out.1.new H5.out.2)).mono ?_
      rintro e w6 ⟨⟨s6, rfl, hs6⟩, hn6⟩
      obtain rfl : s6 = s' := hs6.unique H3.out.1
      go_wp2_with fail
      go_ret
      exact ⟨rfl, H2.out.2.1.trans (H5.out.2.trans hn6)⟩
    | true =>
      have hvc := H5.out.1.1 rfl
      obtain rfl : s' = bs (codeT p rows) := H3.out.1.1 hvc
      have KI := Lib.hid (implParseCode_any (codeT p rows) w5 (by have := codeT_len hvc; omega) (HV.out.new (H2.out.2.1.trans H5.out.2)))
      have HVC := Lib.hid hvc
      obtain ⟨S, hS⟩ : ∃ S, S = bs (codeT p rows) := ⟨_, rfl⟩
      rw [← hS] at KI ⊢
      clear hvc hS
      go_wp2_with fail
      refine KI.out.mono ?_
      rintro e w6 ⟨u, vs, out, p', ok, rfl, ho6, hf6, hpr, hn6⟩
      cases ok with
      | false => exact absurd rfl ((hpr.2 rfl).2.2 _ _ HVC.out)
      | true =>
        obtain ⟨hv6, he6⟩ := hpr.1 rfl
        obtain ⟨rfl, rfl⟩ := codeT_inj HVC.out hv6 he6
        have hi6 := ho6.isR (by have := hv6.digs.2.2.2.1; unfold Mid; omega) (fun i hi => by have := hv6.digs.2.2.2.2 i hi; unfold Mid; omega)
        obtain ⟨a6, l6, c6, rfl, _, _⟩ := hi6.shape
        have b7 := Blk2.alloc w6 (.int .i64 p) (.slice a6 l6 c6) 24
        have n7 := New.alloc w6 (.cells #[.int .i64 p, .slice a6 l6 c6] 24)
        obtain ⟨w7, hw7⟩ : ∃ w7, w7 = w6.alloc (.cells #[.int .i64 p, .slice a6 l6 c6] 24) := ⟨_, rfl⟩
        rw [← hw7] at b7 n7
        have H7 := Lib.hid (And.intro (hi6.new n7) ((H5.out.2.trans hn6).trans n7))
        obtain ⟨q0, q1, _, _⟩ := (H2.out.2.2.new H7.out.2).cells
        obtain ⟨d0, d1, _, _⟩ := b7.cells
        clear ho6 hf6 hpr hn6 hv6 he6 hi6 b7 n7
        go_upto_region 8 with fail
        rw [← hw7]
        clear hw7
        go_wp2_with fail
        refine (equalCode_any p p _ _ rows rows _ H7.out.1 (H2.out.1.new H7.out.2)).mono ?_
        rintro e w8 ⟨rfl, hn8⟩
        rw [eqLL_self, decide_eq_true rfl, Bool.true_and]
        go_wp2_with fail
        go_ret
        exact ⟨rfl, H2.out.2.1.trans (H7.out.2.trans hn8)⟩
end Go.Proofs.YtcdbeepphdfipaaGreatDoor
