/- The walk of FnParseCode. -/
import Derived.Test.YtcdbeepphdfipaaGreatDoorEqC
import Derived.Test.YtcdbeepphdfipaaGreatDoorDrawPC
namespace Go.Proofs.YtcdbeepphdfipaaGreatDoor
open Go.RowKit Mat
set_option linter.unusedVariables false

theorem ParseR.mid {s : List UInt8} {p : Int} {rows : List (List Int)} {ok : Bool} (h : ParseR s p rows ok) : Mid rows.length ∧ ∀ i, i < rows.length → Mid (gr rows i).length := by
  cases ok with
  | true =>
    have hd := (h.1 rfl).1.digs
    exact ⟨by unfold Mid; omega, fun i hi => by have := hd.2.2.2.2 i hi; unfold Mid; omega⟩
  | false =>
    obtain ⟨_, h, _⟩ := h.2 rfl
    rw [h]
    exact ⟨by unfold Mid; simp, fun i hi => by simp at hi⟩

set_option maxRecDepth 100000 in
set_option maxHeartbeats 8000000 in
theorem lawParseCode_any (v : Value) (n : Nat) (w : World) (hb : RawB w v n) (hv : ErrV w) :
    Calls Tryz.prog 5 #[v] w fun e w' => e = .returned (.bool true) ∧ New w w' := by
  obtain ⟨ao, cap, rfl, hcap, hmx, -⟩ := id hb
  unfold maxLen at hmx
  have HB := Lib.hid hb
  have HV := Lib.hid hv
  clear hb hv
  by_cases hbig : 1048576 < n
  · go_enter Tryz.func5, Tryz.ntmps5
    go_wp2_with fail
    go_ret
    exact ⟨rfl, Chg.refl _ _⟩
  · go_enter Tryz.func5, Tryz.ntmps5
    go_wp2_with fail
    refine (drawParseCode_any _ _ _ HB.out).mono ?_
    rintro e w1 ⟨L, rfl, hL, hn1⟩
    have H1 := Lib.hid hn1
    have KI := Lib.hid (implParseCode_any L w1 (by omega) (HV.out.new hn1))
    have KS := Lib.hid (fun w => specParseCode_any L w (by omega))
    obtain ⟨S, hS⟩ : ∃ S, S = bs L := ⟨_, rfl⟩
    rw [← hS] at KI KS ⊢
    have HS := Lib.hid hS
    clear hS hn1 hL
    go_wp2_with fail
    refine KI.out.mono ?_
    rintro e w2 ⟨u, vs, rows, p, ok, rfl, ho2, hf2, hp2, hn2⟩
    have hi2 := ho2.isR hp2.mid.1 hp2.mid.2
    obtain ⟨a2, l2, c2, rfl, _, _⟩ := hi2.shape
    have b3 := Blk2.alloc w2 (.int .i64 p) (.slice a2 l2 c2) 24
    have n3 := New.alloc w2 (.cells #[.int .i64 p, .slice a2 l2 c2] 24)
    obtain ⟨w3, hw3⟩ : ∃ w3, w3 = w2.alloc (.cells #[.int .i64 p, .slice a2 l2 c2] 24) := ⟨_, rfl⟩
    rw [← hw3] at b3 n3
    have H3 := Lib.hid (And.intro (hi2.new n3) (And.intro b3 (And.intro (H1.out.trans (hn2.trans n3)) hp2)))
    clear ho2 hf2 hn2 hi2 b3 n3 hp2
    go_upto_region 5 with fail
    rw [← hw3]
    clear hw3
    go_wp2_with fail
    refine (KS.out _).mono ?_
    rintro e w4 ⟨u4, vs4, rows4, p4, ok4, rfl, ho4, hf4, hp4, hn4⟩
    obtain ⟨rfl, rfl, rfl⟩ := hp4.unique H3.out.2.2.2
    have hi4 := ho4.isR hp4.mid.1 hp4.mid.2
    obtain ⟨a4, l4, c4, rfl, _, _⟩ := hi4.shape
    have b5 := Blk2.alloc w4 (.int .i64 p4) (.slice a4 l4 c4) 24
    have n5 := New.alloc w4 (.cells #[.int .i64 p4, .slice a4 l4 c4] 24)
    obtain ⟨w5, hw5⟩ : ∃ w5, w5 = w4.alloc (.cells #[.int .i64 p4, .slice a4 l4 c4] 24) := ⟨_, rfl⟩
    rw [← hw5] at b5 n5
    have n45 := hn4.trans n5
    have H5 := Lib.hid (And.intro (hi4.new n5) (And.intro b5 (And.intro (H3.out.1.new n45) (And.intro (H3.out.2.1.new n45) (H3.out.2.2.1.trans n45)))))
    clear ho4 hf4 hn4 hi4 b5 n5 n45 hp4
    go_upto_region 6 with fail
    rw [← hw5]
    clear hw5
    obtain ⟨q0, q1, _, _⟩ := H5.out.2.1.cells
    obtain ⟨d0, d1, _, _⟩ := H5.out.2.2.2.1.cells
    go_wp2_with fail
    refine (equalCode_any _ _ _ _ _ _ _ H5.out.2.2.1 H5.out.1).mono ?_
    rintro e w6 ⟨rfl, hn6⟩
    rw [eqLL_self, decide_eq_true rfl, Bool.true_and]
    have H6 := Lib.hid hn6
    clear hn6 q0 q1 d0 d1
    obtain ⟨q0, q1, _, _⟩ := (H5.out.2.1.new H6.out).cells
    obtain ⟨d0, d1, _, _⟩ := (H5.out.2.2.2.1.new H6.out).cells
    cases ok4 with
    | false =>
      go_wp2_with fail
      refine (equalCode_any _ _ _ _ _ _ _ (H5.out.2.2.1.new H6.out) (H5.out.1.new H6.out)).mono ?_
      rintro e w7 ⟨rfl, hn7⟩
      rw [eqLL_self, decide_eq_true rfl, Bool.true_and]
      go_wp2_with fail
      go_ret
      exact ⟨rfl, H5.out.2.2.2.2.trans (H6.out.trans hn7)⟩
    | true =>
      obtain ⟨hvc, hLe⟩ := H3.out.2.2.2.1 rfl
      have HVC := Lib.hid hvc
      have HLE := Lib.hid hLe
      clear hvc hLe
      go_wp2_with fail
      refine (implCodeText_any _ _ _ _ (H5.out.2.2.1.new H6.out)).mono ?_
      rintro e w7 ⟨⟨s, rfl, hs⟩, hn7⟩
      obtain rfl : s = S := by rw [hs.1 HVC.out, HS.out, HLE.out]
      have H7 := Lib.hid (H6.out.trans hn7)
      clear hn7 hs q0 q1 d0 d1
      obtain ⟨q0, q1, _, _⟩ := (H5.out.2.1.new H7.out).cells
      obtain ⟨d0, d1, _, _⟩ := (H5.out.2.2.2.1.new H7.out).cells
      go_wp2_with fail
      refine (implValidCode_any _ _ _ _ (H5.out.2.2.1.new H7.out)).mono ?_
      rintro e w8 ⟨⟨b, rfl, hbv⟩, hn8⟩
      obtain rfl : b = true := hbv.2 HVC.out
      go_wp2_with fail
      go_ret
      exact ⟨rfl, H5.out.2.2.2.2.trans (H7.out.trans hn8)⟩
end Go.Proofs.YtcdbeepphdfipaaGreatDoor
