/- The reference's ParseCode. -/
import Derived.Test.YtcdbeepphdfipaaGreatDoorParS
namespace Go.Proofs.YtcdbeepphdfipaaGreatDoor
open Go.RowKit
set_option linter.unusedVariables false

theorem ParsS.yes {L : List UInt8} {p : Int} {rows : List (List Int)} (h : ParsS L p rows true) : ParseR L p rows true := by
  rcases h with ⟨d, r, hs, hd, rfl, rfl, hi⟩ | ⟨_, _, _, h⟩
  · exact specParse_ok hs hd (hi.1 rfl)
  · cases h
theorem ParsS.no {L : List UInt8} {p : Int} {rows : List (List Int)} (h : ParsS L p rows false) : ParseR L 0 [] false := by
  refine specParse_no (fun d r hs hd hv => ?_)
  rcases h with ⟨d', r', hs', hd', rfl, rfl, hi⟩ | ⟨h, _, _, _⟩
  · rw [hs] at hs'
    simp only [List.cons.injEq, and_true] at hs'
    obtain ⟨rfl, rfl⟩ := hs'
    exact absurd (hi.2 hv) (by simp)
  · exact h d r hs hd
/-- It ends with what ParseCode returns. -/
def EndP (L : List UInt8) (w : World) (e : Ending) (w' : World) : Prop :=
  ∃ u vs rows p ok, e = .returned (.tuple #[.agg #[.int .i64 p, u], .bool ok]) ∧ OwnR w' 53 3 u vs rows ∧ FromR w.heap.size u vs rows ∧ ParseR L p rows ok ∧ New w w'

set_option maxRecDepth 100000 in
set_option maxHeartbeats 4000000 in
theorem specParseCode_any (L : List UInt8) (w : World) (hL : L.length ≤ 1100000) :
    Calls Tryz.prog 8 #[.string (bs L)] w fun e w' => EndP L w e w' := by
  have HLL := Lib.hid hL
  have r0 := Blk2.alloc w (.int .i64 0) (.slice none 0 0) 24
  have n0 := New.alloc w (.cells #[.int .i64 0, .slice none 0 0] 24)
  obtain ⟨w0, hw0⟩ : ∃ w0, w0 = w.alloc (.cells #[.int .i64 0, .slice none 0 0] 24) := ⟨_, rfl⟩
  rw [← hw0] at r0 n0
  have hs0 : w.heap.size < w0.heap.size := by rw [hw0, World.size_alloc]; exact Nat.lt_succ_self _
  go_enter Tryz.func8, Tryz.ntmps8
  go_upto_region 1 with fail
  rw [← hw0]
  have H0 := Lib.hid (And.intro r0 (And.intro n0 hs0))
  clear r0 n0 hs0 hw0 hL
  go_upto_region 2 with (go_at_call 26; refine (parseCodeS_any L _ HLL.out).mono ?_; rintro e w1 ⟨u, vs, rows, p, ok, rfl, ho1, hf1, hp1, hn1⟩; obtain ⟨a1, c1, hv1, _, _⟩ := ho1.outer.shape'; obtain ⟨l1, hl1⟩ : ∃ l, u = .slice a1 l c1 := ⟨_, hv1⟩; subst hl1; clear hv1; have H1 := Lib.hid (And.intro ho1 (And.intro hf1 (And.intro hp1 hn1))); clear ho1 hf1 hp1 hn1)
  have B1 := Lib.hid (H0.out.1.new H1.out.2.2.2)
  have B2 := Lib.hid (B1.out.new (New.alloc w1 (.cells #[.int .i64 p, .slice a1 l1 c1] 24)))
  have C2 := Lib.hid (Blk2.alloc w1 (.int .i64 p) (.slice a1 l1 c1) 24)
  obtain ⟨p0, p1, p2, p3⟩ := B2.out.cells
  obtain ⟨q0, q1, q2, q3⟩ := C2.out.cells
  have N2 : Hid (New w (w1.alloc (.cells #[.int .i64 p, .slice a1 l1 c1] 24))) := (H0.out.2.1.trans H1.out.2.2.2).trans (New.alloc _ _)
  cases ok with
  | false =>
    obtain ⟨x0, x1, hx⟩ := B2.out.put (.int .i64 0) (.slice none 0 0)
    have HX := Lib.hid hx
    clear hx
    go_wp2_with fail
    refine bodyPost_ret (v := .tuple #[.agg #[.int .i64 0, .slice none 0 0], .bool false]) (by simp [results, go_sem, x0, x1]) rfl ?_
    exact ⟨.slice none 0 0, [], [], 0, false, rfl, ⟨Own.nil _ _, rfl, fun i hi => absurd hi (Nat.not_lt_zero i), fun i j hi => absurd hi (Nat.not_lt_zero i)⟩, ⟨From.nil _, fun i hi => absurd hi (Nat.not_lt_zero i)⟩, H1.out.2.2.1.no, New.then N2.out HX.out (fun i hi => by omega)⟩
  | true =>
    obtain ⟨x0, x1, hx⟩ := B2.out.put (.int .i64 p) (.slice a1 l1 c1)
    have HX := Lib.hid hx
    clear hx
    go_wp2_with fail
    refine bodyPost_ret (v := .tuple #[.agg #[.int .i64 p, .slice a1 l1 c1], .bool true]) (by simp [results, go_sem, x0, x1]) rfl ?_
    have ho := H1.out.1.new (New.alloc w1 (.cells #[.int .i64 p, .slice a1 l1 c1] 24))
    have hs := H0.out.2.1.size
    exact ⟨_, vs, rows, p, true, rfl, ho.chg HX.out (own_blk2 ho.outer B2.out (by decide)) (fun i hi => own_blk2 (ho.inner i hi) B2.out (by decide)), ⟨H1.out.2.1.1.mono hs, fun i hi => (H1.out.2.1.2 i hi).mono hs⟩, H1.out.2.2.1.yes, New.then N2.out HX.out (fun i hi => by omega)⟩
end Go.Proofs.YtcdbeepphdfipaaGreatDoor
