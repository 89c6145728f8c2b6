/- The generators of codes. -/
import Derived.Test.YtcdbeepphdfipaaGreatDoorGenD
namespace Go.Proofs.YtcdbeepphdfipaaGreatDoor
open Go.RowKit
set_option linter.unusedVariables false

theorem RawB.new {w w' : World} {v : Value} {n : Nat} (h : RawB w v n) (hc : New w w') : RawB w' v n := by
  obtain ⟨ao, cap, e, h1, h2, h3⟩ := h
  refine ⟨ao, cap, e, h1, h2, fun i hi => ?_⟩
  obtain ⟨b, o, x, hb, rfl, hcell, hx⟩ := h3 i hi
  exact ⟨b, o, x, Nat.lt_of_lt_of_le hb hc.size, rfl, hc.cellNew hcell, hx⟩
/-- It ends with a code of its own, that may be invalid. -/
def DrawsK (w : World) (e : Ending) (w' : World) : Prop :=
  ∃ a l c out p, e = .returned (.agg #[.int .i64 p, .slice a l c]) ∧ IsR w' (.slice a l c) out ∧ RowsK out ∧ (0 ≤ p ∧ p ≤ 7) ∧ New w w'
theorem RowsK.mid {out : List (List Int)} (h : RowsK out) : Mid out.length ∧ ∀ i, i < out.length → Mid (gr out i).length := ⟨by have := h.1; unfold Mid; omega, fun i hi => by have := h.2 i hi; unfold Mid; omega⟩

set_option maxHeartbeats 2000000 in
theorem drawCodeText_any (v : Value) (n : Nat) (w : World) (hb : RawB w v n) :
    Calls Tryz.prog 13 #[v] w fun e w' => DrawsK w e w' := by
  obtain ⟨ao, cap, rfl, -⟩ := id hb
  have r0 := Blk2.alloc w (.int .i64 0) (.slice none 0 0) 24
  have n0 := New.alloc w (.cells #[.int .i64 0, .slice none 0 0] 24)
  have hb0 := hb.new n0
  obtain ⟨w0, hw0⟩ : ∃ w0, w0 = w.alloc (.cells #[.int .i64 0, .slice none 0 0] 24) := ⟨_, rfl⟩
  rw [← hw0] at r0 n0 hb0
  have hs0 : w.heap.size < w0.heap.size := Blk2.lt r0
  clear hb
  go_enter Tryz.func13, Tryz.ntmps13
  go_upto_region 1 with fail
  rw [← hw0]
  have H0 := Lib.hid (And.intro r0 (And.intro n0 (And.intro hs0 hb0)))
  clear r0 n0 hw0 hs0 hb0
  go_wp2_with fail
  refine (newReader_any _ _ _ H0.out.2.2.2).mono ?_
  rintro e w1 ⟨rfl, hr1, hn1⟩
  have H1 := Lib.hid (And.intro hr1 hn1)
  clear hr1 hn1
  go_wp2_with fail
  refine (someCode_any w0.heap.size 0 _ H1.out.1 (by omega)).mono ?_
  rintro e w2 ⟨a, l, c, vs, out, p, rfl, ho, hf, hq, hp, hr2, hc2⟩
  have hn2 := H1.out.2.of_chg hc2 (fun k hk => Nat.le_of_eq hk.symm)
  have b2 := H0.out.1.new hn2
  obtain ⟨q0, q1, q2, q3⟩ := b2.cells
  have H2 := Lib.hid (And.intro ho (And.intro hq (And.intro hn2 b2)))
  clear ho hf hq hr2 hc2 hn2 b2
  go_wp2_with fail
  obtain ⟨x0, x1, hx⟩ := H2.out.2.2.2.put (.int .i64 p) (.slice a l c)
  refine bodyPost_ret (v := .agg #[.int .i64 p, .slice a l c]) (by simp [results, go_sem, x0, x1]) rfl ?_
  exact ⟨a, l, c, out, p, rfl, (H2.out.1.chg hx (own_ne_blk2 H2.out.1.outer H2.out.2.2.2 (by decide)) (fun i hi => own_ne_blk2 (H2.out.1.inner i hi) H2.out.2.2.2 (by decide))).isR H2.out.2.1.mid.1 H2.out.2.1.mid.2, H2.out.2.1, hp, (H0.out.2.1.trans H2.out.2.2.1).then hx (fun i hi => Nat.le_of_eq hi.symm)⟩

end Go.Proofs.YtcdbeepphdfipaaGreatDoor
