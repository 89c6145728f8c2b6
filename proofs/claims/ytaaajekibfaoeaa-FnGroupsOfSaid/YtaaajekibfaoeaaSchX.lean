/- The generators of schemes; impl.ValidScheme and impl.DoesKnow. -/
import Derived.Test.YtaaajekibfaoeaaSchE
import Derived.Test.YtaaajekibfaoeaaSchG
import Derived.Test.YtaaajekibfaoeaaDrawT
namespace Go.Proofs.Ytaaajekibfaoeaa
open Go.RowKit Mat
set_option linter.unusedVariables false

theorem RawB.newS {w w' : World} {v : Value} {n : Nat} (h : RawB w v n) (hc : New w w') : RawB w' v n := by
  obtain ⟨ao, cap, e, h1, h2, h3⟩ := h
  refine ⟨ao, cap, e, h1, h2, fun i hi => ?_⟩
  obtain ⟨b, o, x, hb, rfl, hcell, hx⟩ := h3 i hi
  exact ⟨b, o, x, Nat.lt_of_lt_of_le hb hc.size, rfl, hc.cellNew hcell, hx⟩
/-- It ends with a scheme, that may be invalid. -/
def DrawsS (w : World) (e : Ending) (w' : World) : Prop :=
  ∃ (p : Int) (a : Option Addr) (l c : Nat) (a' : Option Addr) (l' c' : Nat) (rows : List (List Int)) (own : List Int), e = .returned (.agg #[.int .i64 p, .slice a l c, .slice a' l' c']) ∧ IsR w' (.slice a l c) rows ∧ IsI w' (.slice a' l' c') own ∧ ((1 ≤ rows.length ∧ rows.length ≤ 8) ∧ ∀ i, i < rows.length → 1 ≤ (gr rows i).length ∧ (gr rows i).length ≤ 8) ∧ own.length ≤ 10 ∧ (0 ≤ p ∧ p ≤ 7) ∧ New w w'

set_option maxHeartbeats 2000000 in
theorem drawGroupsOf_any (v : Value) (n : Nat) (w : World) (hb : RawB w v n) :
    Calls Try.prog 29 #[v] w fun e w' => DrawsS w e w' := by
  obtain ⟨ao, cap, rfl, -⟩ := id hb
  have r0 := Blk3.alloc w (.int .i64 0) (.slice none 0 0) (.slice none 0 0) 43
  have n0 := New.alloc w (.cells #[.int .i64 0, .slice none 0 0, .slice none 0 0] 43)
  have hb0 := hb.newS n0
  obtain ⟨w0, hw0⟩ : ∃ w0, w0 = w.alloc (.cells #[.int .i64 0, .slice none 0 0, .slice none 0 0] 43) := ⟨_, rfl⟩
  rw [← hw0] at r0 n0 hb0
  have hs0 : w.heap.size < w0.heap.size := r0.lt
  clear hb
  go_enter Try.func29, Try.ntmps29
  go_upto_region 1 with fail
  rw [← hw0]
  have H0 := Lib.hid (And.intro r0 (And.intro n0 (And.intro hs0 hb0)))
  clear r0 n0 hw0 hs0 hb0
  go_wp2_with fail
  refine (newReader_any _ _ _ H0.out.2.2.2).mono ?_
  rintro e w1 ⟨rfl, hr1, hn1⟩
  have H1 := Lib.hid (And.intro hr1 hn1)
  clear hr1 hn1
  go_wp2_with fail
  refine (someScheme_any w0.heap.size 0 _ H1.out.1 (by omega)).mono ?_
  rintro e w2 ⟨p, a, l, c, a', l', c', vs, rows, own, b1, rfl, hss, hl, ho, hp, hr2, hc2⟩
  have hn2 := H1.out.2.of_chg hc2 (fun k hk => Nat.le_of_eq hk.symm)
  have b2 : Blk3 w2 w.heap.size _ _ _ _ := H0.out.1.new hn2
  obtain ⟨q0, q1, q2, q3, q4, q5⟩ := b2.cells
  have hs1 : w.heap.size < w1.heap.size + 1 := by have := H0.out.2.2.1; have := H1.out.2.size; omega
  have H2 := Lib.hid (And.intro hss (And.intro hl (And.intro hn2 b2)))
  clear hss hr2 hc2 hn2 b2 hl
  go_wp2_with fail
  have k8 : Blk3 _ w.heap.size _ _ _ _ := (((H2.out.2.2.2 : Blk3 _ w.heap.size _ _ _ _).set0 (.int .i64 p)).set1 (.slice a l c)).set2 (.slice a' l' c')
  obtain ⟨x0, x1, x2, _, _, _⟩ := k8.cells
  refine bodyPost_ret (v := .agg #[.int .i64 p, .slice a l c, .slice a' l' c']) (by simp [results, go_sem, x0, x1, x2]) rfl ?_
  have hc := chg3 w2 w.heap.size (.int .i64 p) (.slice a l c) (.slice a' l' c')
  have hs := H2.out.1.keep hc (fun b hb => by have h9 : b = w.heap.size := hb; omega)
  have hl := H2.out.2.1
  exact ⟨p, a, l, c, a', l', c', rows, own, rfl, hs.isR (by omega) (fun i hi => by have := hl.2 i hi; omega), hs.isI (by omega), hl, ho, hp, (H0.out.2.1.trans H2.out.2.2.1).then hc (fun i hi => Nat.le_of_eq hi.symm)⟩

set_option maxHeartbeats 2000000 in
theorem drawTurnedGroups_any (v : Value) (n : Nat) (w : World) (hb : RawB w v n) :
    Calls Try.prog 45 #[v] w fun e w' => DrawsS w e w' := by
  obtain ⟨ao, cap, rfl, -⟩ := id hb
  have r0 := Blk3.alloc w (.int .i64 0) (.slice none 0 0) (.slice none 0 0) 43
  have n0 := New.alloc w (.cells #[.int .i64 0, .slice none 0 0, .slice none 0 0] 43)
  have hb0 := hb.newS n0
  obtain ⟨w0, hw0⟩ : ∃ w0, w0 = w.alloc (.cells #[.int .i64 0, .slice none 0 0, .slice none 0 0] 43) := ⟨_, rfl⟩
  rw [← hw0] at r0 n0 hb0
  have hs0 : w.heap.size < w0.heap.size := r0.lt
  clear hb
  go_enter Try.func45, Try.ntmps45
  go_upto_region 1 with fail
  rw [← hw0]
  have H0 := Lib.hid (And.intro r0 (And.intro n0 (And.intro hs0 hb0)))
  clear r0 n0 hw0 hs0 hb0
  go_wp2_with fail
  refine (newReader_any _ _ _ H0.out.2.2.2).mono ?_
  rintro e w1 ⟨rfl, hr1, hn1⟩
  have H1 := Lib.hid (And.intro hr1 hn1)
  clear hr1 hn1
  go_wp2_with fail
  refine (someScheme_any w0.heap.size 0 _ H1.out.1 (by omega)).mono ?_
  rintro e w2 ⟨p, a, l, c, a', l', c', vs, rows, own, b1, rfl, hss, hl, ho, hp, hr2, hc2⟩
  have hn2 := H1.out.2.of_chg hc2 (fun k hk => Nat.le_of_eq hk.symm)
  have b2 : Blk3 w2 w.heap.size _ _ _ _ := H0.out.1.new hn2
  obtain ⟨q0, q1, q2, q3, q4, q5⟩ := b2.cells
  have hs1 : w.heap.size < w1.heap.size + 1 := by have := H0.out.2.2.1; have := H1.out.2.size; omega
  have H2 := Lib.hid (And.intro hss (And.intro hl (And.intro hn2 b2)))
  clear hss hr2 hc2 hn2 b2 hl
  go_wp2_with fail
  have k8 : Blk3 _ w.heap.size _ _ _ _ := (((H2.out.2.2.2 : Blk3 _ w.heap.size _ _ _ _).set0 (.int .i64 p)).set1 (.slice a l c)).set2 (.slice a' l' c')
  obtain ⟨x0, x1, x2, _, _, _⟩ := k8.cells
  refine bodyPost_ret (v := .agg #[.int .i64 p, .slice a l c, .slice a' l' c']) (by simp [results, go_sem, x0, x1, x2]) rfl ?_
  have hc := chg3 w2 w.heap.size (.int .i64 p) (.slice a l c) (.slice a' l' c')
  have hs := H2.out.1.keep hc (fun b hb => by have h9 : b = w.heap.size := hb; omega)
  have hl := H2.out.2.1
  exact ⟨p, a, l, c, a', l', c', rows, own, rfl, hs.isR (by omega) (fun i hi => by have := hl.2 i hi; omega), hs.isI (by omega), hl, ho, hp, (H0.out.2.1.trans H2.out.2.2.1).then hc (fun i hi => Nat.le_of_eq hi.symm)⟩

theorem implValidScheme_any (p : Int) (v o : Value) (rows : List (List Int)) (own : List Int) (w : World) (hr : IsR w v rows) (ho : IsI w o own) :
    Calls Try.prog 32 #[.agg #[.int .i64 p, v, o]] w fun e w' => TellsB w e w' (ValidS p rows own) := by
  obtain ⟨ao, n, cap, rfl, HN, hn⟩ := hr.shape
  obtain ⟨ay, m, cay, rfl, HM, hm⟩ := ho.shape
  have h1 : New w (w.alloc (.cells #[.int .i64 p, .slice ao n cap, .slice ay m cay] 43)) := New.alloc _ _
  have HR := Lib.hid hr
  have HO := Lib.hid ho
  clear hr ho
  go_enter Try.func32, Try.ntmps32
  go_wp2_with fail
  refine (schKnown_any p _ _ rows own _ (HR.out.new h1) (HO.out.new h1)).mono ?_
  rintro e w2 ⟨⟨b, rfl, hb⟩, hn2⟩
  have H3 := Lib.hid (And.intro hb (h1.trans hn2))
  clear hb hn2
  go_wp2_with fail
  go_ret
  exact ⟨b, rfl, H3.out.1, H3.out.2⟩

theorem groupOk_any (g : Int) (w : World) : Calls Try.prog 95 #[.int .i64 g] w fun e w' => e = .returned (.bool (inB g 0 31)) ∧ w = w' := by
  go_enter Try.func95, Try.ntmps95
  go_wp2_with fail
  refine (within_any _ _ _ _).mono ?_
  rintro e w'' ⟨rfl, rfl⟩
  go_wp2_with fail
  go_ret
  exact ⟨rfl, rfl⟩

/-- Of a valid scheme, and of a group. -/
theorem doesKnow_valid (q : Nat) [NeZero q] (v o : Value) (rows : List (List Int)) (own : List Int) (s : Nat) (w : World) (hr : IsR w v rows) (ho : IsI w o own) (hv : ValidS q rows own) (hs : s < 32) :
    Calls Try.prog 33 #[.agg #[.int .i64 q, v, o], .int .i64 s] w fun e w' => TellsB w e w' (KnowsQ q (gr rows 0).length rows own s) := by
  obtain ⟨ao, n, cap, rfl, HN, hn⟩ := hr.shape
  obtain ⟨ay, m, cay, rfl, HM, hm⟩ := ho.shape
  have h1 : New w (w.alloc (.cells #[.int .i64 q, .slice ao n cap, .slice ay m cay] 43)) := New.alloc _ _
  have b1 := Blk3.alloc w (.int .i64 q) (.slice ao n cap) (.slice ay m cay) 43
  have HR := Lib.hid hr
  have HO := Lib.hid ho
  have HV := Lib.hid hv
  clear hr ho hv
  go_enter Try.func33, Try.ntmps33
  go_wp2_with fail
  refine (schKnown_any q _ _ rows own _ (HR.out.new h1) (HO.out.new h1)).mono ?_
  rintro e w2 ⟨⟨b, rfl, hb⟩, hn2⟩
  obtain rfl : b = true := hb.2 HV.out
  have H2 := Lib.hid (And.intro (h1.trans hn2) (b1.new hn2))
  clear hb hn2 h1 b1
  obtain ⟨c0, c1, c2, _, _, _⟩ := H2.out.2.cells
  go_wp2_with (go_at_call 95; refine (groupOk_any _ _).mono ?_; rintro e w' ⟨rfl, rfl⟩; rw [inB_iff.2 (show (0 : Int) ≤ (s : Int) ∧ (s : Int) ≤ 31 by omega)])
  refine (implKnows_any q (gr rows 0).length _ _ rows own s _ (HR.out.new H2.out.1) (HO.out.new H2.out.1) (vtB_ok HV.out.1) HV.out.2 hs).mono ?_
  rintro e w3 ⟨b, rfl, hb, hn3⟩
  have H3 := Lib.hid (And.intro hb (H2.out.1.trans hn3))
  clear hb hn3
  go_wp2_with fail
  go_ret
  exact ⟨b, rfl, H3.out.1, H3.out.2⟩
end Go.Proofs.Ytaaajekibfaoeaa
