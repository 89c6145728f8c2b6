/- The generators of tables. -/
import Derived.Test.YtjnfnhcbplbceaaGenA
namespace Go.Proofs.Ytjnfnhcbplbceaa
open Go.RowKit
set_option linter.unusedVariables false

/-- Bytes that came in. -/
def RawB (w : World) (v : Value) (n : Nat) : Prop := IsB w w.heap.size v n

set_option maxHeartbeats 1000000 in
theorem newReader_any (v : Value) (n : Nat) (w : World) (hb : RawB w v n) :
    Calls Try.prog 103 #[v] w fun e w' => e = .returned (.pointer (some ⟨w.heap.size, 0, none⟩)) ∧ Rd w' w.heap.size 0 ∧ New w w' := by
  obtain ⟨ao, cap, rfl, hcap, hmx, hcell⟩ := hb
  have hm := hmx
  unfold maxLen at hm
  have HC := Lib.hid hcell
  have HM := Lib.hid hmx
  clear hcell hmx
  by_cases hn : 2000 < n
  · have h2000 : 2000 ≤ cap := by omega
    go_enter Try.func103, Try.ntmps103
    go_wp2_with fail
    go_ret
    exact ⟨rfl, ⟨.slice ao 2000 cap, 0, 2000, Blk2.alloc w _ _ _, Nat.le_refl _, Nat.le_refl _, ⟨ao, cap, rfl, h2000, HM.out, fun i hi => by
      obtain ⟨b, o, x, hb, e, hc, hx⟩ := HC.out i (by omega)
      exact ⟨b, o, x, hb, e, (New.alloc w _).cellNew hc, hx⟩⟩⟩, New.alloc _ _⟩
  · go_enter Try.func103, Try.ntmps103
    go_wp2_with fail
    go_ret
    exact ⟨rfl, ⟨.slice ao n cap, 0, n, Blk2.alloc w _ _ _, Nat.le_refl _, by omega, ⟨ao, cap, rfl, hcap, HM.out, fun i hi => by
      obtain ⟨b, o, x, hb, e, hc, hx⟩ := HC.out i hi
      exact ⟨b, o, x, hb, e, (New.alloc w _).cellNew hc, hx⟩⟩⟩, New.alloc _ _⟩

/-- What has turned in blocks that are newer has not turned what was there. -/
theorem New.of_chg {S : Nat → Prop} {w w1 w2 : World} (h : New w w1) (hc : Chg S w1 w2) (hS : ∀ k, S k → w.heap.size ≤ k) : New w w2 := h.then hc hS

/-- It ends with a number and rows of its own, few. -/
def DrawsT (w : World) (e : Ending) (w' : World) : Prop := ∃ (p : Int) (u : Value) (rows : List (List Int)), e = .returned (.tuple #[.int .i64 p, u]) ∧ (-1 ≤ p ∧ p ≤ 11) ∧ IsR w' u rows ∧ (rows.length ≤ 100 ∧ ∀ i, i < rows.length → (gr rows i).length ≤ 7) ∧ New w w'

set_option maxHeartbeats 1000000 in
theorem drawValidTable_any (v : Value) (n : Nat) (w : World) (hb : RawB w v n) :
    Calls Try.prog 94 #[v] w fun e w' => DrawsT w e w' := by
  obtain ⟨ao, cap, rfl, -⟩ := id hb
  have HB := Lib.hid hb
  clear hb
  go_enter Try.func94, Try.ntmps94
  go_wp2_with fail
  refine (newReader_any _ _ _ HB.out).mono ?_
  rintro e w1 ⟨rfl, hr1, hn1⟩
  have H1 := Lib.hid (And.intro hr1 hn1)
  clear hr1 hn1
  go_wp2_with fail
  refine (aPrime_any w.heap.size 0 _ H1.out.1 (by omega)).mono ?_
  rintro e w2 ⟨p, rfl, hp, hr2, hc2⟩
  have H2 := Lib.hid (And.intro hr2 (H1.out.2.then hc2 (fun k hk => Nat.le_of_eq hk.symm)))
  clear hr2 hc2
  go_wp2_with fail
  refine (aTable_any w.heap.size 2 p 6 _ H2.out.1 (by omega) (by omega) (by omega)).mono ?_
  rintro e w3 ⟨u, vs, rows, rfl, ho, hf, h1, h2, hr3, hc3⟩
  have H3 := Lib.hid (And.intro (ho.isR (by unfold Mid; omega) (fun i hi => by have := h2 i hi; unfold Mid; omega)) (And.intro (And.intro h1 h2) (H2.out.2.then hc3 (fun k hk => Nat.le_of_eq hk.symm))))
  clear ho hf h1 h2 hr3 hc3
  go_wp2_with fail
  go_ret2
  exact ⟨p, u, rows, rfl, hp, H3.out.1, H3.out.2.1, H3.out.2.2⟩

set_option maxHeartbeats 1000000 in
theorem drawReduced_any (v : Value) (n : Nat) (w : World) (hb : RawB w v n) :
    Calls Try.prog 43 #[v] w fun e w' => DrawsT w e w' := by
  obtain ⟨ao, cap, rfl, -⟩ := id hb
  have HB := Lib.hid hb
  clear hb
  go_enter Try.func43, Try.ntmps43
  go_wp2_with fail
  refine (drawValidTable_any _ _ _ HB.out).mono ?_
  rintro e w1 ⟨p, u, rows, rfl, hp, h⟩
  have H1 := Lib.hid h
  clear h
  go_wp2_with fail
  go_ret2
  exact ⟨p, u, rows, rfl, hp, H1.out⟩
set_option maxHeartbeats 1000000 in
theorem drawRankOf_any (v : Value) (n : Nat) (w : World) (hb : RawB w v n) :
    Calls Try.prog 49 #[v] w fun e w' => DrawsT w e w' := by
  obtain ⟨ao, cap, rfl, -⟩ := id hb
  have HB := Lib.hid hb
  clear hb
  go_enter Try.func49, Try.ntmps49
  go_wp2_with fail
  refine (drawValidTable_any _ _ _ HB.out).mono ?_
  rintro e w1 ⟨p, u, rows, rfl, hp, h⟩
  have H1 := Lib.hid h
  clear h
  go_wp2_with fail
  go_ret2
  exact ⟨p, u, rows, rfl, hp, H1.out⟩
set_option maxHeartbeats 1000000 in
theorem drawNullsOf_any (v : Value) (n : Nat) (w : World) (hb : RawB w v n) :
    Calls Try.prog 52 #[v] w fun e w' => DrawsT w e w' := by
  obtain ⟨ao, cap, rfl, -⟩ := id hb
  have HB := Lib.hid hb
  clear hb
  go_enter Try.func52, Try.ntmps52
  go_wp2_with fail
  refine (drawValidTable_any _ _ _ HB.out).mono ?_
  rintro e w1 ⟨p, u, rows, rfl, hp, h⟩
  have H1 := Lib.hid h
  clear h
  go_wp2_with fail
  go_ret2
  exact ⟨p, u, rows, rfl, hp, H1.out⟩
end Go.Proofs.Ytjnfnhcbplbceaa
