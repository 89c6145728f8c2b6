/- HelpersOf of both. -/
import Derived.Test.YtgpmkbenjlhfhaaHelp
namespace Go.Proofs.Ytgpmkbenjlhfhaa
open Go.RowKit Mat
set_option linter.unusedVariables false

/-- What HelpersOf answers. -/
def HelpersR (p : Int) (rows : List (List Int)) (i : Int) (out : List Int) : Prop :=
  (ValidC p rows ∧ inB i 0 (((gr rows 0).length : Int) - 1) = true → ∃ (q : Nat) (_ : NeZero q), p = q ∧ LeastTo (2 ^ (gr rows 0).length) (HelpQ q rows (gr rows 0).length i.toNat) (((gr rows 0).length + 1) * 2 ^ (gr rows 0).length) out) ∧
  (¬ (ValidC p rows ∧ inB i 0 (((gr rows 0).length : Int) - 1) = true) → out = [])
theorem HelpersR.unique {p : Int} {rows : List (List Int)} {i : Int} {a b : List Int} (h : HelpersR p rows i a) (h' : HelpersR p rows i b) : a = b := by
  by_cases c : ValidC p rows ∧ inB i 0 (((gr rows 0).length : Int) - 1) = true
  · obtain ⟨q, i1, e, h1⟩ := h.1 c
    obtain ⟨q', i2, e', h2⟩ := h'.1 c
    obtain rfl : q = q' := by omega
    exact h1.unique h2
  · rw [h.2 c, h'.2 c]
theorem HelpersR.small {p : Int} {rows : List (List Int)} {i : Int} {a : List Int} (h : HelpersR p rows i a) : a.length ≤ 1048576 := by
  by_cases c : ValidC p rows ∧ inB i 0 (((gr rows 0).length : Int) - 1) = true
  · obtain ⟨q, i1, e, h1⟩ := h.1 c
    have hb := (h1.bounds (Nat.two_pow_pos _)).1
    have hn := c.1.few.2.2.2.1
    have hp := pow_lt hn
    have := Nat.mul_le_mul (show (gr rows 0).length + 1 ≤ 8 by omega) hp
    omega
  · rw [h.2 c]; simp

set_option maxRecDepth 100000 in
set_option maxHeartbeats 1000000 in
theorem implHelpersOf_any (p : Int) (v : Value) (a : Int) (rows : List (List Int)) (w : World) (hr : IsR w v rows) :
    Calls Try.prog 52 #[.agg #[.int .i64 p, v], .int .i64 a] w fun e w' => GivesI w e w' (HelpersR p rows a) := by
  obtain ⟨ao, n, cap, rfl, HN, hn⟩ := hr.shape
  have HR := Lib.hid hr
  clear hr
  have h1 : New w (w.alloc (.cells #[.int .i64 p, .slice ao n cap] 25)) := New.alloc _ _
  have b1 := Blk2.alloc w (.int .i64 p) (.slice ao n cap) 25
  go_enter Try.func52, Try.ntmps52
  go_wp2_with fail
  refine (known_any _ _ rows _ (HR.out.new h1)).mono ?_
  rintro e w2 ⟨⟨b, rfl, hb⟩, hn2⟩
  have h2 := h1.trans hn2
  have b2 := b1.new hn2
  have HB := Lib.hid hb
  clear hb hn2 b1 h1
  obtain ⟨c0, c1, _, _⟩ := b2.cells
  cases b with
  | false =>
    go_wp2_with fail
    go_ret
    exact givesNil h2 ⟨(fun h => by have := HB.out.2 h.1; cases this), fun _ => rfl⟩
  | true =>
    have hv := HB.out.1 rfl
    have hf := hv.few
    obtain ⟨q, rfl, hq⟩ := prime_nat (vtB_pr hv.1)
    haveI := hq.nz
    obtain ⟨l, hl⟩ : ∃ l, l = (gr rows 0).length := ⟨_, rfl⟩
    have ht : TabOk q l rows := by rw [hl]; exact vtB_ok hv.1
    have hl7 := ht.n7
    have HV := Lib.hid hv
    have HT := Lib.hid ht
    have HL := Lib.hid hl
    clear hv hf hq HB ht hl
    go_wp2_with fail
    refine (columnsOf_any _ _ rows _ (HR.out.new h2) HT.out.r1).mono ?_
    rintro e w3 ⟨rfl, hn3⟩
    rw [← HL.out]
    have h3 := h2.trans hn3
    obtain ⟨d0, d1, _, _⟩ := (b2.new hn3).cells
    clear c0 c1 b2 hn3 h2
    cases hs : inB a 0 ((l : Int) - 1) with
    | false =>
      have HS := Lib.hid hs
      clear hs
      go_wp2_with (go_at_call 82; refine (within_any _ _ _ _).mono ?_; rintro e w' ⟨rfl, rfl⟩; rw [HS.out])
      go_ret
      exact givesNil h3 ⟨(fun h => by have := h.2; rw [← HL.out, HS.out] at this; cases this), fun _ => rfl⟩
    | true =>
      have hab := inB_iff.1 hs
      obtain ⟨i, rfl⟩ : ∃ i : Nat, a = i := ⟨a.toNat, by omega⟩
      have hil : i < l := by omega
      have HS := Lib.hid hs
      clear hs hab
      go_wp2_with (go_at_call 82; refine (within_any _ _ _ _).mono ?_; rintro e w' ⟨rfl, rfl⟩; rw [HS.out])
      refine (implHelpers_any q l i _ rows _ (HR.out.new h3) HT.out hil).mono ?_
      rintro e w4 ⟨u, out, rfl, ho, hf, hq, hn4⟩
      have HE := Lib.hid (And.intro ho (And.intro hf (And.intro hq hn4)))
      clear ho hf hq hn4
      go_wp2_with fail
      go_ret
      refine ⟨u, out, rfl, HE.out.1, (fun g hg => Nat.le_trans h3.size (HE.out.2.1 g hg)), ⟨fun _ => ⟨q, this, rfl, ?_⟩, fun h => absurd ⟨HV.out, by rw [← HL.out]; exact HS.out⟩ h⟩, h3.trans HE.out.2.2.2⟩
      rw [← HL.out, Int.toNat_natCast]
      exact HE.out.2.2.1

set_option maxRecDepth 100000 in
set_option maxHeartbeats 1000000 in
theorem specHelpersOf_any (p : Int) (v : Value) (a : Int) (rows : List (List Int)) (w : World) (hr : IsR w v rows) :
    Calls Try.prog 53 #[.agg #[.int .i64 p, v], .int .i64 a] w fun e w' => GivesI w e w' (HelpersR p rows a) := by
  obtain ⟨ao, n, cap, rfl, HN, hn⟩ := hr.shape
  have HR := Lib.hid hr
  clear hr
  have h1 : New w (w.alloc (.cells #[.int .i64 p, .slice ao n cap] 25)) := New.alloc _ _
  have b1 := Blk2.alloc w (.int .i64 p) (.slice ao n cap) 25
  go_enter Try.func53, Try.ntmps53
  go_wp2_with fail
  refine (validCode_any _ _ rows _ (HR.out.new h1)).mono ?_
  rintro e w2 ⟨⟨b, rfl, hb⟩, hn2⟩
  have h2 := h1.trans hn2
  have b2 := b1.new hn2
  have HB := Lib.hid hb
  clear hb hn2 b1 h1
  obtain ⟨c0, c1, _, _⟩ := b2.cells
  cases b with
  | false =>
    go_wp2_with fail
    go_ret
    exact givesNil h2 ⟨(fun h => by have := HB.out.2 h.1; cases this), fun _ => rfl⟩
  | true =>
    have hv := HB.out.1 rfl
    have hf := hv.few
    obtain ⟨q, rfl, hq⟩ := prime_nat (vtB_pr hv.1)
    haveI := hq.nz
    have hn0 : 0 < n := by rw [HN.out]; omega
    obtain ⟨b0, o0, u0, rfl, ck0, hu0⟩ := (HR.out.new h2).at (i := 0) hn0
    rw [Nat.add_zero] at ck0
    obtain ⟨a0, l, cc0, rfl, HL, hm⟩ := hu0.shape
    have ht : TabOk q l rows := by rw [HL.out]; exact vtB_ok hv.1
    have hl7 := ht.n7
    have HV := Lib.hid hv
    have HT := Lib.hid ht
    clear hv hf hq HB ht hu0
    cases hs : inB a 0 ((l : Int) - 1) with
    | false =>
      have HS := Lib.hid hs
      clear hs
      go_wp2_with (go_at_call 84; refine (inRange_any _ _ _ _).mono ?_; rintro e w' ⟨rfl, rfl⟩; rw [HS.out])
      go_ret
      exact givesNil h2 ⟨(fun h => by have := h.2; rw [← HL.out, HS.out] at this; cases this), fun _ => rfl⟩
    | true =>
      have hab := inB_iff.1 hs
      obtain ⟨i, rfl⟩ : ∃ i : Nat, a = i := ⟨a.toNat, by omega⟩
      have hil : i < l := by omega
      have HS := Lib.hid hs
      clear hs hab
      go_wp2_with (go_at_call 84; refine (inRange_any _ _ _ _).mono ?_; rintro e w' ⟨rfl, rfl⟩; rw [HS.out])
      refine (specHelpers_any q l i _ rows _ (HR.out.new h2) HT.out hil).mono ?_
      rintro e w4 ⟨u, out, rfl, ho, hf, hq, hn4⟩
      have HE := Lib.hid (And.intro ho (And.intro hf (And.intro hq hn4)))
      clear ho hf hq hn4
      go_wp2_with fail
      go_ret
      refine ⟨u, out, rfl, HE.out.1, (fun g hg => Nat.le_trans h2.size (HE.out.2.1 g hg)), ⟨fun _ => ⟨q, this, rfl, ?_⟩, fun h => absurd ⟨HV.out, by rw [← HL.out]; exact HS.out⟩ h⟩, h2.trans HE.out.2.2.2⟩
      rw [← HL.out, Int.toNat_natCast]
      exact HE.out.2.2.1
end Go.Proofs.Ytgpmkbenjlhfhaa
