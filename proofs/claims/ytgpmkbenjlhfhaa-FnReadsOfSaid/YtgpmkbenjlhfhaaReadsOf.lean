/- ReadsOf of both. -/
import Derived.Test.YtgpmkbenjlhfhaaHelp
import Derived.Test.YtgpmkbenjlhfhaaApartI
import Derived.Test.YtgpmkbenjlhfhaaKnow
namespace Go.Proofs.Ytgpmkbenjlhfhaa
open Go.RowKit Mat
set_option linter.unusedVariables false

/-- What ReadsOf answers. -/
def ReadsR (p : Int) (rows : List (List Int)) (i t : Int) : Prop :=
  (ValidC p rows ∧ inB i 0 (((gr rows 0).length : Int) - 1) = true → ∃ (q : Nat) (_ : NeZero q), p = q ∧ ∃ out, LeastTo (2 ^ (gr rows 0).length) (HelpQ q rows (gr rows 0).length i.toNat) (((gr rows 0).length + 1) * 2 ^ (gr rows 0).length) out ∧ t = apt out 0) ∧
  (¬ (ValidC p rows ∧ inB i 0 (((gr rows 0).length : Int) - 1) = true) → t = -1)
theorem ReadsR.unique {p : Int} {rows : List (List Int)} {i a b : Int} (h : ReadsR p rows i a) (h' : ReadsR p rows i b) : a = b := by
  by_cases c : ValidC p rows ∧ inB i 0 (((gr rows 0).length : Int) - 1) = true
  · obtain ⟨q, i1, e, o1, h1, e1⟩ := h.1 c
    obtain ⟨q', i2, e', o2, h2, e2⟩ := h'.1 c
    obtain rfl : q = q' := by omega
    rw [e1, e2, h1.unique h2]
  · rw [h.2 c, h'.2 c]

set_option maxRecDepth 100000 in
set_option maxHeartbeats 1000000 in
theorem implReadsOf_any (p : Int) (v : Value) (a : Int) (rows : List (List Int)) (w : World) (hr : IsR w v rows) :
    Calls Try.prog 56 #[.agg #[.int .i64 p, v], .int .i64 a] w fun e w' => TellsN w e w' (ReadsR p rows a) := by
  obtain ⟨ao, n, cap, rfl, HN, hn⟩ := hr.shape
  have HR := Lib.hid hr
  clear hr
  have h1 : New w (w.alloc (.cells #[.int .i64 p, .slice ao n cap] 25)) := New.alloc _ _
  have b1 := Blk2.alloc w (.int .i64 p) (.slice ao n cap) 25
  go_enter Try.func56, Try.ntmps56
  go_wp2_with fail
  refine (known_any _ _ rows _ (HR.out.new h1)).mono ?_
  rintro e w2 ⟨⟨b, rfl, hb⟩, hn2⟩
  have h2 := h1.trans hn2
  have b2 := b1.new hn2
  have HB := Lib.hid hb
  clear hb hn2 b1 h1
  obtain ⟨c0, c1, _, _⟩ := b2.cells
  cases b with
  | false =>
    go_wp2_with fail
    go_ret
    exact ⟨-1, rfl, ⟨(fun h => by have := HB.out.2 h.1; cases this), fun _ => rfl⟩, h2⟩
  | true =>
    have hv := HB.out.1 rfl
    have hf := hv.few
    obtain ⟨q, rfl, hq⟩ := prime_nat (vtB_pr hv.1)
    haveI := hq.nz
    obtain ⟨l, hl⟩ : ∃ l, l = (gr rows 0).length := ⟨_, rfl⟩
    have ht : TabOk q l rows := by rw [hl]; exact vtB_ok hv.1
    have hl7 := ht.n7
    have HV := Lib.hid hv
    have HT := Lib.hid ht
    have HL := Lib.hid hl
    clear hv hf hq HB ht hl
    go_wp2_with fail
    refine (columnsOf_any _ _ rows _ (HR.out.new h2) HT.out.r1).mono ?_
    rintro e w3 ⟨rfl, hn3⟩
    rw [← HL.out]
    have h3 := h2.trans hn3
    obtain ⟨d0, d1, _, _⟩ := (b2.new hn3).cells
    clear c0 c1 b2 hn3 h2
    cases hs : inB a 0 ((l : Int) - 1) with
    | false =>
      have HS := Lib.hid hs
      clear hs
      go_wp2_with (go_at_call 82; refine (within_any _ _ _ _).mono ?_; rintro e w' ⟨rfl, rfl⟩; rw [HS.out])
      go_ret
      exact ⟨-1, rfl, ⟨(fun h => by have := h.2; rw [← HL.out, HS.out] at this; cases this), fun _ => rfl⟩, h3⟩
    | true =>
      have hab := inB_iff.1 hs
      obtain ⟨i, rfl⟩ : ∃ i : Nat, a = i := ⟨a.toNat, by omega⟩
      have hil : i < l := by omega
      have HS := Lib.hid hs
      clear hs hab
      go_wp2_with (go_at_call 82; refine (within_any _ _ _ _).mono ?_; rintro e w' ⟨rfl, rfl⟩; rw [HS.out])
      refine (implHelpers_any q l i _ rows _ (HR.out.new h3) HT.out hil).mono ?_
      rintro e w4 ⟨u, out, rfl, ho, hf, hq, hn4⟩
      have hbd := hq.bounds (Nat.two_pow_pos _)
      have hp := pow_lt hl7
      have hol : out.length ≤ 1200 := by have := Nat.mul_le_mul (show l + 1 ≤ 8 by omega) hp; omega
      have hoi := ho.isI (by unfold Mid; omega)
      have hob : ∀ j, j < out.length → 0 ≤ gi out j ∧ gi out j < 128 := fun j hj => by have := hbd.2 j hj; omega
      have HE := Lib.hid (And.intro hoi (And.intro hob (And.intro hol (And.intro hq hn4))))
      clear ho hf hq hn4 hbd hp hol hoi hob
      go_wp2_with fail
      refine (implApart_any out 0 _ _ HE.out.1 HE.out.2.1 (by omega) HE.out.2.2.1).mono ?_
      rintro e w5 ⟨rfl, hq5⟩
      have H5 := Lib.hid hq5
      clear hq5
      go_wp2_with fail
      go_ret
      refine ⟨_, rfl, ⟨fun _ => ⟨q, this, rfl, out, ?_, rfl⟩, fun h => absurd ⟨HV.out, by rw [← HL.out]; exact HS.out⟩ h⟩, (h3.trans HE.out.2.2.2.2).trans H5.out.new⟩
      rw [← HL.out, Int.toNat_natCast]
      exact HE.out.2.2.2.1

set_option maxRecDepth 100000 in
set_option maxHeartbeats 1000000 in
theorem specReadsOf_any (p : Int) (v : Value) (a : Int) (rows : List (List Int)) (w : World) (hr : IsR w v rows) :
    Calls Try.prog 57 #[.agg #[.int .i64 p, v], .int .i64 a] w fun e w' => TellsN w e w' (ReadsR p rows a) := by
  obtain ⟨ao, n, cap, rfl, HN, hn⟩ := hr.shape
  have HR := Lib.hid hr
  clear hr
  have h1 : New w (w.alloc (.cells #[.int .i64 p, .slice ao n cap] 25)) := New.alloc _ _
  have b1 := Blk2.alloc w (.int .i64 p) (.slice ao n cap) 25
  go_enter Try.func57, Try.ntmps57
  go_wp2_with fail
  refine (validCode_any _ _ rows _ (HR.out.new h1)).mono ?_
  rintro e w2 ⟨⟨b, rfl, hb⟩, hn2⟩
  have h2 := h1.trans hn2
  have b2 := b1.new hn2
  have HB := Lib.hid hb
  clear hb hn2 b1 h1
  obtain ⟨c0, c1, _, _⟩ := b2.cells
  cases b with
  | false =>
    go_wp2_with fail
    go_ret
    exact ⟨-1, rfl, ⟨(fun h => by have := HB.out.2 h.1; cases this), fun _ => rfl⟩, h2⟩
  | true =>
    have hv := HB.out.1 rfl
    have hf := hv.few
    obtain ⟨q, rfl, hq⟩ := prime_nat (vtB_pr hv.1)
    haveI := hq.nz
    have hn0 : 0 < n := by rw [HN.out]; omega
    obtain ⟨b0, o0, u0, rfl, ck0, hu0⟩ := (HR.out.new h2).at (i := 0) hn0
    rw [Nat.add_zero] at ck0
    obtain ⟨a0, l, cc0, rfl, HL, hm⟩ := hu0.shape
    have ht : TabOk q l rows := by rw [HL.out]; exact vtB_ok hv.1
    have hl7 := ht.n7
    have HV := Lib.hid hv
    have HT := Lib.hid ht
    clear hv hf hq HB ht hu0
    cases hs : inB a 0 ((l : Int) - 1) with
    | false =>
      have HS := Lib.hid hs
      clear hs
      go_wp2_with (go_at_call 84; refine (inRange_any _ _ _ _).mono ?_; rintro e w' ⟨rfl, rfl⟩; rw [HS.out])
      go_ret
      exact ⟨-1, rfl, ⟨(fun h => by have := h.2; rw [← HL.out, HS.out] at this; cases this), fun _ => rfl⟩, h2⟩
    | true =>
      have hab := inB_iff.1 hs
      obtain ⟨i, rfl⟩ : ∃ i : Nat, a = i := ⟨a.toNat, by omega⟩
      have hil : i < l := by omega
      have HS := Lib.hid hs
      clear hs hab
      go_wp2_with (go_at_call 84; refine (inRange_any _ _ _ _).mono ?_; rintro e w' ⟨rfl, rfl⟩; rw [HS.out])
      refine (specHelpers_any q l i _ rows _ (HR.out.new h2) HT.out hil).mono ?_
      rintro e w4 ⟨u, out, rfl, ho, hf, hq, hn4⟩
      have hbd := hq.bounds (Nat.two_pow_pos _)
      have hp := pow_lt hl7
      have hol : out.length ≤ 1200 := by have := Nat.mul_le_mul (show l + 1 ≤ 8 by omega) hp; omega
      have hoi := ho.isI (by unfold Mid; omega)
      have hob : ∀ j, j < out.length → 0 ≤ gi out j ∧ gi out j < 128 := fun j hj => by have := hbd.2 j hj; omega
      have HE := Lib.hid (And.intro hoi (And.intro hob (And.intro hol (And.intro hq hn4))))
      clear ho hf hq hn4 hbd hp hol hoi hob
      go_wp2_with fail
      refine (specApart_any out.length out 0 _ _ (Nat.le_refl _) HE.out.1 HE.out.2.1 (by omega) HE.out.2.2.1).mono ?_
      rintro e w5 ⟨rfl, hq5⟩
      have H5 := Lib.hid hq5
      clear hq5
      go_wp2_with fail
      go_ret
      refine ⟨_, rfl, ⟨fun _ => ⟨q, this, rfl, out, ?_, rfl⟩, fun h => absurd ⟨HV.out, by rw [← HL.out]; exact HS.out⟩ h⟩, (h2.trans HE.out.2.2.2.2).trans H5.out.new⟩
      rw [← HL.out, Int.toNat_natCast]
      exact HE.out.2.2.2.1
end Go.Proofs.Ytgpmkbenjlhfhaa
