/- IsMendable of both. -/
import Derived.Test.YtdebkeicdfljlaaMendSpec
namespace Go.Proofs.Ytdebkeicdfljlaa
open Go.RowKit Mat
set_option linter.unusedVariables false

def IsMendC (p : Int) (rows : List (List Int)) (a : Int) : Prop := ValidC p rows ∧ inB a 0 (((2 ^ (gr rows 0).length : Nat) : Int) - 1) = true ∧ MendC p rows a.toNat

set_option maxRecDepth 100000 in
set_option maxHeartbeats 1000000 in
theorem setOk_any (p : Int) (v : Value) (rows : List (List Int)) (a : Int) (w : World) (hr : IsR w v rows) (h1 : 1 ≤ rows.length) (h7 : (gr rows 0).length ≤ 7) :
    Calls Try.prog 71 #[.agg #[.int .i64 p, v], .int .i64 a] w fun e w' => e = .returned (.bool (inB a 0 (((2 ^ (gr rows 0).length : Nat) : Int) - 1))) ∧ New w w' := by
  obtain ⟨ao, m, cap, rfl, HN, hn⟩ := hr.shape
  have hn1 : New w (w.alloc (.cells #[.int .i64 p, .slice ao m cap] 27)) := New.alloc _ _
  obtain ⟨n, hn0⟩ : ∃ n, n = (gr rows 0).length := ⟨_, rfl⟩
  rw [← hn0] at h7 ⊢
  have hp := pow_lt h7
  have hp0 : 0 < 2 ^ n := Nat.two_pow_pos _
  have hw12 := wrap_pow n (by omega)
  obtain ⟨N, hNN⟩ : ∃ N, N = 2 ^ n := ⟨_, rfl⟩
  rw [← hNN] at hp hp0 hw12 ⊢
  have HR := Lib.hid hr
  have HNN := Lib.hid hNN
  have HN0 := Lib.hid hn0
  clear hr hNN hn0
  go_enter Try.func71, Try.ntmps71
  go_wp2_with fail
  refine (columnsOf_any _ _ rows _ (HR.out.new hn1) h1).mono ?_
  rintro e w2 ⟨rfl, hn2⟩
  rw [← HN0.out]
  go_wp2_with (go_at_call 68; refine (within_any _ _ _ _).mono ?_; rintro e w' ⟨rfl, rfl⟩)
  go_ret
  exact ⟨rfl, hn1.trans hn2⟩

set_option maxRecDepth 100000 in
set_option maxHeartbeats 1000000 in
theorem implIsMendable_any (p : Int) (v : Value) (a : Int) (rows : List (List Int)) (w : World) (hr : IsR w v rows) :
    Calls Try.prog 35 #[.agg #[.int .i64 p, v], .int .i64 a] w fun e w' => TellsB w e w' (IsMendC p rows a) := by
  obtain ⟨ao, n, cap, rfl, HN, hn⟩ := hr.shape
  have HR := Lib.hid hr
  clear hr
  have h1 : New w (w.alloc (.cells #[.int .i64 p, .slice ao n cap] 27)) := New.alloc _ _
  have b1 := Blk2.alloc w (.int .i64 p) (.slice ao n cap) 27
  go_enter Try.func35, Try.ntmps35
  go_wp2_with fail
  refine (known_any _ _ rows _ (HR.out.new h1)).mono ?_
  rintro e w2 ⟨⟨b, rfl, hb⟩, hn2⟩
  have h2 := h1.trans hn2
  have b2 := b1.new hn2
  have HB := Lib.hid hb
  clear hb hn2 b1 h1
  obtain ⟨c0, c1, _, _⟩ := b2.cells
  cases b with
  | false =>
    go_wp2_with fail
    go_ret
    exact ⟨false, rfl, ⟨(fun h => by cases h), fun h => HB.out.2 h.1⟩, h2⟩
  | true =>
    have hv := HB.out.1 rfl
    have hf := hv.few
    obtain ⟨q, rfl, hq⟩ := prime_nat (vtB_pr hv.1)
    haveI := hq.nz
    have HV := Lib.hid hv
    have HF := Lib.hid hf
    clear hv hf hq HB
    go_wp2_with fail
    refine (setOk_any _ _ rows a _ (HR.out.new h2) HF.out.1 HF.out.2.2.2.1).mono ?_
    rintro e w3 ⟨rfl, hn3⟩
    have h3 := h2.trans hn3
    obtain ⟨d0, d1, _, _⟩ := (b2.new hn3).cells
    clear c0 c1 b2 hn3 h2
    cases hs : inB a 0 (((2 ^ (gr rows 0).length : Nat) : Int) - 1) with
    | false =>
      have HS := Lib.hid hs
      clear hs
      go_wp2_with fail
      go_ret
      exact ⟨false, rfl, ⟨(fun h => by cases h), fun h => by have := h.2.1; rw [HS.out] at this; cases this⟩, h3⟩
    | true =>
      have hab := inB_iff.1 hs
      obtain ⟨s, rfl⟩ : ∃ s : Nat, a = s := ⟨a.toNat, by omega⟩
      have hsl : s < 2 ^ (gr rows 0).length := by omega
      have HS := Lib.hid (And.intro hs hsl)
      clear hs hab hsl
      go_wp2_with fail
      refine (mendable_any q _ _ rows s _ (HR.out.new h3) (vtB_ok HV.out.1) HS.out.2).mono ?_
      rintro e w4 ⟨b, rfl, hb, hn4⟩
      have HK := Lib.hid (And.intro hb (h3.trans hn4))
      clear hb hn4
      go_wp2_with fail
      go_ret
      refine ⟨b, rfl, ?_, HK.out.2⟩
      rw [HK.out.1]
      exact ⟨fun h => ⟨HV.out, HS.out.1, by simpa using h⟩, fun h => by simpa using h.2.2⟩

set_option maxRecDepth 100000 in
set_option maxHeartbeats 1000000 in
theorem specIsMendable_any (p : Int) (v : Value) (a : Int) (rows : List (List Int)) (w : World) (hr : IsR w v rows) :
    Calls Try.prog 34 #[.agg #[.int .i64 p, v], .int .i64 a] w fun e w' => TellsB w e w' (IsMendC p rows a) := by
  obtain ⟨ao, n, cap, rfl, HN, hn⟩ := hr.shape
  have HR := Lib.hid hr
  clear hr
  have h1 : New w (w.alloc (.cells #[.int .i64 p, .slice ao n cap] 27)) := New.alloc _ _
  have b1 := Blk2.alloc w (.int .i64 p) (.slice ao n cap) 27
  go_enter Try.func34, Try.ntmps34
  go_wp2_with fail
  refine (validCode_any _ _ rows _ (HR.out.new h1)).mono ?_
  rintro e w2 ⟨⟨b, rfl, hb⟩, hn2⟩
  have h2 := h1.trans hn2
  have b2 := b1.new hn2
  have HB := Lib.hid hb
  clear hb hn2 b1 h1
  obtain ⟨c0, c1, _, _⟩ := b2.cells
  cases b with
  | false =>
    go_wp2_with fail
    go_ret
    exact ⟨false, rfl, ⟨(fun h => by cases h), fun h => HB.out.2 h.1⟩, h2⟩
  | true =>
    have hv := HB.out.1 rfl
    have hf := hv.few
    obtain ⟨q, rfl, hq⟩ := prime_nat (vtB_pr hv.1)
    haveI := hq.nz
    have hn0 : 0 < n := by rw [HN.out]; omega
    obtain ⟨b0, o0, u0, rfl, ck0, hu0⟩ := (HR.out.new h2).at (i := 0) hn0
    rw [Nat.add_zero] at ck0
    obtain ⟨a0, m, cc0, rfl, HM, hm⟩ := hu0.shape
    have hm7 : m ≤ 7 := by rw [HM.out]; omega
    have hp := pow_lt hm7
    have hp0 : 0 < 2 ^ m := Nat.two_pow_pos _
    obtain ⟨N, hNN⟩ : ∃ N, N = 2 ^ m := ⟨_, rfl⟩
    rw [← hNN] at hp hp0
    have HNN := Lib.hid hNN
    have hNe : 2 ^ (gr rows 0).length = N := by rw [← HM.out, hNN]
    have HNe := Lib.hid hNe
    have HV := Lib.hid hv
    have HF := Lib.hid hf
    clear hv hf hq HB hu0 hNN hNe
    cases hs : inB a 0 ((N : Int) - 1) with
    | false =>
      have HS := Lib.hid hs
      clear hs
      go_wp2_with (first | (go_at_call 69; refine (power_any m _ (by omega)).mono ?_; rintro e w' ⟨rfl, rfl⟩; rw [← HNN.out]) | (go_at_call 66; refine (inRange_any _ _ _ _).mono ?_; rintro e w' ⟨rfl, rfl⟩; rw [HS.out]))
      go_ret
      exact ⟨false, rfl, ⟨(fun h => by cases h), fun h => by have := h.2.1; rw [HNe.out, HS.out] at this; cases this⟩, h2⟩
    | true =>
      have hab := inB_iff.1 hs
      obtain ⟨s, rfl⟩ : ∃ s : Nat, a = s := ⟨a.toNat, by omega⟩
      have hsl : s < 2 ^ (gr rows 0).length := by rw [HNe.out]; omega
      have HS := Lib.hid (And.intro hs hsl)
      clear hs hab hsl
      go_wp2_with (first | (go_at_call 69; refine (power_any m _ (by omega)).mono ?_; rintro e w' ⟨rfl, rfl⟩; rw [← HNN.out]) | (go_at_call 66; refine (inRange_any _ _ _ _).mono ?_; rintro e w' ⟨rfl, rfl⟩; rw [HS.out.1]))
      refine (specMendable_any q _ _ rows s _ (HR.out.new h2) (vtB_ok HV.out.1) HS.out.2).mono ?_
      rintro e w4 ⟨b, rfl, hb, hn4⟩
      have HK := Lib.hid (And.intro hb (h2.trans hn4))
      clear hb hn4
      go_wp2_with fail
      go_ret
      refine ⟨b, rfl, ?_, HK.out.2⟩
      rw [HK.out.1]
      exact ⟨fun h => ⟨HV.out, by rw [HNe.out]; exact HS.out.1, by simpa using h⟩, fun h => by simpa using h.2.2⟩
end Go.Proofs.Ytdebkeicdfljlaa
