/- PeelOf of both. -/
import Derived.Test.YtgpmkbenjlhfhaaNulk
import Derived.Test.YtgpmkbenjlhfhaaPeel
import Derived.Test.YtgpmkbenjlhfhaaMend
namespace Go.Proofs.Ytgpmkbenjlhfhaa
open Go.RowKit Mat
set_option linter.unusedVariables false

/-- lost is a set of the columns of a code. -/
def PeelC (p : Int) (rows : List (List Int)) (a : Int) : Prop := ValidC p rows ∧ inB a 0 (((2 ^ (gr rows 0).length : Nat) : Int) - 1) = true
/-- What PeelOf answers. -/
structure PeelQ (p : Int) (rows : List (List Int)) (a t : Int) : Prop where
  yes : PeelC p rows a → ∃ checks, NulC p rows checks ∧ ∃ out : Nat, t = out ∧ PeelR checks a.toNat out
  no : ¬ PeelC p rows a → t = -1
theorem PeelQ.unique {p : Int} {rows : List (List Int)} {a t u : Int} (h : PeelQ p rows a t) (h' : PeelQ p rows a u) : t = u := by
  by_cases c : PeelC p rows a
  · obtain ⟨k, hk, o, rfl, ho⟩ := h.yes c
    obtain ⟨k', hk', o', rfl, ho'⟩ := h'.yes c
    obtain rfl := hk.unique hk'
    rw [ho.unique ho']
  · rw [h.no c, h'.no c]

set_option maxRecDepth 100000 in
set_option maxHeartbeats 1000000 in
theorem implPeelOf_any (p : Int) (v : Value) (a : Int) (rows : List (List Int)) (w : World) (hr : IsR w v rows) :
    Calls Try.prog 44 #[.agg #[.int .i64 p, v], .int .i64 a] w fun e w' => TellsN w e w' (PeelQ p rows a) := by
  obtain ⟨ao, n, cap, rfl, HN, hn⟩ := hr.shape
  have HR := Lib.hid hr
  clear hr
  have h1 : New w (w.alloc (.cells #[.int .i64 p, .slice ao n cap] 25)) := New.alloc _ _
  have b1 := Blk2.alloc w (.int .i64 p) (.slice ao n cap) 25
  go_enter Try.func44, Try.ntmps44
  go_wp2_with fail
  refine (known_any _ _ rows _ (HR.out.new h1)).mono ?_
  rintro e w2 ⟨⟨b, rfl, hb⟩, hn2⟩
  have h2 := h1.trans hn2
  have b2 := b1.new hn2
  have HB := Lib.hid hb
  clear hb hn2 b1 h1
  obtain ⟨c0, c1, _, _⟩ := b2.cells
  cases b with
  | false =>
    go_wp2_with fail
    go_ret
    exact ⟨-1, rfl, ⟨(fun h => by have := HB.out.2 h.1; cases this), fun _ => rfl⟩, h2⟩
  | true =>
    have hv := HB.out.1 rfl
    have hf := hv.few
    obtain ⟨q, rfl, hq⟩ := prime_nat (vtB_pr hv.1)
    haveI := hq.nz
    have HV := Lib.hid hv
    have HF := Lib.hid hf
    clear hv hf hq HB
    go_wp2_with fail
    refine (setOk_any _ _ rows a _ (HR.out.new h2) HF.out.1 HF.out.2.2.2.1).mono ?_
    rintro e w3 ⟨rfl, hn3⟩
    have h3 := h2.trans hn3
    obtain ⟨d0, d1, _, _⟩ := (b2.new hn3).cells
    clear c0 c1 b2 hn3 h2
    cases hs : inB a 0 (((2 ^ (gr rows 0).length : Nat) : Int) - 1) with
    | false =>
      have HS := Lib.hid hs
      clear hs
      go_wp2_with fail
      go_ret
      exact ⟨-1, rfl, ⟨(fun h => by have := h.2; rw [HS.out] at this; cases this), fun _ => rfl⟩, h3⟩
    | true =>
      have hab := inB_iff.1 hs
      obtain ⟨s, rfl⟩ : ∃ s : Nat, a = s := ⟨a.toNat, by omega⟩
      have hsl : s < 2 ^ (gr rows 0).length := by omega
      have h7 := pow_lt HF.out.2.2.2.1
      have hs8 : s < 128 := by omega
      have HS := Lib.hid (And.intro hs hsl)
      clear hs hab hsl h7
      go_wp2_with fail
      refine (implNulls_c q _ _ rows _ (HR.out.new h3) (vtB_ok HV.out.1)).mono ?_
      rintro e w4 ⟨u, vs, out, rfl, hnul, ho, hf, hn4⟩
      have hb := hnul.bounds
      have hc7 := HF.out.2.2.2.1
      obtain ⟨au, nu, cu, rfl, _, _, _⟩ := ho.outer.opened (by rw [ho.len]; unfold Mid; omega)
      have hio := ho.isR (by unfold Mid; omega) (fun i hi => by have := hb.2 i hi; unfold Mid; omega)
      have HI := Lib.hid (And.intro hio hb)
      have HK := Lib.hid (And.intro hnul (h3.trans hn4))
      clear ho hf hnul hn4 hio hb hc7
      go_wp2_with (go_at_call 96; refine (implPeel_any _ out s _ HI.out.1 (by have := HI.out.2.1; have := HF.out.2.2.2.1; omega) (fun i hi => by have := HI.out.2.2 i hi; have := HF.out.2.2.2.1; omega) hs8).mono ?_; rintro e w' ⟨o, rfl, ho, rfl⟩; have HO := Lib.hid ho; clear ho)
      go_ret
      exact ⟨o, rfl, ⟨fun _ => ⟨out, HK.out.1, o, rfl, by rw [Int.toNat_natCast]; exact HO.out⟩, fun h => absurd ⟨HV.out, HS.out.1⟩ h⟩, HK.out.2⟩

set_option maxRecDepth 100000 in
set_option maxHeartbeats 1000000 in
theorem specPeelOf_any (p : Int) (v : Value) (a : Int) (rows : List (List Int)) (w : World) (hr : IsR w v rows) :
    Calls Try.prog 45 #[.agg #[.int .i64 p, v], .int .i64 a] w fun e w' => TellsN w e w' (PeelQ p rows a) := by
  obtain ⟨ao, n, cap, rfl, HN, hn⟩ := hr.shape
  have HR := Lib.hid hr
  clear hr
  have h1 : New w (w.alloc (.cells #[.int .i64 p, .slice ao n cap] 25)) := New.alloc _ _
  have b1 := Blk2.alloc w (.int .i64 p) (.slice ao n cap) 25
  go_enter Try.func45, Try.ntmps45
  go_wp2_with fail
  refine (validCode_any _ _ rows _ (HR.out.new h1)).mono ?_
  rintro e w2 ⟨⟨b, rfl, hb⟩, hn2⟩
  have h2 := h1.trans hn2
  have b2 := b1.new hn2
  have HB := Lib.hid hb
  clear hb hn2 b1 h1
  obtain ⟨c0, c1, _, _⟩ := b2.cells
  cases b with
  | false =>
    go_wp2_with fail
    go_ret
    exact ⟨-1, rfl, ⟨(fun h => by have := HB.out.2 h.1; cases this), fun _ => rfl⟩, h2⟩
  | true =>
    have hv := HB.out.1 rfl
    have hf := hv.few
    obtain ⟨q, rfl, hq⟩ := prime_nat (vtB_pr hv.1)
    haveI := hq.nz
    have hn0 : 0 < n := by rw [HN.out]; omega
    obtain ⟨b0, o0, u0, rfl, ck0, hu0⟩ := (HR.out.new h2).at (i := 0) hn0
    rw [Nat.add_zero] at ck0
    obtain ⟨a0, m, cc0, rfl, HM, hm⟩ := hu0.shape
    have hm7 : m ≤ 7 := by rw [HM.out]; omega
    have hp := pow_lt hm7
    have hp0 : 0 < 2 ^ m := Nat.two_pow_pos _
    obtain ⟨N, hNN⟩ : ∃ N, N = 2 ^ m := ⟨_, rfl⟩
    rw [← hNN] at hp hp0
    have HNN := Lib.hid hNN
    have hNe : 2 ^ (gr rows 0).length = N := by rw [← HM.out, hNN]
    have HNe := Lib.hid hNe
    have HV := Lib.hid hv
    have HF := Lib.hid hf
    clear hv hf hq HB hu0 hNN hNe
    cases hs : inB a 0 ((N : Int) - 1) with
    | false =>
      have HS := Lib.hid hs
      clear hs
      go_wp2_with (first | (go_at_call 88; refine (power_any m _ (by omega)).mono ?_; rintro e w' ⟨rfl, rfl⟩; rw [← HNN.out]) | (go_at_call 84; refine (inRange_any _ _ _ _).mono ?_; rintro e w' ⟨rfl, rfl⟩; rw [HS.out]))
      go_ret
      exact ⟨-1, rfl, ⟨(fun h => by have := h.2; rw [HNe.out, HS.out] at this; cases this), fun _ => rfl⟩, h2⟩
    | true =>
      have hab := inB_iff.1 hs
      obtain ⟨s, rfl⟩ : ∃ s : Nat, a = s := ⟨a.toNat, by omega⟩
      have hsl : s < 2 ^ (gr rows 0).length := by rw [HNe.out]; omega
      have hs8 : s < 128 := by omega
      have HS := Lib.hid (And.intro hs hsl)
      clear hs hab hsl
      go_wp2_with (first | (go_at_call 88; refine (power_any m _ (by omega)).mono ?_; rintro e w' ⟨rfl, rfl⟩; rw [← HNN.out]) | (go_at_call 84; refine (inRange_any _ _ _ _).mono ?_; rintro e w' ⟨rfl, rfl⟩; rw [HS.out.1]))
      refine (specNulls_c q _ _ rows _ (HR.out.new h2) (vtB_ok HV.out.1)).mono ?_
      rintro e w4 ⟨u, vs, out, rfl, hnul, ho, hf, hn4⟩
      have hb := hnul.bounds
      have hc7 := HF.out.2.2.2.1
      obtain ⟨au, nu, cu, rfl, _, _, _⟩ := ho.outer.opened (by rw [ho.len]; unfold Mid; omega)
      have hio := ho.isR (by unfold Mid; omega) (fun i hi => by have := hb.2 i hi; unfold Mid; omega)
      have HI := Lib.hid (And.intro hio hb)
      have HK := Lib.hid (And.intro hnul (h2.trans hn4))
      clear ho hf hnul hn4 hio hb hc7
      go_wp2_with (go_at_call 97; refine (specPeel_any _ out s _ HI.out.1 (by have := HI.out.2.1; have := HF.out.2.2.2.1; omega) (fun i hi => by have := HI.out.2.2 i hi; have := HF.out.2.2.2.1; omega) hs8).mono ?_; rintro e w' ⟨o, rfl, ho, rfl⟩; have HO := Lib.hid ho; clear ho)
      go_ret
      exact ⟨o, rfl, ⟨fun _ => ⟨out, HK.out.1, o, rfl, by rw [Int.toNat_natCast]; exact HO.out⟩, fun h => absurd ⟨HV.out, by rw [HNe.out]; exact HS.out.1⟩ h⟩, HK.out.2⟩
end Go.Proofs.Ytgpmkbenjlhfhaa
