/- RankOf, the program's and the reference's. -/
import Derived.Test.YtgpmkbenjlhfhaaRedu
namespace Go.Proofs.Ytgpmkbenjlhfhaa
open Go.RowKit Mat
set_option linter.unusedVariables false

theorem implRankOf_any (p : Int) (v : Value) (rows : List (List Int)) (w : World) (hr : IsR w v rows) :
    Calls Try.prog 61 #[.int .i64 p, v] w fun e w' => (∃ r : Int, e = .returned (.int .i64 r) ∧ (vtB p rows = false → r = -1) ∧ (vtB p rows = true → ∃ out, RedOf p rows out ∧ r = out.length)) ∧ New w w' := by
  have HR := Lib.hid hr
  obtain ⟨ao, n, cap, rfl, HN, hn⟩ := hr.shape
  clear hr
  cases hv : vtB p rows with
  | false =>
    have HV := Lib.hid hv
    clear hv
    go_enter Try.func61, Try.ntmps61
    go_wp2_with fail
    refine (tableOf_any _ _ _ _ HR.out).mono ?_
    rintro e w1 ⟨rfl, hn1⟩
    rw [HV.out]
    go_wp2_with fail
    go_ret
    exact ⟨⟨_, rfl, fun _ => rfl, fun h => by cases h⟩, hn1⟩
  | true =>
    have HV := Lib.hid hv
    obtain ⟨q, rfl, hq⟩ := prime_nat (vtB_pr hv)
    have hi := vtB_iff.1 hv
    have hb : (1 ≤ rows.length ∧ rows.length ≤ 6) ∧ (gr rows 0).length ≤ 7 := ⟨hi.2.1, hi.2.2.1.2⟩
    have HB := Lib.hid hb
    have HQ := Lib.hid hq
    clear hv hi hb hq
    haveI := HQ.out.nz
    go_enter Try.func61, Try.ntmps61
    go_wp2_with fail
    refine (tableOf_any _ _ _ _ HR.out).mono ?_
    rintro e w1 ⟨rfl, hn1⟩
    rw [HV.out]
    go_wp2_with fail
    refine (reduced_any q HQ.out _ HB.out.2 _ rows _ (HR.out.new hn1) (vtB_good HV.out) (by have := HB.out.1; omega)).mono ?_
    rintro e w2 ⟨u, vs, out, rfl, ho, hf, hred, hn2⟩
    obtain ⟨a, l, c, rfl, HL, hl, _⟩ := ho.outer.opened (by rw [ho.len]; unfold Mid; have := (RedOf.bounds ⟨q, this, rfl, HQ.out, hred⟩ HV.out).1; omega)
    have HO := Lib.hid ho
    have HRED := Lib.hid hred
    clear ho hred hf
    go_wp2_with fail
    go_ret
    exact ⟨⟨_, rfl, fun h => (by cases h), fun _ => ⟨out, ⟨q, this, rfl, HQ.out, HRED.out⟩, by rw [HL.out, HO.out.len]⟩⟩, hn1.trans hn2⟩

end Go.Proofs.Ytgpmkbenjlhfhaa
