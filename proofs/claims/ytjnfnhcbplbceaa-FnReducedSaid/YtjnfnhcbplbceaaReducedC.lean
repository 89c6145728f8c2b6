/- Reduced, the program's and the reference's. -/
import Derived.Test.YtjnfnhcbplbceaaRedu
namespace Go.Proofs.Ytjnfnhcbplbceaa
open Go.RowKit Mat
set_option linter.unusedVariables false

theorem implReduced_any (p : Int) (v : Value) (rows : List (List Int)) (w : World) (hr : IsR w v rows) :
    Calls Try.prog 44 #[.int .i64 p, v] w fun e w' => ∃ u vs out, e = .returned u ∧ OwnR w' 31 3 u vs out ∧ FromR w.heap.size u vs out ∧ RedOr p rows out ∧ New w w' := by
  have HR := Lib.hid hr
  obtain ⟨ao, n, cap, rfl, HN, hn⟩ := hr.shape
  clear hr
  cases hv : vtB p rows with
  | false =>
    have HV := Lib.hid hv
    clear hv
    go_enter Try.func44, Try.ntmps44
    go_wp2_with fail
    refine (tableOf_any _ _ _ _ HR.out).mono ?_
    rintro e w1 ⟨rfl, hn1⟩
    rw [HV.out]
    go_wp2_with fail
    go_ret
    exact ⟨_, [], [], rfl, ⟨Own.nil _ _, rfl, fun i hi => by simp at hi, fun i j hi => by simp at hi⟩, ⟨From.nil _, fun i hi => by simp at hi⟩, ⟨fun _ => rfl, fun h => by (have h2 := HV.out; rw [h2] at h; cases h)⟩, hn1⟩
  | true =>
    have HV := Lib.hid hv
    obtain ⟨q, rfl, hq⟩ := prime_nat (vtB_pr hv)
    have hi := vtB_iff.1 hv
    have hb : (1 ≤ rows.length ∧ rows.length ≤ 6) ∧ (gr rows 0).length ≤ 7 := ⟨hi.2.1, hi.2.2.1.2⟩
    have HB := Lib.hid hb
    have HQ := Lib.hid hq
    clear hv hi hb hq
    haveI := HQ.out.nz
    go_enter Try.func44, Try.ntmps44
    go_wp2_with fail
    refine (tableOf_any _ _ _ _ HR.out).mono ?_
    rintro e w1 ⟨rfl, hn1⟩
    rw [HV.out]
    go_wp2_with fail
    refine (reduced_any q HQ.out _ HB.out.2 _ rows _ (HR.out.new hn1) (vtB_good HV.out) (by have := HB.out.1; omega)).mono ?_
    rintro e w2 ⟨u, vs, out, rfl, ho, hf, hred, hn2⟩
    have HO := Lib.hid ho
    have HF := Lib.hid hf
    have HRED := Lib.hid hred
    clear ho hred hf
    go_wp2_with fail
    go_ret
    exact ⟨_, vs, out, rfl, HO.out, ⟨HF.out.1.mono hn1.size, fun i hi => (HF.out.2 i hi).mono hn1.size⟩, ⟨fun h => by (have h2 := HV.out; rw [h2] at h; cases h), fun _ => ⟨q, this, rfl, HQ.out, HRED.out⟩⟩, hn1.trans hn2⟩

theorem specReduced_any (p : Int) (v : Value) (rows : List (List Int)) (w : World) (hr : IsR w v rows) :
    Calls Try.prog 46 #[.int .i64 p, v] w fun e w' => ∃ u vs out, e = .returned u ∧ OwnR w' 31 3 u vs out ∧ FromR w.heap.size u vs out ∧ RedOr p rows out ∧ New w w' := by
  have HR := Lib.hid hr
  obtain ⟨ao, n, cap, rfl, HN, hn⟩ := hr.shape
  clear hr
  cases hv : vtB p rows with
  | false =>
    have HV := Lib.hid hv
    clear hv
    go_enter Try.func46, Try.ntmps46
    go_wp2_with fail
    refine (validTable_any _ _ _ _ HR.out).mono ?_
    rintro e w1 ⟨rfl, hn1⟩
    rw [HV.out]
    go_wp2_with fail
    go_ret
    exact ⟨_, [], [], rfl, ⟨Own.nil _ _, rfl, fun i hi => by simp at hi, fun i j hi => by simp at hi⟩, ⟨From.nil _, fun i hi => by simp at hi⟩, ⟨fun _ => rfl, fun h => by (have h2 := HV.out; rw [h2] at h; cases h)⟩, hn1⟩
  | true =>
    have HV := Lib.hid hv
    obtain ⟨q, rfl, hq⟩ := prime_nat (vtB_pr hv)
    have hi := vtB_iff.1 hv
    have hb : (1 ≤ rows.length ∧ rows.length ≤ 6) ∧ (gr rows 0).length ≤ 7 := ⟨hi.2.1, hi.2.2.1.2⟩
    have HB := Lib.hid hb
    have HQ := Lib.hid hq
    clear hv hi hb hq
    haveI := HQ.out.nz
    go_enter Try.func46, Try.ntmps46
    go_wp2_with fail
    refine (validTable_any _ _ _ _ HR.out).mono ?_
    rintro e w1 ⟨rfl, hn1⟩
    rw [HV.out]
    go_wp2_with fail
    refine (reduce_any q HQ.out _ HB.out.2 _ rows _ (HR.out.new hn1) (vtB_good HV.out) (by have := HB.out.1; omega)).mono ?_
    rintro e w2 ⟨u, vs, out, rfl, ho, hf, hred, hn2⟩
    have hb := RedOf.bounds ⟨q, this, rfl, HQ.out, hred⟩ HV.out
    have hisr : IsR w2 u out := ho.isR (by unfold Mid; omega) (fun i hi => by have := hb.2 i hi; unfold Mid; omega)
    have HISR := Lib.hid hisr
    have HRED := Lib.hid hred
    clear ho hred hf hb hisr
    go_wp2_with fail
    refine (copyRows_any _ _ _ HISR.out).mono ?_
    rintro e w3 ⟨u3, vs3, rfl, ho3, hf3, hn3⟩
    have HO := Lib.hid ho3
    have HF := Lib.hid hf3
    clear ho3 hf3
    go_wp2_with fail
    go_ret
    have hs := (hn1.trans hn2).size
    exact ⟨_, vs3, out, rfl, HO.out, ⟨HF.out.1.mono hs, fun i hi => (HF.out.2 i hi).mono hs⟩, ⟨fun h => by (have h2 := HV.out; rw [h2] at h; cases h), fun _ => ⟨q, this, rfl, HQ.out, HRED.out⟩⟩, (hn1.trans hn2).trans hn3⟩
end Go.Proofs.Ytjnfnhcbplbceaa
