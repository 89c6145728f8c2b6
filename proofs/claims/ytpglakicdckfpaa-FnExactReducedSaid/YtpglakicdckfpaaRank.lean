/- RankOf and Reduced, the program's and the reference's. -/
import Derived.Test.YtpglakicdckfpaaReduce
import Derived.Test.YtpglakicdckfpaaTabA
import Derived.Test.YtpglakicdckfpaaTabB
namespace Go.Proofs.Ytpglakicdckfpaa
open Go.RowKit Mat
set_option linter.unusedVariables false

theorem prime_nat {p : Int} (h : prB p = true) : ∃ q : Nat, p = q ∧ Pr q := by
  rw [prB_iff] at h
  exact ⟨p.toNat, by omega, by unfold Pr; omega⟩

theorem vtB_pr {p : Int} {rows : List (List Int)} (h : vtB p rows = true) : prB p = true := by
  rw [vtB_iff] at h; exact prB_iff.2 h.1

theorem vtB_good {q : Nat} {rows : List (List Int)} (h : vtB q rows = true) : GoodRows q (gr rows 0).length rows := fun i hi => by
  rw [vtB_iff] at h
  have h1 := h.2.2.2 i hi
  exact ⟨h1.1, fun k hk => by have := h1.2 k (by omega); omega⟩

/-- out are the reduced rows of the table. -/
def RedOf (p : Int) (rows out : List (List Int)) : Prop := ∃ (q : Nat) (_ : NeZero q), p = q ∧ Pr q ∧ IsRed q (gr rows 0).length rows out

theorem RedOf.unique {p : Int} {rows A B : List (List Int)} (h : RedOf p rows A) (h' : RedOf p rows B) : A = B := by
  obtain ⟨q, i1, e1, hq, r1⟩ := h
  obtain ⟨q', i2, e2, hq', r2⟩ := h'
  obtain rfl : q = q' := by omega
  exact IsRed.unique hq r1 r2

/-- The reduced rows of a table, none of other rows. -/
def RedOr (p : Int) (rows out : List (List Int)) : Prop := (vtB p rows = false → out = []) ∧ (vtB p rows = true → RedOf p rows out)

theorem RedOr.unique {p : Int} {rows A B : List (List Int)} (h : RedOr p rows A) (h' : RedOr p rows B) : A = B := by
  cases hv : vtB p rows with
  | false => rw [h.1 hv, h'.1 hv]
  | true => exact (h.2 hv).unique (h'.2 hv)

theorem RedOf.bounds {p : Int} {rows out : List (List Int)} (h : RedOf p rows out) (hv : vtB p rows = true) : out.length ≤ 7 ∧ ∀ i, i < out.length → (gr out i).length = (gr rows 0).length ∧ (gr rows 0).length ≤ 7 := by
  obtain ⟨q, i1, e1, hq, r1⟩ := h
  have hn := (vtB_iff.1 hv).2.2.1
  have hl : ∀ i, i < out.length → ldN (gr out i) < 7 := fun i hi => by
    have := (lead_some (r1.inv.good i hi) (r1.inv.lead i hi)).1; omega
  refine ⟨?_, fun i hi => ⟨(r1.inv.good i hi).1, hn.2⟩⟩
  have key : ∀ i, i < out.length → i ≤ ldN (gr out i) := fun i => by
    induction i with
    | zero => intro _; exact Nat.zero_le _
    | succ i ih => intro hi; have := ih (by omega); have := r1.asc i (i + 1) (by omega) hi; omega
  apply Classical.byContradiction
  intro hc
  have := key 7 (by omega)
  have := hl 7 (by omega)
  omega

theorem RedOr.small {p : Int} {rows out : List (List Int)} (h : RedOr p rows out) : out.length ≤ 7 ∧ ∀ i, i < out.length → (gr out i).length ≤ 7 := by
  cases hv : vtB p rows with
  | false => rw [h.1 hv]; simp
  | true => have := (h.2 hv).bounds hv; exact ⟨this.1, fun i hi => by have := this.2 i hi; omega⟩

theorem specRankOf_any (p : Int) (v : Value) (rows : List (List Int)) (w : World) (hr : IsR w v rows) :
    Calls Try.prog 42 #[.int .i64 p, v] w fun e w' => (∃ r : Int, e = .returned (.int .i64 r) ∧ (vtB p rows = false → r = -1) ∧ (vtB p rows = true → ∃ out, RedOf p rows out ∧ r = out.length)) ∧ New w w' := by
  have HR := Lib.hid hr
  obtain ⟨ao, n, cap, rfl, HN, hn⟩ := hr.shape
  clear hr
  cases hv : vtB p rows with
  | false =>
    have HV := Lib.hid hv
    clear hv
    go_enter Try.func42, Try.ntmps42
    go_wp2_with fail
    refine (validTable_any _ _ _ _ HR.out).mono ?_
    rintro e w1 ⟨rfl, hn1⟩
    rw [HV.out]
    go_wp2_with fail
    go_ret
    exact ⟨⟨_, rfl, fun _ => rfl, fun h => by cases h⟩, hn1⟩
  | true =>
    have HV := Lib.hid hv
    obtain ⟨q, rfl, hq⟩ := prime_nat (vtB_pr hv)
    have hi := vtB_iff.1 hv
    have hb : (1 ≤ rows.length ∧ rows.length ≤ 6) ∧ (gr rows 0).length ≤ 7 := ⟨hi.2.1, hi.2.2.1.2⟩
    have HB := Lib.hid hb
    have HQ := Lib.hid hq
    clear hv hi hb hq
    haveI := HQ.out.nz
    go_enter Try.func42, Try.ntmps42
    go_wp2_with fail
    refine (validTable_any _ _ _ _ HR.out).mono ?_
    rintro e w1 ⟨rfl, hn1⟩
    rw [HV.out]
    go_wp2_with fail
    refine (reduce_any q HQ.out _ HB.out.2 _ rows _ (HR.out.new hn1) (vtB_good HV.out) (by have := HB.out.1; omega)).mono ?_
    rintro e w2 ⟨u, vs, out, rfl, ho, hf, hred, hn2⟩
    obtain ⟨a, l, c, rfl, HL, hl, _⟩ := ho.outer.opened (by rw [ho.len]; unfold Mid; have := (RedOf.bounds ⟨q, this, rfl, HQ.out, hred⟩ HV.out).1; omega)
    have HO := Lib.hid ho
    have HRED := Lib.hid hred
    clear ho hred hf
    go_wp2_with fail
    go_ret
    exact ⟨⟨_, rfl, fun h => (by cases h), fun _ => ⟨out, ⟨q, this, rfl, HQ.out, HRED.out⟩, by rw [HL.out, HO.out.len]⟩⟩, hn1.trans hn2⟩

theorem implRankOf_any (p : Int) (v : Value) (rows : List (List Int)) (w : World) (hr : IsR w v rows) :
    Calls Try.prog 44 #[.int .i64 p, v] w fun e w' => (∃ r : Int, e = .returned (.int .i64 r) ∧ (vtB p rows = false → r = -1) ∧ (vtB p rows = true → ∃ out, RedOf p rows out ∧ r = out.length)) ∧ New w w' := by
  have HR := Lib.hid hr
  obtain ⟨ao, n, cap, rfl, HN, hn⟩ := hr.shape
  clear hr
  cases hv : vtB p rows with
  | false =>
    have HV := Lib.hid hv
    clear hv
    go_enter Try.func44, Try.ntmps44
    go_wp2_with fail
    refine (tableOf_any _ _ _ _ HR.out).mono ?_
    rintro e w1 ⟨rfl, hn1⟩
    rw [HV.out]
    go_wp2_with fail
    go_ret
    exact ⟨⟨_, rfl, fun _ => rfl, fun h => by cases h⟩, hn1⟩
  | true =>
    have HV := Lib.hid hv
    obtain ⟨q, rfl, hq⟩ := prime_nat (vtB_pr hv)
    have hi := vtB_iff.1 hv
    have hb : (1 ≤ rows.length ∧ rows.length ≤ 6) ∧ (gr rows 0).length ≤ 7 := ⟨hi.2.1, hi.2.2.1.2⟩
    have HB := Lib.hid hb
    have HQ := Lib.hid hq
    clear hv hi hb hq
    haveI := HQ.out.nz
    go_enter Try.func44, Try.ntmps44
    go_wp2_with fail
    refine (tableOf_any _ _ _ _ HR.out).mono ?_
    rintro e w1 ⟨rfl, hn1⟩
    rw [HV.out]
    go_wp2_with fail
    refine (reduced_any q HQ.out _ HB.out.2 _ rows _ (HR.out.new hn1) (vtB_good HV.out) (by have := HB.out.1; omega)).mono ?_
    rintro e w2 ⟨u, vs, out, rfl, ho, hf, hred, hn2⟩
    obtain ⟨a, l, c, rfl, HL, hl, _⟩ := ho.outer.opened (by rw [ho.len]; unfold Mid; have := (RedOf.bounds ⟨q, this, rfl, HQ.out, hred⟩ HV.out).1; omega)
    have HO := Lib.hid ho
    have HRED := Lib.hid hred
    clear ho hred hf
    go_wp2_with fail
    go_ret
    exact ⟨⟨_, rfl, fun h => (by cases h), fun _ => ⟨out, ⟨q, this, rfl, HQ.out, HRED.out⟩, by rw [HL.out, HO.out.len]⟩⟩, hn1.trans hn2⟩

theorem implReduced_any (p : Int) (v : Value) (rows : List (List Int)) (w : World) (hr : IsR w v rows) :
    Calls Try.prog 49 #[.int .i64 p, v] w fun e w' => ∃ u vs out, e = .returned u ∧ OwnR w' 24 3 u vs out ∧ FromR w.heap.size u vs out ∧ RedOr p rows out ∧ New w w' := by
  have HR := Lib.hid hr
  obtain ⟨ao, n, cap, rfl, HN, hn⟩ := hr.shape
  clear hr
  cases hv : vtB p rows with
  | false =>
    have HV := Lib.hid hv
    clear hv
    go_enter Try.func49, Try.ntmps49
    go_wp2_with fail
    refine (tableOf_any _ _ _ _ HR.out).mono ?_
    rintro e w1 ⟨rfl, hn1⟩
    rw [HV.out]
    go_wp2_with fail
    go_ret
    exact ⟨_, [], [], rfl, ⟨Own.nil _ _, rfl, fun i hi => by simp at hi, fun i j hi => by simp at hi⟩, ⟨From.nil _, fun i hi => by simp at hi⟩, ⟨fun _ => rfl, fun h => by (have h2 := HV.out; rw [h2] at h; cases h)⟩, hn1⟩
  | true =>
    have HV := Lib.hid hv
    obtain ⟨q, rfl, hq⟩ := prime_nat (vtB_pr hv)
    have hi := vtB_iff.1 hv
    have hb : (1 ≤ rows.length ∧ rows.length ≤ 6) ∧ (gr rows 0).length ≤ 7 := ⟨hi.2.1, hi.2.2.1.2⟩
    have HB := Lib.hid hb
    have HQ := Lib.hid hq
    clear hv hi hb hq
    haveI := HQ.out.nz
    go_enter Try.func49, Try.ntmps49
    go_wp2_with fail
    refine (tableOf_any _ _ _ _ HR.out).mono ?_
    rintro e w1 ⟨rfl, hn1⟩
    rw [HV.out]
    go_wp2_with fail
    refine (reduced_any q HQ.out _ HB.out.2 _ rows _ (HR.out.new hn1) (vtB_good HV.out) (by have := HB.out.1; omega)).mono ?_
    rintro e w2 ⟨u, vs, out, rfl, ho, hf, hred, hn2⟩
    have HO := Lib.hid ho
    have HF := Lib.hid hf
    have HRED := Lib.hid hred
    clear ho hred hf
    go_wp2_with fail
    go_ret
    exact ⟨_, vs, out, rfl, HO.out, ⟨HF.out.1.mono hn1.size, fun i hi => (HF.out.2 i hi).mono hn1.size⟩, ⟨fun h => by (have h2 := HV.out; rw [h2] at h; cases h), fun _ => ⟨q, this, rfl, HQ.out, HRED.out⟩⟩, hn1.trans hn2⟩

theorem specReduced_any (p : Int) (v : Value) (rows : List (List Int)) (w : World) (hr : IsR w v rows) :
    Calls Try.prog 48 #[.int .i64 p, v] w fun e w' => ∃ u vs out, e = .returned u ∧ OwnR w' 24 3 u vs out ∧ FromR w.heap.size u vs out ∧ RedOr p rows out ∧ New w w' := by
  have HR := Lib.hid hr
  obtain ⟨ao, n, cap, rfl, HN, hn⟩ := hr.shape
  clear hr
  cases hv : vtB p rows with
  | false =>
    have HV := Lib.hid hv
    clear hv
    go_enter Try.func48, Try.ntmps48
    go_wp2_with fail
    refine (validTable_any _ _ _ _ HR.out).mono ?_
    rintro e w1 ⟨rfl, hn1⟩
    rw [HV.out]
    go_wp2_with fail
    go_ret
    exact ⟨_, [], [], rfl, ⟨Own.nil _ _, rfl, fun i hi => by simp at hi, fun i j hi => by simp at hi⟩, ⟨From.nil _, fun i hi => by simp at hi⟩, ⟨fun _ => rfl, fun h => by (have h2 := HV.out; rw [h2] at h; cases h)⟩, hn1⟩
  | true =>
    have HV := Lib.hid hv
    obtain ⟨q, rfl, hq⟩ := prime_nat (vtB_pr hv)
    have hi := vtB_iff.1 hv
    have hb : (1 ≤ rows.length ∧ rows.length ≤ 6) ∧ (gr rows 0).length ≤ 7 := ⟨hi.2.1, hi.2.2.1.2⟩
    have HB := Lib.hid hb
    have HQ := Lib.hid hq
    clear hv hi hb hq
    haveI := HQ.out.nz
    go_enter Try.func48, Try.ntmps48
    go_wp2_with fail
    refine (validTable_any _ _ _ _ HR.out).mono ?_
    rintro e w1 ⟨rfl, hn1⟩
    rw [HV.out]
    go_wp2_with fail
    refine (reduce_any q HQ.out _ HB.out.2 _ rows _ (HR.out.new hn1) (vtB_good HV.out) (by have := HB.out.1; omega)).mono ?_
    rintro e w2 ⟨u, vs, out, rfl, ho, hf, hred, hn2⟩
    have hb := RedOf.bounds ⟨q, this, rfl, HQ.out, hred⟩ HV.out
    have hisr : IsR w2 u out := ho.isR (by unfold Mid; omega) (fun i hi => by have := hb.2 i hi; unfold Mid; omega)
    have HISR := Lib.hid hisr
    have HRED := Lib.hid hred
    clear ho hred hf hb hisr
    go_wp2_with fail
    refine (copyRows_any _ _ _ HISR.out).mono ?_
    rintro e w3 ⟨u3, vs3, rfl, ho3, hf3, hn3⟩
    have HO := Lib.hid ho3
    have HF := Lib.hid hf3
    clear ho3 hf3
    go_wp2_with fail
    go_ret
    have hs := (hn1.trans hn2).size
    exact ⟨_, vs3, out, rfl, HO.out, ⟨HF.out.1.mono hs, fun i hi => (HF.out.2 i hi).mono hs⟩, ⟨fun h => by (have h2 := HV.out; rw [h2] at h; cases h), fun _ => ⟨q, this, rfl, HQ.out, HRED.out⟩⟩, (hn1.trans hn2).trans hn3⟩
end Go.Proofs.Ytpglakicdckfpaa
