/- The rank of the columns of a set. -/
import Derived.Test.YteoiaicpdmlecaaSome
import Derived.Test.YteoiaicpdmlecaaBlk
import Derived.Deep.RegionHeld3
namespace Go.Proofs.Yteoiaicpdmlecaa
open Go.RowKit Mat
set_option linter.unusedVariables false

theorem IsRed.le_cols {p : Nat} [NeZero p] {n : Nat} {R out : List (List Int)} (r1 : IsRed p n R out) : out.length ≤ n := by
  have hl : ∀ i, i < out.length → ldN (gr out i) < n := fun i hi => (lead_some (r1.inv.good i hi) (r1.inv.lead i hi)).1
  have key : ∀ i, i < out.length → i ≤ ldN (gr out i) := fun i => by
    induction i with
    | zero => intro _; exact Nat.zero_le _
    | succ i ih => intro hi; have := ih (by omega); have := r1.asc i (i + 1) (by omega) hi; omega
  by_cases h0 : out.length = 0
  · omega
  · have := key (out.length - 1) (by omega)
    have := hl (out.length - 1) (by omega)
    omega

/-- r is the rank of the columns in s. -/
def RkOf (p : Int) (rows : List (List Int)) (s r : Nat) : Prop :=
  ∃ (q : Nat) (_ : NeZero q), p = q ∧ Pr q ∧ ∃ out, IsRed q (wtN s (gr rows 0).length) (rows.map (sel s)) out ∧ r = out.length

theorem RkOf.unique {p : Int} {rows : List (List Int)} {s a b : Nat} (h : RkOf p rows s a) (h' : RkOf p rows s b) : a = b := by
  obtain ⟨q, i1, e1, hq, o1, r1, rfl⟩ := h
  obtain ⟨q', i2, e2, hq', o2, r2, rfl⟩ := h'
  obtain rfl : q = q' := by omega
  rw [IsRed.unique hq r1 r2]

theorem RkOf.le {p : Int} {rows : List (List Int)} {s r : Nat} (h : RkOf p rows s r) : r ≤ wtN s (gr rows 0).length := by
  obtain ⟨q, i1, e1, hq, o1, r1, rfl⟩ := h
  exact r1.le_cols

theorem wtN_zero (k : Nat) : wtN 0 k = 0 := by
  induction k with
  | zero => rfl
  | succ k ih => simp [wtN, ih, bitN]

theorem RkOf.none {p : Int} {rows : List (List Int)} {r : Nat} (h : RkOf p rows 0 r) : r = 0 := by
  have := h.le
  rw [wtN_zero] at this
  omega

/-- A table, and few. -/
structure TabOk (q : Nat) (n : Nat) (rows : List (List Int)) : Prop where
  pr : Pr q
  good : GoodRows q n rows
  cols : (gr rows 0).length = n
  n7 : n ≤ 7
  n1 : 1 ≤ n
  r1 : 1 ≤ rows.length
  r6 : rows.length ≤ 6
theorem vtB_ok {q : Nat} {rows : List (List Int)} (h : vtB q rows = true) : TabOk q (gr rows 0).length rows := by
  have hv := vtB_iff.1 h
  exact ⟨by unfold Pr; have := hv.1; omega, vtB_good h, rfl, hv.2.2.1.2, hv.2.2.1.1, hv.2.1.1, hv.2.1.2⟩

set_option maxHeartbeats 1000000 in
theorem rank_any (q : Nat) [NeZero q] (n : Nat) (v : Value) (rows : List (List Int)) (s : Nat) (w : World) (hs : s < 128) (hr : IsR w v rows) (ht : TabOk q n rows) :
    Calls Try.prog 104 #[.int .i64 q, v, .int .i64 s] w fun e w' => ∃ r : Nat, e = .returned (.int .i64 r) ∧ RkOf q rows s r ∧ r ≤ 7 ∧ New w w' := by
  have HR := Lib.hid hr
  have HT := Lib.hid ht
  clear hr ht
  go_enter Try.func104, Try.ntmps104
  go_wp2_with fail
  refine (some_any s hs _ rows _ HR.out (by have := HT.out.r6; omega) (fun i hi => by have := HT.out.good i hi; have := HT.out.n7; rw [(HT.out.good i hi).1]; omega)).mono ?_
  rintro e w1 ⟨u1, vs1, rfl, ho1, hf1, hn1⟩
  have hw : wtN s n ≤ 7 := by have := wtN_le s n; have := HT.out.n7; omega
  have hg := selRows_good s HT.out.good
  have hi1 : IsR w1 u1 (rows.map (sel s)) := ho1.isR (by rw [List.length_map]; have := HT.out.r6; unfold Mid; omega) (fun i hi => by
    have := (hg i hi).1; unfold Mid; omega)
  have HI := Lib.hid hi1
  have HG := Lib.hid hg
  have HN := Lib.hid hn1
  clear ho1 hf1 hn1 hi1 hg
  go_wp2_with fail
  refine (reduced_any q HT.out.pr _ hw _ _ _ HI.out HG.out (by rw [List.length_map]; have := HT.out.r6; omega)).mono ?_
  rintro e w2 ⟨u2, vs2, out, rfl, ho2, hf2, hred, hn2⟩
  have hrk : RkOf q rows s out.length := ⟨q, _, rfl, HT.out.pr, out, by rw [HT.out.cols]; exact hred, rfl⟩
  have hle := hrk.le
  rw [HT.out.cols] at hle
  obtain ⟨a, l, c, rfl, HL, hl, _⟩ := ho2.outer.opened (by rw [ho2.len]; unfold Mid; omega)
  have el : out.length = l := by rw [HL.out, ho2.len]
  rw [el] at hrk hle
  have HK := Lib.hid (And.intro hrk (HN.out.trans hn2))
  clear ho2 hf2 hred hn2 hrk el HL
  go_wp2_with fail
  go_ret
  exact ⟨l, rfl, HK.out.1, by omega, HK.out.2⟩

set_option maxHeartbeats 1000000 in
theorem columnsOf_any (p : Int) (v : Value) (rows : List (List Int)) (w : World) (hr : IsR w v rows) (h1 : 1 ≤ rows.length) :
    Calls Try.prog 60 #[.agg #[.int .i64 p, v]] w fun e w' => e = .returned (.int .i64 ((gr rows 0).length : Nat)) ∧ New w w' := by
  obtain ⟨ao, n, cap, rfl, HN, hn⟩ := hr.shape
  have hn1 : New w (w.alloc (.cells #[.int .i64 p, .slice ao n cap] 27)) := New.alloc _ _
  obtain ⟨b0, o0, u0, rfl, ck0, hu0⟩ := (hr.new hn1).at (i := 0) (by rw [HN.out]; exact h1)
  rw [Nat.add_zero] at ck0
  obtain ⟨a0, m, c0, rfl, HM, hm⟩ := hu0.shape
  have h0 : 0 < n := by rw [HN.out]; exact h1
  rw [← HM.out]
  clear hr hu0
  go_enter Try.func60, Try.ntmps60
  go_wp2_with fail
  go_ret
  exact ⟨rfl, hn1⟩
end Go.Proofs.Yteoiaicpdmlecaa
