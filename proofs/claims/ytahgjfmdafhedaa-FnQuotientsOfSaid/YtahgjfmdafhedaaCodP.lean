/- Sets of columns as numbers: made of a question, complements, how many parts a set has. Plain. Words of codes that are 0 at some columns: ranks tell how many; weights by ranks. Plain. What codes are told by the ranks of their columns: what may be lost, distances, best codes. Plain. Words of messages, parts of lists: what the laws on codes need besides. Plain, and readings of memory. -/
import Derived.Test.YtahgjfmdafhedaaCountM
import Derived.Test.YtahgjfmdafhedaaHelp
import Derived.Test.YtahgjfmdafhedaaBitL
import Derived.Test.YtahgjfmdafhedaaWtsN
import Derived.Test.YtahgjfmdafhedaaLossesOf
import Derived.Test.YtahgjfmdafhedaaLawE
namespace Go.Proofs.Ytahgjfmdafhedaa
open Go.RowKit Mat
set_option linter.unusedVariables false

/-- The set of those below a number for which a question holds. -/
def setB (P : Nat → Bool) : Nat → Nat
  | 0 => 0
  | n + 1 => if P n then setB P n ||| 2 ^ n else setB P n
theorem setB_lt (P : Nat → Bool) : ∀ n, setB P n < 2 ^ n
  | 0 => by simp [setB]
  | n + 1 => by
    have h := setB_lt P n
    have h2 := Nat.two_pow_pos n
    unfold setB
    split
    · exact Nat.or_lt_two_pow (by rw [Nat.pow_succ]; omega) (by rw [Nat.pow_succ]; omega)
    · rw [Nat.pow_succ]; omega
theorem setB_test (P : Nat → Bool) : ∀ n j, (setB P n).testBit j = (decide (j < n) && P j)
  | 0, j => by simp [setB]
  | n + 1, j => by
    unfold setB
    by_cases e : j = n
    · subst e
      have h : (setB P j).testBit j = false := by rw [setB_test P j j]; simp
      cases hp : P j with
      | true => rw [if_pos rfl, Nat.testBit_or, h, Nat.testBit_two_pow_self]; simp
      | false => simp [h]
    · have h1 : decide (j < n + 1) = decide (j < n) := by
        rw [decide_eq_decide]; omega
      rw [h1]
      cases hp : P n with
      | true => rw [if_pos rfl, Nat.testBit_or, setB_test P n j, Nat.testBit_two_pow_of_ne (fun h => e h.symm), Bool.or_false]
      | false => simp [setB_test P n j]
theorem setB_bit (P : Nat → Bool) (n j : Nat) : bitN (setB P n) j = if j < n ∧ P j = true then 1 else 0 := by
  have h := setB_test P n j
  rw [testBit_bitN] at h
  have hb : bitN (setB P n) j = 0 ∨ bitN (setB P n) j = 1 := by unfold bitN; omega
  by_cases c : j < n ∧ P j = true
  · rw [if_pos c]
    rw [c.2] at h
    simp [c.1] at h
    exact h
  · rw [if_neg c]
    rcases hb with h0 | h0
    · exact h0
    · rw [h0] at h
      simp at h
      exact absurd ⟨h.1, h.2⟩ c
theorem bit01 (s i : Nat) : bitN s i = 0 ∨ bitN s i = 1 := by unfold bitN; omega
theorem bit_ge {n s i : Nat} (hs : s < 2 ^ n) (hi : n ≤ i) : bitN s i = 0 := by
  have h := Nat.testBit_lt_two_pow (Nat.lt_of_lt_of_le hs (two_pow_le hi))
  rw [testBit_bitN] at h
  simp at h
  have := bit01 s i
  omega
theorem set_ext {n s t : Nat} (hs : s < 2 ^ n) (ht : t < 2 ^ n) (h : ∀ j, j < n → bitN s j = bitN t j) : s = t := by
  apply Nat.eq_of_testBit_eq
  intro i
  rw [testBit_bitN, testBit_bitN]
  by_cases c : i < n
  · rw [h i c]
  · rw [bit_ge hs (by omega), bit_ge ht (by omega)]
theorem sub_bit {s t : Nat} : Sub s t ↔ ∀ i, bitN s i = 1 → bitN t i = 1 := by
  constructor
  · intro h i hi
    have := h.bit (i := i) (by rw [testBit_bitN, hi]; rfl)
    rw [testBit_bitN] at this
    simpa using this
  · intro h
    refine Sub.mk (fun i hi => ?_)
    rw [testBit_bitN] at hi ⊢
    rw [h i (by simpa using hi)]; rfl
theorem wtN_congr {s t : Nat} : ∀ {k : Nat}, (∀ j, j < k → bitN s j = bitN t j) → wtN s k = wtN t k
  | 0, _ => rfl
  | k + 1, h => by rw [wtN, wtN, wtN_congr (fun j hj => h j (by omega)), h k (by omega)]
theorem wtN_setB (P : Nat → Bool) (n : Nat) : ∀ k, k ≤ n → wtN (setB P n) k = cntB P k
  | 0, _ => rfl
  | k + 1, hk => by
    rw [wtN, wtN_setB P n k (by omega), setB_bit, cntB]
    cases hp : P k with
    | true => rw [if_pos ⟨by omega, rfl⟩, if_pos rfl]
    | false => rw [if_neg (fun h => by cases h.2)]; simp
theorem wt_one : ∀ s : Nat, s < 128 → wtN s 7 = 0 → s = 0 := by decide +kernel
theorem wt7 {n s : Nat} (hn : n ≤ 7) (hs : s < 2 ^ n) : wtN s 7 = wtN s n := (wt_cut n (by omega) s (Nat.lt_of_lt_of_le hs (pow_lt hn)) hs).symm
/-- All others. -/
theorem rest_bit : ∀ n : Nat, n < 8 → ∀ s : Nat, s < 2 ^ n → ∀ i : Nat, i < n → bitN (2 ^ n - 1 - s) i = 1 - bitN s i := by decide +kernel
theorem rest_wt : ∀ n : Nat, n < 8 → ∀ s : Nat, s < 2 ^ n → wtN (2 ^ n - 1 - s) 7 + wtN s 7 = n := by decide +kernel
theorem rest_lt {n s : Nat} : 2 ^ n - 1 - s < 2 ^ n := by have := Nat.two_pow_pos n; omega
theorem rest_rest {n s : Nat} (hs : s < 2 ^ n) : 2 ^ n - 1 - (2 ^ n - 1 - s) = s := by omega
theorem bit_rest {n s i : Nat} (hn : n ≤ 7) (hs : s < 2 ^ n) (hi : i < n) : bitN (2 ^ n - 1 - s) i = 1 - bitN s i := rest_bit n (by omega) s hs i hi
theorem wt_rest {n s : Nat} (hn : n ≤ 7) (hs : s < 2 ^ n) : wtN (2 ^ n - 1 - s) n + wtN s n = n := by
  rw [← wt7 hn rest_lt, ← wt7 hn hs]; exact rest_wt n (by omega) s hs

/-- How many sets of k of n there are. -/
def ch : Nat → Nat → Nat
  | _, 0 => 1
  | 0, _ + 1 => 0
  | n + 1, k + 1 => ch n k + ch n (k + 1)
/-- The parts of a size. -/
theorem parts_count : ∀ z : Nat, z < 128 → ∀ s : Nat, s < 8 → cntB (fun S => decide (S &&& z = S) && decide (wtN S 7 = s)) 128 = ch (wtN z 7) s := by decide +kernel
theorem cntP_cntB (b : Nat → Bool) : ∀ n, cntP (fun i => b i = true) n = cntB b n
  | 0 => rfl
  | n + 1 => by
    rw [cntP, cntB, cntP_cntB b n]
    cases b n <;> simp
theorem cntP_cut {P : Nat → Prop} {m : Nat} : ∀ {n : Nat}, m ≤ n → (∀ i, m ≤ i → i < n → ¬ P i) → cntP P n = cntP P m
  | 0, h, _ => by obtain rfl : m = 0 := by omega
                  rfl
  | n + 1, h, h0 => by
    by_cases e : m = n + 1
    · rw [e]
    · rw [cntP, cntP_cut (m := m) (n := n) (by omega) (fun i h1 h2 => h0 i h1 (by omega)), if_neg (h0 n (by omega) (by omega)), Nat.add_zero]
/-- The parts of a size, of n columns. -/
theorem parts {n z s : Nat} (hn : n ≤ 7) (hz : z < 2 ^ n) (hs : s ≤ n) : cntP (fun S => Sub S z ∧ wtN S 7 = s) (2 ^ n) = ch (wtN z n) s := by
  have hp := pow_lt hn
  have h := parts_count z (by omega) s (by omega)
  rw [wt7 hn hz] at h
  rw [← h, ← cntP_cntB, cntP_cut (m := 2 ^ n) hp (fun i h1 h2 h3 => by
    have h4 : i &&& z = i := by
      rw [Bool.and_eq_true, decide_eq_true_eq] at h3
      exact h3.1
    have : i &&& z ≤ z := Nat.and_le_right
    omega)]
  refine cntP_congr (fun S _ => ?_)
  rw [Bool.and_eq_true, decide_eq_true_eq, decide_eq_true_eq]
  rfl

/-- Sums in any order. -/
theorem sumN_mul (c : Nat) (f : Nat → Nat) : ∀ n, sumN (fun i => c * f i) n = c * sumN f n
  | 0 => rfl
  | n + 1 => by rw [sumN, sumN, sumN_mul c f n, Nat.mul_add]
theorem sumN_le {f g : Nat → Nat} : ∀ {n : Nat}, (∀ i, i < n → f i ≤ g i) → sumN f n ≤ sumN g n
  | 0, _ => Nat.le_refl _
  | n + 1, h => by have := sumN_le (n := n) (fun i hi => h i (by omega)); have := h n (by omega); rw [sumN, sumN]; omega
open Classical in
/-- One more at x. -/
theorem sumN_bump {f g : Nat → Nat} {x : Nat} {n : Nat} (hx : x < n) (c : Nat) (h : ∀ i, i < n → g i = f i + if x = i then c else 0) : sumN g n = sumN f n + c := by
  rw [sumN_congr h, sumN_add]
  rw [sumN_single (f := fun i => if x = i then c else 0) hx (fun i _ hne => if_neg (fun e => hne e.symm))]
  simp
end Go.Proofs.Ytahgjfmdafhedaa

namespace Go.Proofs.Ytahgjfmdafhedaa
open Go.RowKit Mat
set_option linter.unusedVariables false

section
variable {q : Nat} [NeZero q]

open Classical in
/-- The rank of the columns in s. -/
noncomputable def rkN (q : Nat) [NeZero q] (n : Nat) (rows : List (List Int)) (s : Nat) : Nat :=
  if h : ∃ d, Dim (mskR q s n rows) rows.length d then Classical.choose h else 0
theorem rkN_dim (hq : Pr q) (n : Nat) (rows : List (List Int)) (s : Nat) : Dim (mskR q s n rows) rows.length (rkN q n rows s) := by
  have h : ∃ d, Dim (mskR q s n rows) rows.length d := by
    obtain ⟨d, _, hd⟩ := Dim.exists hq (mskR q s n rows) rows.length
    exact ⟨d, hd⟩
  unfold rkN
  rw [dif_pos h]
  exact Classical.choose_spec h
theorem red_rk (hq : Pr q) {n s : Nat} {rows out : List (List Int)} (hg : GoodRows q n rows) (h : IsRed q (wtN s n) (rows.map (sel s)) out) : out.length = rkN q n rows s :=
  (msk_dim hg h).unique hq (rkN_dim hq n rows s)
theorem RkOf.rk (hq : Pr q) {n s r : Nat} {rows : List (List Int)} (hg : GoodRows q n rows) (hc : (gr rows 0).length = n) (h : RkOf q rows s r) : r = rkN q n rows s := by
  obtain ⟨q', i2, e, _, o, ho, rfl⟩ := h
  obtain rfl : q = q' := by omega
  rw [hc] at ho
  exact red_rk hq hg ho
theorem rk_of (hq : Pr q) {n : Nat} {rows : List (List Int)} (hg : GoodRows q n rows) (hc : (gr rows 0).length = n) (s : Nat) : RkOf q rows s (rkN q n rows s) := by
  obtain ⟨o, ho⟩ := IsRed.exists hq (selRows_good s hg)
  exact ⟨q, _, rfl, hq, o, by rw [hc]; exact ho, (red_rk hq hg ho).symm⟩
theorem rkOf_iff (hq : Pr q) {n s r : Nat} {rows : List (List Int)} (hg : GoodRows q n rows) (hc : (gr rows 0).length = n) : RkOf q rows s r ↔ rkN q n rows s = r :=
  ⟨fun h => (h.rk hq hg hc).symm, fun h => h ▸ rk_of hq hg hc s⟩
theorem rk_le (hq : Pr q) (n : Nat) (rows : List (List Int)) (s : Nat) : rkN q n rows s ≤ rows.length := (rkN_dim hq n rows s).le_rows hq
theorem rk_wt (hq : Pr q) {n : Nat} {rows : List (List Int)} (hg : GoodRows q n rows) (s : Nat) : rkN q n rows s ≤ wtN s n := by
  obtain ⟨o, ho⟩ := IsRed.exists hq (selRows_good s hg)
  rw [← red_rk hq hg ho]
  exact ho.le_cols

/-- The word of the t-th message is 0 at all columns in s. -/
def VanT (q n : Nat) (rows : List (List Int)) (s t : Nat) : Prop := ∀ j, j < n → bitN s j = 1 → gi (wordT q n rows t) j = 0

theorem msk_word {n : Nat} {rows : List (List Int)} (hg : GoodRows q n rows) (s t j : Nat) : sm (fun i => vec q (msg q rows.length t) i * mskR q s n rows i j) rows.length = if inS s n j = true then vec q (wordT q n rows t) j else 0 := by
  have h := pk_sum (inS s n) (fun k => k) (R := mat q rows) (m := rows.length) (c := vec q (msg q rows.length t)) (v := vec q (wordT q n rows t)) (fun k => wordT_vec hg t k) j
  unfold pk at h
  rw [h]
  rfl
theorem inS_iff {s n j : Nat} : inS s n j = true ↔ j < n ∧ bitN s j = 1 := by simp [inS]

theorem van_count (hq : Pr q) {n : Nat} {rows : List (List Int)} (hg : GoodRows q n rows) (s : Nat) : cntP (VanT q n rows s) (q ^ rows.length) = q ^ (rows.length - rkN q n rows s) := by
  have h := (sol_count hq (mskR q s n rows) rows.length _ (rkN_dim hq n rows s) (fun _ => 0)).1 (Span.zero _ _)
  rw [← h]
  refine cntP_congr (fun t ht => ?_)
  have hw := wordT_good hq hg t
  constructor
  · intro hv j
    rw [msk_word hg]
    split
    · rename_i hj
      rw [inS_iff] at hj
      exact (vec_zero hw).2 (hv j hj.1 hj.2)
    · rfl
  · intro hv j hj hb
    have := hv j
    rw [msk_word hg, if_pos (inS_iff.2 ⟨hj, hb⟩)] at this
    exact (vec_zero hw).1 this

omit [NeZero q] in
theorem VanT.mono {n : Nat} {rows : List (List Int)} {s s' t : Nat} (h : VanT q n rows s' t) (hs : ∀ j, j < n → bitN s j = 1 → bitN s' j = 1) : VanT q n rows s t := fun j hj hb => h j hj (hs j hj hb)
theorem cntP_mono {P Q : Nat → Prop} : ∀ {n : Nat}, (∀ i, i < n → P i → Q i) → cntP P n ≤ cntP Q n
  | 0, _ => Nat.le_refl _
  | n + 1, h => by
    have h1 := cntP_mono (n := n) (fun i hi => h i (by omega))
    have h2 := h n (by omega)
    rw [cntP, cntP]
    by_cases c : P n
    · rw [if_pos c, if_pos (h2 c)]; omega
    · rw [if_neg c]; split <;> omega
theorem pow_inj {q a b : Nat} (hq : 2 ≤ q) (h : q ^ a = q ^ b) : a = b := by
  rcases Nat.lt_trichotomy a b with c | c | c
  · have := Nat.pow_lt_pow_right (a := q) (by omega) c; omega
  · exact c
  · have := Nat.pow_lt_pow_right (a := q) (by omega) c; omega
theorem pow_le_iff {q a b : Nat} (hq : 2 ≤ q) (h : q ^ a ≤ q ^ b) : a ≤ b := by
  apply Classical.byContradiction; intro c
  have := Nat.pow_lt_pow_right (a := q) (n := a) (m := b) (by omega) (by omega)
  omega
/-- More columns, no less rank. -/
theorem rk_mono (hq : Pr q) {n : Nat} {rows : List (List Int)} (hg : GoodRows q n rows) {s s' : Nat} (hs : ∀ j, j < n → bitN s j = 1 → bitN s' j = 1) : rkN q n rows s ≤ rkN q n rows s' := by
  have h := cntP_mono (P := VanT q n rows s') (Q := VanT q n rows s) (n := q ^ rows.length) (fun t _ h => h.mono hs)
  rw [van_count hq hg, van_count hq hg] at h
  have h1 := pow_le_iff hq.pos.1 h
  have := rk_le hq n rows s
  have := rk_le hq n rows s'
  omega
/-- One column more, at most one more of rank. -/
theorem rk_step (hq : Pr q) {n : Nat} {rows : List (List Int)} (hg : GoodRows q n rows) (hc : (gr rows 0).length = n) (hn : n ≤ 7) {s i : Nat} (hs : s < 128) (hi : i < n) (hb : bitN s i = 0) : HelpC q rows n s i ↔ rkN q n rows (s ||| 2 ^ i) = rkN q n rows s :=
  ⟨fun h => ((rank_help hq hg hc hn hs hi hb (rk_of hq hg hc s) (rk_of hq hg hc (s ||| 2 ^ i))).2 h).symm, fun h => (rank_help hq hg hc hn hs hi hb (rk_of hq hg hc s) (rk_of hq hg hc (s ||| 2 ^ i))).1 h.symm⟩

/-- The zero places of a list. -/
def zsN (x : List Int) (n : Nat) : Nat := setB (fun j => decide (gi x j = 0)) n
theorem zsN_wt (x : List Int) (n : Nat) : wtN (zsN x n) n + hvTo x n = n := by
  unfold zsN
  rw [wtN_setB _ n n (Nat.le_refl _)]
  have : ∀ k, cntB (fun j => decide (gi x j = 0)) k + hvTo x k = k := by
    intro k
    induction k with
    | zero => rfl
    | succ k ih =>
      rw [cntB, hvTo]
      by_cases c : gi x k = 0
      · simp only [c, decide_true, if_true]; omega
      · simp only [c, decide_false, if_false]
        simp
        omega
  exact this n
theorem zsN_lt (x : List Int) (n : Nat) : zsN x n < 2 ^ n := setB_lt _ n
omit [NeZero q] in
theorem van_iff {n : Nat} {rows : List (List Int)} {s t : Nat} (hs : s < 2 ^ n) : VanT q n rows s t ↔ Sub s (zsN (wordT q n rows t) n) := by
  rw [sub_bit]
  constructor
  · intro h i hi
    have hin : i < n := by
      apply Classical.byContradiction; intro c
      rw [bit_ge hs (by omega)] at hi; omega
    unfold zsN
    rw [setB_bit, if_pos ⟨hin, by simpa using h i hin hi⟩]
  · intro h i hi hb
    have := h i hb
    unfold zsN at this
    rw [setB_bit] at this
    by_cases c : i < n ∧ decide (gi (wordT q n rows t) i = 0) = true
    · simpa using c.2
    · rw [if_neg c] at this; omega

/-- How many of the first T messages have words of a weight. -/
noncomputable def wN (q n : Nat) (rows : List (List Int)) (T w : Nat) : Nat := cntP (fun t => wtT q n rows t = w) T
theorem wts_wN (q n : Nat) (rows : List (List Int)) : ∀ T w, w ≤ n → gi (wtsTo q n rows T) w = (wN q n rows T w : Int)
  | 0, w, hw => by rw [wtsTo, gi_replicate]; rfl
  | T + 1, w, hw => by
    rw [wtsTo, bump_get (by rw [wtsTo_length]; omega)]
    unfold wN
    rw [cntP]
    by_cases e : wtT q n rows T = w
    · rw [if_pos e, if_pos e, e, wts_wN q n rows T w hw]; unfold wN; omega
    · rw [if_neg e, if_neg e, wts_wN q n rows T w hw]; unfold wN; rfl

open Classical in
theorem weigh (q n : Nat) (rows : List (List Int)) (f : Nat → Nat) : ∀ T, sumN (fun t => f (wtT q n rows t)) T = sumN (fun w => wN q n rows T w * f w) (n + 1)
  | 0 => by rw [sumN_zero (f := fun w => wN q n rows 0 w * f w) (fun i _ => by unfold wN; rw [cntP]; omega)]; rfl
  | T + 1 => by
    rw [sumN, weigh q n rows f T]
    symm
    refine sumN_bump (x := wtT q n rows T) (by have := wtT_le q n rows T; omega) _ (fun w _ => ?_)
    unfold wN
    rw [cntP]
    by_cases e : wtT q n rows T = w
    · rw [if_pos e, if_pos e, e, Nat.add_mul, Nat.one_mul]
    · rw [if_neg e, if_neg e, Nat.add_zero, Nat.add_zero]

/-- What the ranks of all sets of s columns tell. -/
noncomputable def rkSum (q : Nat) [NeZero q] (n : Nat) (rows : List (List Int)) (s : Nat) : Nat := sumN (fun S => if wtN S 7 = s then q ^ (rows.length - rkN q n rows S) else 0) (2 ^ n)

open Classical in
/-- The moments of the weights are told by the ranks. -/
theorem moments (hq : Pr q) {n : Nat} {rows : List (List Int)} (hg : GoodRows q n rows) (hn : n ≤ 7) {s : Nat} (hs : s ≤ n) : sumN (fun w => wN q n rows (q ^ rows.length) w * ch (n - w) s) (n + 1) = rkSum q n rows s := by
  rw [← weigh q n rows (fun w => ch (n - w) s)]
  have key : ∀ T, sumN (fun t => ch (n - wtT q n rows t) s) T = sumN (fun S => if wtN S 7 = s then cntP (VanT q n rows S) T else 0) (2 ^ n) := by
    intro T
    induction T with
    | zero => exact (sumN_zero (fun S _ => by rw [cntP]; split <;> rfl)).symm
    | succ T ih =>
      rw [sumN, ih]
      have h1 : n - wtT q n rows T = wtN (zsN (wordT q n rows T) n) n := by
        have := zsN_wt (wordT q n rows T) n
        unfold wtT
        omega
      rw [h1, ← parts hn (zsN_lt _ n) hs, cntP_sum, ← sumN_add]
      refine sumN_congr (fun S hS => ?_)
      rw [cntP]
      by_cases c : wtN S 7 = s
      · rw [if_pos c, if_pos c]
        by_cases v : VanT q n rows S T
        · rw [if_pos v, if_pos ⟨(van_iff hS).1 v, c⟩]
        · rw [if_neg v, if_neg (fun h => v ((van_iff hS).2 h.1))]
      · rw [if_neg c, if_neg c, if_neg (fun h => c h.2)]
  rw [key]
  unfold rkSum
  exact sumN_congr (fun S _ => by rw [van_count hq hg])
end

theorem ch_self : ∀ m, ch m m = 1 := by
  have h0 : ∀ m k, m < k → ch m k = 0 := by
    intro m
    induction m with
    | zero => intro k hk; cases k with
      | zero => omega
      | succ k => rfl
    | succ m ih => intro k hk; cases k with
      | zero => omega
      | succ k => rw [ch, ih k (by omega), ih (k + 1) (by omega)]
  intro m
  induction m with
  | zero => rfl
  | succ m ih => rw [ch, ih, h0 m (m + 1) (by omega)]
theorem ch_over : ∀ m k, m < k → ch m k = 0 := by
  intro m
  induction m with
  | zero => intro k hk; cases k with
    | zero => omega
    | succ k => rfl
  | succ m ih => intro k hk; cases k with
    | zero => omega
    | succ k => rw [ch, ih k (by omega), ih (k + 1) (by omega)]

/-- The sum of the first n, of any numbers. -/
def sumZ (f : Nat → Int) : Nat → Int
  | 0 => 0
  | n + 1 => sumZ f n + f n
theorem sumZ_congr {f g : Nat → Int} : ∀ {n : Nat}, (∀ i, i < n → f i = g i) → sumZ f n = sumZ g n
  | 0, _ => rfl
  | n + 1, h => by rw [sumZ, sumZ, sumZ_congr (fun i hi => h i (by omega)), h n (by omega)]
theorem sumZ_zero {f : Nat → Int} : ∀ {n : Nat}, (∀ i, i < n → f i = 0) → sumZ f n = 0
  | 0, _ => rfl
  | n + 1, h => by rw [sumZ, sumZ_zero (fun i hi => h i (by omega)), h n (by omega)]; rfl
theorem sumZ_cut {f : Nat → Int} {m : Nat} : ∀ {n : Nat}, m ≤ n → (∀ i, m ≤ i → i < n → f i = 0) → sumZ f n = sumZ f m
  | 0, h, _ => by obtain rfl : m = 0 := by omega
                  rfl
  | n + 1, h, h0 => by
    by_cases e : m = n + 1
    · rw [e]
    · rw [sumZ, sumZ_cut (m := m) (n := n) (by omega) (fun i h1 h2 => h0 i h1 (by omega)), h0 n (by omega) (by omega)]; omega
theorem sumZ_add (f g : Nat → Int) : ∀ n, sumZ (fun i => f i + g i) n = sumZ f n + sumZ g n
  | 0 => rfl
  | n + 1 => by rw [sumZ, sumZ, sumZ, sumZ_add f g n]; omega
theorem sumZ_mul (c : Int) (f : Nat → Int) : ∀ n, sumZ (fun i => c * f i) n = c * sumZ f n
  | 0 => by simp [sumZ]
  | n + 1 => by rw [sumZ, sumZ, sumZ_mul c f n, Int.mul_add]
theorem sumZ_comm (f : Nat → Nat → Int) (m : Nat) : ∀ n, sumZ (fun i => sumZ (fun j => f i j) m) n = sumZ (fun j => sumZ (fun i => f i j) n) m
  | 0 => by rw [sumZ]; exact (sumZ_zero (fun _ _ => rfl)).symm
  | n + 1 => by rw [sumZ, sumZ_comm f m n, ← sumZ_add]; rfl
theorem sumZ_nat (f : Nat → Nat) : ∀ n, ((sumN f n : Nat) : Int) = sumZ (fun i => (f i : Int)) n
  | 0 => rfl
  | n + 1 => by rw [sumN, sumZ, ← sumZ_nat f n]; omega
/-- The moments tell the numbers. -/
theorem moments_unique {n : Nat} {a b : Nat → Int} (h : ∀ s, s ≤ n → sumZ (fun w => a w * (ch (n - w) s : Int)) (n + 1) = sumZ (fun w => b w * (ch (n - w) s : Int)) (n + 1)) : ∀ w, w ≤ n → a w = b w := by
  intro w
  induction w using Nat.strongRecOn with
  | _ w ih =>
    intro hw
    have h1 := h (n - w) (by omega)
    rw [sumZ_cut (f := fun w => a w * _) (m := w + 1) (by omega) (fun i h1 h2 => by show a i * _ = 0; rw [ch_over (n - i) (n - w) (by omega)]; simp),
      sumZ_cut (f := fun w => b w * _) (m := w + 1) (by omega) (fun i h1 h2 => by show b i * _ = 0; rw [ch_over (n - i) (n - w) (by omega)]; simp), sumZ, sumZ,
      sumZ_congr (g := fun i => b i * (ch (n - i) (n - w) : Int)) (fun i hi => by rw [ih i hi (by omega)]), ch_self] at h1
    simp at h1
    exact h1
theorem momentsZ {q : Nat} [NeZero q] (hq : Pr q) {n : Nat} {rows : List (List Int)} (hg : GoodRows q n rows) (hn : n ≤ 7) {s : Nat} (hs : s ≤ n) : sumZ (fun w => (wN q n rows (q ^ rows.length) w : Int) * (ch (n - w) s : Int)) (n + 1) = (rkSum q n rows s : Int) := by
  rw [← moments hq hg hn hs, sumZ_nat]
  exact sumZ_congr (fun i _ => by rw [Int.natCast_mul])
end Go.Proofs.Ytahgjfmdafhedaa

namespace Go.Proofs.Ytahgjfmdafhedaa
open Go.RowKit Mat
set_option linter.unusedVariables false

/-- A valid code, in plain words. -/
structure CodeOk (q : Nat) [NeZero q] (n : Nat) (rows : List (List Int)) : Prop where
  tab : TabOk q n rows
  r4 : rows.length ≤ 4
  ind : Ind (mat q rows) rows.length
theorem ValidC.code {q : Nat} [NeZero q] {rows : List (List Int)} (h : ValidC q rows) : CodeOk q (gr rows 0).length rows := ⟨vtB_ok h.1, h.2.1, h.ind⟩

section
variable {q : Nat} [NeZero q] {n : Nat} {rows : List (List Int)}

theorem CodeOk.rk_iff (h : CodeOk q n rows) {s r : Nat} : RkOf q rows s r ↔ rkN q n rows s = r := rkOf_iff h.tab.pr h.tab.good h.tab.cols
theorem CodeOk.mend_iff (h : CodeOk q n rows) {lost : Nat} : MendC q rows lost ↔ rkN q n rows (2 ^ n - 1 - lost) = rows.length := by
  unfold MendC
  rw [h.tab.cols, h.rk_iff]
theorem CodeOk.best_iff (h : CodeOk q n rows) : BestTo q rows (2 ^ n) ↔ ∀ S, S < 2 ^ n → wtN S n = rows.length → rkN q n rows S = rows.length := by
  unfold BestTo
  constructor
  · intro hb S hS hw; exact h.rk_iff.1 (hb S hS (by rw [wt7 h.tab.n7 hS]; exact hw))
  · intro hb S hS hw; exact h.rk_iff.2 (hb S hS (by rw [← wt7 h.tab.n7 hS]; exact hw))

theorem all_bit : ∀ n : Nat, n < 8 → ∀ i : Nat, i < n → bitN (2 ^ n - 1) i = 1 := by decide +kernel
theorem CodeOk.rk_all (h : CodeOk q n rows) : rkN q n rows (2 ^ n - 1) = rows.length := by
  refine (Dim.unique h.tab.pr (rkN_dim h.tab.pr n rows _) (⟨mskR q (2 ^ n - 1) n rows, ?_, fun i hi => Span.row _ hi, fun i hi => Span.row _ hi⟩))
  intro c hc
  refine h.ind c (fun k => ?_)
  rw [← hc k]
  refine sm_congr (fun i hi => ?_)
  unfold mskR pk
  by_cases hk : k < n
  · rw [if_pos (inS_iff.2 ⟨hk, all_bit n (by have := h.tab.n7; omega) k hk⟩)]
  · rw [if_neg (fun hh => hk (inS_iff.1 hh).1)]
    have : mat q rows i k = 0 := vec_ge (by rw [(h.tab.good i hi).1]; omega)
    rw [this]
theorem dg_zero (q e : Nat) : dg q 0 e = 0 := by unfold dg; simp
theorem msg_vec0 (q k i : Nat) : gi (msg q k 0) i = 0 := by
  by_cases h : i < k
  · rw [msg_get h, dg_zero]; rfl
  · exact gi_ge (by rw [msg_length]; omega)
theorem van0 (hq : Pr q) (hg : GoodRows q n rows) (s : Nat) : VanT q n rows s 0 := fun j hj _ => by
  refine (vec_zero (wordT_good hq hg 0)).1 ?_
  rw [wordT_vec hg]
  refine sm_zero (fun i hi => ?_)
  have : vec q (msg q rows.length 0) i = 0 := by unfold vec; rw [msg_vec0, phi_zero]
  rw [this]; grind
/-- Full rank: just the message of noughts vanishes. -/
theorem CodeOk.full_iff (h : CodeOk q n rows) {s : Nat} : rkN q n rows s = rows.length ↔ ∀ t, t < q ^ rows.length → VanT q n rows s t → t = 0 := by
  have hq := h.tab.pr.pos
  have hc := van_count h.tab.pr h.tab.good s
  have hpos : 0 < q ^ rows.length := Nat.pow_pos (by omega)
  have hz := van0 h.tab.pr h.tab.good s
  constructor
  · intro e t ht hv
    apply Classical.byContradiction; intro hne
    have := cntP_two (P := VanT q n rows s) (t := 0) (u := t) (by omega) hz hv ht
    rw [hc, e, Nat.sub_self, Nat.pow_zero] at this
    omega
  · intro hall
    have hle := rk_le h.tab.pr n rows s
    apply Classical.byContradiction; intro hne
    have h2 : 2 ≤ cntP (VanT q n rows s) (q ^ rows.length) := by
      rw [hc]
      have : q ^ 1 ≤ q ^ (rows.length - rkN q n rows s) := Nat.pow_le_pow_right (by omega) (by omega)
      rw [Nat.pow_one] at this
      omega
    obtain ⟨u, hu, hne2, hv⟩ := cntP_other h2 0
    exact hne2 (hall u hu hv)
theorem CodeOk.wt_zero (h : CodeOk q n rows) {t : Nat} (ht : t < q ^ rows.length) : wtT q n rows t = 0 ↔ t = 0 := by
  have hq := h.tab.pr
  constructor
  · intro h0
    exact h.full_iff.1 h.rk_all t ht (fun j hj _ => (hvTo_zero _ _).1 h0 j hj)
  · rintro rfl
    exact (hvTo_zero _ _).2 (fun j hj => van0 hq h.tab.good (2 ^ n - 1) j hj (all_bit n (by have := h.tab.n7; omega) j hj))
omit [NeZero q] in
theorem van_wt {t S : Nat} (hn : n ≤ 7) (hS : S < 2 ^ n) (hv : VanT q n rows S t) : wtT q n rows t + wtN S n ≤ n := by
  have h1 := zsN_wt (wordT q n rows t) n
  have h2 : ∀ k, k ≤ n → wtN S k ≤ wtN (zsN (wordT q n rows t) n) k := by
    intro k
    induction k with
    | zero => intro _; exact Nat.le_refl _
    | succ k ih =>
      intro hk
      have := ih (by omega)
      have b1 := bit01 S k
      have b2 := bit01 (zsN (wordT q n rows t) n) k
      have b3 := sub_bit.1 ((van_iff hS).1 hv) k
      simp only [wtN]; omega
  have := h2 n (Nat.le_refl _)
  unfold wtT
  omega
/-- Parts of any size. -/
theorem part_of : ∀ z : Nat, z < 128 → ∀ s : Nat, s < 8 → s ≤ wtN z 7 → ∃ S, S < 128 ∧ S &&& z = S ∧ wtN S 7 = s := by decide +kernel
theorem part_in {n z s : Nat} (hn : n ≤ 7) (hz : z < 2 ^ n) (hs : s ≤ wtN z n) : ∃ S, S < 2 ^ n ∧ Sub S z ∧ wtN S n = s := by
  have hp := pow_lt hn
  have hw := wtN_le z n
  obtain ⟨S, h1, h2, h3⟩ := part_of z (by omega) s (by omega) (by rw [wt7 hn hz]; exact hs)
  have hS : S < 2 ^ n := by have := Sub.le (a := S) (b := z) h2; omega
  exact ⟨S, hS, h2, by rw [← wt7 hn hS]; exact h3⟩
theorem all_wt : ∀ n : Nat, n < 8 → wtN (2 ^ n - 1) n = n := by decide +kernel
theorem set_of_size {n s : Nat} (hn : n ≤ 7) (hs : s ≤ n) : ∃ S, S < 2 ^ n ∧ wtN S n = s := by
  have := Nat.two_pow_pos n
  obtain ⟨S, h1, _, h3⟩ := part_in hn (z := 2 ^ n - 1) (by omega) (s := s) (by rw [all_wt n (by omega)]; exact hs)
  exact ⟨S, h1, h3⟩

/-- The least weight. -/
structure IsDist (q n : Nat) (rows : List (List Int)) (d : Nat) : Prop where
  some : ∃ t, 0 < t ∧ t < q ^ rows.length ∧ wtT q n rows t = d
  least : ∀ t, 0 < t → t < q ^ rows.length → d ≤ wtT q n rows t
theorem cntP_get {P : Nat → Prop} : ∀ {n : Nat}, 1 ≤ cntP P n → ∃ t, t < n ∧ P t
  | 0, h => by simp [cntP] at h
  | n + 1, h => by
    rw [cntP] at h
    by_cases c : P n
    · exact ⟨n, by omega, c⟩
    · rw [if_neg c] at h
      obtain ⟨t, ht, hp⟩ := cntP_get (n := n) (by omega)
      exact ⟨t, by omega, hp⟩
theorem CodeOk.dist (h : CodeOk q n rows) {d : Nat} (h1 : 1 ≤ d) (h2 : d ≤ n) (h3 : 0 < gi (wtsTo q n rows (q ^ rows.length)) d) (h4 : ∀ w, 1 ≤ w → w < d → gi (wtsTo q n rows (q ^ rows.length)) w ≤ 0) : IsDist q n rows d := by
  constructor
  · rw [wts_wN q n rows _ d h2] at h3
    obtain ⟨t, ht, hw⟩ := cntP_get (P := fun t => wtT q n rows t = d) (n := q ^ rows.length) (by unfold wN at h3; omega)
    refine ⟨t, ?_, ht, hw⟩
    apply Classical.byContradiction; intro hc
    have := (h.wt_zero ht).2 (by omega)
    omega
  · intro t ht1 ht
    apply Classical.byContradiction; intro hc
    have hw0 : wtT q n rows t ≠ 0 := fun e => by have := (h.wt_zero ht).1 e; omega
    have h5 := h4 (wtT q n rows t) (by omega) (by omega)
    have h6 := wtsTo_pos q n rows _ ht
    omega
theorem DistR.dist {q : Nat} [NeZero q] {rows : List (List Int)} {x : Int} (h : DistR q rows x) (hv : ValidC q rows) : ∃ d : Nat, x = d ∧ 1 ≤ d ∧ d ≤ (gr rows 0).length ∧ IsDist q (gr rows 0).length rows d := by
  obtain ⟨d, rfl, h1, h2, h3, h4⟩ := h.1 hv
  unfold wtsOf at h3 h4
  rw [Int.toNat_natCast] at h3 h4
  exact ⟨d, rfl, h1, h2, hv.code.dist h1 h2 h3 h4⟩

theorem CodeOk.dist_le (h : CodeOk q n rows) {d : Nat} (hd : IsDist q n rows d) : d + rows.length ≤ n + 1 := by
  have hk := h.tab.r1
  have hkn : rows.length ≤ n := by
    have h1 := rk_wt h.tab.pr h.tab.good (2 ^ n - 1)
    rw [h.rk_all, all_wt n (by have := h.tab.n7; omega)] at h1
    exact h1
  obtain ⟨S, hS, hw⟩ := set_of_size h.tab.n7 (n := n) (s := rows.length - 1) (by omega)
  have hr := rk_wt h.tab.pr h.tab.good S
  have hno : ¬ ∀ t, t < q ^ rows.length → VanT q n rows S t → t = 0 := fun hall => by
    have := h.full_iff.2 hall
    omega
  obtain ⟨t, ht⟩ := Classical.not_forall.1 hno
  obtain ⟨ht1, ht2⟩ := Classical.not_imp.1 ht
  obtain ⟨hv, hne⟩ := Classical.not_imp.1 ht2
  have h1 := van_wt h.tab.n7 hS hv
  have h2 := hd.least t (by omega) ht1
  omega
theorem CodeOk.cols (h : CodeOk q n rows) : rows.length ≤ n := by
  have h1 := rk_wt h.tab.pr h.tab.good (2 ^ n - 1)
  rw [h.rk_all, all_wt n (by have := h.tab.n7; omega)] at h1
  exact h1
/-- The bound is reached just by the best codes. -/
theorem CodeOk.dist_best (h : CodeOk q n rows) {d : Nat} (hd : IsDist q n rows d) : d + rows.length = n + 1 ↔ BestTo q rows (2 ^ n) := by
  rw [h.best_iff]
  constructor
  · intro e S hS hw
    refine h.full_iff.2 (fun t ht hv => ?_)
    apply Classical.byContradiction; intro hne
    have h1 := van_wt h.tab.n7 hS hv
    have h2 := hd.least t (by omega) ht
    omega
  · intro hb
    have hle := h.dist_le hd
    obtain ⟨t, ht0, ht, hw⟩ := hd.some
    have hz := zsN_wt (wordT q n rows t) n
    apply Classical.byContradiction; intro hc
    have hwt : hvTo (wordT q n rows t) n = d := hw
    obtain ⟨S, hS, hsub, hSw⟩ := part_in h.tab.n7 (setB_lt (fun j => decide (gi (wordT q n rows t) j = 0)) n) (s := rows.length) (by
      show rows.length ≤ wtN (zsN (wordT q n rows t) n) n
      omega)
    have := h.full_iff.1 (hb S hS hSw) t ht ((van_iff hS).2 hsub)
    omega

/-- What is not mendable holds the places of some word. -/
theorem CodeOk.mend_words (h : CodeOk q n rows) {lost : Nat} : MendC q rows lost ↔ ∀ t, t < q ^ rows.length → VanT q n rows (2 ^ n - 1 - lost) t → t = 0 := h.mend_iff.trans h.full_iff
theorem CodeOk.mend_mono (h : CodeOk q n rows) {lost lost' : Nat} (h1 : lost < 2 ^ n) (h2 : lost' < 2 ^ n) (hs : Sub lost' lost) (hm : MendC q rows lost) : MendC q rows lost' := by
  rw [h.mend_iff] at hm ⊢
  have hmo := rk_mono h.tab.pr h.tab.good (s := 2 ^ n - 1 - lost) (s' := 2 ^ n - 1 - lost') (fun j hj hb => by
    rw [bit_rest h.tab.n7 h1 hj] at hb
    rw [bit_rest h.tab.n7 h2 hj]
    have := sub_bit.1 hs j
    have := bit01 lost' j
    omega)
  have := rk_le h.tab.pr n rows (2 ^ n - 1 - lost')
  omega
end

section
variable {q : Nat} [NeZero q] {n : Nat} {rows : List (List Int)}
/-- The counts of what may be lost. -/
theorem loss_cnt {p : Int} {rows : List (List Int)} {n : Nat} (hn : n ≤ 7) : ∀ {k : Nat} {out : List Int}, k ≤ 2 ^ n → LossTo p rows n k out → ∀ t, t ≤ n → gi out t = (cntP (fun S => wtN S 7 = t ∧ MendC p rows S) k : Int)
  | 0, out, _, h, t, ht => by
    rw [show out = _ from h, gi_replicate]; rfl
  | k + 1, out, hk, h, t, ht => by
    obtain ⟨prev, hp, h⟩ := h
    have hb := hp.bounds
    have ih := loss_cnt hn (by omega) hp
    rw [cntP]
    rcases h with ⟨hm, rfl⟩ | ⟨hm, rfl⟩
    · rw [gi_set (by rw [hb.1]; omega)]
      by_cases e : wtN k 7 = t
      · rw [if_pos e, if_pos ⟨e, hm⟩, e, ih t ht]; omega
      · rw [if_neg e, if_neg (fun hh => e hh.1), ih t ht]; omega
    · rw [if_neg (fun hh => hm hh.2), ih t ht]; omega
theorem all_sub : ∀ n : Nat, n < 8 → ∀ S : Nat, S < 2 ^ n → S &&& (2 ^ n - 1) = S := by decide +kernel
theorem size_count {n t : Nat} (hn : n ≤ 7) (ht : t ≤ n) : cntP (fun S => wtN S 7 = t) (2 ^ n) = ch n t := by
  have := Nat.two_pow_pos n
  have h := parts hn (z := 2 ^ n - 1) (by omega) ht
  rw [all_wt n (by omega)] at h
  rw [← h]
  exact cntP_congr (fun S hS => ⟨fun e => ⟨all_sub n (by omega) S hS, e⟩, fun e => e.2⟩)
theorem cntP_eq {P Q : Nat → Prop} (hpq : ∀ i, P i → Q i) : ∀ {n : Nat}, cntP P n = cntP Q n ↔ ∀ i, i < n → Q i → P i
  | 0 => ⟨fun _ i hi => by omega, fun _ => rfl⟩
  | n + 1 => by
    have hle := cntP_mono (P := P) (Q := Q) (n := n) (fun i _ => hpq i)
    rw [cntP, cntP]
    constructor
    · intro h i hi hQ
      by_cases c : P n
      · rw [if_pos c, if_pos (hpq n c)] at h
        by_cases e : i = n
        · rw [e]; exact c
        · exact (cntP_eq hpq (n := n)).1 (by omega) i (by omega) hQ
      · rw [if_neg c] at h
        by_cases c2 : Q n
        · rw [if_pos c2] at h; omega
        · rw [if_neg c2] at h
          by_cases e : i = n
          · rw [e] at hQ; exact absurd hQ c2
          · exact (cntP_eq hpq (n := n)).1 (by omega) i (by omega) hQ
    · intro h
      rw [(cntP_eq hpq).2 (fun i hi => h i (by omega))]
      by_cases c : P n
      · rw [if_pos c, if_pos (hpq n c)]
      · rw [if_neg c, if_neg (fun c2 => c (h n (by omega) c2))]
/-- Fewer than the distance may be lost. -/
theorem CodeOk.loss_all (h : CodeOk q n rows) {d t : Nat} (hd : IsDist q n rows d) (ht : t ≤ n) : cntP (fun S => wtN S 7 = t ∧ MendC q rows S) (2 ^ n) = ch n t ↔ t < d := by
  have hn := h.tab.n7
  rw [← size_count hn ht, cntP_eq (fun i hi => hi.1)]
  constructor
  · intro hall
    apply Classical.byContradiction; intro hc
    obtain ⟨t0, ht0, ht1, hw⟩ := hd.some
    -- the zero places of a word of weight d, cut down to n - t of them
    have hz := zsN_wt (wordT q n rows t0) n
    have hwt : hvTo (wordT q n rows t0) n = d := hw
    obtain ⟨S, hS, hsub, hSw⟩ := part_in hn (setB_lt (fun j => decide (gi (wordT q n rows t0) j = 0)) n) (s := n - t) (by
      show n - t ≤ wtN (zsN (wordT q n rows t0) n) n
      omega)
    have hr := wt_rest hn hS
    have hm := (hall (2 ^ n - 1 - S) rest_lt (by rw [wt7 hn rest_lt]; omega)).2
    rw [h.mend_words, rest_rest hS] at hm
    have := hm t0 ht1 ((van_iff hS).2 hsub)
    omega
  · intro htd S hS hw
    refine ⟨hw, h.mend_words.2 (fun u hu hv => ?_)⟩
    apply Classical.byContradiction; intro hne
    have h1 := van_wt hn rest_lt hv
    have h2 := hd.least u (by omega) hu
    have h3 := wt_rest hn hS
    rw [wt7 hn hS] at hw
    omega
theorem CodeOk.loss_none (h : CodeOk q n rows) {t : Nat} (ht : n < t + rows.length) (htn : t ≤ n) : cntP (fun S => wtN S 7 = t ∧ MendC q rows S) (2 ^ n) = 0 := by
  refine cntP_none (fun S hS hh => ?_)
  have hm := h.mend_iff.1 hh.2
  have h1 := rk_wt h.tab.pr h.tab.good (2 ^ n - 1 - S)
  have h2 := wt_rest h.tab.n7 hS
  have h3 := hh.1
  rw [wt7 h.tab.n7 hS] at h3
  omega
end
end Go.Proofs.Ytahgjfmdafhedaa

namespace Go.Proofs.Ytahgjfmdafhedaa
open Go.RowKit Mat
set_option linter.unusedVariables false

/-- What a bool tells. -/
def Told (b : Bool) (P : Prop) : Prop := b = true ↔ P

/-- The first numbers of a slice. -/
theorem IsI.take {w : World} {ao : Option Addr} {n cap k : Nat} {xs : List Int} (h : IsI w (.slice ao n cap) xs) (hk : k ≤ n) : IsI w (.slice ao k cap) (xs.take k) := by
  have hl := h.len
  obtain ⟨ao', cap', e, h1, h2, hm, h3⟩ := h
  simp at e
  obtain ⟨rfl, rfl, rfl⟩ := e
  have hlen : (xs.take k).length = k := by rw [List.length_take]; omega
  refine ⟨ao, cap, by rw [hlen], ⟨by rw [hlen]; omega, h1.2⟩, h2, by rw [hlen]; unfold Mid at hm ⊢; omega, fun i hi => ?_⟩
  rw [hlen] at hi
  obtain ⟨b, o, e1, e2⟩ := h3 i (by omega)
  refine ⟨b, o, e1, ?_⟩
  rw [gi_lt (by rw [hlen]; exact hi), List.getElem_take, ← gi_lt (by omega)]
  exact e2

theorem GoodRow.hasB {q n : Nat} {x : List Int} (h : GoodRow q n x) : hasB q x = true := hasB_iff.2 (fun i hi => by have := h.2 i (by rw [← h.1]; exact hi); omega)
theorem good_of_hasB {q : Nat} {x : List Int} (h : hasB q x = true) : GoodRow q x.length x := ⟨rfl, fun i hi => by have := hasB_iff.1 h i hi; omega⟩
section
variable {q : Nat} [NeZero q]
theorem EncR.word {rows : List (List Int)} {m out : List Int} (h : EncR q rows m out) (hm : MsgC q rows m) : GoodRow q (gr rows 0).length out ∧ ∀ j, vec q out j = sm (fun i => vec q m i * mat q rows i j) rows.length := by
  have e := h.1 hm
  rw [hm.2.1] at e
  have hg := vtB_good hm.1.1
  have hp := hm.1.prime
  subst e
  exact ⟨⟨encZ_length _ _ _ _ _, fun i hi => encZ_range (by omega) _ (Nat.le_refl _) hm.1.rowsOk hi⟩, fun j => encZ_vec m hg _ (Nat.le_refl _) j⟩
/-- The message of one 1. -/
def unitL (k i : Nat) : List Int := (List.replicate k (0 : Int)).set i 1
theorem unitL_length (k i : Nat) : (unitL k i).length = k := by simp [unitL]
theorem unitL_get {k i j : Nat} (hj : j < k) : gi (unitL k i) j = if i = j then 1 else 0 := by
  unfold unitL
  rw [gi_set (by simpa using hj), gi_replicate]
omit [NeZero q] in
theorem unitL_good (hq : Pr q) (k i : Nat) : GoodRow q k (unitL k i) := ⟨unitL_length k i, fun j hj => by
  rw [unitL_get hj]
  have := hq.pos
  split <;> omega⟩
theorem enc_unit {rows : List (List Int)} {out : List Int} (hv : ValidC q rows) {i : Nat} (hi : i < rows.length) (h : EncR q rows (unitL rows.length i) out) : out = gr rows i := by
  have hq : Pr q := (vtB_ok hv.1).pr
  have hm : MsgC q rows (unitL rows.length i) := ⟨hv, unitL_length _ _, (unitL_good hq _ _).hasB⟩
  obtain ⟨h1, h2⟩ := h.word hm
  refine vec_inj h1 (vtB_good hv.1 i hi) (fun k _ => ?_)
  rw [h2, sm_single i hi (fun j hj hne => by
    have : vec q (unitL rows.length i) j = 0 := by unfold vec; rw [unitL_get hj, if_neg (fun e => hne e.symm), phi_zero]
    rw [this]; grind)]
  have : vec q (unitL rows.length i) i = 1 := by unfold vec; rw [unitL_get hi, if_pos rfl, phi_one]
  rw [this]
  show 1 * vec q (gr rows i) k = _
  grind
end
theorem gi_take {xs : List Int} {k i : Nat} (hk : k ≤ xs.length) (hi : i < k) : gi (xs.take k) i = gi xs i := by
  rw [gi_lt (by rw [List.length_take]; omega), List.getElem_take, ← gi_lt (by omega)]
theorem eqL_iff {xs ys : List Int} (hl : xs.length = ys.length) : eqL xs ys = true ↔ ∀ i, i < xs.length → gi xs i = gi ys i := by
  constructor
  · intro h i hi
    have : xs = ys := by simpa [eqL] using h
    rw [this]
  · intro h; exact eqL_yes hl h
end Go.Proofs.Ytahgjfmdafhedaa
