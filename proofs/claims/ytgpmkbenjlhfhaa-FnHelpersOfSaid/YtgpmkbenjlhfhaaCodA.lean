/- Words of codes that are 0 at some columns: ranks tell how many; weights by ranks. Plain. -/
import Derived.Test.YtgpmkbenjlhfhaaSetB
import Derived.Test.YtgpmkbenjlhfhaaMendM
namespace Go.Proofs.Ytgpmkbenjlhfhaa
open Go.RowKit Mat
set_option linter.unusedVariables false

section
variable {q : Nat} [NeZero q]

open Classical in
/-- The rank of the columns in s. -/
noncomputable def rkN (q : Nat) [NeZero q] (n : Nat) (rows : List (List Int)) (s : Nat) : Nat :=
  if h : ∃ d, Dim (mskR q s n rows) rows.length d then Classical.choose h else 0
theorem rkN_dim (hq : Pr q) (n : Nat) (rows : List (List Int)) (s : Nat) : Dim (mskR q s n rows) rows.length (rkN q n rows s) := by
  have h : ∃ d, Dim (mskR q s n rows) rows.length d := by
    obtain ⟨d, _, hd⟩ := Dim.exists hq (mskR q s n rows) rows.length
    exact ⟨d, hd⟩
  unfold rkN
  rw [dif_pos h]
  exact Classical.choose_spec h
theorem red_rk (hq : Pr q) {n s : Nat} {rows out : List (List Int)} (hg : GoodRows q n rows) (h : IsRed q (wtN s n) (rows.map (sel s)) out) : out.length = rkN q n rows s :=
  (msk_dim hg h).unique hq (rkN_dim hq n rows s)
theorem RkOf.rk (hq : Pr q) {n s r : Nat} {rows : List (List Int)} (hg : GoodRows q n rows) (hc : (gr rows 0).length = n) (h : RkOf q rows s r) : r = rkN q n rows s := by
  obtain ⟨q', i2, e, _, o, ho, rfl⟩ := h
  obtain rfl : q = q' := by omega
  rw [hc] at ho
  exact red_rk hq hg ho
theorem rk_of (hq : Pr q) {n : Nat} {rows : List (List Int)} (hg : GoodRows q n rows) (hc : (gr rows 0).length = n) (s : Nat) : RkOf q rows s (rkN q n rows s) := by
  obtain ⟨o, ho⟩ := IsRed.exists hq (selRows_good s hg)
  exact ⟨q, _, rfl, hq, o, by rw [hc]; exact ho, (red_rk hq hg ho).symm⟩
theorem rkOf_iff (hq : Pr q) {n s r : Nat} {rows : List (List Int)} (hg : GoodRows q n rows) (hc : (gr rows 0).length = n) : RkOf q rows s r ↔ rkN q n rows s = r :=
  ⟨fun h => (h.rk hq hg hc).symm, fun h => h ▸ rk_of hq hg hc s⟩
theorem rk_le (hq : Pr q) (n : Nat) (rows : List (List Int)) (s : Nat) : rkN q n rows s ≤ rows.length := (rkN_dim hq n rows s).le_rows hq
theorem rk_wt (hq : Pr q) {n : Nat} {rows : List (List Int)} (hg : GoodRows q n rows) (s : Nat) : rkN q n rows s ≤ wtN s n := by
  obtain ⟨o, ho⟩ := IsRed.exists hq (selRows_good s hg)
  rw [← red_rk hq hg ho]
  exact ho.le_cols

/-- The word of the t-th message is 0 at all columns in s. -/
def VanT (q n : Nat) (rows : List (List Int)) (s t : Nat) : Prop := ∀ j, j < n → bitN s j = 1 → gi (wordT q n rows t) j = 0

theorem msk_word {n : Nat} {rows : List (List Int)} (hg : GoodRows q n rows) (s t j : Nat) : sm (fun i => vec q (msg q rows.length t) i * mskR q s n rows i j) rows.length = if inS s n j = true then vec q (wordT q n rows t) j else 0 := by
  have h := pk_sum (inS s n) (fun k => k) (R := mat q rows) (m := rows.length) (c := vec q (msg q rows.length t)) (v := vec q (wordT q n rows t)) (fun k => wordT_vec hg t k) j
  unfold pk at h
  rw [h]
  rfl
theorem inS_iff {s n j : Nat} : inS s n j = true ↔ j < n ∧ bitN s j = 1 := by simp [inS]

theorem van_count (hq : Pr q) {n : Nat} {rows : List (List Int)} (hg : GoodRows q n rows) (s : Nat) : cntP (VanT q n rows s) (q ^ rows.length) = q ^ (rows.length - rkN q n rows s) := by
  have h := (sol_count hq (mskR q s n rows) rows.length _ (rkN_dim hq n rows s) (fun _ => 0)).1 (Span.zero _ _)
  rw [← h]
  refine cntP_congr (fun t ht => ?_)
  have hw := wordT_good hq hg t
  constructor
  · intro hv j
    rw [msk_word hg]
    split
    · rename_i hj
      rw [inS_iff] at hj
      exact (vec_zero hw).2 (hv j hj.1 hj.2)
    · rfl
  · intro hv j hj hb
    have := hv j
    rw [msk_word hg, if_pos (inS_iff.2 ⟨hj, hb⟩)] at this
    exact (vec_zero hw).1 this

omit [NeZero q] in
theorem VanT.mono {n : Nat} {rows : List (List Int)} {s s' t : Nat} (h : VanT q n rows s' t) (hs : ∀ j, j < n → bitN s j = 1 → bitN s' j = 1) : VanT q n rows s t := fun j hj hb => h j hj (hs j hj hb)
theorem cntP_mono {P Q : Nat → Prop} : ∀ {n : Nat}, (∀ i, i < n → P i → Q i) → cntP P n ≤ cntP Q n
  | 0, _ => Nat.le_refl _
  | n + 1, h => by
    have h1 := cntP_mono (n := n) (fun i hi => h i (by omega))
    have h2 := h n (by omega)
    rw [cntP, cntP]
    by_cases c : P n
    · rw [if_pos c, if_pos (h2 c)]; omega
    · rw [if_neg c]; split <;> omega
theorem pow_inj {q a b : Nat} (hq : 2 ≤ q) (h : q ^ a = q ^ b) : a = b := by
  rcases Nat.lt_trichotomy a b with c | c | c
  · have := Nat.pow_lt_pow_right (a := q) (by omega) c; omega
  · exact c
  · have := Nat.pow_lt_pow_right (a := q) (by omega) c; omega
theorem pow_le_iff {q a b : Nat} (hq : 2 ≤ q) (h : q ^ a ≤ q ^ b) : a ≤ b := by
  apply Classical.byContradiction; intro c
  have := Nat.pow_lt_pow_right (a := q) (n := a) (m := b) (by omega) (by omega)
  omega
/-- More columns, no less rank. -/
theorem rk_mono (hq : Pr q) {n : Nat} {rows : List (List Int)} (hg : GoodRows q n rows) {s s' : Nat} (hs : ∀ j, j < n → bitN s j = 1 → bitN s' j = 1) : rkN q n rows s ≤ rkN q n rows s' := by
  have h := cntP_mono (P := VanT q n rows s') (Q := VanT q n rows s) (n := q ^ rows.length) (fun t _ h => h.mono hs)
  rw [van_count hq hg, van_count hq hg] at h
  have h1 := pow_le_iff hq.pos.1 h
  have := rk_le hq n rows s
  have := rk_le hq n rows s'
  omega
/-- One column more, at most one more of rank. -/
theorem rk_step (hq : Pr q) {n : Nat} {rows : List (List Int)} (hg : GoodRows q n rows) (hc : (gr rows 0).length = n) (hn : n ≤ 7) {s i : Nat} (hs : s < 128) (hi : i < n) (hb : bitN s i = 0) : HelpC q rows n s i ↔ rkN q n rows (s ||| 2 ^ i) = rkN q n rows s :=
  ⟨fun h => ((rank_help hq hg hc hn hs hi hb (rk_of hq hg hc s) (rk_of hq hg hc (s ||| 2 ^ i))).2 h).symm, fun h => (rank_help hq hg hc hn hs hi hb (rk_of hq hg hc s) (rk_of hq hg hc (s ||| 2 ^ i))).1 h.symm⟩

/-- The zero places of a list. -/
def zsN (x : List Int) (n : Nat) : Nat := setB (fun j => decide (gi x j = 0)) n
theorem zsN_wt (x : List Int) (n : Nat) : wtN (zsN x n) n + hvTo x n = n := by
  unfold zsN
  rw [wtN_setB _ n n (Nat.le_refl _)]
  have : ∀ k, cntB (fun j => decide (gi x j = 0)) k + hvTo x k = k := by
    intro k
    induction k with
    | zero => rfl
    | succ k ih =>
      rw [cntB, hvTo]
      by_cases c : gi x k = 0
      · simp only [c, decide_true, if_true]; omega
      · simp only [c, decide_false, if_false]
        simp
        omega
  exact this n
theorem zsN_lt (x : List Int) (n : Nat) : zsN x n < 2 ^ n := setB_lt _ n
omit [NeZero q] in
theorem van_iff {n : Nat} {rows : List (List Int)} {s t : Nat} (hs : s < 2 ^ n) : VanT q n rows s t ↔ Sub s (zsN (wordT q n rows t) n) := by
  rw [sub_bit]
  constructor
  · intro h i hi
    have hin : i < n := by
      apply Classical.byContradiction; intro c
      rw [bit_ge hs (by omega)] at hi; omega
    unfold zsN
    rw [setB_bit, if_pos ⟨hin, by simpa using h i hin hi⟩]
  · intro h i hi hb
    have := h i hb
    unfold zsN at this
    rw [setB_bit] at this
    by_cases c : i < n ∧ decide (gi (wordT q n rows t) i = 0) = true
    · simpa using c.2
    · rw [if_neg c] at this; omega

/-- How many of the first T messages have words of a weight. -/
noncomputable def wN (q n : Nat) (rows : List (List Int)) (T w : Nat) : Nat := cntP (fun t => wtT q n rows t = w) T
theorem wts_wN (q n : Nat) (rows : List (List Int)) : ∀ T w, w ≤ n → gi (wtsTo q n rows T) w = (wN q n rows T w : Int)
  | 0, w, hw => by rw [wtsTo, gi_replicate]; rfl
  | T + 1, w, hw => by
    rw [wtsTo, bump_get (by rw [wtsTo_length]; omega)]
    unfold wN
    rw [cntP]
    by_cases e : wtT q n rows T = w
    · rw [if_pos e, if_pos e, e, wts_wN q n rows T w hw]; unfold wN; omega
    · rw [if_neg e, if_neg e, wts_wN q n rows T w hw]; unfold wN; rfl

open Classical in
theorem weigh (q n : Nat) (rows : List (List Int)) (f : Nat → Nat) : ∀ T, sumN (fun t => f (wtT q n rows t)) T = sumN (fun w => wN q n rows T w * f w) (n + 1)
  | 0 => by rw [sumN_zero (f := fun w => wN q n rows 0 w * f w) (fun i _ => by unfold wN; rw [cntP]; omega)]; rfl
  | T + 1 => by
    rw [sumN, weigh q n rows f T]
    symm
    refine sumN_bump (x := wtT q n rows T) (by have := wtT_le q n rows T; omega) _ (fun w _ => ?_)
    unfold wN
    rw [cntP]
    by_cases e : wtT q n rows T = w
    · rw [if_pos e, if_pos e, e, Nat.add_mul, Nat.one_mul]
    · rw [if_neg e, if_neg e, Nat.add_zero, Nat.add_zero]

/-- What the ranks of all sets of s columns tell. -/
noncomputable def rkSum (q : Nat) [NeZero q] (n : Nat) (rows : List (List Int)) (s : Nat) : Nat := sumN (fun S => if wtN S 7 = s then q ^ (rows.length - rkN q n rows S) else 0) (2 ^ n)

open Classical in
/-- The moments of the weights are told by the ranks. -/
theorem moments (hq : Pr q) {n : Nat} {rows : List (List Int)} (hg : GoodRows q n rows) (hn : n ≤ 7) {s : Nat} (hs : s ≤ n) : sumN (fun w => wN q n rows (q ^ rows.length) w * ch (n - w) s) (n + 1) = rkSum q n rows s := by
  rw [← weigh q n rows (fun w => ch (n - w) s)]
  have key : ∀ T, sumN (fun t => ch (n - wtT q n rows t) s) T = sumN (fun S => if wtN S 7 = s then cntP (VanT q n rows S) T else 0) (2 ^ n) := by
    intro T
    induction T with
    | zero => exact (sumN_zero (fun S _ => by rw [cntP]; split <;> rfl)).symm
    | succ T ih =>
      rw [sumN, ih]
      have h1 : n - wtT q n rows T = wtN (zsN (wordT q n rows T) n) n := by
        have := zsN_wt (wordT q n rows T) n
        unfold wtT
        omega
      rw [h1, ← parts hn (zsN_lt _ n) hs, cntP_sum, ← sumN_add]
      refine sumN_congr (fun S hS => ?_)
      rw [cntP]
      by_cases c : wtN S 7 = s
      · rw [if_pos c, if_pos c]
        by_cases v : VanT q n rows S T
        · rw [if_pos v, if_pos ⟨(van_iff hS).1 v, c⟩]
        · rw [if_neg v, if_neg (fun h => v ((van_iff hS).2 h.1))]
      · rw [if_neg c, if_neg c, if_neg (fun h => c h.2)]
  rw [key]
  unfold rkSum
  exact sumN_congr (fun S _ => by rw [van_count hq hg])
end

theorem ch_self : ∀ m, ch m m = 1 := by
  have h0 : ∀ m k, m < k → ch m k = 0 := by
    intro m
    induction m with
    | zero => intro k hk; cases k with
      | zero => omega
      | succ k => rfl
    | succ m ih => intro k hk; cases k with
      | zero => omega
      | succ k => rw [ch, ih k (by omega), ih (k + 1) (by omega)]
  intro m
  induction m with
  | zero => rfl
  | succ m ih => rw [ch, ih, h0 m (m + 1) (by omega)]
theorem ch_over : ∀ m k, m < k → ch m k = 0 := by
  intro m
  induction m with
  | zero => intro k hk; cases k with
    | zero => omega
    | succ k => rfl
  | succ m ih => intro k hk; cases k with
    | zero => omega
    | succ k => rw [ch, ih k (by omega), ih (k + 1) (by omega)]

/-- The sum of the first n, of any numbers. -/
def sumZ (f : Nat → Int) : Nat → Int
  | 0 => 0
  | n + 1 => sumZ f n + f n
theorem sumZ_congr {f g : Nat → Int} : ∀ {n : Nat}, (∀ i, i < n → f i = g i) → sumZ f n = sumZ g n
  | 0, _ => rfl
  | n + 1, h => by rw [sumZ, sumZ, sumZ_congr (fun i hi => h i (by omega)), h n (by omega)]
theorem sumZ_zero {f : Nat → Int} : ∀ {n : Nat}, (∀ i, i < n → f i = 0) → sumZ f n = 0
  | 0, _ => rfl
  | n + 1, h => by rw [sumZ, sumZ_zero (fun i hi => h i (by omega)), h n (by omega)]; rfl
theorem sumZ_cut {f : Nat → Int} {m : Nat} : ∀ {n : Nat}, m ≤ n → (∀ i, m ≤ i → i < n → f i = 0) → sumZ f n = sumZ f m
  | 0, h, _ => by obtain rfl : m = 0 := by omega
                  rfl
  | n + 1, h, h0 => by
    by_cases e : m = n + 1
    · rw [e]
    · rw [sumZ, sumZ_cut (m := m) (n := n) (by omega) (fun i h1 h2 => h0 i h1 (by omega)), h0 n (by omega) (by omega)]; omega
theorem sumZ_add (f g : Nat → Int) : ∀ n, sumZ (fun i => f i + g i) n = sumZ f n + sumZ g n
  | 0 => rfl
  | n + 1 => by rw [sumZ, sumZ, sumZ, sumZ_add f g n]; omega
theorem sumZ_mul (c : Int) (f : Nat → Int) : ∀ n, sumZ (fun i => c * f i) n = c * sumZ f n
  | 0 => by simp [sumZ]
  | n + 1 => by rw [sumZ, sumZ, sumZ_mul c f n, Int.mul_add]
theorem sumZ_comm (f : Nat → Nat → Int) (m : Nat) : ∀ n, sumZ (fun i => sumZ (fun j => f i j) m) n = sumZ (fun j => sumZ (fun i => f i j) n) m
  | 0 => by rw [sumZ]; exact (sumZ_zero (fun _ _ => rfl)).symm
  | n + 1 => by rw [sumZ, sumZ_comm f m n, ← sumZ_add]; rfl
theorem sumZ_nat (f : Nat → Nat) : ∀ n, ((sumN f n : Nat) : Int) = sumZ (fun i => (f i : Int)) n
  | 0 => rfl
  | n + 1 => by rw [sumN, sumZ, ← sumZ_nat f n]; omega
/-- The moments tell the numbers. -/
theorem moments_unique {n : Nat} {a b : Nat → Int} (h : ∀ s, s ≤ n → sumZ (fun w => a w * (ch (n - w) s : Int)) (n + 1) = sumZ (fun w => b w * (ch (n - w) s : Int)) (n + 1)) : ∀ w, w ≤ n → a w = b w := by
  intro w
  induction w using Nat.strongRecOn with
  | _ w ih =>
    intro hw
    have h1 := h (n - w) (by omega)
    rw [sumZ_cut (f := fun w => a w * _) (m := w + 1) (by omega) (fun i h1 h2 => by show a i * _ = 0; rw [ch_over (n - i) (n - w) (by omega)]; simp),
      sumZ_cut (f := fun w => b w * _) (m := w + 1) (by omega) (fun i h1 h2 => by show b i * _ = 0; rw [ch_over (n - i) (n - w) (by omega)]; simp), sumZ, sumZ,
      sumZ_congr (g := fun i => b i * (ch (n - i) (n - w) : Int)) (fun i hi => by rw [ih i hi (by omega)]), ch_self] at h1
    simp at h1
    exact h1
theorem momentsZ {q : Nat} [NeZero q] (hq : Pr q) {n : Nat} {rows : List (List Int)} (hg : GoodRows q n rows) (hn : n ≤ 7) {s : Nat} (hs : s ≤ n) : sumZ (fun w => (wN q n rows (q ^ rows.length) w : Int) * (ch (n - w) s : Int)) (n + 1) = (rkSum q n rows s : Int) := by
  rw [← moments hq hg hn hs, sumZ_nat]
  exact sumZ_congr (fun i _ => by rw [Int.natCast_mul])
end Go.Proofs.Ytgpmkbenjlhfhaa
